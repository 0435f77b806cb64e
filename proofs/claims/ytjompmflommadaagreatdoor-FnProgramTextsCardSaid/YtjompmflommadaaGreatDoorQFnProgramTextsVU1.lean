import Derived.Test.YtjompmflommadaaGreatDoorQFnProgramTextsVVcN
set_option linter.unusedSimpArgs false
set_option linter.unusedVariables false
namespace Go.Vc
def bl (n : Nat) : Nat := if n = 0 then 0 else n.log2 + 1
theorem Bf {n k : Nat} : bl n ≤ k ↔ n < 2 ^ k := by
 unfold bl
 split
 ·rename_i h; subst h; simp [Nat.two_pow_pos]
 ·rename_i h
  rw [← Nat.log2_lt h]; omega
theorem NL {n k : Nat} : k < bl n ↔ 2 ^ k ≤ n := by
 have := @Bf n k
 omega
theorem Lh : bl 0 = 0 := rfl
theorem Eu {n : Nat} (h : n ≠ 0) : 0 < bl n := by unfold bl; rw [if_neg h]; omega
theorem Aii {n k : Nat} (h1 : 2 ^ k ≤ n) (h2 : n < 2 ^ (k + 1)) : bl n = k + 1 := by
 have a := NL.2 h1
 have b := Bf.2 h2
 omega
theorem HO {a b : Nat} (h : a ≤ b) : bl a ≤ bl b := Bf.2 (Nat.lt_of_le_of_lt h (Bf.1 (Nat.le_refl _)))
theorem GT (n : Nat) : n < 2 ^ bl n := Bf.1 (Nat.le_refl _)
theorem Zy {n : Nat} (h : n ≠ 0) : 2 ^ (bl n - 1) ≤ n := NL.1 (by have := Eu h; omega)
theorem AjO (a b : Nat) : bl (a + b) ≤ max (bl a) (bl b) + 1 := by
 rw [Bf, Nat.pow_succ]
 have h1 := Nat.lt_of_lt_of_le (GT a) (Nat.pow_le_pow_right (by decide : 0 < 2) (Nat.le_max_left (bl a) (bl b)))
 have h2 := Nat.lt_of_lt_of_le (GT b) (Nat.pow_le_pow_right (by decide : 0 < 2) (Nat.le_max_right (bl a) (bl b)))
 omega
theorem AeG (a b : Nat) : bl (a * b) ≤ bl a + bl b := by
 rw [Bf, Nat.pow_add]
 by_cases hb : b = 0
 ·subst hb; simp; exact Nat.mul_pos (Nat.two_pow_pos _) (Nat.two_pow_pos _)
 ·exact Nat.mul_lt_mul_of_lt_of_le (GT a) (Nat.le_of_lt (GT b)) (Nat.two_pow_pos _)
theorem Fw {n : Nat} (h : n ≠ 0) (k : Nat) : bl (n * 2 ^ k) = bl n + k := by
 have h1 := Eu h
 have a : 2 ^ (bl n - 1 + k) ≤ n * 2 ^ k := by rw [Nat.pow_add]; exact Nat.mul_le_mul_right _ (Zy h)
 have b : n * 2 ^ k < 2 ^ (bl n - 1 + k + 1) := by
  rw [show bl n - 1 + k + 1 = bl n + k by omega, Nat.pow_add]
  exact Nat.mul_lt_mul_of_pos_right (GT n) (Nat.two_pow_pos _)
 rw [Aii a b]; omega
theorem Ago (n k : Nat) : bl (n * 2 ^ k) ≤ bl n + k := by
 by_cases h : n = 0
 ·subst h; simp [Lh]
 ·exact Nat.le_of_eq (Fw h k)
theorem AbD (n k : Nat) : bl (n / 2 ^ k) = bl n - k := by
 refine Nat.le_antisymm ?_ ?_
 ·rw [Bf, Nat.div_lt_iff_lt_mul (Nat.two_pow_pos _), ← Nat.pow_add, ← Bf]; omega
 ·rw [← Nat.not_lt]
  intro h
  have h2 : k + bl (n / 2 ^ k) < bl n := by omega
  rw [NL, Nat.pow_add] at h2
  have h3 := GT (n / 2 ^ k)
  rw [Nat.div_lt_iff_lt_mul (Nat.two_pow_pos _)] at h3
  rw [Nat.mul_comm] at h3
  omega
theorem Akf : bl 1 = 1 := rfl
theorem Af3 (a b : Nat) : bl (a - b) ≤ bl a := HO (Nat.sub_le _ _)
theorem Norm.len_le {s : Nat} (hs : 0 < s) {l : List Nat} (h : Norm (2 ^ s) l) : (l.length - 1) * s ≤ bl (val (2 ^ s) l) ∧ bl (val (2 ^ s) l) ≤ l.length * s := by
 constructor
 ·by_cases hl : l = []
  ·subst hl; simp
  ·have := h.ge hl
   rw [← Nat.pow_mul, ← NL] at this
   rw [Nat.mul_comm]; omega
 ·rw [Bf, Nat.mul_comm, Nat.pow_mul]
  exact B8 h.1
theorem Norm.len_lt {s : Nat} (hs : 0 < s) {l : List Nat} (h : Norm (2 ^ s) l) (hl : l ≠ []) : (l.length - 1) * s < bl (val (2 ^ s) l) := by
 have := h.ge hl
 rw [← Nat.pow_mul, ← NL] at this
 rw [Nat.mul_comm]; exact this
theorem Norm.eq_nil {b : Nat} (hb : 0 < b) {l : List Nat} (h : Norm b l) : l = [] ↔ val b l = 0 := by
 constructor
 ·rintro rfl; rfl
 ·intro hv
  refine Classical.byContradiction fun hl => ?_
  have := h.pos hb hl; omega
theorem AiS (a b : Int) : bl (a + b).natAbs ≤ max (bl a.natAbs) (bl b.natAbs) + 1 :=
 Nat.le_trans (HO (Int.natAbs_add_le a b)) (AjO _ _)
theorem Aja (a b : Int) : bl (a * b).natAbs ≤ bl a.natAbs + bl b.natAbs := by rw [Int.natAbs_mul]; exact AeG _ _
theorem CE (k : Nat) : ((2 : Int) ^ k).natAbs = 2 ^ k := by rw [Int.natAbs_pow]; rfl
theorem U6 {a : Int} (h : a ≠ 0) (k : Nat) : bl (a * 2 ^ k).natAbs = bl a.natAbs + k := by
 rw [Int.natAbs_mul, CE]; exact Fw (by omega) k
theorem JL (a : Int) (k : Nat) : bl (a * 2 ^ k).natAbs ≤ bl a.natAbs + k := by
 rw [Int.natAbs_mul, CE]; exact Ago _ k
def dy (m e : Int) : Rat := (m : Rat) * (2 : Rat) ^ e
theorem Akq : (2 : Rat) ≠ 0 := by decide
theorem AbQ (e : Int) : (0 : Rat) < (2 : Rat) ^ e := Rat.zpow_pos (by decide)
theorem Aff (a b : Int) : (2 : Rat) ^ (a + b) = (2 : Rat) ^ a * (2 : Rat) ^ b := Rat.zpow_add Akq a b
theorem AjU (k : Nat) : (2 : Rat) ^ (k : Int) = (((2 ^ k : Nat) : Int) : Rat) := by
 rw [Rat.zpow_natCast]
 have h : ((2 : Rat) ^ k) = ((2 ^ k : Nat) : Rat) := by rw [Rat.natCast_pow]; rfl
 rw [h]; rfl
theorem VQ (m e : Int) (k : Nat) : dy (m * 2 ^ k) (e - k) = dy m e := by
 unfold dy
 rw [Rat.intCast_mul, Rat.mul_assoc]
 congr 1
 have h2 := AjU k
 have h3 : (((2 : Int) ^ k : Int) : Rat) = (2 : Rat) ^ (k : Int) := by
  rw [h2]; simp
 rw [h3, ← Aff]
 congr 1; omega
theorem BE {m e e' : Int} {k : Nat} (h : e' = e - k) : dy (m * 2 ^ k) e' = dy m e := by rw [h]; exact VQ m e k
theorem QW (m n e : Int) : dy m e + dy n e = dy (m + n) e := by unfold dy; rw [Rat.intCast_add, Rat.add_mul]
theorem Fi (m e : Int) : dy (-m) e = - dy m e := by unfold dy; rw [Rat.intCast_neg, Rat.neg_mul]
theorem Qu (m e n g : Int) : dy m e * dy n g = dy (m * n) (e + g) := by
 unfold dy
 rw [Rat.intCast_mul, Aff]
 grind
theorem Dv (e : Int) : dy 0 e = 0 := by unfold dy; simp
theorem NH {m e : Int} : dy m e = 0 ↔ m = 0 := by
 unfold dy
 rw [Rat.mul_eq_zero]
 constructor
 ·rintro (h | h)
  ·exact Rat.intCast_eq_zero_iff.1 h
  ·have := AbQ e; rw [h] at this; exact absurd this (by decide)
 ·rintro rfl; exact .inl rfl
theorem Aks {m e : Int} : 0 < dy m e ↔ 0 < m := by
 unfold dy
 rw [Rat.mul_pos_iff_of_pos_right (AbQ e), Rat.intCast_pos]
theorem X8 {m e : Int} : dy m e < 0 ↔ m < 0 := by
 unfold dy
 rw [Rat.mul_neg_iff_of_pos_right (AbQ e), Rat.intCast_neg_iff]
theorem Afw {m e : Int} : 0 ≤ dy m e ↔ 0 ≤ m := by
 rw [← Rat.not_lt, X8]; omega
theorem WB {m n e : Int} (h : dy m e = dy n e) : m = n := by
 have h1 : dy (m + -n) e = 0 := by rw [← QW, Fi, h]; exact Rat.add_neg_cancel _
 have := NH.1 h1; omega
def Canon (m e : Int) : Prop := (m = 0 ∧ e = 0) ∨ m % 2 = 1
structure Bd (lo hi : Nat) (m e : Int) : Prop where
 low : -(lo : Int) ≤ e
 top : e ≤ hi
 mag : m ≠ 0 → (bl m.natAbs : Int) + e ≤ hi
theorem Bd.zero (lo hi : Nat) : Bd lo hi 0 0 := ⟨by omega, by omega, by simp⟩
theorem Bd.mono {lo hi lo' hi' : Nat} {m e : Int} (h : Bd lo hi m e) (h1 : lo ≤ lo') (h2 : hi ≤ hi') : Bd lo' hi' m e :=
 ⟨by have := h.low; omega, by have := h.top; omega, fun hm => by have := h.mag hm; omega⟩
theorem Bd.neg {lo hi : Nat} {m e : Int} (h : Bd lo hi m e) : Bd lo hi (-m) e := ⟨h.low, h.top, fun hm => by rw [Int.natAbs_neg]; exact h.mag (by omega)⟩
theorem Bd.bl {lo hi : Nat} {m e : Int} (h : Bd lo hi m e) : Vc.bl m.natAbs ≤ hi + lo := by
 by_cases hm : m = 0
 ·subst hm; simp [Lh]
 ·have := h.mag hm; have := h.low; omega
theorem Bd.mul {lo hi lo' hi' : Nat} {m e n g : Int} (h : Bd lo hi m e) (k : Bd lo' hi' n g) : Bd (lo + lo') (hi + hi') (m * n) (e + g) := by
 refine ⟨by have := h.low; have := k.low; omega, by have := h.top; have := k.top; omega, fun hmn => ?_⟩
 have hm : m ≠ 0 := by rintro rfl; simp at hmn
 have hn : n ≠ 0 := by rintro rfl; simp at hmn
 have := Aja m n
 have := h.mag hm
 have := k.mag hn
 omega
def addM (m e n g : Int) : Int := m * 2 ^ (e - min e g).toNat + n * 2 ^ (g - min e g).toNat
theorem XY (m e n g : Int) : dy (addM m e n g) (min e g) = dy m e + dy n g := by
 unfold addM
 rw [← QW, BE (e := e) (by omega), BE (e := g) (by omega)]
theorem Bd.add {lo hi : Nat} {m e n g : Int} (h : Bd lo hi m e) (k : Bd lo hi n g) : Bd lo (hi + 1) (addM m e n g) (min e g) := by
 have h1 := h.low
 have h2 := k.low
 have h3 := h.top
 have h4 := k.top
 refine ⟨by omega, by omega, fun _ => ?_⟩
 unfold addM
 have hs := AiS (m * 2 ^ (e - min e g).toNat) (n * 2 ^ (g - min e g).toNat)
 have a : (Vc.bl (m * 2 ^ (e - min e g).toNat).natAbs : Int) + min e g ≤ hi := by
  by_cases hm : m = 0
  ·subst hm; simp [Lh]; omega
  ·have := h.mag hm
   rw [U6 hm]; omega
 have b : (Vc.bl (n * 2 ^ (g - min e g).toNat).natAbs : Int) + min e g ≤ hi := by
  by_cases hn : n = 0
  ·subst hn; simp [Lh]; omega
  ·have := k.mag hn
   rw [U6 hn]; omega
 omega
end Go.Vc
