import Derived.Test.YtjompmflommadaaGreatDoorQIsServerVVcN
set_option linter.unusedVariables false
namespace Go.Vc
def bl (n : Nat) : Nat := if n = 0 then 0 else n.log2 + 1
theorem bl_le {n k : Nat} : bl n ≤ k ↔ n < 2 ^ k := by
  unfold bl
  split
  · rename_i h; subst h; simp [Nat.two_pow_pos]
  · rename_i h
    rw [← Nat.log2_lt h]; omega
theorem lt_bl {n k : Nat} : k < bl n ↔ 2 ^ k ≤ n := by
  have := @bl_le n k
  omega
theorem bl_zero : bl 0 = 0 := rfl
theorem bl_pos {n : Nat} (h : n ≠ 0) : 0 < bl n := by unfold bl; rw [if_neg h]; omega
theorem bl_eq {n k : Nat} (h1 : 2 ^ k ≤ n) (h2 : n < 2 ^ (k + 1)) : bl n = k + 1 := by
  have a := lt_bl.2 h1
  have b := bl_le.2 h2
  omega
theorem bl_mono {a b : Nat} (h : a ≤ b) : bl a ≤ bl b := bl_le.2 (Nat.lt_of_le_of_lt h (bl_le.1 (Nat.le_refl _)))
theorem lt_two_bl (n : Nat) : n < 2 ^ bl n := bl_le.1 (Nat.le_refl _)
theorem two_bl_le {n : Nat} (h : n ≠ 0) : 2 ^ (bl n - 1) ≤ n := lt_bl.1 (by have := bl_pos h; omega)
theorem bl_add (a b : Nat) : bl (a + b) ≤ max (bl a) (bl b) + 1 := by
  rw [bl_le, Nat.pow_succ]
  have h1 := Nat.lt_of_lt_of_le (lt_two_bl a) (Nat.pow_le_pow_right (by decide : 0 < 2) (Nat.le_max_left (bl a) (bl b)))
  have h2 := Nat.lt_of_lt_of_le (lt_two_bl b) (Nat.pow_le_pow_right (by decide : 0 < 2) (Nat.le_max_right (bl a) (bl b)))
  omega
theorem bl_mul (a b : Nat) : bl (a * b) ≤ bl a + bl b := by
  rw [bl_le, Nat.pow_add]
  by_cases hb : b = 0
  · subst hb; simp; exact Nat.mul_pos (Nat.two_pow_pos _) (Nat.two_pow_pos _)
  · exact Nat.mul_lt_mul_of_lt_of_le (lt_two_bl a) (Nat.le_of_lt (lt_two_bl b)) (Nat.two_pow_pos _)
theorem bl_shl {n : Nat} (h : n ≠ 0) (k : Nat) : bl (n * 2 ^ k) = bl n + k := by
  have h1 := bl_pos h
  have a : 2 ^ (bl n - 1 + k) ≤ n * 2 ^ k := by rw [Nat.pow_add]; exact Nat.mul_le_mul_right _ (two_bl_le h)
  have b : n * 2 ^ k < 2 ^ (bl n - 1 + k + 1) := by
    rw [show bl n - 1 + k + 1 = bl n + k by omega, Nat.pow_add]
    exact Nat.mul_lt_mul_of_pos_right (lt_two_bl n) (Nat.two_pow_pos _)
  rw [bl_eq a b]; omega
theorem bl_shl_le (n k : Nat) : bl (n * 2 ^ k) ≤ bl n + k := by
  by_cases h : n = 0
  · subst h; simp [bl_zero]
  · exact Nat.le_of_eq (bl_shl h k)
theorem bl_shr (n k : Nat) : bl (n / 2 ^ k) = bl n - k := by
  refine Nat.le_antisymm ?_ ?_
  · rw [bl_le, Nat.div_lt_iff_lt_mul (Nat.two_pow_pos _), ← Nat.pow_add, ← bl_le]; omega
  · rw [← Nat.not_lt]
    intro h
    have h2 : k + bl (n / 2 ^ k) < bl n := by omega
    rw [lt_bl, Nat.pow_add] at h2
    have h3 := lt_two_bl (n / 2 ^ k)
    rw [Nat.div_lt_iff_lt_mul (Nat.two_pow_pos _)] at h3
    rw [Nat.mul_comm] at h3
    omega
theorem bl_one : bl 1 = 1 := rfl
theorem bl_sub_le (a b : Nat) : bl (a - b) ≤ bl a := bl_mono (Nat.sub_le _ _)
theorem Norm.len_le {s : Nat} (hs : 0 < s) {l : List Nat} (h : Norm (2 ^ s) l) : (l.length - 1) * s ≤ bl (val (2 ^ s) l) ∧ bl (val (2 ^ s) l) ≤ l.length * s := by
  constructor
  · by_cases hl : l = []
    · subst hl; simp
    · have := h.ge hl
      rw [← Nat.pow_mul, ← lt_bl] at this
      rw [Nat.mul_comm]; omega
  · rw [bl_le, Nat.mul_comm, Nat.pow_mul]
    exact val_lt h.1
theorem Norm.len_lt {s : Nat} (hs : 0 < s) {l : List Nat} (h : Norm (2 ^ s) l) (hl : l ≠ []) : (l.length - 1) * s < bl (val (2 ^ s) l) := by
  have := h.ge hl
  rw [← Nat.pow_mul, ← lt_bl] at this
  rw [Nat.mul_comm]; exact this
theorem Norm.eq_nil {b : Nat} (hb : 0 < b) {l : List Nat} (h : Norm b l) : l = [] ↔ val b l = 0 := by
  constructor
  · rintro rfl; rfl
  · intro hv
    refine Classical.byContradiction fun hl => ?_
    have := h.pos hb hl; omega
theorem ibl_add (a b : Int) : bl (a + b).natAbs ≤ max (bl a.natAbs) (bl b.natAbs) + 1 :=
  Nat.le_trans (bl_mono (Int.natAbs_add_le a b)) (bl_add _ _)
theorem ibl_mul (a b : Int) : bl (a * b).natAbs ≤ bl a.natAbs + bl b.natAbs := by rw [Int.natAbs_mul]; exact bl_mul _ _
theorem natAbs_two_pow (k : Nat) : ((2 : Int) ^ k).natAbs = 2 ^ k := by rw [Int.natAbs_pow]; rfl
theorem ibl_shl {a : Int} (h : a ≠ 0) (k : Nat) : bl (a * 2 ^ k).natAbs = bl a.natAbs + k := by
  rw [Int.natAbs_mul, natAbs_two_pow]; exact bl_shl (by omega) k
theorem ibl_shl_le (a : Int) (k : Nat) : bl (a * 2 ^ k).natAbs ≤ bl a.natAbs + k := by
  rw [Int.natAbs_mul, natAbs_two_pow]; exact bl_shl_le _ k
def dy (m e : Int) : Rat := (m : Rat) * (2 : Rat) ^ e
theorem two_ne : (2 : Rat) ≠ 0 := by decide
theorem zp_pos (e : Int) : (0 : Rat) < (2 : Rat) ^ e := Rat.zpow_pos (by decide)
theorem zp_add (a b : Int) : (2 : Rat) ^ (a + b) = (2 : Rat) ^ a * (2 : Rat) ^ b := Rat.zpow_add two_ne a b
theorem zp_nat (k : Nat) : (2 : Rat) ^ (k : Int) = (((2 ^ k : Nat) : Int) : Rat) := by
  rw [Rat.zpow_natCast]
  have h : ((2 : Rat) ^ k) = ((2 ^ k : Nat) : Rat) := by rw [Rat.natCast_pow]; rfl
  rw [h]; rfl
theorem dy_shift (m e : Int) (k : Nat) : dy (m * 2 ^ k) (e - k) = dy m e := by
  unfold dy
  rw [Rat.intCast_mul, Rat.mul_assoc]
  congr 1
  have h2 := zp_nat k
  have h3 : (((2 : Int) ^ k : Int) : Rat) = (2 : Rat) ^ (k : Int) := by
    rw [h2]; simp
  rw [h3, ← zp_add]
  congr 1; omega
theorem dy_shift' {m e e' : Int} {k : Nat} (h : e' = e - k) : dy (m * 2 ^ k) e' = dy m e := by rw [h]; exact dy_shift m e k
theorem dy_add (m n e : Int) : dy m e + dy n e = dy (m + n) e := by unfold dy; rw [Rat.intCast_add, Rat.add_mul]
theorem dy_neg (m e : Int) : dy (-m) e = - dy m e := by unfold dy; rw [Rat.intCast_neg, Rat.neg_mul]
theorem dy_mul (m e n g : Int) : dy m e * dy n g = dy (m * n) (e + g) := by
  unfold dy
  rw [Rat.intCast_mul, zp_add]
  grind
theorem dy_zero (e : Int) : dy 0 e = 0 := by unfold dy; simp
theorem dy_eq_zero {m e : Int} : dy m e = 0 ↔ m = 0 := by
  unfold dy
  rw [Rat.mul_eq_zero]
  constructor
  · rintro (h | h)
    · exact Rat.intCast_eq_zero_iff.1 h
    · have := zp_pos e; rw [h] at this; exact absurd this (by decide)
  · rintro rfl; exact .inl rfl
theorem dy_neg_iff {m e : Int} : dy m e < 0 ↔ m < 0 := by
  unfold dy
  rw [Rat.mul_neg_iff_of_pos_right (zp_pos e), Rat.intCast_neg_iff]
theorem dy_nonneg {m e : Int} : 0 ≤ dy m e ↔ 0 ≤ m := by
  rw [← Rat.not_lt, dy_neg_iff]; omega
theorem dy_inj {m n e : Int} (h : dy m e = dy n e) : m = n := by
  have h1 : dy (m + -n) e = 0 := by rw [← dy_add, dy_neg, h]; exact Rat.add_neg_cancel _
  have := dy_eq_zero.1 h1; omega
def Canon (m e : Int) : Prop := (m = 0 ∧ e = 0) ∨ m % 2 = 1
structure Bd (lo hi : Nat) (m e : Int) : Prop where
  low : -(lo : Int) ≤ e
  top : e ≤ hi
  mag : m ≠ 0 → (bl m.natAbs : Int) + e ≤ hi
theorem Bd.zero (lo hi : Nat) : Bd lo hi 0 0 := ⟨by omega, by omega, by simp⟩
theorem Bd.mono {lo hi lo' hi' : Nat} {m e : Int} (h : Bd lo hi m e) (h1 : lo ≤ lo') (h2 : hi ≤ hi') : Bd lo' hi' m e :=
  ⟨by have := h.low; omega, by have := h.top; omega, fun hm => by have := h.mag hm; omega⟩
theorem Bd.neg {lo hi : Nat} {m e : Int} (h : Bd lo hi m e) : Bd lo hi (-m) e := ⟨h.low, h.top, fun hm => by rw [Int.natAbs_neg]; exact h.mag (by omega)⟩
theorem Bd.bl {lo hi : Nat} {m e : Int} (h : Bd lo hi m e) : Vc.bl m.natAbs ≤ hi + lo := by
  by_cases hm : m = 0
  · subst hm; simp [bl_zero]
  · have := h.mag hm; have := h.low; omega
theorem Bd.mul {lo hi lo' hi' : Nat} {m e n g : Int} (h : Bd lo hi m e) (k : Bd lo' hi' n g) : Bd (lo + lo') (hi + hi') (m * n) (e + g) := by
  refine ⟨by have := h.low; have := k.low; omega, by have := h.top; have := k.top; omega, fun hmn => ?_⟩
  have hm : m ≠ 0 := by rintro rfl; simp at hmn
  have hn : n ≠ 0 := by rintro rfl; simp at hmn
  have := ibl_mul m n
  have := h.mag hm
  have := k.mag hn
  omega
def addM (m e n g : Int) : Int := m * 2 ^ (e - min e g).toNat + n * 2 ^ (g - min e g).toNat
theorem dy_addM (m e n g : Int) : dy (addM m e n g) (min e g) = dy m e + dy n g := by
  unfold addM
  rw [← dy_add, dy_shift' (e := e) (by omega), dy_shift' (e := g) (by omega)]
theorem Bd.add {lo hi : Nat} {m e n g : Int} (h : Bd lo hi m e) (k : Bd lo hi n g) : Bd lo (hi + 1) (addM m e n g) (min e g) := by
  have h1 := h.low
  have h2 := k.low
  have h3 := h.top
  have h4 := k.top
  refine ⟨by omega, by omega, fun _ => ?_⟩
  unfold addM
  have hs := ibl_add (m * 2 ^ (e - min e g).toNat) (n * 2 ^ (g - min e g).toNat)
  have a : (Vc.bl (m * 2 ^ (e - min e g).toNat).natAbs : Int) + min e g ≤ hi := by
    by_cases hm : m = 0
    · subst hm; simp [bl_zero]; omega
    · have := h.mag hm
      rw [ibl_shl hm]; omega
  have b : (Vc.bl (n * 2 ^ (g - min e g).toNat).natAbs : Int) + min e g ≤ hi := by
    by_cases hn : n = 0
    · subst hn; simp [bl_zero]; omega
    · have := k.mag hn
      rw [ibl_shl hn]; omega
  omega
end Go.Vc
