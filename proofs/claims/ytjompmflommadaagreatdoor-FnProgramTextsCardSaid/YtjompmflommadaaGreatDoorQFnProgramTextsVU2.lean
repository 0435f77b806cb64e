import Ieee.Arith
import Derived.Test.YtjompmflommadaaGreatDoorQFnProgramTextsVU1
set_option linter.unusedSimpArgs false
set_option linter.unusedVariables false
namespace Go.Vc
open Ieee
theorem IY {n : Nat} (h : n ≠ 0) : n.log2 = bl n - 1 := by unfold bl; rw [if_neg h]; omega
theorem AaQ {n : Nat} (h : n ≠ 0) (k : Nat) : (n * 2 ^ k).log2 = n.log2 + k := by
 have hp := Nat.two_pow_pos k
 have h' : n * 2 ^ k ≠ 0 := by
  intro e
  rcases Nat.mul_eq_zero.1 e with e | e
  ·exact h e
  ·omega
 rw [IY h', IY h, Fw h]
 have := Eu h; omega
theorem D6 (way : Toward) (neg : Bool) (n : Nat) : way.cut neg n 0 = n := by
 unfold Toward.cut
 simp only [Nat.zero_min, Nat.shiftLeft_zero, Nat.div_one, Nat.mod_one, Nat.mul_zero]
 cases way <;> simp
theorem Ad3 (way : Toward) (neg : Bool) {n : Nat} (hn : n ≠ 0) (d j : Nat) : way.cut neg (n * 2 ^ j) (d + j) = way.cut neg n d := by
 have hp := Nat.two_pow_pos j
 have hmin : min (d + j) ((n * 2 ^ j).log2 + 2) = min d (n.log2 + 2) + j := by rw [AaQ hn]; omega
 have hg : 1 <<< min (d + j) ((n * 2 ^ j).log2 + 2) = (1 <<< min d (n.log2 + 2)) * 2 ^ j := by
  rw [hmin, Nat.shiftLeft_eq, Nat.shiftLeft_eq, Nat.pow_add]; simp
 unfold Toward.cut
 rw [hg]
 generalize 1 <<< min d (n.log2 + 2) = g
 simp only
 rw [Nat.mul_div_mul_right _ _ hp, Nat.mul_mod_mul_right]
 have e1 : (g * 2 ^ j < 2 * (n % g * 2 ^ j)) = (g < 2 * (n % g)) := by
  rw [← Nat.mul_assoc]
  exact propext (Nat.mul_lt_mul_right hp)
 have e2 : (g * 2 ^ j == 2 * (n % g * 2 ^ j)) = (g == 2 * (n % g)) := by
  rw [← Nat.mul_assoc, Bool.eq_iff_iff]
  simp only [beq_iff_eq]
  exact Nat.mul_left_inj (Nat.ne_of_gt hp)
 have e3 : (n % g * 2 ^ j != 0) = (n % g != 0) := by
  rw [Bool.eq_iff_iff]
  simp only [bne_iff_ne, ne_eq, Nat.mul_eq_zero]
  omega
 cases way
 ·simp only [e1, e2]
 ·simp only [e3]
 ·simp only [e3]
 ·rfl
theorem Tb (way : Toward) (neg : Bool) (n d : Nat) (hd : n = 0 → d = 0) : way.cut neg (n * 2 ^ d) d = n := by
 by_cases hn : n = 0
 ·subst hn
  rw [hd rfl]; simp [D6]
 ·have := Ad3 way neg hn 0 d
  rw [Nat.zero_add] at this
  rw [this, D6]
theorem Vf (f : Format) (neg : Bool) (m : Nat) (e : Int) (j : Nat) : f.nearest neg (m * 2 ^ j) (e - j) = f.nearest neg m e := by
 have hp := Nat.two_pow_pos j
 by_cases hm : m = 0
 ·subst hm; simp [Format.nearest]
 ·have hm' : m * 2 ^ j ≠ 0 := by
   intro h
   rcases Nat.mul_eq_zero.1 h with h | h <;> omega
  unfold Format.nearest
  rw [if_neg hm, if_neg hm']
  have hl : max ((e - j) + ((m * 2 ^ j).log2 : Nat) - f.fractionBits) f.leastPlace = max (e + (m.log2 : Nat) - f.fractionBits) f.leastPlace := by
   rw [AaQ hm]; omega
  simp only [hl]
  have hlast := Int.le_max_right (e + (m.log2 : Nat) - f.fractionBits) f.leastPlace
  have hlast1 := Int.le_max_left (e + (m.log2 : Nat) - f.fractionBits) f.leastPlace
  generalize max (e + (m.log2 : Nat) - f.fractionBits) f.leastPlace = last at *
  have key : Toward.even.cut neg ((m * 2 ^ j) <<< (e - j - last).toNat) (last - (e - j)).toNat = Toward.even.cut neg (m <<< (e - last).toNat) (last - e).toNat := ?_
  ·rw [key]
  simp only [Nat.shiftLeft_eq]
  by_cases h1 : e - j ≥ last
  ·have a : (last - (e - j)).toNat = 0 := by omega
   have b : (last - e).toNat = 0 := by omega
   rw [a, b, D6, D6, Nat.mul_assoc, ← Nat.pow_add]
   congr 2; omega
  ·by_cases h2 : e ≥ last
   ·have b : (last - e).toNat = 0 := by omega
    have a : (e - j - last).toNat = 0 := by omega
    rw [a, b, D6, Nat.pow_zero, Nat.mul_one]
    have c : j = (e - last).toNat + (last - (e - j)).toNat := by omega
    conv => lhs; arg 3; rw [c, Nat.pow_add, ← Nat.mul_assoc]
    refine Tb .even neg _ _ fun h => ?_
    have := Nat.two_pow_pos (e - last).toNat
    rcases Nat.mul_eq_zero.1 h with h | h <;> omega
   ·have a : (e - j - last).toNat = 0 := by omega
    have b : (e - last).toNat = 0 := by omega
    rw [a, b, Nat.pow_zero, Nat.mul_one, Nat.mul_one]
    have c : (last - (e - j)).toNat = (last - e).toNat + j := by omega
    rw [c]
    exact Ad3 .even neg hm _ _
def SameN (m : Nat) (e : Int) (n : Nat) (g : Int) : Prop := ∃ (i j : Nat), e - i = g - j ∧ m * 2 ^ i = n * 2 ^ j
theorem SameN.refl (m : Nat) (e : Int) : SameN m e m e := ⟨0, 0, rfl, rfl⟩
theorem SameN.dy {m n : Nat} {e g : Int} (h : SameN m e n g) : Vc.dy m e = Vc.dy n g := by
 obtain ⟨i, j, a, b⟩ := h
 rw [← VQ m e i, ← VQ n g j, a]
 congr 1
 have := congrArg (fun x : Nat => (x : Int)) b
 simpa using this
theorem SameN.of_dy {m n : Nat} {e g : Int} (h : Vc.dy m e = Vc.dy n g) : SameN m e n g := by
 refine ⟨(e - min e g).toNat, (g - min e g).toNat, by omega, ?_⟩
 have h1 : Vc.dy ((m : Int) * 2 ^ (e - min e g).toNat) (min e g) = Vc.dy m e := BE (by omega)
 have h2 : Vc.dy ((n : Int) * 2 ^ (g - min e g).toNat) (min e g) = Vc.dy n g := BE (by omega)
 have h3 := WB (h1.trans (h.trans h2.symm))
 have h4 : ((m * 2 ^ (e - min e g).toNat : Nat) : Int) = ((n * 2 ^ (g - min e g).toNat : Nat) : Int) := by simpa using h3
 exact Int.ofNat_inj.1 h4
theorem Jo (f : Format) (neg : Bool) {m n : Nat} {e g : Int} (h : SameN m e n g) : f.write (.number neg m e) = f.write (.number neg n g) := by
 obtain ⟨i, j, a, b⟩ := h
 show f.nearest neg m e = f.nearest neg n g
 rw [← Vf f neg m e i, ← Vf f neg n g j, a, b]
theorem SameN.shl (m : Nat) (e : Int) (k : Nat) : SameN (m * 2 ^ k) (e - k) m e := ⟨0, k, by omega, by simp⟩
structure Has (f : Format) (m : Nat) (e : Int) : Prop where
 low : m ≠ 0 → ∃ (n : Nat) (g : Int), SameN m e n g ∧ f.leastPlace ≤ g ∧ bl n ≤ f.fractionBits + 1
 top : m ≠ 0 → (bl m : Int) + e ≤ f.leastPlace + f.fractionBits + (2 ^ f.exponentBits - 2 : Nat)
theorem SameN.bl {m n : Nat} {e g : Int} (h : SameN m e n g) (hm : m ≠ 0) : (Vc.bl m : Int) + e = Vc.bl n + g := by
 obtain ⟨i, j, a, b⟩ := h
 have hn : n ≠ 0 := by
  rintro rfl
  have := Nat.two_pow_pos i
  rw [Nat.zero_mul] at b
  rcases Nat.mul_eq_zero.1 b with b | b <;> omega
 have h1 := Fw hm i
 have h2 := Fw hn j
 rw [b] at h1
 omega
theorem SameN.zero {m n : Nat} {e g : Int} (h : SameN m e n g) : m = 0 ↔ n = 0 := by
 obtain ⟨i, j, a, b⟩ := h
 have h1 := Nat.two_pow_pos i
 have h2 := Nat.two_pow_pos j
 constructor
 ·rintro rfl
  rw [Nat.zero_mul] at b
  rcases Nat.mul_eq_zero.1 b.symm with b | b <;> omega
 ·rintro rfl
  rw [Nat.zero_mul] at b
  rcases Nat.mul_eq_zero.1 b with b | b <;> omega
theorem SameN.trans {m n p : Nat} {e g q : Int} (h : SameN m e n g) (k : SameN n g p q) : SameN m e p q := .of_dy (h.dy.trans k.dy)
theorem SameN.mul {m n m' n' : Nat} {e g e' g' : Int} (h : SameN m e n g) (k : SameN m' e' n' g') : SameN (m * m') (e + e') (n * n') (g + g') := by
 refine .of_dy ?_
 have h1 := h.dy
 have h2 := k.dy
 have a := Qu m e m' e'
 have b := Qu n g n' g'
 rw [show ((m * m' : Nat) : Int) = (m : Int) * m' by simp, show ((n * n' : Nat) : Int) = (n : Int) * n' by simp, ← a, ← b, h1, h2]
theorem Zn {f : Format} {neg : Bool} {r : Nat} (hr : r < f.signWeight) : (f.word neg r) % f.signWeight = r ∧ ((f.word neg r) / f.signWeight % 2 == 1) = neg := by
 have hp : 0 < f.signWeight := Nat.two_pow_pos _
 unfold Format.word
 cases neg
 ·simp only [Bool.false_eq_true, if_false]
  exact ⟨Nat.mod_eq_of_lt hr, by rw [Nat.div_eq_of_lt hr]; rfl⟩
 ·simp only [if_true]
  refine ⟨by rw [Nat.add_mod_left]; exact Nat.mod_eq_of_lt hr, ?_⟩
  rw [Nat.add_div_left _ hp, Nat.div_eq_of_lt hr]; rfl
theorem AdA {f : Format} {neg : Bool} {m : Nat} {e : Int} (hf : 2 ≤ f.exponentBits) (hm : m ≠ 0) (h : Has f m e) :
  ∃ (kept : Nat) (last : Int), f.read (f.write (.number neg m e)) = .number neg kept last ∧ SameN m e kept last ∧ last = max (bl m + e - (f.fractionBits + 1)) f.leastPlace := by
 obtain ⟨n, g, hs, hg, hn⟩ := h.low hm
 have htop := h.top hm
 rw [Jo f neg hs, hs.bl hm]
 rw [hs.bl hm] at htop
 have hn0 : n ≠ 0 := fun e => hm (hs.zero.2 e)
 clear h
 have hbn := Eu hn0
 have hbin : f.binade = 2 ^ f.fractionBits := rfl
 have hbp : 0 < f.binade := Nat.two_pow_pos _
 have hsw : f.signWeight = 2 ^ f.exponentBits * f.binade := by unfold Format.signWeight Format.binade; rw [Nat.pow_add]
 have h2e : 2 ≤ 2 ^ f.exponentBits := by
  have := Nat.pow_le_pow_right (n := 2) (by decide) hf
  omega
 have hir : f.infRung = (2 ^ f.exponentBits - 1) * f.binade := rfl
 have hlast : max (g + (n.log2 : Nat) - f.fractionBits) f.leastPlace = max (bl n + g - (f.fractionBits + 1)) f.leastPlace := by
  rw [IY hn0]; omega
 have hge : max (bl n + g - (f.fractionBits + 1)) f.leastPlace ≤ g := by omega
 have hx : f.nearest neg n g = f.word neg (min ((max (bl n + g - (f.fractionBits + 1)) f.leastPlace - f.leastPlace).toNat * f.binade + n * 2 ^ (g - max (bl n + g - (f.fractionBits + 1)) f.leastPlace).toNat) f.infRung) := by
  unfold Format.nearest
  rw [if_neg hn0]
  simp only [hlast]
  rw [show (max (bl n + g - (f.fractionBits + 1)) f.leastPlace - g).toNat = 0 by omega, D6, Nat.shiftLeft_eq]
 show ∃ kept last, f.read (f.nearest neg n g) = _ ∧ _
 rw [hx]
 generalize hL : max (bl n + g - (f.fractionBits + 1)) f.leastPlace = L at *
 generalize hk : n * 2 ^ (g - L).toNat = kept
 have hkb : bl kept = bl n + (g - L).toNat := by rw [← hk, Fw hn0]
 have hkl : kept < 2 * f.binade := by
  have : bl kept ≤ f.fractionBits + 1 := by omega
  rw [Bf, Nat.pow_succ] at this
  rw [hbin]; omega
 have hkg : kept < f.binade → L = f.leastPlace := by
  intro h
  rw [hbin, ← Bf] at h
  omega
 have hsame : SameN m e kept L := hs.trans (by rw [← hk]; exact ⟨(g - L).toNat, 0, by omega, by simp⟩)
 generalize hr : (L - f.leastPlace).toNat = r at *
 have hrlt : r + 2 ≤ 2 ^ f.exponentBits - 1 ∨ (r + 1 ≤ 2 ^ f.exponentBits - 1 ∧ kept < f.binade) := by
  by_cases h : kept < f.binade
  ·right
   have := hkg h
   refine ⟨by omega, h⟩
  ·left
   have : f.fractionBits < bl kept := by rw [NL]; omega
   omega
 have hrung : r * f.binade + kept < f.infRung := by
  rw [hir]
  rcases hrlt with h | ⟨h, h'⟩
  ·have := Nat.mul_le_mul_right f.binade h
   rw [Nat.add_mul] at this
   omega
  ·have := Nat.mul_le_mul_right f.binade h
   rw [Nat.add_mul] at this
   omega
 rw [Nat.min_eq_left (Nat.le_of_lt hrung)]
 have hrs : r * f.binade + kept < f.signWeight := by
  have : f.infRung ≤ f.signWeight := by rw [hir, hsw]; exact Nat.mul_le_mul_right _ (Nat.sub_le _ _)
  omega
 obtain ⟨w1, w2⟩ := Zn (f := f) (neg := neg) hrs
 refine ⟨kept, L, ?_, hsame, rfl⟩
 unfold Format.read
 simp only [w1, w2]
 by_cases h : kept < f.binade
 ·have hLl := hkg h
  have hr0 : r = 0 := by omega
  subst hr0
  rw [Nat.zero_mul, Nat.zero_add, if_pos h, hLl]
 ·have hge' : f.binade ≤ kept := by omega
  rw [if_neg (by
   have : 0 ≤ r * f.binade := Nat.zero_le _
   omega), if_pos hrung]
  have hmod : (r * f.binade + kept) % f.binade = kept - f.binade := by
   rw [Nat.add_comm, Nat.add_mul_mod_self_right, Nat.mod_eq_sub_mod hge', Nat.mod_eq_of_lt (by omega)]
  have hdiv : (r * f.binade + kept) / f.binade = r + 1 := by
   rw [Nat.add_comm, Nat.add_mul_div_right _ _ hbp]
   have : kept / f.binade = 1 := by
    exact Nat.div_eq_of_lt_le (by rw [Nat.one_mul]; exact hge') (by rw [Nat.add_mul, Nat.one_mul]; omega)
   omega
  rw [hmod, hdiv]
  congr 1
  ·omega
  ·omega
end Go.Vc
