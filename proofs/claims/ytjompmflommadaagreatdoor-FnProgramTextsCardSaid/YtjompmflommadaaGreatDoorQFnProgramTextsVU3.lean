import Derived.Test.YtjompmflommadaaGreatDoorQFnProgramTextsVU2
set_option linter.unusedSimpArgs false
set_option linter.unusedVariables false
namespace Go.Vc
open Ieee
def qOf (a : Nat) (e : Int) : Int := max ((bl a : Int) + e - 24) (-149)
def upB (mode : Int) (neg : Bool) (t r g : Nat) : Bool :=
 if mode = 0 then decide (g < 2 * r) || (decide (2 * r = g) && decide (t % 2 = 1))
 else if mode = 1 then neg else if mode = 2 then !neg else if mode = 4 then true else false
def cutT (mode : Int) (neg : Bool) (a : Nat) (e : Int) : Nat × Bool :=
 let q := qOf a e
 let g := 2 ^ (q - e).toNat
 if q ≤ e then (a * 2 ^ (e - q).toNat, true)
 else if a % g = 0 then (a / g, true)
 else (a / g + (upB mode neg (a / g) (a % g) g).toNat, false)
def overB (mode : Int) (neg : Bool) : Nat :=
 let r := if mode = 3 ∨ (mode = 1 ∧ neg = false) ∨ (mode = 2 ∧ neg = true) then 2139095039 else 2139095040
 if neg then r + 2147483648 else r
def roundF (mode : Int) (m e : Int) : Nat × Int :=
 if m = 0 then (0, 0) else
 let neg := decide (m < 0)
 let a := m.natAbs
 let c := cutT mode neg a e
 if 128 < (bl c.1 : Int) + qOf a e then (overB mode neg, 5)
 else (single.write (.number neg c.1 (qOf a e)), if c.2 then 0 else if (bl a : Int) + e ≤ -126 then 3 else 1)
theorem Adm {a : Nat} (h : a ≠ 0) (e : Int) (j : Nat) : qOf (a * 2 ^ j) (e - j) = qOf a e := by
 unfold qOf
 rw [Fw h]; omega
theorem AiI (mode : Int) (neg : Bool) (t r g j : Nat) : upB mode neg t (r * 2 ^ j) (g * 2 ^ j) = upB mode neg t r g := by
 have hp := Nat.two_pow_pos j
 unfold upB
 have e1 : (g * 2 ^ j < 2 * (r * 2 ^ j)) = (g < 2 * r) := by
  rw [← Nat.mul_assoc]; exact propext (Nat.mul_lt_mul_right hp)
 have e2 : (2 * (r * 2 ^ j) = g * 2 ^ j) = (2 * r = g) := by
  rw [← Nat.mul_assoc]; exact propext (Nat.mul_left_inj (Nat.ne_of_gt hp))
 simp only [e1, e2]
theorem AhN (mode : Int) (neg : Bool) {a : Nat} (h : a ≠ 0) (e : Int) (j : Nat) : cutT mode neg (a * 2 ^ j) (e - j) = cutT mode neg a e := by
 have hp := Nat.two_pow_pos j
 unfold cutT
 rw [Adm h]
 simp only
 generalize qOf a e = q
 by_cases h1 : q ≤ e - j
 ·rw [if_pos h1, if_pos (by omega : q ≤ e), Nat.mul_assoc, ← Nat.pow_add]
  congr 3; omega
 ·rw [if_neg h1]
  by_cases h2 : q ≤ e
  ·rw [if_pos h2]
   have c : a * 2 ^ j = a * 2 ^ (e - q).toNat * 2 ^ (q - (e - j)).toNat := by
    rw [Nat.mul_assoc, ← Nat.pow_add]
    congr 2; omega
   rw [c, Nat.mul_mod_left, if_pos rfl, Nat.mul_div_cancel _ (Nat.two_pow_pos _)]
  ·rw [if_neg h2]
   have c : 2 ^ (q - (e - j)).toNat = 2 ^ (q - e).toNat * 2 ^ j := by
    rw [← Nat.pow_add]; congr 1; omega
   rw [c, Nat.mul_mod_mul_right, Nat.mul_div_mul_right _ _ hp, AiI]
   have : (a % 2 ^ (q - e).toNat * 2 ^ j = 0) = (a % 2 ^ (q - e).toNat = 0) := by
    rw [Nat.mul_eq_zero]
    exact propext ⟨fun h => h.resolve_right (Nat.ne_of_gt hp), .inl⟩
   simp only [this]
theorem Xn (mode m e : Int) (j : Nat) : roundF mode (m * 2 ^ j) (e - j) = roundF mode m e := by
 unfold roundF
 by_cases h : m = 0
 ·subst h; simp
 ·have hp : (0 : Int) < 2 ^ j := Int.pow_pos (by decide)
  have h' : m * 2 ^ j ≠ 0 := by
   intro e
   rcases Int.mul_eq_zero.1 e with e | e <;> omega
  rw [if_neg h, if_neg h']
  have hn : decide (m * 2 ^ j < 0) = decide (m < 0) := by
   rw [decide_eq_decide]
   constructor
   ·intro q
    refine Classical.byContradiction fun hc => ?_
    have := Int.mul_nonneg (Int.not_lt.1 hc) (Int.le_of_lt hp)
    omega
   ·intro q; exact Int.mul_neg_of_neg_of_pos q hp
  have ha : (m * 2 ^ j).natAbs = m.natAbs * 2 ^ j := by rw [Int.natAbs_mul, CE]
  have hm : m.natAbs ≠ 0 := by omega
  simp only [hn, ha, AhN _ _ hm, Adm hm]
  have hb : (bl (m.natAbs * 2 ^ j) : Int) + (e - j) = bl m.natAbs + e := by rw [Fw hm]; omega
  rw [hb]
theorem Ac8 (mode : Int) {m e n g : Int} (h : dy m e = dy n g) : roundF mode m e = roundF mode n g := by
 have h1 : dy (m * 2 ^ (e - min e g).toNat) (min e g) = dy m e := BE (by omega)
 have h2 : dy (n * 2 ^ (g - min e g).toNat) (min e g) = dy n g := BE (by omega)
 have h3 := WB (h1.trans (h.trans h2.symm))
 rw [← Xn mode m e (e - min e g).toNat, ← Xn mode n g (g - min e g).toNat, h3]
 congr 1; omega
end Go.Vc
