import Derived.Laws.FloatBits
import Derived.Test.YtjompmflommadaaGreatDoorQFnProgramTextsVU3
import Derived.Test.YtjompmflommadaaGreatDoorQFnProgramTextsVU7
set_option linter.unusedSimpArgs false
set_option linter.unusedVariables false
namespace Go.Vc
open Ieee
theorem U4 (mode : Int) (neg : Bool) (a : Nat) (e : Int) : (cutT mode neg a e).1 ≤ 16777216 := by
 have h24 : ∀ d : Nat, bl a ≤ 24 + d → a / 2 ^ d < 16777216 := by
  intro d h
  rw [Bf, Nat.pow_add] at h
  exact Nat.div_lt_of_lt_mul (by rw [Nat.mul_comm]; exact h)
 have hq : (bl a : Int) + e - 24 ≤ qOf a e := by unfold qOf; omega
 unfold cutT
 simp only
 split
 ·rename_i h
  by_cases ha : a = 0
  ·subst ha; simp
  ·have : bl (a * 2 ^ (e - qOf a e).toNat) ≤ 24 := by rw [Fw ha]; omega
   rw [Bf] at this
   exact Nat.le_of_lt this
 ·rename_i h
  have := h24 (qOf a e - e).toNat (by omega)
  split
  ·exact Nat.le_of_lt this
  ·have hb : (upB mode neg (a / 2 ^ (qOf a e - e).toNat) (a % 2 ^ (qOf a e - e).toNat) (2 ^ (qOf a e - e).toNat)).toNat ≤ 1 := by
    cases upB mode neg (a / 2 ^ (qOf a e - e).toNat) (a % 2 ^ (qOf a e - e).toNat) (2 ^ (qOf a e - e).toNat) <;> decide
   show a / 2 ^ (qOf a e - e).toNat + _ ≤ _
   omega
theorem Aey {mode : Int} {neg : Bool} {a : Nat} {e : Int} (ha : a ≠ 0) (h : 128 < (bl a : Int) + e) : 128 < (bl (cutT mode neg a e).1 : Int) + qOf a e := by
 have hq : qOf a e = (bl a : Int) + e - 24 := by unfold qOf; omega
 unfold cutT
 simp only
 split
 ·rw [Fw ha]; omega
 ·rename_i hn
  have hd : bl a = 24 + (qOf a e - e).toNat := by omega
  have h1 : 2 ^ (23 + (qOf a e - e).toNat) ≤ a := by
   refine Nat.le_of_not_lt fun hc => ?_
   have := Bf.2 hc
   omega
  have h2 : 8388608 ≤ a / 2 ^ (qOf a e - e).toNat := by
   rw [Nat.pow_add] at h1
   exact (Nat.le_div_iff_mul_le (Nat.two_pow_pos _)).2 h1
  have h3 : bl 8388608 = 24 := by decide
  split
  ·have := HO h2
   show 128 < (bl (a / _) : Int) + _
   omega
  ·have := HO (Nat.le_trans h2 (Nat.le_add_right _ (upB mode neg (a / 2 ^ (qOf a e - e).toNat) (a % 2 ^ (qOf a e - e).toNat) (2 ^ (qOf a e - e).toNat)).toNat))
   show 128 < (bl (_ + _) : Int) + _
   omega
structure Cut (t : Nat) (q : Int) : Prop where
 t_le : t ≤ 16777216
 q_ge : -149 ≤ q
 top : (bl t : Int) + q ≤ 128
theorem Cut.has {t : Nat} {q : Int} (h : Cut t q) : Has single t q := by
 obtain ⟨h1, h2, h3⟩ := h
 by_cases ht : t = 16777216
 ·subst ht
  refine ⟨fun _ => ⟨8388608, q + 1, ⟨0, 1, by omega, by decide⟩, ?_, by decide⟩, fun _ => h3⟩
  show -149 ≤ q + 1
  omega
 ·exact Has32 (Bf.2 (by show t < 16777216; omega)) h2 h3
theorem Cut.has64 {t : Nat} {q : Int} (h : Cut t q) : Has double t q := by
 have : bl t ≤ 25 := Bf.2 (by show t < 33554432; have := h.t_le; omega)
 have := h.q_ge; have := h.top
 exact Has64 (by omega) (by omega) (by omega)
theorem Ah2 {t : Nat} {q : Int} {s : Bool} (h : Cut t q) : ∃ k l, double.read (W double s t q) = .number s k l ∧ single.write (.number s k l) = W single s t q ∧ (single.read (W single s t q)).isInfinity = false := by
 obtain ⟨k, l, r1, s1⟩ := CK (s := s) hsd h.has64
 obtain ⟨k', l', r2, s2⟩ := CK (s := s) hss h.has
 exact ⟨k, l, r1, (Xb s1).symm, by rw [r2]; rfl⟩
theorem AaZ (f : Format) (m : Nat) (e : Int) : ∃ r, ∀ s, f.nearest s m e = f.word s r := by
 by_cases h : m = 0
 ·refine ⟨0, fun s => ?_⟩
  unfold Format.nearest; rw [if_pos h]
 ·refine ⟨min ((max (e + m.log2 - f.fractionBits) f.leastPlace - f.leastPlace).toNat * f.binade + Toward.even.cut false (m <<< (e - max (e + m.log2 - f.fractionBits) f.leastPlace).toNat) (max (e + m.log2 - f.fractionBits) f.leastPlace - e).toNat) f.infRung, fun s => ?_⟩
  unfold Format.nearest; rw [if_neg h]
  have : ∀ n d, Toward.even.cut s n d = Toward.even.cut false n d := fun n d => rfl
  simp only [this]
theorem Wz (f : Format) (m : Nat) (e : Int) : ∃ r, ∀ s, W f s m e = f.word s r := AaZ f m e
theorem OG (s : Bool) (m : Nat) (e : Int) : W single s m e < 4294967296 := single.write_lt (.number s m e)
theorem AhH (m : Nat) (e : Int) : W single false m e < 2147483648 ∧ W single true m e = W single false m e + 2147483648 := by
 obtain ⟨r, hr⟩ := Wz single m e
 have h1 := OG true m e
 rw [hr] at h1 ⊢
 rw [hr]
 have e1 : single.word true r = 2147483648 + r := rfl
 have e2 : single.word false r = r := rfl
 rw [e1] at h1 ⊢; rw [e2]; omega
theorem WF (f : Format) (r : Nat) : f.word false r = r := rfl
theorem Af8 {n k B : Nat} (hn : 1 ≤ n) (hk : B ≤ k) : (n - 1) * B + k = n * B + (k - B) := by
 obtain ⟨m, rfl⟩ : ∃ m, n = m + 1 := ⟨n - 1, by omega⟩
 rw [Nat.add_sub_cancel, Nat.succ_mul]; omega
theorem AiN {n k B : Nat} (hn : n ≤ 2046) (hn1 : 1 ≤ n) (hk : k < 2 * B) : (n - 1) * B + k ≤ 2047 * B := by
 have : (n - 1) * B ≤ 2045 * B := Nat.mul_le_mul_right _ (by omega)
 omega
def B52 : Nat := 2 ^ 52
theorem Ab3 {t : Nat} {e : Int} {n : Nat} (h0 : t ≠ 0) (h1 : bl t ≤ 53) (hn : (bl t : Int) + e + 1022 = n) (h2 : 1 ≤ n) (h3 : n ≤ 2046) :
  W double false t e = n * B52 + (t * 2 ^ (53 - bl t) - B52) ∧ B52 ≤ t * 2 ^ (53 - bl t) ∧ t * 2 ^ (53 - bl t) < 2 * B52 := by
 have hb0 := Eu h0
 have hk : bl (t * 2 ^ (53 - bl t)) = 53 := by rw [Fw h0]; omega
 have hk1 : t * 2 ^ (53 - bl t) < 2 * B52 := by
  have := Bf.1 (show bl (t * 2 ^ (53 - bl t)) ≤ 53 by omega)
  unfold B52
  rw [Nat.mul_comm 2, ← Nat.pow_succ]
  exact this
 have hk2 : B52 ≤ t * 2 ^ (53 - bl t) := by
  refine Nat.le_of_not_lt fun hc => ?_
  have := Bf.2 (show t * 2 ^ (53 - bl t) < 2 ^ 52 from hc)
  omega
 refine ⟨?_, hk2, hk1⟩
 show double.nearest false t e = _
 unfold Format.nearest
 rw [if_neg h0, IY h0]
 have hl : max (e + ((bl t - 1 : Nat) : Int) - (double.fractionBits : Int)) double.leastPlace = (bl t : Int) + e - 53 := by
  rw [show double.leastPlace = -1074 from by decide, show (double.fractionBits : Int) = 52 from rfl]; omega
 simp only [hl]
 rw [show ((bl t : Int) + e - 53 - e).toNat = 0 by omega, D6, Nat.shiftLeft_eq, show (e - ((bl t : Int) + e - 53)).toNat = 53 - bl t by omega]
 rw [show double.leastPlace = -1074 from by decide, show double.binade = B52 from rfl, show double.infRung = 2047 * B52 from rfl]
 generalize t * 2 ^ (53 - bl t) = k at *
 rw [show ((bl t : Int) + e - 53 - -1074).toNat = n - 1 by omega]
 rw [WF, Nat.min_eq_left (AiN h3 h2 hk1), Af8 h2 hk2]
end Go.Vc
