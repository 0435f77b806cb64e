import Derived.Laws.FloatArith
set_option linter.unusedSimpArgs false
set_option linter.unusedVariables false
namespace Go.Vc
open Go Ieee
theorem s_sw : single.signWeight = 2147483648 := by decide
theorem Aeu : single.binade = 8388608 := by decide
theorem LO : single.infRung = 2139095040 := by decide
theorem d_sw : double.signWeight = 9223372036854775808 := by decide
theorem AkM : double.binade = 4503599627370496 := by decide
theorem Aer : double.infRung = 9218868437227405312 := by decide
def Fin (f : Format) (b : Nat) : Prop := b % f.signWeight < f.infRung
def NaN (f : Format) (b : Nat) : Prop := f.infRung < b % f.signWeight
def Inf (f : Format) (b : Nat) : Prop := b % f.signWeight = f.infRung
theorem D9 {f : Format} {b : Nat} (h : Fin f b) : ∃ m e, f.read b = .number (b / f.signWeight % 2 == 1) m e := by
 unfold Format.read
 unfold Fin at h
 simp only []
 by_cases h1 : b % f.signWeight < f.binade
 ·rw [if_pos h1]; exact ⟨_, _, rfl⟩
 ·rw [if_neg h1, if_pos h]; exact ⟨_, _, rfl⟩
theorem Zw (f : Format) (h : 1 ≤ f.exponentBits) : f.binade ≤ f.infRung := by
 unfold Format.infRung
 have : 2 ≤ 2 ^ f.exponentBits := Nat.le_trans (by decide : 2 ≤ 2 ^ 1) (Nat.pow_le_pow_right (by decide) h)
 exact Nat.le_mul_of_pos_left _ (by omega)
theorem KC {f : Format} (hf : 1 ≤ f.exponentBits) {b : Nat} (h : Inf f b) : f.read b = .infinity (b / f.signWeight % 2 == 1) := by
 unfold Format.read
 unfold Inf at h
 have := Zw f hf
 simp only []
 rw [if_neg (by omega), if_neg (by omega), if_pos h]
theorem AlP {f : Format} (hf : 1 ≤ f.exponentBits) {b : Nat} (h : NaN f b) : ∃ t, f.read b = .nan (b / f.signWeight % 2 == 1) t := by
 unfold Format.read
 unfold NaN at h
 have := Zw f hf
 simp only []
 rw [if_neg (by omega), if_neg (by omega), if_neg (by omega)]
 exact ⟨_, rfl⟩
theorem DF (f : Format) (b : Nat) : Fin f b ∨ Inf f b ∨ NaN f b := by unfold Fin Inf NaN; omega
theorem sub_self {f : Format} {b : Nat} (h : Fin f b) : f.sub b b = some 0 := by
 obtain ⟨m, e, hr⟩ := D9 h
 unfold Format.sub
 rw [hr]
 simp only [Datum.opposite, Datum.sum]
 have h0 : signed (b / f.signWeight % 2 == 1) m (e - min e e).toNat + signed (!(b / f.signWeight % 2 == 1)) m (e - min e e).toNat = 0 := by
  unfold signed
  cases (b / f.signWeight % 2 == 1) <;> simp <;> omega
 rw [h0]
 simp [Format.write, Format.nearest, Format.word]
theorem Aau {f : Format} (hf : 1 ≤ f.exponentBits) {b : Nat} (h : ¬ Fin f b) : f.sub b b = none := by
 unfold Format.sub
 rcases DF f b with h1 | h1 | h1
 ·exact absurd h1 h
 ·rw [KC hf h1]; simp [Datum.opposite, Datum.sum]
 ·obtain ⟨t, ht⟩ := AlP hf h1; rw [ht]; simp [Datum.sum]
theorem WA {f : Format} {b : Nat} (h : ¬ NaN f b) (hf : 1 ≤ f.exponentBits) : f.order b b = some .eq := by
 unfold Format.order
 rcases DF f b with h1 | h1 | h1
 ·obtain ⟨m, e, hr⟩ := D9 h1; rw [hr]; simp [Datum.order]
 ·rw [KC hf h1]; simp [Datum.order]
 ·exact absurd h1 h
theorem KF {f : Format} (hf : 1 ≤ f.exponentBits) {a : Nat} (b : Nat) (h : NaN f a) : f.order a b = none := by
 obtain ⟨t, ht⟩ := AlP hf h
 unfold Format.order; rw [ht]; simp [Datum.order]
theorem hs1 : 1 ≤ single.exponentBits := by decide
theorem Aev (f : Format) (neg : Bool) (m : Nat) (e : Int) : (f.nearest neg m e) % f.signWeight ≤ f.infRung := by
 have hlt := f.infRung_lt
 unfold Format.nearest
 simp only []
 have key : ∀ r, r ≤ f.infRung → (f.word neg r) % f.signWeight ≤ f.infRung := by
  intro r hr
  unfold Format.word
  cases neg
  ·simp only [Bool.false_eq_true, if_false]
   rw [Nat.mod_eq_of_lt (by omega)]; exact hr
  ·simp only [if_true]
   rw [Nat.add_mod_left, Nat.mod_eq_of_lt (by omega)]; exact hr
 split
 ·exact key 0 (Nat.zero_le _)
 ·exact key _ (Nat.min_le_right _ _)
theorem CH (f : Format) (s : Bool) (m : Nat) (e : Int) : ¬ NaN f (f.write (.number s m e)) := by
 unfold NaN
 have := Aev f s m e
 show ¬ _ < (f.nearest s m e) % _
 omega
theorem Afj (f : Format) (s : Bool) : Inf f (f.write (.infinity s)) := by
 unfold Inf
 have hlt := f.infRung_lt
 show (f.word s f.infRung) % _ = _
 unfold Format.word
 cases s
 ·simp only [Bool.false_eq_true, if_false]; exact Nat.mod_eq_of_lt hlt
 ·simp only [if_true]; rw [Nat.add_mod_left]; exact Nat.mod_eq_of_lt hlt
def FR (op : BinOp) (k : FloatKind) (a b r : Nat) : Prop := floatBits op k a b = some r ∨ (floatBits op k a b = none ∧ NaN k.format r ∧ r < 2 ^ k.format.width)
theorem Adq (k : FloatKind) (a b t : Nat) : NaN k.format ((Question.nanBits k a b).cut t) ∧ (Question.nanBits k a b).cut t < 2 ^ k.format.width := by
 cases k
 ·show NaN single _ ∧ _ < 2 ^ 32
  unfold NaN
  rw [s_sw, LO]
  simp only [Question.cut]
  have h1 : t / 2 % (2 ^ 23 - 1) < 8388607 := Nat.mod_lt _ (by decide)
  generalize t / 2 % (2 ^ 23 - 1) = x at *
  rcases Nat.mod_two_eq_zero_or_one t with h | h <;> rw [h] <;> omega
 ·show NaN double _ ∧ _ < 2 ^ 64
  unfold NaN
  rw [d_sw, Aer]
  simp only [Question.cut]
  have h1 : t / 2 % (2 ^ 52 - 1) < 4503599627370495 := Nat.mod_lt _ (by decide)
  generalize t / 2 % (2 ^ 52 - 1) = x at *
  rcases Nat.mod_two_eq_zero_or_one t with h | h <;> rw [h] <;> omega
theorem Ow (b : Nat) : Fin single b ↔ b / 8388608 % 256 ≠ 255 := by
 unfold Fin
 rw [s_sw, LO]
 omega
instance (f : Format) (b : Nat) : Decidable (Fin f b) := by unfold Fin; infer_instance
instance (f : Format) (b : Nat) : Decidable (NaN f b) := by unfold NaN; infer_instance
theorem AeM {b : Nat} {s : Bool} {m : Nat} {e : Int} (h : single.read b = .number s m e) : ¬ Inf double (double.write (.number s m e)) := by
 have hb : m < 16777216 ∧ e ≤ 104 := by
  unfold Format.read at h
  rw [s_sw, Aeu, LO] at h
  simp only [] at h
  have hl : single.leastPlace = -149 := by decide
  rw [hl] at h
  split at h
  ·rename_i h1
   simp only [Datum.number.injEq] at h
   omega
  ·split at h
   ·rename_i h1 h2
    simp only [Datum.number.injEq] at h
    omega
   ·split at h <;> cases h
 obtain ⟨hm, he⟩ := hb
 have hl : double.leastPlace = -1074 := by decide
 have key : double.nearest s m e % double.signWeight < double.infRung := by
  unfold Format.nearest
  simp only []
  have word_lt : ∀ r, r < double.infRung → double.word s r % double.signWeight < double.infRung := by
   intro r hr
   unfold Format.word
   have hlt := double.infRung_lt
   cases s
   ·simp only [Bool.false_eq_true, if_false]; rw [Nat.mod_eq_of_lt (by omega)]; exact hr
   ·simp only [if_true]; rw [Nat.add_mod_left, Nat.mod_eq_of_lt (by omega)]; exact hr
  split
  ·exact word_lt 0 (by rw [Aer]; omega)
  ·rename_i hm0
   refine word_lt _ ?_
   refine Nat.lt_of_le_of_lt (Nat.min_le_left _ _) ?_
   rw [hl, Aer, AkM]
   have hlog : m.log2 < 24 := (Nat.log2_lt hm0).2 hm
   have hfb : (double.fractionBits : Int) = 52 := rfl
   rw [hfb]
   have hlast : max (e + (m.log2 : Int) - 52) (-1074) ≤ 75 := by omega
   have hlast2 : -1074 ≤ max (e + (m.log2 : Int) - 52) (-1074) := by omega
   generalize hL : max (e + (m.log2 : Int) - 52) (-1074) = last at *
   have hkept : Toward.even.cut s (m <<< (e - last).toNat) (last - e).toNat ≤ 2 ^ 53 := by
    unfold Toward.cut
    simp only []
    by_cases hle : last ≤ e
    ·have h0 : (last - e).toNat = 0 := by omega
     rw [h0]
     simp only [Nat.zero_min, Nat.shiftLeft_eq, Nat.pow_zero, Nat.mul_one, Nat.div_one, Nat.mod_one]
     have hlt : m * 2 ^ (e - last).toNat < 2 ^ 53 := by
      have h1 : m < 2 ^ (m.log2 + 1) := Nat.lt_log2_self
      have h2 : m.log2 + 1 + (e - last).toNat ≤ 53 := by omega
      calc m * 2 ^ (e - last).toNat < 2 ^ (m.log2 + 1) * 2 ^ (e - last).toNat := Nat.mul_lt_mul_of_pos_right h1 (Nat.two_pow_pos _)
       _ = 2 ^ (m.log2 + 1 + (e - last).toNat) := (Nat.pow_add ..).symm
       _ ≤ 2 ^ 53 := Nat.pow_le_pow_right (by decide) h2
     have : ∀ b : Bool, m * 2 ^ (e - last).toNat + b.toNat ≤ 2 ^ 53 := by intro b; cases b <;> simp <;> omega
     exact this _
    ·have h0 : (e - last).toNat = 0 := by omega
     rw [h0]
     simp only [Nat.shiftLeft_zero]
     have hdiv : ∀ g, m / g ≤ m := fun g => Nat.div_le_self _ _
     have : ∀ g (b : Bool), m / g + b.toNat ≤ 2 ^ 53 := by
      intro g b
      have := hdiv g
      cases b <;> simp <;> omega
     exact this _ _
   generalize Toward.even.cut s (m <<< (e - last).toNat) (last - e).toNat = kept at *
   have : (last - -1074).toNat ≤ 1149 := by omega
   have : (last - -1074).toNat * 4503599627370496 ≤ 1149 * 4503599627370496 := Nat.mul_le_mul_right _ this
   omega
 unfold Inf
 show ¬ (double.nearest s m e) % _ = _
 omega
end Go.Vc
