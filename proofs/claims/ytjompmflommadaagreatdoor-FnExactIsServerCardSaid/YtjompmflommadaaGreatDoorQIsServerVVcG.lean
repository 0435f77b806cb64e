import Derived.Laws.FloatArith
namespace Go.Vc
open Go Ieee
theorem s_sw : single.signWeight = 2147483648 := by decide
theorem s_inf : single.infRung = 2139095040 := by decide
theorem d_sw : double.signWeight = 9223372036854775808 := by decide
theorem d_inf : double.infRung = 9218868437227405312 := by decide
def Fin (f : Format) (b : Nat) : Prop := b % f.signWeight < f.infRung
def NaN (f : Format) (b : Nat) : Prop := f.infRung < b % f.signWeight
theorem read_fin {f : Format} {b : Nat} (h : Fin f b) : ∃ m e, f.read b = .number (b / f.signWeight % 2 == 1) m e := by
  unfold Format.read
  unfold Fin at h
  simp only []
  by_cases h1 : b % f.signWeight < f.binade
  · rw [if_pos h1]; exact ⟨_, _, rfl⟩
  · rw [if_neg h1, if_pos h]; exact ⟨_, _, rfl⟩
theorem sub_self {f : Format} {b : Nat} (h : Fin f b) : f.sub b b = some 0 := by
  obtain ⟨m, e, hr⟩ := read_fin h
  unfold Format.sub
  rw [hr]
  simp only [Datum.opposite, Datum.sum]
  have h0 : signed (b / f.signWeight % 2 == 1) m (e - min e e).toNat + signed (!(b / f.signWeight % 2 == 1)) m (e - min e e).toNat = 0 := by
    unfold signed
    cases (b / f.signWeight % 2 == 1) <;> simp <;> omega
  rw [h0]
  simp [Format.write, Format.nearest, Format.word]
theorem hs1 : 1 ≤ single.exponentBits := by decide
theorem hd1 : 1 ≤ double.exponentBits := by decide
def FR (op : BinOp) (k : FloatKind) (a b r : Nat) : Prop := floatBits op k a b = some r ∨ (floatBits op k a b = none ∧ NaN k.format r ∧ r < 2 ^ k.format.width)
theorem nan_cut (k : FloatKind) (a b t : Nat) : NaN k.format ((Question.nanBits k a b).cut t) ∧ (Question.nanBits k a b).cut t < 2 ^ k.format.width := by
  cases k
  · show NaN single _ ∧ _ < 2 ^ 32
    unfold NaN
    rw [s_sw, s_inf]
    simp only [Question.cut]
    have h1 : t / 2 % (2 ^ 23 - 1) < 8388607 := Nat.mod_lt _ (by decide)
    generalize t / 2 % (2 ^ 23 - 1) = x at *
    rcases Nat.mod_two_eq_zero_or_one t with h | h <;> rw [h] <;> omega
  · show NaN double _ ∧ _ < 2 ^ 64
    unfold NaN
    rw [d_sw, d_inf]
    simp only [Question.cut]
    have h1 : t / 2 % (2 ^ 52 - 1) < 4503599627370495 := Nat.mod_lt _ (by decide)
    generalize t / 2 % (2 ^ 52 - 1) = x at *
    rcases Nat.mod_two_eq_zero_or_one t with h | h <;> rw [h] <;> omega
instance (f : Format) (b : Nat) : Decidable (Fin f b) := by unfold Fin; infer_instance
instance (f : Format) (b : Nat) : Decidable (NaN f b) := by unfold NaN; infer_instance
def Feq (a b : Nat) : Prop := a = b ∨ (NaN single a ∧ NaN single b)
theorem Feq.refl (a : Nat) : Feq a a := .inl rfl
end Go.Vc
