import Derived.Test.YtjompmflommadaaGreatDoorQFnProgramTextsVU2
set_option linter.unusedSimpArgs false
set_option linter.unusedVariables false
namespace Go.Vc
open Ieee
def W (f : Format) (s : Bool) (m : Nat) (e : Int) : Nat := f.write (.number s m e)
theorem Xb {f : Format} {s : Bool} {m n : Nat} {e g : Int} (h : SameN m e n g) : W f s m e = W f s n g := Jo f s h
theorem Jh (f : Format) (s : Bool) (e : Int) : W f s 0 e = f.word s 0 := by unfold W; simp [Format.write, Format.nearest]
theorem hsd : 2 ≤ double.exponentBits := by decide
theorem hss : 2 ≤ single.exponentBits := by decide
theorem Has64 {m : Nat} {e : Int} (h1 : bl m ≤ 53) (h2 : -1074 ≤ e) (h3 : (bl m : Int) + e ≤ 1024) : Has double m e :=
 ⟨fun _ => ⟨m, e, SameN.refl m e, h2, h1⟩, fun _ => h3⟩
theorem Has32 {m : Nat} {e : Int} (h1 : bl m ≤ 24) (h2 : -149 ≤ e) (h3 : (bl m : Int) + e ≤ 128) : Has single m e :=
 ⟨fun _ => ⟨m, e, SameN.refl m e, h2, h1⟩, fun _ => h3⟩
theorem AfN {f : Format} {s : Bool} {m : Nat} {e : Int} (hf : 2 ≤ f.exponentBits) (hm : m ≠ 0) (h : Has f m e) : ∃ k l, f.read (W f s m e) = .number s k l ∧ SameN m e k l := by
 obtain ⟨k, l, h1, h2, _⟩ := AdA (neg := s) hf hm h
 exact ⟨k, l, h1, h2⟩
theorem AiG (f : Format) (s : Bool) (e : Int) : f.read (W f s 0 e) = .number s 0 f.leastPlace := by
 rw [Jh]
 have hp : 0 < f.signWeight := Nat.two_pow_pos _
 obtain ⟨h1, h2⟩ := Zn (f := f) (neg := s) hp
 unfold Format.read
 simp only [h1, h2]
 rw [if_pos (show 0 < f.binade from Nat.two_pow_pos _)]
theorem CK {f : Format} {s : Bool} {m : Nat} {e : Int} (hf : 2 ≤ f.exponentBits) (h : Has f m e) : ∃ k l, f.read (W f s m e) = .number s k l ∧ SameN m e k l := by
 by_cases hm : m = 0
 ·subst hm
  refine ⟨0, _, AiG f s e, .of_dy ?_⟩
  rw [show ((0 : Nat) : Int) = 0 from rfl, Dv, Dv]
 ·exact AfN hf hm h
theorem AaA {f : Format} {s t : Bool} {m n : Nat} {e g : Int} (hf : 2 ≤ f.exponentBits) (h1 : Has f m e) (h2 : Has f n g) : f.mul (W f s m e) (W f t n g) = some (W f (s ^^ t) (m * n) (e + g)) := by
 obtain ⟨k, l, r1, s1⟩ := CK (s := s) hf h1
 obtain ⟨k', l', r2, s2⟩ := CK (s := t) hf h2
 unfold Format.mul
 rw [r1, r2]
 simp only [Datum.product, Option.map_some]
 exact congrArg some (Xb (s1.mul s2)).symm
theorem MD (s : Bool) (m k : Nat) : signed s m k = (if s then -1 else 1) * (m : Int) * 2 ^ k := by
 unfold signed
 rw [Nat.shiftLeft_eq]
 cases s
 ·simp
 ·simp; rw [Int.neg_mul]
theorem AkJ {f : Format} {m n : Nat} {e g : Int} (hf : 2 ≤ f.exponentBits) (h1 : Has f m e) (h2 : Has f n g) (p : Nat) (q : Int) (hp : dy p q = dy m e + dy n g) : f.add (W f false m e) (W f false n g) = some (W f false p q) := by
 obtain ⟨k, l, r1, s1⟩ := CK (s := false) hf h1
 obtain ⟨k', l', r2, s2⟩ := CK (s := false) hf h2
 unfold Format.add
 rw [r1, r2]
 simp only [Datum.sum, Option.map_some, MD, Bool.false_eq_true, if_false, Int.one_mul]
 congr 1
 have htot : ((k : Int) * 2 ^ (l - min l l').toNat + k' * 2 ^ (l' - min l l').toNat) = ((k * 2 ^ (l - min l l').toNat + k' * 2 ^ (l' - min l l').toNat : Nat) : Int) := by simp
 rw [htot]
 have hneg : (if (((k * 2 ^ (l - min l l').toNat + k' * 2 ^ (l' - min l l').toNat : Nat) : Int) = 0) then (false && false) else decide (((k * 2 ^ (l - min l l').toNat + k' * 2 ^ (l' - min l l').toNat : Nat) : Int) < 0)) = false := by
  split
  ·rfl
  ·rw [decide_eq_false_iff_not]; omega
 rw [hneg, Int.natAbs_natCast]
 show W f false _ _ = W f false p q
 refine Xb (.of_dy ?_)
 rw [hp, s1.dy, s2.dy, ← htot]
 exact XY k l k' l'
theorem Ado {f : Format} {s : Bool} {m : Nat} {e : Int} (hf : 2 ≤ f.exponentBits) (hfr : 1 ≤ f.fractionBits) (h1 : Has f m e) (h2 : Has f 1 1) : f.div (W f s m e) (W f false 1 1) = some (W f s m (e - 1)) := by
 obtain ⟨k, l, r1, s1⟩ := CK (s := s) hf h1
 obtain ⟨k', l', r2, s2⟩ := AfN (s := false) hf (by decide) h2
 unfold Format.div
 rw [r1, r2]
 have hk0 : k' ≠ 0 := fun h => absurd (s2.zero.2 h) (by decide)
 simp only [Datum.quotient, if_neg hk0, Option.map_some, Bool.xor_false]
 congr 1
 obtain ⟨c, hc⟩ : ∃ c : Nat, k' = 2 ^ c ∧ l' = 1 - c := by
  obtain ⟨i, j, a, b⟩ := s2
  rw [Nat.one_mul] at b
  have hij : j ≤ i := by
   refine Nat.le_of_not_lt fun hlt => ?_
   have h3 : 2 ^ i < 2 ^ j := Nat.pow_lt_pow_right (by decide) hlt
   have h4 : 1 * 2 ^ j ≤ k' * 2 ^ j := Nat.mul_le_mul_right _ (Nat.pos_of_ne_zero hk0)
   omega
  refine ⟨i - j, ?_, by omega⟩
  have h3 : 2 ^ i = 2 ^ (i - j) * 2 ^ j := by rw [← Nat.pow_add]; congr 1; omega
  rw [h3] at b
  exact (Nat.eq_of_mul_eq_mul_right (Nat.two_pow_pos j) b).symm
 obtain ⟨rfl, rfl⟩ := hc
 have hlog : (2 ^ c).log2 = c := Nat.log2_two_pow
 rw [hlog, Nat.shiftLeft_eq]
 by_cases hk : k = 0
 ·subst hk
  have hm : m = 0 := s1.zero.2 rfl
  subst hm
  simp only [Nat.zero_mul, Nat.zero_div, Nat.zero_mod, Nat.mul_zero]
  show W f s 0 _ = W f s 0 _
  rw [Jh, Jh]
 ·generalize hmore : f.fractionBits + 2 + c - k.log2 = more
  have hdvd : ∃ d, k * 2 ^ more = 2 ^ c * d := by
   by_cases hle : c ≤ more
   ·exact ⟨k * 2 ^ (more - c), by rw [show 2 ^ more = 2 ^ c * 2 ^ (more - c) by rw [← Nat.pow_add]; congr 1; omega]; grind⟩
   ·exfalso
    have hb : k.log2 ≤ f.fractionBits := by
     have hr := r1
     unfold Format.read at hr
     simp only at hr
     have hbp : 0 < f.binade := Nat.two_pow_pos _
     have h2b : k < 2 * f.binade := by
      split at hr
      ·rename_i hlt
       simp only [Datum.number.injEq] at hr
       omega
      ·split at hr
       ·simp only [Datum.number.injEq] at hr
        have := Nat.mod_lt (W f s m e % f.signWeight) hbp
        omega
       ·split at hr <;> cases hr
     have : bl k ≤ f.fractionBits + 1 := by
      rw [Bf, Nat.pow_succ]
      unfold Format.binade at h2b
      omega
     rw [IY hk]; omega
    omega
  obtain ⟨d, hd⟩ := hdvd
  have hp : 0 < 2 ^ c := Nat.two_pow_pos _
  rw [hd, Nat.mul_div_cancel_left _ hp, Nat.mul_mod_right]
  show W f s (2 * d + 0) (l - (1 - c) - more - 1) = W f s m (e - 1)
  refine Xb (.of_dy ?_)
  have h3 := s1.dy
  have h4 : dy ((2 * d + 0 : Nat) : Int) (l - (1 - (c : Int)) - more - 1) = dy k (l - 1) := by
   refine (SameN.dy ⟨more + c, 2 * more + 1, by omega, ?_⟩)
   have : k * 2 ^ (2 * more + 1) = 2 * (k * 2 ^ more) * 2 ^ more := by
    rw [Nat.pow_succ, Nat.two_mul more, Nat.pow_add]; grind
   rw [this, hd, Nat.pow_add]
   grind
  rw [h4]
  have h5 : ∀ (x y : Int), dy x (y - 1) = dy x y * dy 1 (-1) := fun x y => by rw [Qu]; congr 1; omega
  rw [h5, h5, h3]
end Go.Vc
