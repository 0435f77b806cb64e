import Derived.Test.YtjompmflommadaaGreatDoorQFnProgramTextsVU12
set_option linter.unusedSimpArgs false
set_option linter.unusedVariables false
namespace Go.Vc
def numR (l : List UInt8) : Int := if negB l then -(decV ((body l).take 1000) : Int) else decV ((body l).take 1000)
theorem AaT (l : List UInt8) : (numR l).natAbs = decV ((body l).take 1000) := by unfold numR; split <;> simp
theorem N8 {l : List UInt8} (h : l.length ≤ 1000) : numR l = numI l := by
 have := NO l
 unfold numR numI
 rw [List.take_of_length_le (by omega)]
theorem Abq {l : List UInt8} (h : isNum l = true) (h1 : 1000 < l.length) : 2400 < bl (numR l).natAbs := by
 have hb := Wb l
 have hn := Gg h
 refine Nat.lt_of_not_le fun hc => ?_
 rw [AaT, Bf] at hc
 have h2 : numB ((body l).take 1000) = true := by
  unfold numB at hn ⊢
  simp only [Bool.and_eq_true, Bool.or_eq_true, decide_eq_true_eq] at hn ⊢
  obtain ⟨⟨h3, h4⟩, h5⟩ := hn
  refine ⟨⟨?_, ?_⟩, ?_⟩
  ·intro he
   have h6 := congrArg List.length he
   rw [List.length_take, List.length_nil] at h6
   omega
  ·rw [List.all_eq_true] at h4 ⊢
   exact fun x hx => h4 x (List.mem_of_mem_take hx)
  ·left
   rcases h5 with h5 | h5
   ·cases hbd : body l with
    | nil => exact absurd hbd h3
    | cons a t => rw [hbd] at h5; simpa using h5
   ·omega
 have h3 := YU h2 (n := 798) (by simp; omega) (by decide)
 exact Nat.not_le_of_lt hc (Nat.le_trans Adh h3)
theorem Afm {n k : Nat} (h : k < bl n) (hk : 24 ≤ k) : 2 ^ 24 ≤ n := Nat.le_trans (Nat.pow_le_pow_right (by decide) hk) (NL.1 h)
theorem AdQ {a b : List UInt8} (ha : isNum a = true) (hb : isNum b = true) (h1 : bl (numR a).natAbs ≤ 2400) (h2 : (numR b).natAbs < 16777216) : numR a = numI a ∧ numR b = numI b := by
 have l1 : a.length ≤ 1000 := Nat.le_of_not_lt fun hc => by have := Abq ha hc; omega
 have l2 : b.length ≤ 1000 := Nat.le_of_not_lt fun hc => by
  exact Nat.not_le_of_lt h2 (Afm (Abq hb hc) (by decide))
 exact ⟨N8 l1, N8 l2⟩
theorem Z8 {a b : List UInt8} (ha : isNum a = true) (hb : isNum b = true) (h : 2400 < bl (numR a).natAbs ∨ 16777216 ≤ (numR b).natAbs) : isDyB (numI a) (numI b) = false := by
 refine Bool.eq_false_iff.2 fun hd => ?_
 simp only [isDyB, Bool.and_eq_true, decide_eq_true_eq] at hd
 obtain ⟨⟨⟨h1, h2⟩, h3⟩, _⟩ := hd
 have l1 := Zv ha h1
 have l2 := ZJ hb h2 h3
 rw [N8 (by omega), N8 (by omega)] at h
 omega
end Go.Vc
