/- A determinant by sets of columns: the plain law. -/
import Derived.Test.YtabgkpfcpncmhaaU4
set_option linter.unusedVariables false
namespace Go.Vc

def cols (s n : Nat) : List Nat := (List.range n).filter fun j => s.testBit j
theorem cols_succ (s j : Nat) : cols s (j + 1) = cols s j ++ if s.testBit j then [j] else [] := by
  unfold cols
  rw [List.range_succ, List.filter_append]
  congr 1
  simp only [List.filter_cons, List.filter_nil]
theorem cols_prefix (s j : Nat) : ∀ d, ∃ t, cols s (j + d) = cols s j ++ t
  | 0 => ⟨[], by simp⟩
  | d + 1 => by
    obtain ⟨t, ht⟩ := cols_prefix s j d
    exact ⟨t ++ if s.testBit (j + d) then [j + d] else [], by rw [← Nat.add_assoc, cols_succ, ht, List.append_assoc]⟩
theorem cols_split {s j n : Nat} (h : s.testBit j = true) (hj : j < n) : ∃ t, cols s n = cols s j ++ j :: t := by
  obtain ⟨t, ht⟩ := cols_prefix s (j + 1) (n - (j + 1))
  rw [show j + 1 + (n - (j + 1)) = n by omega, cols_succ, h] at ht
  exact ⟨t, by rw [ht]; simp⟩
theorem cols_get {s j n : Nat} (h : s.testBit j = true) (hj : j < n) : (cols s n).getD (cols s j).length 0 = j := by
  obtain ⟨t, ht⟩ := cols_split h hj
  rw [ht]; simp [List.getD_eq_getElem?_getD]
theorem bit_split {s j : Nat} (h : s.testBit j = true) : ∃ x y, s = 2 ^ (j + 1) * x + (2 ^ j * 1 + y) ∧ y < 2 ^ j := by
  have hp := Nat.two_pow_pos j
  refine ⟨s / 2 ^ (j + 1), s % 2 ^ j, ?_, Nat.mod_lt _ hp⟩
  have h1 := Nat.div_add_mod s (2 ^ (j + 1))
  have h2 := Nat.mod_mul (x := s) (a := 2 ^ j) (b := 2)
  have h3 : s / 2 ^ j % 2 = 1 := by
    rw [Nat.testBit_eq_decide_div_mod_eq] at h
    simpa using h
  have h2 : s % 2 ^ (j + 1) = s % 2 ^ j + 2 ^ j * (s / 2 ^ j % 2) := by rw [Nat.pow_succ]; exact h2
  rw [h3] at h2
  omega
theorem testBit_sub {s j i : Nat} (h : s.testBit j = true) : (s - 2 ^ j).testBit i = if i = j then false else s.testBit i := by
  obtain ⟨x, y, rfl, hy⟩ := bit_split h
  have e : 2 ^ (j + 1) * x + (2 ^ j * 1 + y) - 2 ^ j = 2 ^ (j + 1) * x + y := by omega
  have hp : 2 ^ (j + 1) = 2 ^ j * 2 := Nat.pow_succ ..
  have a1 : y < 2 ^ (j + 1) := by omega
  have a2 : 2 ^ j * 1 + y < 2 ^ (j + 1) := by omega
  rw [e, Nat.testBit_two_pow_mul_add _ a1, Nat.testBit_two_pow_mul_add _ a2, Nat.testBit_two_pow_mul_add _ hy]
  by_cases hi : i = j
  · subst hi
    rw [if_pos (Nat.lt_succ_self _), if_pos rfl, Nat.testBit_lt_two_pow hy]
  · rw [if_neg hi]
    by_cases h1 : i < j
    · rw [if_pos (by omega), if_pos (by omega), if_pos h1]
    · rw [if_neg (by omega), if_neg (by omega)]
theorem cols_sub {s j n : Nat} (h : s.testBit j = true) (hj : j < n) : cols (s - 2 ^ j) n = (cols s n).eraseIdx (cols s j).length := by
  have lo : ∀ m, m ≤ j → cols (s - 2 ^ j) m = cols s m := by
    intro m hm
    unfold cols
    refine List.filter_congr fun i hi => ?_
    rw [List.mem_range] at hi
    rw [testBit_sub h, if_neg (by omega)]
  have hi : ∀ d, ∃ t, cols (s - 2 ^ j) (j + 1 + d) = cols s j ++ t ∧ cols s (j + 1 + d) = cols s j ++ j :: t := by
    intro d
    induction d with
    | zero =>
      refine ⟨[], ?_, ?_⟩
      · rw [Nat.add_zero, cols_succ, lo j (Nat.le_refl _), testBit_sub h, if_pos rfl]; simp
      · rw [Nat.add_zero, cols_succ, h]; simp
    | succ d ih =>
      obtain ⟨t, h1, h2⟩ := ih
      refine ⟨t ++ if s.testBit (j + 1 + d) then [j + 1 + d] else [], ?_, ?_⟩
      · rw [← Nat.add_assoc, cols_succ, h1, testBit_sub h, if_neg (show ¬ j + 1 + d = j by omega), List.append_assoc]
      · rw [← Nat.add_assoc, cols_succ, h2, List.append_assoc, List.cons_append]
  obtain ⟨t, h1, h2⟩ := hi (n - (j + 1))
  rw [show j + 1 + (n - (j + 1)) = n by omega] at h1 h2
  rw [h1, h2, List.eraseIdx_append_of_length_le (Nat.le_refl _), Nat.sub_self, List.eraseIdx_cons_zero]
theorem erase_getD {l : List Nat} {p : Nat} (hp : p < l.length) (k : Nat) : (l.eraseIdx p).getD k 0 = l.getD (skip p k) 0 := by
  simp only [List.getD_eq_getElem?_getD, List.getElem?_eraseIdx]
  unfold skip
  split <;> rfl
/-- The determinant of the last rows in some columns. -/
def sub (A : Mat) (n : Nat) (cs : List Nat) : Rat := det cs.length fun i k => A (n - cs.length + i) (cs.getD k 0)
theorem sub_nil (A : Mat) (n : Nat) : sub A n [] = 1 := rfl
theorem sub_step (A : Mat) (n : Nat) {cs : List Nat} (h0 : 0 < cs.length) (hn : cs.length ≤ n) : sub A n cs = sumN cs.length fun p => sgn p * A (n - cs.length) (cs.getD p 0) * sub A n (cs.eraseIdx p) := by
  obtain ⟨m, hm⟩ : ∃ m, cs.length = m + 1 := ⟨cs.length - 1, by omega⟩
  unfold sub
  rw [hm, det]
  refine sumN_congr fun p hp => ?_
  congr 1
  have hl : (cs.eraseIdx p).length = m := by rw [List.length_eraseIdx_of_lt (by omega), hm]; rfl
  rw [hl]
  refine det_congr fun i k hi hk => ?_
  unfold minor
  rw [erase_getD (by omega)]
  show A (n - (m + 1) + (i + 1)) _ = _
  rw [show n - (m + 1) + (i + 1) = n - m + i by omega]
end Go.Vc
