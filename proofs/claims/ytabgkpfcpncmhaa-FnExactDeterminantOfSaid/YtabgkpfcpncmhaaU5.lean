/- One step of Bareiss' elimination: what it leaves is whole, and the determinant is kept. -/
import Derived.Test.YtabgkpfcpncmhaaU4
set_option linter.unusedVariables false
namespace Go.Vc

/-- Whole at every choice of rows and columns, times b. -/
def Whl (b : Int) (U : Mat) : Prop := ∀ (m : Nat) (I J : Nat → Nat), ∃ z : Int, (b : Rat) * det m (fun i k => U (I i) (J k)) = z
theorem isInt_sum {n : Nat} {f : Nat → Rat} (h : ∀ j, j < n → ∃ z : Int, f j = z) : ∃ z : Int, sumN n f = z := by
  induction n with
  | zero => exact ⟨0, rfl⟩
  | succ n ih =>
    obtain ⟨a, ha⟩ := ih fun j hj => h j (by omega)
    obtain ⟨c, hc⟩ := h n (by omega)
    exact ⟨a + c, by rw [sumN, ha, hc, Rat.intCast_add]⟩
theorem isInt_det : ∀ {n : Nat} {A : Mat}, (∀ i k, ∃ z : Int, A i k = z) → ∃ z : Int, det n A = z
  | 0, A, h => ⟨1, rfl⟩
  | n + 1, A, h => by
    rw [det]
    refine isInt_sum fun j hj => ?_
    obtain ⟨a, ha⟩ := h 0 j
    obtain ⟨c, hc⟩ := isInt_det (n := n) (A := minor A j) fun i k => h _ _
    have hs : ∃ s : Int, sgn j = s := by
      unfold sgn
      split
      · exact ⟨1, rfl⟩
      · exact ⟨-1, rfl⟩
    obtain ⟨s, hs⟩ := hs
    exact ⟨s * a * c, by rw [ha, hc, hs, Rat.intCast_mul, Rat.intCast_mul]⟩
theorem Whl.init {U : Mat} (h : ∀ i k, ∃ z : Int, U i k = z) : Whl 1 U := fun m I J => by
  obtain ⟨z, hz⟩ := isInt_det (n := m) (A := fun i k => U (I i) (J k)) fun i k => h _ _
  exact ⟨z, by rw [hz]; exact Rat.one_mul _⟩
theorem Whl.rows {b : Int} {U : Mat} (h : Whl b U) (f : Nat → Nat) : Whl b (fun i k => U (f i) k) := fun m I J => h m (fun i => f (I i)) J
theorem det_one (A : Mat) : det 1 A = A 0 0 := by
  rw [det, sumN, sumN, det]
  show (0 : Rat) + 1 * A 0 0 * 1 = _
  grind
theorem Whl.at {b : Int} {U : Mat} (h : Whl b U) (i k : Nat) : ∃ z : Int, (b : Rat) * U i k = z := by
  obtain ⟨z, hz⟩ := h 1 (fun _ => i) (fun _ => k)
  rw [det_one] at hz
  exact ⟨z, hz⟩
theorem Whl.schur {b p : Int} {U : Mat} (h : Whl b U) (hp : (p : Rat) = b * U 0 0) (h0 : U 0 0 ≠ 0) : Whl p (Vc.schur U) := fun m I J => by
  obtain ⟨z, hz⟩ := h (m + 1) (fun i => match i with | 0 => 0 | i + 1 => I i + 1) (fun i => match i with | 0 => 0 | i + 1 => J i + 1)
  refine ⟨z, ?_⟩
  have e := det_schur (n := m) (fun i k => U (match i with | 0 => 0 | i + 1 => I i + 1) (match k with | 0 => 0 | i + 1 => J i + 1)) h0
  rw [← hz, e, hp, Rat.mul_assoc]
  rfl
/-- What is left of the matrix T from (k, k) on is b times U. -/
def Left (n k : Nat) (T : Nat → Nat → Int) (b : Int) (U : Mat) : Prop := ∀ i j, k + i < n → k + j < n → (T (k + i) (k + j) : Rat) = b * U i j
structure BI (n k : Nat) (T : Nat → Nat → Int) (b s : Int) (d : Rat) : Prop where
  nz : b ≠ 0
  ex : ∃ U : Mat, Left n k T b U ∧ Whl b U ∧ (s : Rat) * b * det (n - k) U = d
theorem BI.init (n : Nat) (T : Nat → Nat → Int) : BI n 0 T 1 1 (det n (fun i k => (T i k : Rat))) := by
  refine ⟨by decide, fun i k => (T i k : Rat), fun i j _ _ => ?_, Whl.init fun i k => ⟨_, rfl⟩, ?_⟩
  · rw [Nat.zero_add, Nat.zero_add]; exact (Rat.one_mul _).symm
  · rw [Nat.sub_zero]
    show (1 : Rat) * 1 * _ = _
    grind
theorem BI.step {n k : Nat} {T : Nat → Nat → Int} {b s : Int} {d : Rat} (h : BI n k T b s d) (hk : k + 1 < n) (hp : T k k ≠ 0) :
    (∀ i j, k < i → i < n → k < j → j < n → ∃ z : Int, T i j * T k k - T i k * T k j = b * z) ∧
    ∀ T' : Nat → Nat → Int, (∀ i j, k < i → i < n → k < j → j < n → T i j * T k k - T i k * T k j = b * T' i j) → BI n (k + 1) T' (T k k) s d := by
  obtain ⟨hb, U, hL, hW, hd⟩ := h
  have hbq : (b : Rat) ≠ 0 := fun e => hb (Rat.intCast_eq_zero_iff.1 e)
  have h00 : (T k k : Rat) = b * U 0 0 := hL 0 0 (by omega) (by omega)
  have hu : U 0 0 ≠ 0 := by
    intro e
    rw [e, Rat.mul_zero] at h00
    exact hp (Rat.intCast_eq_zero_iff.1 h00)
  have hW' := hW.schur h00 hu
  have key : ∀ i j, k + 1 + i < n → k + 1 + j < n → ((T (k + 1 + i) (k + 1 + j) * T k k - T (k + 1 + i) k * T k (k + 1 + j) : Int) : Rat) = b * (T k k * schur U i j) := by
    intro i j hi hj
    have e1 := hL (i + 1) (j + 1) (by omega) (by omega)
    have e2 := hL (i + 1) 0 (by omega) (by omega)
    have e3 := hL 0 (j + 1) (by omega) (by omega)
    rw [show k + (i + 1) = k + 1 + i by omega, show k + (j + 1) = k + 1 + j by omega] at e1
    rw [show k + (i + 1) = k + 1 + i by omega] at e2
    simp only [Nat.add_zero] at e2
    rw [show k + (j + 1) = k + 1 + j by omega] at e3
    simp only [Nat.add_zero] at e3
    rw [Rat.intCast_sub, Rat.intCast_mul, Rat.intCast_mul, e1, e2, e3, h00]
    unfold schur
    have hi := Rat.mul_inv_cancel _ hu
    rw [Rat.div_def]
    grind
  refine ⟨fun i j h1 h2 h3 h4 => ?_, fun T' hT => ⟨hp, schur U, fun i j hi hj => ?_, hW', ?_⟩⟩
  · obtain ⟨z, hz⟩ := hW'.at (i - (k + 1)) (j - (k + 1))
    refine ⟨z, ?_⟩
    have := key (i - (k + 1)) (j - (k + 1)) (by omega) (by omega)
    rw [show k + 1 + (i - (k + 1)) = i by omega, show k + 1 + (j - (k + 1)) = j by omega, hz, ← Rat.intCast_mul] at this
    exact Rat.intCast_inj.1 this
  · have h1 := hT (k + 1 + i) (k + 1 + j) (by omega) hi (by omega) hj
    have h2 := key i j hi hj
    rw [h1, Rat.intCast_mul] at h2
    have := Rat.inv_mul_cancel _ hbq
    have h3 : (b : Rat)⁻¹ * (b * (T' (k + 1 + i) (k + 1 + j) : Rat)) = (b : Rat)⁻¹ * (b * (T k k * schur U i j)) := by rw [h2]
    rw [← Rat.mul_assoc, ← Rat.mul_assoc, this, Rat.one_mul, Rat.one_mul] at h3
    exact h3
  · rw [← hd, h00]
    have : n - k = (n - (k + 1)) + 1 := by omega
    rw [this, det_schur U hu]
    grind
theorem BI.swap {n k r : Nat} {T : Nat → Nat → Int} {b s : Int} {d : Rat} (h : BI n k T b s d) (hk : k < r) (hr : r < n) : BI n k (fun i j => T (if i = k then r else if i = r then k else i) j) b (-s) d := by
  obtain ⟨hb, U, hL, hW, hd⟩ := h
  refine ⟨hb, fun i j => U (if i = 0 then r - k - 1 + 1 else if i = r - k - 1 + 1 then 0 else i) j, fun i j hi hj => ?_, hW.rows _, ?_⟩
  · by_cases h1 : i = 0
    · subst h1
      simp only [Nat.add_zero, if_true]
      have := hL (r - k - 1 + 1) j (by omega) hj
      rw [show k + (r - k - 1 + 1) = r by omega] at this
      exact this
    · by_cases h2 : i = r - k - 1 + 1
      · subst h2
        have := hL 0 j (by omega) hj
        dsimp only
        rw [if_neg (by omega), if_pos (by omega), if_neg (by omega), if_pos (by omega)]
        simpa using this
      · have := hL i j hi hj
        dsimp only
        rw [if_neg (by omega), if_neg (by omega), if_neg h1, if_neg h2]
        exact this
  · rw [det_swap_rows U (r := r - k - 1) (by omega), ← hd, Rat.intCast_neg]
    grind
theorem BI.none {n k : Nat} {T : Nat → Nat → Int} {b s : Int} {d : Rat} (h : BI n k T b s d) (hk : k < n) (h0 : ∀ i, k ≤ i → i < n → T i k = 0) : d = 0 := by
  obtain ⟨hb, U, hL, hW, hd⟩ := h
  have hbq : (b : Rat) ≠ 0 := fun e => hb (Rat.intCast_eq_zero_iff.1 e)
  have hz : ∀ i, k + i < n → U i 0 = 0 := by
    intro i hi
    have := hL i 0 hi (by omega)
    simp only [Nat.add_zero] at this
    rw [h0 _ (by omega) hi] at this
    rcases Rat.mul_eq_zero.1 this.symm with h | h
    · exact absurd h hbq
    · exact h
  have : det (n - k) U = det (n - k) (fun i j => if i < n - k then U i j else 0) := det_congr fun i j hi _ => by rw [if_pos hi]
  rw [← hd, this, show n - k = (n - k - 1) + 1 by omega, det_col0]
  · grind
  · intro i
    split
    · exact hz i (by omega)
    · rfl
theorem BI.last {n : Nat} {T : Nat → Nat → Int} {b s : Int} {d : Rat} (h : BI (n + 1) n T b s d) : d = s * T n n := by
  obtain ⟨hb, U, hL, hW, hd⟩ := h
  have := hL 0 0 (by omega) (by omega)
  rw [← hd, show n + 1 - n = 1 by omega, det_one]
  simp only [Nat.add_zero] at this
  rw [this]
  grind
end Go.Vc
