/- Determinants of rational matrices, by the first row: what column and row steps do to them. -/
import Derived.Test.YtabgkpfcpncmhaaU1
set_option linter.unusedVariables false
namespace Go.Vc

def skip (j k : Nat) : Nat := if k < j then k else k + 1
def sgn (j : Nat) : Rat := if j % 2 = 0 then 1 else -1
def sumN : Nat → (Nat → Rat) → Rat
  | 0, _ => 0
  | n + 1, f => sumN n f + f n
abbrev Mat := Nat → Nat → Rat
def minor (A : Mat) (j : Nat) : Mat := fun i k => A (i + 1) (skip j k)
def det : Nat → Mat → Rat
  | 0, _ => 1
  | n + 1, A => sumN (n + 1) (fun j => sgn j * A 0 j * det n (minor A j))

theorem sgn_succ (j : Nat) : sgn (j + 1) = - sgn j := by
  unfold sgn
  rcases Nat.mod_two_eq_zero_or_one j with h | h
  · rw [if_pos h, if_neg (by omega)]
  · rw [if_neg (by omega : ¬ j % 2 = 0), if_pos (by omega)]; exact (Rat.neg_neg 1).symm
theorem sumN_congr {n : Nat} {f g : Nat → Rat} (h : ∀ j, j < n → f j = g j) : sumN n f = sumN n g := by
  induction n with
  | zero => rfl
  | succ n ih => rw [sumN, sumN, ih fun j hj => h j (by omega), h n (by omega)]
theorem sumN_zero {n : Nat} {f : Nat → Rat} (h : ∀ j, j < n → f j = 0) : sumN n f = 0 := by
  induction n with
  | zero => rfl
  | succ n ih => rw [sumN, ih fun j hj => h j (by omega), h n (by omega)]; exact Rat.add_zero 0
theorem sumN_lin {n : Nat} {f g : Nat → Rat} (c : Rat) : sumN n (fun j => f j + c * g j) = sumN n f + c * sumN n g := by
  induction n with
  | zero => simp only [sumN]; grind
  | succ n ih => rw [sumN, sumN, sumN, ih]; grind
theorem sumN_one {n p : Nat} {f : Nat → Rat} (hp : p < n) (h : ∀ j, j < n → j ≠ p → f j = 0) : sumN n f = f p := by
  induction n with
  | zero => omega
  | succ n ih =>
    rw [sumN]
    by_cases hn : n = p
    · subst hn
      rw [sumN_zero fun j hj => h j (by omega) (by omega)]; grind
    · rw [ih (by omega) fun j hj hne => h j (by omega) hne, h n (by omega) hn]; grind
theorem sumN_two {n p : Nat} {f : Nat → Rat} (hp : p + 1 < n) (h : ∀ j, j < n → j ≠ p → j ≠ p + 1 → f j = 0) : sumN n f = f p + f (p + 1) := by
  induction n with
  | zero => omega
  | succ n ih =>
    rw [sumN]
    by_cases hn : n = p + 1
    · subst hn
      rw [sumN_one (p := p) (by omega) fun j hj hne => h j (by omega) hne (by omega)]
    · rw [ih (by omega) fun j hj h1 h2 => h j (by omega) h1 h2, h n (by omega) (by omega) hn]; grind

theorem skip_lt {j k n : Nat} (h : k < n) : skip j k < n + 1 := by unfold skip; split <;> omega
theorem skip_ne (j k : Nat) : skip j k ≠ j := by unfold skip; split <;> omega
def unskip (p j : Nat) : Nat := if j < p then j else j - 1
theorem skip_unskip {p j : Nat} (h : j ≠ p) (k : Nat) : skip p k = j ↔ k = unskip p j := by
  unfold skip unskip
  split <;> split <;> omega

theorem det_congr : ∀ {n : Nat} {A B : Mat}, (∀ i k, i < n → k < n → A i k = B i k) → det n A = det n B
  | 0, _, _, _ => rfl
  | n + 1, A, B, h => by
    rw [det, det]
    refine sumN_congr fun j hj => ?_
    rw [h 0 j (by omega) hj, det_congr (A := minor A j) (B := minor B j) fun i k hi hk => h _ _ (by omega) (skip_lt hk)]

/-! ### columns -/
def setc (A : Mat) (j : Nat) (x : Nat → Rat) : Mat := fun i k => if k = j then x i else A i k
theorem minor_setc_ne {A : Mat} {p j : Nat} (x : Nat → Rat) (h : j ≠ p) : minor (setc A j x) p = setc (minor A p) (unskip p j) (fun i => x (i + 1)) := by
  funext i k
  unfold minor setc
  by_cases hk : k = unskip p j
  · rw [if_pos hk, if_pos ((skip_unskip h k).2 hk)]
  · rw [if_neg hk, if_neg fun e => hk ((skip_unskip h k).1 e)]
theorem minor_setc_eq {A : Mat} {j : Nat} (x : Nat → Rat) : minor (setc A j x) j = minor A j := by
  funext i k
  unfold minor setc
  rw [if_neg (skip_ne j k)]
theorem setc_self (A : Mat) (j : Nat) : setc A j (fun i => A i j) = A := by
  funext i k
  unfold setc
  split
  · rename_i h; rw [h]
  · rfl

theorem det_col_lin : ∀ {n : Nat} (A : Mat) {j : Nat} (x y : Nat → Rat) (c : Rat), j < n → det n (setc A j (fun i => x i + c * y i)) = det n (setc A j x) + c * det n (setc A j y)
  | n + 1, A, j, x, y, c, hj => by
    rw [det, det, det, ← sumN_lin]
    refine sumN_congr fun p hp => ?_
    by_cases h : j = p
    · subst h
      rw [minor_setc_eq, minor_setc_eq, minor_setc_eq]
      simp only [setc, if_true]
      grind
    · rw [minor_setc_ne _ h, minor_setc_ne _ h, minor_setc_ne _ h]
      have hu : unskip p j < n := by unfold unskip; split <;> omega
      rw [det_col_lin (minor A p) (fun i => x (i + 1)) (fun i => y (i + 1)) c hu]
      have hne : ∀ z, setc A j z 0 p = A 0 p := fun z => by unfold setc; rw [if_neg (Ne.symm h)]
      rw [hne, hne, hne]
      grind

theorem det_adj : ∀ {n : Nat} (A : Mat) {j : Nat}, j + 1 < n → (∀ i, A i j = A i (j + 1)) → det n A = 0
  | n + 1, A, j, hj, h => by
    rw [det, sumN_two (p := j) (by omega)]
    · have hm : minor A j = minor A (j + 1) := by
        funext i k
        unfold minor skip
        by_cases h1 : k < j
        · rw [if_pos h1, if_pos (by omega)]
        · by_cases h2 : k = j
          · subst h2; rw [if_neg (by omega), if_pos (by omega)]; exact (h _).symm
          · rw [if_neg h1, if_neg (by omega)]
      rw [hm, ← h 0, sgn_succ]
      grind
    · intro p hp h1 h2
      have : det n (minor A p) = 0 := by
        by_cases hlt : p < j
        · refine det_adj (minor A p) (j := j - 1) (by omega) fun i => ?_
          unfold minor skip
          rw [if_neg (by omega), if_neg (by omega)]
          have := h (i + 1)
          rw [show j - 1 + 1 = j by omega]; exact this
        · refine det_adj (minor A p) (j := j) (by omega) fun i => ?_
          unfold minor skip
          rw [if_pos (by omega), if_pos (by omega)]
          exact h (i + 1)
      rw [this]; grind

theorem setc_comm {A : Mat} {j k : Nat} (x y : Nat → Rat) (h : j ≠ k) : setc (setc A j x) k y = setc (setc A k y) j x := by
  funext i l
  unfold setc
  by_cases h1 : l = k <;> by_cases h2 : l = j
  · omega
  · simp [h1, h2, Ne.symm h]
  · simp [h2, h]
  · simp [h1, h2]
/-- Two columns, given anew. -/
def set2 (A : Mat) (j k : Nat) (x y : Nat → Rat) : Mat := setc (setc A j x) k y
theorem det_two {n : Nat} {A : Mat} {j k : Nat} (hjk : j ≠ k) (hj : j < n) (hk : k < n) (h0 : ∀ x, det n (set2 A j k x x) = 0) (x y : Nat → Rat) : det n (set2 A j k x y) = - det n (set2 A j k y x) := by
  have h1 := h0 (fun i => x i + 1 * y i)
  unfold set2 at *
  rw [det_col_lin _ _ _ _ hk, setc_comm _ _ hjk, setc_comm _ _ hjk, det_col_lin _ _ _ _ hj, det_col_lin _ _ _ _ hj] at h1
  have h2 := h0 x
  have h3 := h0 y
  rw [setc_comm _ _ hjk] at h2 h3
  rw [h2, h3] at h1
  rw [setc_comm x y hjk, setc_comm y x hjk]
  grind
theorem det_swap_adj {n : Nat} {A : Mat} {j : Nat} (hj : j + 1 < n) (x y : Nat → Rat) : det n (set2 A j (j + 1) x y) = - det n (set2 A j (j + 1) y x) := by
  refine det_two (by omega) (by omega) hj (fun x => ?_) x y
  refine det_adj _ hj fun i => ?_
  unfold set2 setc
  rw [if_neg (by omega), if_pos rfl, if_pos rfl]
theorem det_eq_cols {n : Nat} : ∀ {d : Nat} (A : Mat) {j k : Nat}, j + d + 1 = k → k < n → (∀ i, A i j = A i k) → det n A = 0
  | 0, A, j, k, h, hk, he => det_adj A (j := j) (by omega) (by rw [show j + 1 = k by omega]; exact he)
  | d + 1, A, j, k, h, hk, he => by
    have e : A = set2 A (k - 1) (k - 1 + 1) (fun i => A i (k - 1)) (fun i => A i (k - 1 + 1)) := by
      unfold set2
      rw [setc_self, setc_self]
    rw [e, det_swap_adj (by omega)]
    rw [det_eq_cols (d := d) (set2 A (k - 1) (k - 1 + 1) (fun i => A i (k - 1 + 1)) (fun i => A i (k - 1))) (j := j) (k := k - 1) (by omega) (by omega)]
    · rfl
    · intro i
      unfold set2 setc
      rw [if_neg (by omega), if_neg (by omega), if_neg (by omega), if_pos rfl, he, show k - 1 + 1 = k by omega]
/-- A column, and a multiple of another one. -/
theorem det_col_add {n : Nat} (A : Mat) {j k : Nat} (c : Rat) (hne : j ≠ k) (hj : j < n) (hk : k < n) : det n (setc A j (fun i => A i j + c * A i k)) = det n A := by
  rw [det_col_lin A _ _ c hj, setc_self]
  have : det n (setc A j (fun i => A i k)) = 0 := by
    rcases Nat.lt_or_gt_of_ne hne with h | h
    · refine det_eq_cols (d := k - j - 1) _ (j := j) (k := k) (by omega) hk fun i => ?_
      unfold setc; rw [if_pos rfl, if_neg (by omega)]
    · refine det_eq_cols (d := j - k - 1) _ (j := k) (k := j) (by omega) hj fun i => ?_
      unfold setc; rw [if_neg (by omega), if_pos rfl]
  rw [this]; grind

/-! ### the first column done -/
def schur (A : Mat) : Mat := fun i k => A (i + 1) (k + 1) - A (i + 1) 0 * A 0 (k + 1) / A 0 0
def clr (A : Mat) (t : Nat) : Mat := fun i k => if 1 ≤ k ∧ k < t then A i k - A i 0 * A 0 k / A 0 0 else A i k
theorem det_clr {n : Nat} (A : Mat) : ∀ t, t ≤ n → det n (clr A t) = det n A
  | 0, _ => det_congr fun i k _ _ => by unfold clr; rw [if_neg (by omega)]
  | 1, _ => det_congr fun i k _ _ => by unfold clr; rw [if_neg (by omega)]
  | t + 2, h => by
    rw [← det_clr A (t + 1) (by omega), ← det_col_add (clr A (t + 1)) (j := t + 1) (k := 0) (-(A 0 (t + 1) / A 0 0)) (by omega) (by omega) (by omega)]
    refine det_congr fun i k _ _ => ?_
    unfold setc
    by_cases hk : k = t + 1
    · subst hk
      rw [if_pos rfl]
      have a1 : clr A (t + 1 + 1) i (t + 1) = A i (t + 1) - A i 0 * A 0 (t + 1) / A 0 0 := by unfold clr; rw [if_pos (by omega)]
      have a2 : clr A (t + 1) i (t + 1) = A i (t + 1) := by unfold clr; rw [if_neg (by omega)]
      have a3 : clr A (t + 1) i 0 = A i 0 := by unfold clr; rw [if_neg (by omega)]
      rw [a1]
      show _ = clr A (t + 1) i (t + 1) + -(A 0 (t + 1) / A 0 0) * clr A (t + 1) i 0
      rw [a2, a3, Rat.div_def, Rat.div_def]
      grind
    · rw [if_neg hk]
      unfold clr
      by_cases h1 : 1 ≤ k ∧ k < t + 1
      · rw [if_pos h1, if_pos (by omega)]
      · rw [if_neg h1, if_neg (by omega)]
theorem det_schur {n : Nat} (A : Mat) (h : A 0 0 ≠ 0) : det (n + 1) A = A 0 0 * det n (schur A) := by
  rw [← det_clr A (n + 1) (Nat.le_refl _), det]
  rw [sumN_one (p := 0) (by omega)]
  · have e1 : clr A (n + 1) 0 0 = A 0 0 := by unfold clr; rw [if_neg (by omega)]
    have e2 : det n (minor (clr A (n + 1)) 0) = det n (schur A) := by
      refine det_congr fun i k _ hk => ?_
      have : skip 0 k = k + 1 := by unfold skip; rw [if_neg (by omega)]
      unfold minor clr schur
      rw [this, if_pos (by omega)]
    rw [e1, e2]
    show (1 : Rat) * _ * _ = _
    grind
  · intro j hj hne
    have : clr A (n + 1) 0 j = 0 := by
      unfold clr
      rw [if_pos (by omega), Rat.div_def, Rat.mul_assoc, Rat.mul_comm (A 0 j), ← Rat.mul_assoc, Rat.mul_inv_cancel _ h]
      grind
    rw [this]; grind
theorem det_col0 {n : Nat} (A : Mat) (h : ∀ i, A i 0 = 0) : det (n + 1) A = 0 := by
  have h1 := det_col_lin (n := n + 1) A (j := 0) (fun _ => 0) (fun _ => 0) 1 (by omega)
  have e : setc A 0 (fun _ => (0 : Rat) + 1 * 0) = A := by
    funext i k
    unfold setc
    split
    · rename_i hk; rw [hk, h]; grind
    · rfl
  have e2 : setc A 0 (fun _ => (0 : Rat)) = A := by
    funext i k
    unfold setc
    split
    · rename_i hk; rw [hk, h]
    · rfl
  rw [e, e2] at h1
  grind

/-! ### rows -/
def setr (A : Mat) (r : Nat) (x : Nat → Rat) : Mat := fun i k => if i = r then x k else A i k
theorem det_row_lin : ∀ {n : Nat} (A : Mat) {r : Nat} (x y : Nat → Rat) (c : Rat), r < n → det n (setr A r (fun i => x i + c * y i)) = det n (setr A r x) + c * det n (setr A r y)
  | n + 1, A, 0, x, y, c, hr => by
    rw [det, det, det, ← sumN_lin]
    refine sumN_congr fun p hp => ?_
    have e : ∀ z, minor (setr A 0 z) p = minor A p := fun z => by
      funext i k
      unfold minor setr
      rw [if_neg (by omega)]
    rw [e, e, e]
    simp only [setr, if_true]
    grind
  | n + 1, A, r + 1, x, y, c, hr => by
    rw [det, det, det, ← sumN_lin]
    refine sumN_congr fun p hp => ?_
    have e : ∀ z, minor (setr A (r + 1) z) p = setr (minor A p) r (fun k => z (skip p k)) := fun z => by
      funext i k
      unfold minor setr
      by_cases h : i = r
      · rw [if_pos h, if_pos (by omega)]
      · rw [if_neg h, if_neg (by omega)]
    rw [e, e, e, det_row_lin (minor A p) (fun k => x (skip p k)) (fun k => y (skip p k)) c (by omega)]
    have hne : ∀ z, setr A (r + 1) z 0 p = A 0 p := fun z => by unfold setr; rw [if_neg (by omega)]
    rw [hne, hne, hne]
    grind
theorem setr_self (A : Mat) (r : Nat) : setr A r (fun k => A r k) = A := by
  funext i k
  unfold setr
  split
  · rename_i h; rw [h]
  · rfl
theorem det_row0 : ∀ {n : Nat} (A : Mat) {r : Nat}, r < n → (∀ k, k < n → A r k = 0) → det n A = 0
  | n + 1, A, 0, hr, h => by
    rw [det]
    exact sumN_zero fun j hj => by rw [h j hj]; grind
  | n + 1, A, r + 1, hr, h => by
    rw [det]
    refine sumN_zero fun j hj => ?_
    rw [det_row0 (minor A j) (r := r) (by omega) fun k hk => h _ (skip_lt hk)]
    grind
theorem det_eq_rows0 {n : Nat} (A : Mat) {r : Nat} (hr : r + 1 < n) (h : ∀ k, A 0 k = A (r + 1) k) (h0 : A 0 0 ≠ 0) : det n A = 0 := by
  obtain ⟨m, rfl⟩ : ∃ m, n = m + 1 := ⟨n - 1, by omega⟩
  rw [det_schur A h0, det_row0 (schur A) (r := r) (by omega)]
  · grind
  · intro k hk
    unfold schur
    rw [← h, ← h, Rat.div_def, Rat.mul_comm (A 0 0), Rat.mul_assoc, Rat.mul_inv_cancel _ h0]
    grind
theorem det_eq_rows {n : Nat} (A : Mat) {r : Nat} (hr : r + 1 < n) (h : ∀ k, A 0 k = A (r + 1) k) : det n A = 0 := by
  by_cases h0 : A 0 0 = 0
  · by_cases hz : ∀ k, k < n → A 0 k = 0
    · exact det_row0 A (r := 0) (by omega) hz
    · obtain ⟨k, hk⟩ := Classical.not_forall.1 hz
      obtain ⟨hkn, hk⟩ := Classical.not_imp.1 hk
      have hk0 : 0 ≠ k := by rintro rfl; exact hk h0
      rw [← det_col_add A (j := 0) (k := k) 1 hk0 (by omega) hkn]
      refine det_eq_rows0 _ hr (fun l => ?_) ?_
      · unfold setc
        split
        · show A 0 0 + 1 * A 0 k = A (r + 1) 0 + 1 * A (r + 1) k
          rw [h 0, h k]
        · exact h l
      · unfold setc
        rw [if_pos rfl]
        show A 0 0 + 1 * A 0 k ≠ 0
        rw [h0]
        intro e
        apply hk
        grind
  · exact det_eq_rows0 A hr h h0
theorem det_swap_rows {n : Nat} (A : Mat) {r : Nat} (hr : r + 1 < n) : det n (fun i k => A (if i = 0 then r + 1 else if i = r + 1 then 0 else i) k) = - det n A := by
  have hc : ∀ (x y : Nat → Rat), setr (setr A 0 x) (r + 1) y = setr (setr A (r + 1) y) 0 x := fun x y => by
    funext i k
    unfold setr
    by_cases h1 : i = 0 <;> by_cases h2 : i = r + 1
    · omega
    · simp [h1]
    · simp [h2]
    · simp [h1, h2]
  have h0 : ∀ x, det n (setr (setr A 0 x) (r + 1) x) = 0 := fun x => by
    refine det_eq_rows _ hr fun k => ?_
    unfold setr
    rw [if_neg (by omega), if_pos rfl, if_pos rfl]
  have key : ∀ x y, det n (setr (setr A 0 x) (r + 1) y) = - det n (setr (setr A 0 y) (r + 1) x) := fun x y => by
    have h1 := h0 (fun i => x i + 1 * y i)
    rw [det_row_lin _ _ _ _ hr, hc, hc, det_row_lin _ _ _ _ (by omega : 0 < n), det_row_lin _ _ _ _ (by omega : 0 < n)] at h1
    have h2 := h0 x
    have h3 := h0 y
    rw [hc] at h2 h3
    rw [h2, h3] at h1
    rw [hc x y, hc y x]
    grind
  have h1 := key (fun k => A (r + 1) k) (fun k => A 0 k)
  have e1 : setr (setr A 0 (fun k => A 0 k)) (r + 1) (fun k => A (r + 1) k) = A := by rw [setr_self, setr_self]
  rw [e1] at h1
  rw [← h1]
  refine det_congr fun i k _ _ => ?_
  unfold setr
  by_cases h2 : i = 0
  · subst h2; simp
  · by_cases h3 : i = r + 1
    · subst h3; simp
    · simp [h2, h3]
end Go.Vc
