/- Tables of integers as lists of rows; a determinant of a scaled table. -/
import Derived.Test.YtabgkpfcpncmhaaU5
set_option linter.unusedVariables false
namespace Go.Vc

def tf (T : List (List Int)) (i j : Nat) : Int := (T.getD i []).getD j 0
structure Sq (n : Nat) (T : List (List Int)) : Prop where
  len : T.length = n
  row : ∀ i, i < n → (T.getD i []).length = n
def putT (T : List (List Int)) (i j : Nat) (z : Int) : List (List Int) := T.set i ((T.getD i []).set j z)
def swapT (T : List (List Int)) (i j : Nat) : List (List Int) := (T.set i (T.getD j [])).set j (T.getD i [])
theorem getD_at {α : Type} {l : List α} {i : Nat} (d : α) (h : i < l.length) : l.getD i d = l[i] := by simp [List.getD_eq_getElem?_getD, h]
theorem getD_setL {α : Type} (l : List α) (i j : Nat) (x d : α) (h : i < l.length) : (l.set i x).getD j d = if j = i then x else l.getD j d := by
  simp only [List.getD_eq_getElem?_getD, List.getElem?_set]
  by_cases e : i = j
  · subst e; simp [h]
  · rw [if_neg e, if_neg (fun h => e h.symm)]
theorem Sq.put {n : Nat} {T : List (List Int)} (h : Sq n T) {i : Nat} (hi : i < n) (j : Nat) (z : Int) : Sq n (putT T i j z) := by
  have hl := h.len
  refine ⟨by unfold putT; simp [hl], fun p hp => ?_⟩
  unfold putT
  rw [getD_setL _ _ _ _ _ (by omega)]
  split
  · rw [List.length_set]; exact h.row i hi
  · exact h.row p hp
theorem tf_put {n : Nat} {T : List (List Int)} (h : Sq n T) {i j : Nat} (hi : i < n) (hj : j < n) (z : Int) (p q : Nat) : tf (putT T i j z) p q = if p = i ∧ q = j then z else tf T p q := by
  have hl := h.len
  have hr := h.row i hi
  unfold tf putT
  rw [getD_setL _ _ _ _ _ (by omega)]
  by_cases e : p = i
  · subst e
    rw [if_pos rfl, getD_setL _ _ _ _ _ (by omega)]
    by_cases e2 : q = j
    · subst e2; simp
    · rw [if_neg e2, if_neg (fun h => e2 h.2)]
  · rw [if_neg e, if_neg (fun h => e h.1)]
theorem Sq.swap {n : Nat} {T : List (List Int)} (h : Sq n T) {i j : Nat} (hi : i < n) (hj : j < n) : Sq n (swapT T i j) := by
  have hl := h.len
  refine ⟨by unfold swapT; simp [hl], fun p hp => ?_⟩
  unfold swapT
  rw [getD_setL _ _ _ _ _ (by simp; omega)]
  split
  · exact h.row i hi
  · rw [getD_setL _ _ _ _ _ (by omega)]
    split
    · exact h.row j hj
    · exact h.row p hp
theorem tf_swap {n : Nat} {T : List (List Int)} (h : Sq n T) {i j : Nat} (hi : i < n) (hj : j < n) (p q : Nat) : tf (swapT T i j) p q = tf T (if p = j then i else if p = i then j else p) q := by
  have hl := h.len
  unfold tf swapT
  rw [getD_setL _ _ _ _ _ (by simp; omega)]
  split
  · rfl
  · rw [getD_setL _ _ _ _ _ (by omega)]
    split <;> rfl

/-! ### in the middle of a step -/
structure Mid (n k i j : Nat) (T T' : List (List Int)) (b : Int) (B : Nat) : Prop where
  sq : Sq n T'
  old : ∀ p q, (p ≤ k ∨ q ≤ k ∨ i < p ∨ (p = i ∧ j ≤ q)) → tf T' p q = tf T p q
  new : ∀ p q, k < p → k < q → q < n → (p < i ∨ (p = i ∧ q < j)) → tf T p q * tf T k k - tf T p k * tf T k q = b * tf T' p q
  bd : ∀ p q, bl (tf T' p q).natAbs + 1 ≤ B
theorem Mid.start {n k : Nat} {T : List (List Int)} {b : Int} {B : Nat} (h : Sq n T) (hb : ∀ p q, bl (tf T p q).natAbs + 1 ≤ B) : Mid n k (k + 1) (k + 1) T T b B :=
  ⟨h, fun p q _ => rfl, fun p q h1 h2 h3 h4 => by omega, hb⟩
theorem Mid.put {n k i j : Nat} {T T' : List (List Int)} {b z : Int} {B : Nat} (h : Mid n k i j T T' b B) (hi : i < n) (hk : k < i) (hkj : k < j) (hj : j < n) (hz : tf T i j * tf T k k - tf T i k * tf T k j = b * z) (hbz : bl z.natAbs + 1 ≤ B) :
    Mid n k i (j + 1) T (putT T' i j z) b B := by
  refine ⟨h.sq.put hi _ _, fun p q hp => ?_, fun p q h1 h2 h3 h4 => ?_, fun p q => ?_⟩
  · rw [tf_put h.sq hi hj, if_neg (by omega)]
    exact h.old p q (by omega)
  · rw [tf_put h.sq hi hj]
    split
    · rename_i e; rw [e.1, e.2]; exact hz
    · exact h.new p q h1 h2 h3 (by omega)
  · rw [tf_put h.sq hi hj]
    split
    · exact hbz
    · exact h.bd p q
theorem Mid.next {n k i : Nat} {T T' : List (List Int)} {b : Int} {B : Nat} (h : Mid n k i n T T' b B) (hk : k < i) : Mid n k (i + 1) (k + 1) T T' b B :=
  ⟨h.sq, fun p q hp => h.old p q (by omega), fun p q h1 h2 h3 h4 => h.new p q h1 h2 h3 (by omega), h.bd⟩
theorem bl_quo {b z x : Int} (hb : b ≠ 0) (h : x = b * z) : bl z.natAbs ≤ bl x.natAbs := by
  refine bl_mono ?_
  rw [h, Int.natAbs_mul]
  exact Nat.le_mul_of_pos_left _ (by omega)
theorem bl_minor {a b c d : Int} {B : Nat} (ha : bl a.natAbs + 1 ≤ B) (hb : bl b.natAbs + 1 ≤ B) (hc : bl c.natAbs + 1 ≤ B) (hd : bl d.natAbs + 1 ≤ B) : bl (a * b - c * d).natAbs + 1 ≤ 2 * B := by
  have h1 := ibl_mul a b
  have h2 := ibl_mul c d
  have h3 := ibl_add (a * b) (-(c * d))
  rw [Int.natAbs_neg] at h3
  rw [Int.sub_eq_add_neg]
  omega

/-! ### a scaled table -/
theorem sumN_mul (n : Nat) (f : Nat → Rat) (c : Rat) : sumN n (fun j => f j * c) = sumN n f * c := by
  induction n with
  | zero => simp only [sumN]; grind
  | succ n ih => rw [sumN, sumN, ih]; grind
theorem det_scale (c : Rat) : ∀ (n : Nat) (A : Mat), det n (fun i j => A i j * c) = det n A * c ^ n
  | 0, A => by rw [det, det, Rat.pow_zero]; grind
  | n + 1, A => by
    rw [det, det, ← sumN_mul]
    refine sumN_congr fun j _ => ?_
    have : minor (fun i j => A i j * c) j = fun i k => minor A j i k * c := rfl
    rw [this, det_scale c n, Rat.pow_succ]
    grind
theorem zp_pow (L : Int) : ∀ n : Nat, ((2 : Rat) ^ L) ^ n = (2 : Rat) ^ ((n : Int) * L)
  | 0 => by simp
  | n + 1 => by
    rw [Rat.pow_succ, zp_pow L n, ← zp_add]
    congr 1
    rw [Int.natCast_add, Int.add_mul]; simp
theorem det_dy {n : Nat} {L : Int} {A : Mat} {T : Nat → Nat → Int} (h : ∀ i j, i < n → j < n → A i j = dy (T i j) L) : det n A = det n (fun i j => (T i j : Rat)) * (2 : Rat) ^ ((n : Int) * L) := by
  rw [← zp_pow, ← det_scale]
  exact det_congr fun i j hi hj => h i j hi hj
end Go.Vc
