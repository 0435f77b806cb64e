/- Elimination: what it computes, and the data it works on. -/
import Derived.Test.YtliagkijeigcaaaC9
import Derived.Test.YtliagkijeigcaaaVcK
set_option linter.unusedVariables false
namespace Go.Proofs.Ytliagkijeigcaaa
open Go Go.Vc

variable {w : World} {K : Value → World → Prop}

/-! ### what is computed -/
def swapL {α : Type} (l : List α) (i j : Nat) (d : α) : List α := (l.set i (l.getD j d)).set j (l.getD i d)
def sw (i j p : Nat) : Nat := if p = j then i else if p = i then j else p
@[simp] theorem swapL_length {α : Type} (l : List α) (i j : Nat) (d : α) : (swapL l i j d).length = l.length := by simp [swapL]
theorem swapL_get {α : Type} {l : List α} {i j : Nat} {d : α} (hi : i < l.length) (hj : j < l.length) (p : Nat) : (swapL l i j d)[p]? = l[sw i j p]? := by
  unfold swapL sw
  rw [List.getElem?_set]
  by_cases h1 : j = p
  · subst h1
    simp [hi, hj]
  · rw [if_neg h1, List.getElem?_set, if_neg (fun e : p = j => h1 e.symm)]
    by_cases h2 : i = p
    · subst h2
      simp [hi, hj]
    · rw [if_neg h2, if_neg (fun e : p = i => h2 e.symm)]
theorem swapL_comm {α : Type} {l : List α} {i j : Nat} {d : α} (hi : i < l.length) (hj : j < l.length) : (l.set j (l.getD i d)).set i (l.getD j d) = swapL l i j d := by
  apply List.ext_getElem?
  intro p
  rw [swapL_get hi hj]
  have := swapL_get (d := d) hj hi p
  unfold swapL at this
  rw [this]
  unfold sw
  by_cases h1 : p = i
  · subst h1
    by_cases h2 : p = j
    · subst h2; rfl
    · rw [if_pos rfl, if_neg h2, if_pos rfl]
  · by_cases h2 : p = j
    · subst h2; rw [if_neg h1, if_pos rfl, if_pos rfl]
    · rw [if_neg h1, if_neg h2, if_neg h2, if_neg h1]

def szF (a : Nat) : Nat := if Ieee.single.order a 0 == some .lt then Op.negFloat .f32 a else a
def absF (a : Nat) : Nat := if Ieee.single.order a 0 == some .lt then Op.negFloat .f32 a else if Ieee.single.order a 0 == some .eq then 0 else a
def gtF (a b : Nat) : Bool := Ieee.single.order (szF a) (szF b) == some .gt
def isZ (a : Nat) : Bool := Ieee.single.order a 0 == some .eq

theorem signed_zero (s : Bool) (k : Nat) : Ieee.signed s 0 k = 0 := by unfold Ieee.signed; cases s <;> simp
theorem signed_eq_zero {s : Bool} {m k : Nat} (h : Ieee.signed s m k = 0) : m = 0 := by
  unfold Ieee.signed at h
  have h1 : m <<< k = 0 := by cases s <;> simp at h <;> simpa using h
  rw [Nat.shiftLeft_eq] at h1
  rcases Nat.mul_eq_zero.1 h1 with h | h
  · exact h
  · exact absurd h (Nat.pos_iff_ne_zero.1 (Nat.two_pow_pos k))
theorem read_isZ {a : Nat} (ha : Fin Ieee.single a) (h : isZ a = true) : ∃ s e, Ieee.single.read a = .number s 0 e ∧ Ieee.single.read 0 = .number false 0 e := by
  have h0 : Ieee.single.read 0 = .number false 0 Ieee.single.leastPlace := by decide
  obtain ⟨m, e, hr⟩ := read_fin ha
  have hm : m = 0 := by
    unfold isZ Ieee.Format.order at h
    rw [h0, hr] at h
    simp only [Ieee.Datum.order, signed_zero, beq_iff_eq, Option.some.injEq] at h
    exact signed_eq_zero (by simpa using h)
  subst hm
  refine ⟨_, e, hr, ?_⟩
  rw [h0]
  unfold Ieee.Format.read at hr
  simp only [] at hr
  have hlt : a % Ieee.single.signWeight < Ieee.single.infRung := ha
  by_cases hb : a % Ieee.single.signWeight < Ieee.single.binade
  · rw [if_pos hb] at hr
    simp only [Ieee.Datum.number.injEq] at hr
    rw [hr.2.2]
  · rw [if_neg hb, if_pos hlt] at hr
    simp only [Ieee.Datum.number.injEq] at hr
    have := hr.2.1
    have hb0 : 0 < Ieee.single.binade := by decide
    omega
theorem order_zl {a : Nat} (ha : Fin Ieee.single a) (h : isZ a = true) (y : Nat) : Ieee.single.order a y = Ieee.single.order 0 y := by
  obtain ⟨s, e, h1, h2⟩ := read_isZ ha h
  unfold Ieee.Format.order
  rw [h1, h2]
  cases Ieee.single.read y <;> simp [Ieee.Datum.order, signed_zero]
theorem order_zr {a : Nat} (ha : Fin Ieee.single a) (h : isZ a = true) (y : Nat) : Ieee.single.order y a = Ieee.single.order y 0 := by
  obtain ⟨s, e, h1, h2⟩ := read_isZ ha h
  unfold Ieee.Format.order
  rw [h1, h2]
  cases Ieee.single.read y <;> simp [Ieee.Datum.order, signed_zero]
theorem absF_szF {a : Nat} : absF a = szF a ∨ (isZ a = true ∧ absF a = 0 ∧ szF a = a) := by
  unfold absF szF isZ
  cases h : Ieee.single.order a 0 with
  | none => simp
  | some o => cases o <;> simp
theorem gt_abs {a b : Nat} (ha : Fin Ieee.single a) (hb : Fin Ieee.single b) : (Ieee.single.order (absF a) (absF b) == some .gt) = gtF a b := by
  unfold gtF
  rcases absF_szF (a := a) with h1 | ⟨z1, h1, e1⟩
  · rcases absF_szF (a := b) with h2 | ⟨z2, h2, e2⟩
    · rw [h1, h2]
    · rw [h1, h2, e2, order_zr hb z2]
  · rcases absF_szF (a := b) with h2 | ⟨z2, h2, e2⟩
    · rw [h1, h2, e1, order_zl ha z1]
    · rw [h1, h2, e1, e2, order_zl ha z1, order_zr hb z2]
theorem gtF_self (a : Nat) : gtF a a = false := by
  unfold gtF Ieee.Format.order
  cases Ieee.single.read (szF a) <;> simp [Ieee.Datum.order]

theorem c_impl_size {a : Nat} (H : K (fl (szF a)) w) : call P f_impl_size [fl a] w K := by
  refine I_impl_size ?_
  unfold D_impl_size
  rw [bin_flss]
  unfold szF at H
  refine cnd_split (fun h => ?_) (fun h => ?_)
  · rw [show (Ieee.single.order a 0 == some .lt) = true from h, if_pos rfl] at H
    rw [una_neg_float]; exact H
  · rw [show (Ieee.single.order a 0 == some .lt) = false from h, if_neg (by simp)] at H
    exact H
theorem c_spec_l01Abs {a : Nat} (H : K (fl (absF a)) w) : call P f_spec_l01Abs [fl a] w K := by
  refine I_spec_l01Abs ?_
  unfold D_spec_l01Abs
  rw [bin_flss]
  unfold absF at H
  refine cnd_split (fun h => ?_) (fun h => ?_)
  · rw [show (Ieee.single.order a 0 == some .lt) = true from h, if_pos rfl] at H
    rw [una_neg_float]; exact H
  · rw [show (Ieee.single.order a 0 == some .lt) = false from h, if_neg (by simp)] at H
    rw [bin_feql]
    refine cnd_split (fun h => ?_) (fun h => ?_)
    · rw [show (Ieee.single.order a 0 == some .eq) = true from h, if_pos rfl] at H
      exact H
    · rw [show (Ieee.single.order a 0 == some .eq) = false from h, if_neg (by simp)] at H
      exact H

def bestF (m : List (List Nat)) (k : Nat) : Nat → Nat → Nat → Nat
  | 0, _, b => b
  | f + 1, i, b => bestF m k f (i + 1) (if gtF (cell m i k) (cell m b k) then i else b)
/-- The row below a pivot: its columns from j on. -/
def colsE (p : List Nat) (q : Nat) : Nat → Nat → List Nat → Option (List Nat)
  | 0, _, r => some r
  | f + 1, j, r => if finB (opF .sub (r.getD j 0) (opF .mul q (p.getD j 0))) then colsE p q f (j + 1) (r.set j (opF .sub (r.getD j 0) (opF .mul q (p.getD j 0)))) else none
def rowE (n k : Nat) (p r : List Nat) : Option (List Nat) :=
  if finB (opF .quo (r.getD k 0) (p.getD k 0)) then colsE p (opF .quo (r.getD k 0) (p.getD k 0)) (n - (k + 1)) (k + 1) (r.set k (opF .quo (r.getD k 0) (p.getD k 0))) else none
def rowsE (n k : Nat) : Nat → Nat → List (List Nat) → Option (List (List Nat))
  | 0, _, m => some m
  | f + 1, i, m => match rowE n k (m.getD k []) (m.getD i []) with
    | none => none
    | some r => rowsE n k f (i + 1) (m.set i r)
def elimE (n : Nat) : Nat → Nat → List Nat → List (List Nat) → Except Int (List Nat × List (List Nat))
  | 0, _, o, m => .ok (o, m)
  | f + 1, k, o, m =>
    if isZ (cell (swapL m k (bestF m k (n - k) k k) []) k k) then .error 5
    else match rowsE n k (n - (k + 1)) (k + 1) (swapL m k (bestF m k (n - k) k k) []) with
      | none => .error 3
      | some m' => elimE n f (k + 1) (swapL o k (bestF m k (n - k) k k) 0) m'
def elimF (m : List (List Nat)) : Except Int (List Nat × List (List Nat)) := elimE m.length m.length 0 (List.range m.length) m

theorem bestF_start {m : List (List Nat)} {k n : Nat} (h : k < n) : bestF m k (n - k) k k = bestF m k (n - (k + 1)) (k + 1) k := by
  have : n - k = (n - (k + 1)) + 1 := by omega
  rw [this, bestF, gtF_self]; simp
theorem bestF_range {m : List (List Nat)} {k n : Nat} : ∀ {f i b : Nat}, f + i ≤ n → b < n → k ≤ b → k ≤ i → bestF m k f i b < n ∧ k ≤ bestF m k f i b
  | 0, i, b, h1, h2, h3, h4 => ⟨h2, h3⟩
  | f + 1, i, b, h1, h2, h3, h4 => by
    rw [bestF]
    refine bestF_range (by omega) ?_ ?_ (by omega) <;> split <;> omega

/-- What is true of the table all along. -/
structure Good (n : Nat) (m : List (List Nat)) : Prop where
  sq : square n m
  fin : ∀ r ∈ m, r.all finB = true
  lt : bits m
theorem Good.cellFin {n : Nat} {m : List (List Nat)} (h : Good n m) (i j : Nat) : finB (cell m i j) = true := cell_fin h.fin i j
theorem Good.len {n : Nat} {m : List (List Nat)} (h : Good n m) : m.length = n := h.sq.1
theorem Good.row {n : Nat} {m : List (List Nat)} (h : Good n m) {i : Nat} (hi : i < m.length) : m[i].length = n := h.sq.row hi
theorem Good.set {n : Nat} {m : List (List Nat)} (h : Good n m) (i : Nat) {r : List Nat} (h1 : r.length = n) (h2 : r.all finB = true) (h3 : ∀ b ∈ r, b < 4294967296) : Good n (m.set i r) := by
  refine ⟨⟨by rw [List.length_set]; exact h.sq.1, fun x hx => ?_⟩, fun x hx => ?_, fun x hx => ?_⟩
  all_goals
    rcases List.mem_or_eq_of_mem_set hx with hx | rfl
    · first | exact h.sq.2 x hx | exact h.fin x hx | exact h.lt x hx
    · first | exact h1 | exact h2 | exact h3
theorem mem_swapL {α : Type} {l : List α} {i j : Nat} {d x : α} (hi : i < l.length) (hj : j < l.length) (hx : x ∈ swapL l i j d) : x ∈ l := by
  obtain ⟨p, hp⟩ := List.mem_iff_getElem?.1 hx
  rw [swapL_get hi hj] at hp
  exact List.mem_iff_getElem?.2 ⟨_, hp⟩
theorem Good.swap {n : Nat} {m : List (List Nat)} (h : Good n m) {i j : Nat} (hi : i < m.length) (hj : j < m.length) : Good n (swapL m i j []) :=
  ⟨⟨by rw [swapL_length]; exact h.sq.1, fun x hx => h.sq.2 x (mem_swapL hi hj hx)⟩, fun x hx => h.fin x (mem_swapL hi hj hx), fun x hx => h.lt x (mem_swapL hi hj hx)⟩
theorem all_set {r : List Nat} {j x : Nat} (h : r.all finB = true) (hx : finB x = true) : (r.set j x).all finB = true := by
  rw [List.all_eq_true] at *
  intro b hb
  rcases List.mem_or_eq_of_mem_set hb with hb | rfl
  · exact h b hb
  · exact hx
theorem lt_set {r : List Nat} {j x : Nat} (h : ∀ b ∈ r, b < 4294967296) (hx : x < 4294967296) : ∀ b ∈ r.set j x, b < 4294967296 := by
  intro b hb
  rcases List.mem_or_eq_of_mem_set hb with hb | rfl
  · exact h b hb
  · exact hx
theorem colsE_step {p r : List Nat} {q n j : Nat} (h : j < n) : colsE p q (n - j) j r = if finB (opF .sub (r.getD j 0) (opF .mul q (p.getD j 0))) then colsE p q (n - (j + 1)) (j + 1) (r.set j (opF .sub (r.getD j 0) (opF .mul q (p.getD j 0)))) else none := by
  rw [show n - j = (n - (j + 1)) + 1 by omega, colsE]
theorem colsE_end {p r : List Nat} {q n j : Nat} (h : n ≤ j) : colsE p q (n - j) j r = some r := by
  rw [show n - j = 0 by omega, colsE]
theorem rowsE_step {n k i : Nat} {m : List (List Nat)} (h : i < n) : rowsE n k (n - i) i m = match rowE n k (m.getD k []) (m.getD i []) with
    | none => none
    | some r => rowsE n k (n - (i + 1)) (i + 1) (m.set i r) := by
  rw [show n - i = (n - (i + 1)) + 1 by omega, rowsE]
theorem rowsE_end {n k i : Nat} {m : List (List Nat)} (h : n ≤ i) : rowsE n k (n - i) i m = some m := by
  rw [show n - i = 0 by omega, rowsE]
theorem elimE_step {n k : Nat} {o : List Nat} {m : List (List Nat)} (h : k < n) : elimE n (n - k) k o m = if isZ (cell (swapL m k (bestF m k (n - k) k k) []) k k) then .error 5
    else match rowsE n k (n - (k + 1)) (k + 1) (swapL m k (bestF m k (n - k) k k) []) with
      | none => .error 3
      | some m' => elimE n (n - (k + 1)) (k + 1) (swapL o k (bestF m k (n - k) k k) 0) m' := by
  rw [show elimE n (n - k) k o m = elimE n ((n - (k + 1)) + 1) k o m by rw [show n - k = (n - (k + 1)) + 1 by omega], elimE]
theorem elimE_end {n k : Nat} {o : List Nat} {m : List (List Nat)} (h : n ≤ k) : elimE n (n - k) k o m = .ok (o, m) := by
  rw [show n - k = 0 by omega, elimE]
end Go.Proofs.Ytliagkijeigcaaa
