/- Contracts: matrices of one's own, row by row; matrices turned over. -/
import Derived.Test.YtliagkijeigcaaaC7
set_option linter.unusedVariables false
namespace Go.Proofs.Ytliagkijeigcaaa
open Go Go.Vc

variable {w : World} {K : Value → World → Prop}

section
variable {lo hi : Nat} {v : Value} {m : List (List Nat)} {vs : List Value}

theorem OM.at (h : OM w lo hi v m vs) {i : Nat} (hi' : i < m.length) {K : Value → Prop} (H : ∀ r, vs[i]? = some r → OwnR w lo hi t_float32 1 r m[i].length (m[i].map fl) → K r) : ixa P t_s_s_float32 v (.int .i64 (i : Int)) w (fun a => ld P t_s_float32 a w K) := by
  obtain ⟨x, hx, ho, hk⟩ := h.rows i hi'
  exact (owns_Row h.outer).at1 hx u_s_s_float32 i_s_float32 u_s_float32 rfl (H x hx ⟨ho, hk⟩)
theorem OM.len (h : OM w lo hi v m vs) {ty : TypeId} {K : Value → Prop} : bl0 P .len #[t_s_s_float32] ty [v] w K = K (.int .i64 m.length) := (owns_Row h.outer).len u_s_s_float32
theorem OM.vlen (h : OM w lo hi v m vs) : vs.length = m.length := by have := h.outer.1; omega

/-- A row's own block changes. -/
theorem OM.row {w' : World} {i : Nat} {r : Value} {l : List Nat} (h : OM w lo hi v m vs) (hr : vs[i]? = some r) (hg : w.grownBy w' r.ownBlock) (ho : OS w' lo r l) : OM w' lo hi v (m.set i l) vs ∧ Chg lo hi w w' := by
  have hi' : i < m.length := by
    have := (List.getElem?_eq_some_iff.1 hr).1
    have := h.vlen; omega
  obtain ⟨x, hx, hox, hk⟩ := h.rows i hi'
  rw [hr] at hx; cases hx
  refine ⟨⟨?_, fun j hj => ?_, h.apart, h.top⟩, Chg.grown hg fun k hk' => ⟨(hox.lt k hk').1, hk k hk'⟩⟩
  · rw [List.length_set]
    exact h.outer.kept hg (owns_ne h.outer hox (by decide))
  · have hj' : j < m.length := by simpa using hj
    by_cases hji : j = i
    · subst hji
      refine ⟨r, hr, ?_, hk⟩
      rw [List.getElem_set_self]; exact ho
    · obtain ⟨r', hr', hor', hrk'⟩ := h.rows j hj'
      refine ⟨r', hr', ?_, hrk'⟩
      have hne : r'.ownBlock = none ∨ r'.ownBlock ≠ r.ownBlock := by
        rcases Nat.lt_or_ge j i with hlt | hge
        · exact h.apart j i r' r hlt hr' hr
        · rcases h.apart i j r r' (by omega) hr hr' with h | h
          · cases hb : r'.ownBlock with
            | none => exact .inl rfl
            | some q => exact .inr (by rw [h]; simp)
          · exact .inr fun e => h e.symm
      rw [List.getElem_set_ne (by omega)]
      exact hor'.kept hg hne

/-- 'm[i][j] = x', the row at hand. -/
theorem OM.put {i j : Nat} {r : Value} {x : Nat} {K : World → Prop} (h : OM w lo hi v m vs) (hr : vs[i]? = some r) (hi' : i < m.length) (hj : j < m[i].length) (H : ∀ w', OM w' lo hi v (m.set i (m[i].set j x)) vs → Chg lo hi w w' → K w') :
    ixa P t_s_float32 r (.int .i64 (j : Int)) w (fun a => sto P t_float32 a (fl x) w K) := by
  obtain ⟨r', hr', ho, hk⟩ := h.rows i hi'
  rw [hr] at hr'; cases hr'
  refine owns_set ho hj (oneCell_fl _) u_s_float32 i_float32 fun w' ho' hg => ?_
  have e : OS w' lo r (m[i].set j x) := by
    show w'.ownsRow lo t_float32 1 r (m[i].set j x).length ((m[i].set j x).map fl)
    rw [List.length_set, List.map_set]; exact ho'
  obtain ⟨q1, q2⟩ := h.row hr hg e
  exact H w' q1 q2

/-- 'append(m, row)', the row newer than all of m. -/
theorem OM.push {hi2 : Nat} {r : Value} {l : List Nat} {KW : Value → World → Prop} (h : OM w lo hi v m vs) (hr : OwnR w hi hi2 t_float32 1 r l.length (l.map fl)) (hlh : lo ≤ hi) (hn : m.length < 1000000) (hs : lo ≤ w.heap.size)
    (H : ∀ v' w', OM w' lo w'.heap.size v' (m ++ [l]) (vs ++ [r]) → w.grownBy w' v.ownBlock → KW v' w') : bsl P t_s_s_float32 1 [(0, r)] w fun y w2 => bl2 P .append #[t_s_s_float32, t_s_s_float32] t_s_s_float32 [v, y] w2 KW := by
  refine app1 h.outer (oneCell_sl hr.own) u_s_s_float32 i_s_float32 rfl (by simp only [maxLen]; omega) (by omega) hs fun v' w' h1 h2 => H v' w' ⟨?_, fun i hi' => ?_, fun i j x y hij hx hy => ?_, fun k hk => (h1.lt k hk).2⟩ h2
  · simpa using h1
  · by_cases he : i < m.length
    · obtain ⟨x, hx, ho, hk⟩ := h.rows i he
      have hv : i < vs.length := (List.getElem?_eq_some_iff.1 hx).1
      refine ⟨x, by rw [List.getElem?_append_left hv]; exact hx, ?_, fun k hkk => ?_⟩
      · rw [List.getElem_append_left he]
        exact ho.kept h2 (owns_ne ho h.outer (by decide))
      · have := (ho.lt k hkk).2
        have := h2.size
        omega
    · have hi'' : i = m.length := by simp at hi'; omega
      subst hi''
      refine ⟨r, by rw [← h.vlen]; simp, ?_, fun k hkk => ?_⟩
      · rw [List.getElem_append_right (Nat.le_refl _)]
        simp only [Nat.sub_self, List.getElem_cons_zero]
        exact owns_base (hr.own.kept h2 (owns_ne hr.own h.outer (by decide))) hlh
      · have := (hr.own.lt k hkk).2
        have := h2.size
        omega
  · by_cases he : j < vs.length
    · rw [List.getElem?_append_left he] at hy
      rw [List.getElem?_append_left (by omega)] at hx
      exact h.apart i j x y hij hx hy
    · have hjl := (List.getElem?_eq_some_iff.1 hy).1
      have : j = vs.length := by simp at hjl; omega
      subst this
      simp at hy; subst hy
      rw [List.getElem?_append_left hij] at hx
      have hvl := h.vlen
      obtain ⟨x', hx', ho', hk'⟩ := h.rows i (by omega)
      rw [hx] at hx'; cases hx'
      cases hob : x.ownBlock with
      | none => exact .inl rfl
      | some k =>
        refine .inr fun hne => ?_
        have h1 := hk' k hob
        have h2 := (hr.own.lt k hne.symm).1
        omega

theorem OM.lit0 (w : World) : OM (w.alloc (.cells #[] t_s_float32)) w.heap.size (w.alloc (.cells #[] t_s_float32)).heap.size (.slice (some ⟨w.heap.size, 0, none⟩) 0 0) [] [] :=
  ⟨owns_lit w [] t_s_float32, fun i hi => by simp at hi, fun i j x y _ hx => by simp at hx, fun k hk => ((owns_lit w [] t_s_float32).lt k hk).2⟩
theorem OM.nil (w : World) (lo hi : Nat) : OM w lo hi (.slice none 0 0) [] [] := ⟨⟨rfl, .inl ⟨rfl, rfl⟩⟩, fun i hi => by simp at hi, fun i j x y _ hx => by simp at hx, fun k hk => by cases hk⟩
theorem OM.mono {lo' hi' : Nat} (h : OM w lo hi v m vs) (h1 : lo' ≤ lo) (h2 : hi ≤ hi') : OM w lo' hi' v m vs :=
  ⟨owns_base h.outer h1, fun i hi => let ⟨x, hx, ho, hk⟩ := h.rows i hi; ⟨x, hx, owns_base ho h1, fun k hkk => Nat.lt_of_lt_of_le (hk k hkk) h2⟩, h.apart, fun k hk => Nat.lt_of_lt_of_le (h.top k hk) h2⟩
theorem OM.sized (h : OM w lo hi v m vs) : OM w lo w.heap.size v m vs :=
  ⟨h.outer, fun i hi => let ⟨x, hx, ho, hk⟩ := h.rows i hi; ⟨x, hx, ho, fun k hkk => (ho.lt k hkk).2⟩, h.apart, fun k hk => (h.outer.lt k hk).2⟩
end

/-! ### square tables -/
def tab (n : Nat) (f : Nat → Nat → Nat) : List (List Nat) := (List.range n).map fun i => (List.range n).map fun j => f i j
@[simp] theorem tab_length (n : Nat) (f : Nat → Nat → Nat) : (tab n f).length = n := by simp [tab]
theorem tab_row {n : Nat} {f : Nat → Nat → Nat} {i : Nat} (h : i < (tab n f).length) : (tab n f)[i] = (List.range n).map (f i) := by simp [tab]
theorem tab_get {n : Nat} {f : Nat → Nat → Nat} {i j : Nat} (h : i < (tab n f).length) (h' : j < (tab n f)[i].length) : (tab n f)[i][j] = f i j := by simp [tab]
theorem tab_row_length {n : Nat} {f : Nat → Nat → Nat} {i : Nat} (h : i < (tab n f).length) : (tab n f)[i].length = n := by simp [tab]
def upd (f : Nat → Nat → Nat) (i j x : Nat) : Nat → Nat → Nat := fun p q => if p = i ∧ q = j then x else f p q
theorem tab_set {n : Nat} {f : Nat → Nat → Nat} {i j x : Nat} (h : i < (tab n f).length) : (tab n f).set i ((tab n f)[i].set j x) = tab n (upd f i j x) := by
  apply List.ext_getElem (by simp)
  intro p h1 h2
  have hp : p < n := by simpa using h2
  by_cases he : p = i
  · subst he
    rw [List.getElem_set_self]
    apply List.ext_getElem (by simp [tab])
    intro q h3 h4
    have hq : q < n := by simpa [tab] using h4
    by_cases hqe : q = j
    · subst hqe
      rw [List.getElem_set_self, tab_get]
      simp [upd]
    · rw [List.getElem_set_ne (by omega), tab_get, tab_get]
      simp [upd, hqe]
  · rw [List.getElem_set_ne (by omega)]
    apply List.ext_getElem (by simp [tab])
    intro q h3 h4
    rw [tab_get, tab_get]
    simp [upd, he]
theorem tab_congr {n : Nat} {f g : Nat → Nat → Nat} (h : ∀ i j, i < n → j < n → f i j = g i j) : tab n f = tab n g := by
  apply List.ext_getElem (by simp)
  intro p h1 h2
  have hp : p < n := by simpa using h2
  apply List.ext_getElem (by simp [tab])
  intro q h3 h4
  have hq : q < n := by simpa [tab] using h4
  rw [tab_get, tab_get]; exact h p q hp hq
def cell (m : List (List Nat)) (i j : Nat) : Nat := (m.getD i []).getD j 0
theorem cell_get {m : List (List Nat)} {i j : Nat} (h : i < m.length) (h' : j < m[i].length) : cell m i j = m[i][j] := by simp [cell, h, h']
/-- A square matrix is the table of its cells. -/
def square (n : Nat) (m : List (List Nat)) : Prop := m.length = n ∧ ∀ r ∈ m, r.length = n
theorem square.row {n : Nat} {m : List (List Nat)} (h : square n m) {i : Nat} (hi : i < m.length) : m[i].length = n := h.2 _ (List.getElem_mem hi)
theorem square_tab (n : Nat) (f : Nat → Nat → Nat) : square n (tab n f) := ⟨by simp, fun r hr => by
  obtain ⟨i, hi, rfl⟩ := List.getElem_of_mem hr
  exact tab_row_length hi⟩
theorem tab_cell {n : Nat} {m : List (List Nat)} (h : square n m) : tab n (cell m) = m := by
  apply List.ext_getElem (by simp [h.1])
  intro p h1 h2
  apply List.ext_getElem (by rw [tab_row_length, h.row])
  intro q h3 h4
  rw [tab_get, cell_get h2 h4]

/-! ### turned over -/
def turnF (m : List (List Nat)) : List (List Nat) := tab m.length fun i j => cell m j i

theorem map_range_succ (n : Nat) (f : Nat → Nat) : (List.range n).map f ++ [f n] = (List.range (n + 1)).map f := by rw [List.range_succ]; simp

theorem c_spec_l10Turn {v : Value} {m : List (List Nat)} (h : FSS w v m) (hm : m.length ≤ 8) (hs : ∀ r ∈ m, r.length = m.length) (H : ∀ v' w' vs, Ext w w' → OM w' w.heap.size w'.heap.size v' (turnF m) vs → K v' w') : call P f_spec_l10Turn [v] w K := by
  refine I_spec_l10Turn ?_
  unfold D_spec_l10Turn
  refine bsl_nil u_s_s_float32 i_s_float32 ?_
  refine ⟨fun g u y w' => RowKit.Below w.heap.size w w' ∧ ∃ (j : Nat) (vs : List Value), y = .int .i64 j ∧ g + j = m.length ∧ OM w' w.heap.size w'.heap.size u ((turnF m).take j) vs,
    ⟨m.length, Ext_alloc _ _, 0, [], rfl, by omega, by simpa using OM.lit0 w⟩, ?_⟩
  rintro g u y junk w2 ⟨hb, j, vs, rfl, hg, ho⟩
  have h2 := h.ext hb
  rw [h2.len, bin_lss]
  refine cnd_dec (fun hlt => ?_) (fun hge => ?_)
  · have hj : j < m.length := by omega
    have hjt : j < (turnF m).length := by simpa [turnF] using hj
    refine bsl_nil u_s_float32 i_float32 ?_
    have hs2 := hb.size
    refine ⟨fun g u y w' => RowKit.Below w2.heap.size w2 w' ∧ ∃ (i : Nat), y = .int .i64 i ∧ g + i = m.length ∧ OS w' w2.heap.size u ((List.range i).map fun p => cell m p j),
      ⟨m.length, Ext_alloc _ _, 0, rfl, by omega, OS_lit0 w2⟩, ?_⟩
    rintro g' u' y junk' w3 ⟨hb3, i, rfl, hg', ho3⟩
    have h3 := h2.ext hb3
    have hs3 := hb3.size
    rw [h3.len, bin_lss]
    refine cnd_dec (fun hlt' => ?_) (fun hge' => ?_)
    · have hi : i < m.length := by omega
      refine h3.at hi fun r hr => ?_
      have hjr : j < m[i].length := by rw [hs _ (List.getElem_mem hi)]; exact hj
      refine hr.at hjr ?_
      refine appF ho3 (by simp; omega) hs3 fun v4 w4 ho4 hg4 => ?_
      rw [bin_add, wrap_i64 (by omega) (by omega)]
      refine ⟨g' - 1, by omega, OS.below ho3 hb3 hg4 (Nat.le_refl _) (Nat.le_refl _), i + 1, rfl, by omega, ?_⟩
      rw [← cell_get hi hjr] at ho4
      have e : (List.range i).map (fun p => cell m p j) ++ [cell m i j] = (List.range (i + 1)).map fun p => cell m p j := map_range_succ i fun p => cell m p j
      rw [e] at ho4; exact ho4
    · have hi : i = m.length := by omega
      subst hi
      have e : (List.range m.length).map (fun p => cell m p j) = (turnF m)[j] := by simp [turnF, tab]
      rw [e] at ho3
      refine OM.push (ho.ext hb3) (OwnR.of ho3) hs2 (by simp [turnF]; omega) (by omega) fun v4 w4 ho4 hg4 => ?_
      rw [bin_add, wrap_i64 (by omega) (by omega)]
      have hb3' : RowKit.Below w.heap.size w w3 := hb.trans (RowKit.Below.mono hb3 hb.size)
      refine ⟨g - 1, by omega, hb3'.grown hg4 (by omega) fun k hk => (ho.outer.lt k hk).1, j + 1, vs ++ [u'], rfl, by omega, ?_⟩
      rw [List.take_succ_eq_append_getElem hjt]; exact ho4
  · have hj : j = m.length := by omega
    subst hj
    rw [List.take_of_length_le (by simp [turnF])] at ho
    exact H _ _ _ hb ho

end Go.Proofs.Ytliagkijeigcaaa
