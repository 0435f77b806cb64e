/- Contracts: the product of two matrices. -/
import Derived.Test.YtliagkijeigcaaaC8
set_option linter.unusedVariables false
namespace Go.Proofs.Ytliagkijeigcaaa
open Go Go.Vc

variable {w : World} {K : Value → World → Prop}

def colsF (a : List (List Nat)) : List (List Nat) → List (List Nat) → Option (List (List Nat))
  | [], out => some out
  | c :: cs, out => match timesF c a [] with
    | none => none
    | some q => colsF a cs (out ++ [q])
theorem colsF_step {a m : List (List Nat)} {i : Nat} {out : List (List Nat)} (h : i < m.length) : colsF a (m.drop i) out = match timesF m[i] a [] with
    | none => none
    | some q => colsF a (m.drop (i + 1)) (out ++ [q]) := by
  rw [List.drop_eq_getElem_cons h, colsF]
def tmF (a b : List (List Nat)) : List (List Nat) × Int :=
  if matB a && matB b then (if a.length = b.length then (match colsF a (turnF b) [] with | none => ([], 3) | some q => (turnF q, 0)) else ([], 2)) else ([], 1)

theorem cell_cases (m : List (List Nat)) (i j : Nat) : cell m i j = 0 ∨ ∃ (h : i < m.length) (h' : j < m[i].length), cell m i j = m[i][j] := by
  by_cases h : i < m.length
  · by_cases h' : j < m[i].length
    · exact .inr ⟨h, h', cell_get h h'⟩
    · left
      have e : m.getD i [] = m[i] := by simp [h]
      unfold cell
      rw [e, List.getD_eq_getElem?_getD, List.getElem?_eq_none (by omega)]; rfl
  · left
    have e : m.getD i [] = [] := by rw [List.getD_eq_getElem?_getD, List.getElem?_eq_none (by omega)]; rfl
    unfold cell
    rw [e]; rfl
theorem cell_fin {m : List (List Nat)} (hf : ∀ r ∈ m, r.all finB = true) (i j : Nat) : finB (cell m i j) = true := by
  rcases cell_cases m i j with h | ⟨h, h', e⟩
  · rw [h]; rfl
  · rw [e]; exact all_get (hf _ (List.getElem_mem h)) h'
theorem cell_lt {m : List (List Nat)} (hf : bits m) (i j : Nat) : cell m i j < 4294967296 := by
  rcases cell_cases m i j with h | ⟨h, h', e⟩
  · rw [h]; decide
  · rw [e]; exact hf _ (List.getElem_mem h) _ (List.getElem_mem h')
theorem turnF_fin {m : List (List Nat)} (hf : ∀ r ∈ m, r.all finB = true) : ∀ r ∈ turnF m, r.all finB = true := by
  intro r hr
  simp only [turnF, tab, List.mem_map] at hr
  obtain ⟨i, _, rfl⟩ := hr
  rw [List.all_eq_true]
  intro b hb
  simp only [List.mem_map] at hb
  obtain ⟨j, _, rfl⟩ := hb
  exact cell_fin hf _ _
theorem tab_bits {n : Nat} {f : Nat → Nat → Nat} (h : ∀ i j, f i j < 4294967296) : bits (tab n f) := by
  intro r hr b hb
  simp only [tab, List.mem_map] at hr
  obtain ⟨i, _, rfl⟩ := hr
  simp only [List.mem_map] at hb
  obtain ⟨j, _, rfl⟩ := hb
  exact h _ _
theorem turnF_bits {m : List (List Nat)} (hf : bits m) : bits (turnF m) := tab_bits fun i j => cell_lt hf j i
theorem turnF_row {m : List (List Nat)} : ∀ r ∈ turnF m, r.length = m.length := (square_tab _ _).2

/-- What colsF hands out: a list of columns, one for each. -/
theorem colsF_good {a : List (List Nat)} : ∀ {m out q : List (List Nat)}, (∀ r ∈ out, r.length = a.length) → bits out → colsF a m out = some q → q.length = out.length + m.length ∧ (∀ r ∈ q, r.length = a.length) ∧ bits q
  | [], out, q, h1, h2, h => by simp [colsF] at h; subst h; exact ⟨rfl, h1, h2⟩
  | c :: cs, out, q, h1, h2, h => by
    rw [colsF] at h
    cases hd : timesF c a [] with
    | none => rw [hd] at h; cases h
    | some s =>
      rw [hd] at h
      have hl := timesF_length hd
      have hb := timesF_lt (by simp) hd
      obtain ⟨p1, p2, p3⟩ := colsF_good (out := out ++ [s]) (fun r hr => by
        rcases List.mem_append.1 hr with hr | hr
        · exact h1 r hr
        · simp at hr; subst hr; simpa using hl) (fun r hr => by
        rcases List.mem_append.1 hr with hr | hr
        · exact h2 r hr
        · simp at hr; subst hr; exact hb) h
      refine ⟨?_, p2, p3⟩
      simp at p1 ⊢; omega

theorem tmF_bits (a b : List (List Nat)) : bits (tmF a b).1 := by
  unfold tmF
  split
  · split
    · cases h : colsF a (turnF b) [] with
      | none => intro r hr; simp at hr
      | some q => exact turnF_bits (colsF_good (by simp) (by intro r hr; simp at hr) h).2.2
    · intro r hr; simp at hr
  · intro r hr; simp at hr
theorem tmF_small (a b : List (List Nat)) : (tmF a b).1.length ≤ 8 ∧ ∀ r ∈ (tmF a b).1, r.length ≤ 8 := by
  unfold tmF
  split
  · rename_i hmb
    simp only [Bool.and_eq_true] at hmb
    have hb8 := (matB_parts hmb.2).2.2
    split
    · cases h : colsF a (turnF b) [] with
      | none => exact ⟨by simp, fun r hr => by simp at hr⟩
      | some q =>
        have hq := (colsF_good (by simp) (by intro r hr; simp at hr) h).1
        have hl : q.length ≤ 8 := by simp [turnF] at hq; omega
        refine ⟨by simpa [turnF] using hl, fun r hr => ?_⟩
        rw [turnF_row r hr]; exact hl
    · exact ⟨by simp, fun r hr => by simp at hr⟩
  · exact ⟨by simp, fun r hr => by simp at hr⟩

theorem MV_col {a v : Value} {m : List (List Nat)} {x : List Nat} (ha : FSS w a m) (hm : matB m = true) (hv : FS w v x) (hl : x.length = m.length) (hf : x.all finB = true) : MV w a v m x := by
  obtain ⟨h4, h5, h6⟩ := matB_parts hm
  exact ⟨ha, hv, fun r hr => by rw [hl]; exact (h4 r hr).1, fun r hr => (h4 r hr).2, hf, h6⟩

theorem c_spec_TimesMatrix {a v : Value} {m b : List (List Nat)} (ha : FSS w a m) (hv : FSS w v b) (hbb : bits b)
    (H : ∀ u w' vs, Ext w w' → OM w' w.heap.size w'.heap.size u (tmF m b).1 vs → K (.tuple #[u, .int .i64 (tmF m b).2]) w') : call P f_spec_TimesMatrix [a, v] w K := by
  refine I_spec_TimesMatrix ?_
  unfold D_spec_TimesMatrix
  refine c_spec_l10Is ha ?_
  rw [una_not]
  refine ⟨_, fun _ _ _ h => h, ?_⟩
  have bad : (matB m && matB b) = false → K (.tuple #[.slice none 0 0, .int .i64 1]) w := fun hb => by
    unfold tmF at H
    simp only [hb, Bool.false_eq_true, if_false] at H
    exact H _ _ [] (Ext.refl _) (OM.nil _ _ _)
  refine grd_split (fun h1 => ?_) (fun h1 => ?_)
  · simp only [Bool.not_eq_eq_eq_not, Bool.not_false] at h1
    refine c_spec_l10Is hv ?_
    rw [una_not, pick_bool, h1, Bool.not_true, cond_false]
    refine cnd_split (fun h2 => ?_) (fun h2 => ?_)
    · simp only [Bool.not_eq_eq_eq_not, Bool.not_true] at h2
      exact bad (by rw [h2, Bool.and_false])
    · simp only [Bool.not_eq_eq_eq_not, Bool.not_false] at h2
      have hb12 : (matB m && matB b) = true := by rw [h1, h2]; rfl
      unfold tmF at H
      simp only [hb12, if_true] at H
      rw [ha.len, hv.len, bin_neq]
      refine cnd_dec (fun h3 => ?_) (fun h3 => ?_)
      · rw [if_neg (by omega)] at H
        exact H _ _ [] (Ext.refl _) (OM.nil _ _ _)
      · have hlen : m.length = b.length := by omega
        rw [if_pos hlen] at H
        obtain ⟨p1, p2, p3⟩ := matB_parts h1
        obtain ⟨q1, q2, q3⟩ := matB_parts h2
        refine c_spec_l10Turn hv q3 (fun r hr => (q1 r hr).1) fun tv w1 vs1 e1 o1 => ?_
        refine bsl_nil u_s_s_float32 i_s_float32 ?_
        have ea := Ext_alloc w1 (.cells #[] t_s_float32)
        have s1 := e1.size
        refine ⟨fun g u y w' => RowKit.Below w1.heap.size w1 w' ∧ ∃ (j : Nat) (out : List (List Nat)) (vs : List Value), y = .int .i64 j ∧ g + j = b.length ∧ out.length = j ∧ OM w' w1.heap.size w'.heap.size u out vs ∧ (∀ r ∈ out, r.length = m.length) ∧ bits out ∧ colsF m ((turnF b).drop j) out = colsF m (turnF b) [],
          ⟨b.length, ea, 0, [], [], rfl, by omega, rfl, OM.lit0 w1, by simp, (by intro r hr; simp at hr), rfl⟩, ?_⟩
        rintro g u y junk w2 ⟨hb, j, out, vs, rfl, hg, hl, ho, hol, hob, ht⟩
        have h2 := o1.ext hb
        have ha2 := (ha.ext e1).ext hb
        have htl : (turnF b).length = b.length := by simp [turnF]
        rw [h2.len, bin_lss]
        have E2 : RowKit.Below w.heap.size w w2 := e1.trans hb
        refine cnd_dec (fun hlt => ?_) (fun hge => ?_)
        · have hj : j < (turnF b).length := by omega
          have hs2 := hb.size
          refine (h2.FSS (turnF_bits hbb)).at hj fun cv hcv => ?_
          have hcl : (turnF b)[j].length = m.length := by rw [turnF_row _ (List.getElem_mem hj)]; omega
          refine c_spec_l10Times (MV_col ha2 ‹matB m = true› hcv hcl (turnF_fin (fun r hr => (q1 r hr).2) _ (List.getElem_mem hj))) (fun hn w' he' => ?_) (fun q u' w' hq he' hoq => ?_)
          · rw [xtr_0, xtr_1, una_not]
            rw [colsF_step hj, hn] at ht
            rw [← ht] at H
            exact cnd_yes rfl (H _ _ [] (E2.trans (RowKit.Below.mono he' E2.size)) (OM.nil _ _ _))
          · rw [xtr_0, xtr_1, una_not]
            refine cnd_no rfl ?_
            have hql := timesF_length hq
            have hqb := timesF_lt (by simp) hq
            have hs3 := he'.size
            refine OM.push (ho.ext he') (OwnR.of hoq) hs2 (by omega) (by omega) fun v4 w4 ho4 hg4 => ?_
            rw [bin_add, wrap_i64 (by omega) (by omega)]
            have hb3 : RowKit.Below w1.heap.size w1 w' := hb.trans (RowKit.Below.mono he' hb.size)
            refine ⟨g - 1, by omega, hb3.grown hg4 (by omega) fun k hk => (ho.outer.lt k hk).1, j + 1, out ++ [q], vs ++ [u'], rfl, by omega, by simp [hl], ho4, ?_, ?_, ?_⟩
            · intro r hr
              rcases List.mem_append.1 hr with hr | hr
              · exact hol r hr
              · simp at hr; subst hr; simpa using hql
            · intro r hr
              rcases List.mem_append.1 hr with hr | hr
              · exact hob r hr
              · simp at hr; subst hr; exact hqb
            · rw [← ht, colsF_step hj, hq]
        · have : j = (turnF b).length := by omega
          subst this
          rw [List.drop_length] at ht
          rw [← ht] at H
          simp only [colsF] at H
          refine c_spec_l10Turn (ho.FSS hob) (by omega) (fun r hr => by rw [hol r hr]; omega) fun v5 w5 vs5 e5 o5 => ?_
          exact H _ _ vs5 (E2.trans (RowKit.Below.mono e5 E2.size)) (o5.mono E2.size (Nat.le_refl _))
  · have h2 : matB m = false := by cases h : matB m <;> simp_all
    rw [h2, Bool.not_false, pick_bool]
    exact cnd_yes rfl (bad (by rw [h2, Bool.false_and]))

/-! ### the program's -/
theorem c_impl_column {v : Value} {m : List (List Nat)} {j : Nat} (h : FSS w v m) (hm : m.length ≤ 8) (hs : ∀ r ∈ m, j < r.length) (H : ∀ v' w', Ext w w' → OS w' w.heap.size v' ((List.range m.length).map fun i => cell m i j) → K v' w') : call P f_impl_column [v, .int .i64 j] w K := by
  refine I_impl_column ?_
  unfold D_impl_column
  refine bsl_nil u_s_float32 i_float32 ?_
  rw [(h.ext (Ext_alloc w _)).len]
  refine ⟨fun g u y w' => RowKit.Below w.heap.size w w' ∧ ∃ (i : Nat), y = .int .i64 i ∧ g + i = m.length ∧ OS w' w.heap.size u ((List.range i).map fun p => cell m p j),
    ⟨m.length, Ext_alloc _ _, 0, rfl, by omega, OS_lit0 w⟩, ?_⟩
  rintro g' u' y junk' w3 ⟨hb3, i, rfl, hg', ho3⟩
  have h3 := h.ext hb3
  have hs3 := hb3.size
  rw [bin_lss]
  refine cnd_dec (fun hlt' => ?_) (fun hge' => ?_)
  · have hi : i < m.length := by omega
    refine h3.at hi fun r hr => ?_
    have hjr : j < m[i].length := hs _ (List.getElem_mem hi)
    refine hr.at hjr ?_
    refine appF ho3 (by simp; omega) hs3 fun v4 w4 ho4 hg4 => ?_
    rw [bin_add, wrap_i64 (by omega) (by omega)]
    refine ⟨g' - 1, by omega, OS.below ho3 hb3 hg4 (Nat.le_refl _) (Nat.le_refl _), i + 1, rfl, by omega, ?_⟩
    rw [← cell_get hi hjr] at ho4
    have e : (List.range i).map (fun p => cell m p j) ++ [cell m i j] = (List.range (i + 1)).map fun p => cell m p j := map_range_succ i fun p => cell m p j
    rw [e] at ho4; exact ho4
  · have hi : i = m.length := by omega
    subst hi
    exact H _ _ hb3 ho3

theorem replicate_eq_range (n z : Nat) : List.replicate n z = (List.range n).map fun _ => z := by
  apply List.ext_getElem (by simp)
  intro i h1 h2; simp

theorem c_impl_empty {n : Nat} (hn : n ≤ 8) (H : ∀ v' w' vs, Ext w w' → OM w' w.heap.size w'.heap.size v' (tab n fun _ _ => 0) vs → K v' w') : call P f_impl_empty [.int .i64 n] w K := by
  refine I_impl_empty ?_
  unfold D_impl_empty
  refine mks_intro u_s_s_float32 i_s_float32 rfl (by omega) (by simp only [maxLen]; omega) fun w1 v1 ho he => ?_
  rw [(owns_Row ho).len u_s_s_float32]
  refine ⟨fun k x w' => RowKit.Below w.heap.size w w' ∧ ∃ i : Nat, x = .int .i64 i ∧ k + i = n ∧ ∃ vs : List Value, vs.length = i ∧ w'.ownsRow w.heap.size t_s_float32 1 v1 n (vs ++ List.replicate (n - i) (.slice none 0 0)) ∧
      (∀ (j : Nat), j < i → ∃ x : Value, vs[j]? = some x ∧ OS w' w.heap.size x (List.replicate n 0)) ∧ (∀ (i j : Nat) (x y : Value), i < j → vs[i]? = some x → vs[j]? = some y → x.ownBlock = none ∨ x.ownBlock ≠ y.ownBlock),
    ⟨n, he, 0, rfl, by omega, [], rfl, by simpa using ho, fun j h0 => by omega, fun i j x y _ h1 => by simp at h1⟩, ?_⟩
  rintro k x junk w2 ⟨hbel, i, rfl, hm, vs, hvl, ho2, hrows, hap⟩
  rw [bin_lss]
  refine cnd_dec (fun hlt => ?_) (fun hge => ?_)
  · have hi : i < n := by omega
    refine mks_intro u_s_float32 i_float32 rfl (by omega) (by simp only [maxLen]; omega) fun w3 y hy he3 => ?_
    have hy : OS w3 w2.heap.size y (List.replicate n 0) := by
      show w3.ownsRow w2.heap.size t_float32 1 y (List.replicate n 0).length ((List.replicate n 0).map fl)
      rw [List.length_replicate, List.map_replicate]; exact hy
    have hb3 : RowKit.Below w.heap.size w w3 := hbel.trans (RowKit.Below.mono he3 hbel.size)
    have ho3 := owns_ext ho2 he3
    refine owns_set ho3 hi (oneCell_sl hy) u_s_s_float32 i_s_float32 fun w4 ho4 hg => ?_
    rw [bin_add, wrap_i64 (by omega) (by omega)]
    have hb4 : RowKit.Below w.heap.size w w4 := hb3.grown hg hb3.size fun k hk => (ho3.lt k hk).1
    refine ⟨k - 1, by omega, hb4, i + 1, rfl, by omega, vs ++ [y], by simp [hvl], ?_, ?_, ?_⟩
    · have e : (vs ++ List.replicate (n - i) (Value.slice none 0 0)).set i y = vs ++ [y] ++ List.replicate (n - (i + 1)) (Value.slice none 0 0) := by
        rw [List.set_append_right _ _ (by omega), hvl, Nat.sub_self]
        have : n - i = (n - (i + 1)) + 1 := by omega
        rw [this, List.replicate_succ, List.set_cons_zero]
        simp
      rw [e] at ho4; exact ho4
    · intro j hji
      by_cases he : j = i
      · subst he
        refine ⟨y, by simp [hvl], ?_⟩
        have := hy.kept hg (owns_ne hy ho3 (by decide))
        exact owns_base this hbel.size
      · obtain ⟨x', hx', ho'⟩ := hrows j (by omega)
        refine ⟨x', by rw [List.getElem?_append_left (by omega)]; exact hx', ?_⟩
        exact (owns_ext ho' he3).kept hg (owns_ne (owns_ext ho' he3) ho3 (by decide))
    · intro p q x' y' hpq hp hq
      by_cases hqi : q < vs.length
      · rw [List.getElem?_append_left hqi] at hq
        rw [List.getElem?_append_left (by omega)] at hp
        exact hap p q x' y' hpq hp hq
      · have hlt := (List.getElem?_eq_some_iff.1 hq).1
        have : q = vs.length := by simp at hlt; omega
        subst this
        simp at hq; subst hq
        rw [List.getElem?_append_left hpq] at hp
        obtain ⟨x'', hx'', ho''⟩ := hrows p (by omega)
        rw [hp] at hx''; cases hx''
        cases hob : x'.ownBlock with
        | none => exact .inl rfl
        | some k =>
          refine .inr fun hne => ?_
          have h1 := (ho''.lt k hob).2
          have h2 := (hy.lt k hne.symm).1
          omega
  · have hi : i = n := by omega
    have e2 : n - i = 0 := by omega
    simp only [e2, List.replicate_zero, List.append_nil] at ho2
    refine H _ _ vs hbel ⟨by rw [tab_length]; exact ho2, fun j hj => ?_, hap, fun k hk => (ho2.lt k hk).2⟩
    obtain ⟨x, hx, ho⟩ := hrows j (by simp at hj; omega)
    refine ⟨x, hx, ?_, fun k hk => (ho.lt k hk).2⟩
    rw [tab_row, ← replicate_eq_range]; exact ho

/-- Some columns are filled in. -/
def filled (n : Nat) (cols : List (List Nat)) : List (List Nat) := tab n fun i j => cell cols j i
theorem cell_none {m : List (List Nat)} {i j : Nat} (h : m.length ≤ i) : cell m i j = 0 := by
  rcases cell_cases m i j with h1 | ⟨h1, _⟩
  · exact h1
  · omega
theorem cell_append {m : List (List Nat)} {l : List Nat} {i j : Nat} : cell (m ++ [l]) i j = if i = m.length then l.getD j 0 else cell m i j := by
  unfold cell
  by_cases h : i < m.length
  · rw [if_neg (by omega)]
    rw [List.getD_eq_getElem?_getD (l := m ++ [l]), List.getElem?_append_left h, ← List.getD_eq_getElem?_getD]
  · by_cases h2 : i = m.length
    · subst h2; rw [if_pos rfl]
      rw [List.getD_eq_getElem?_getD (l := m ++ [l]), List.getElem?_append_right (Nat.le_refl _)]; simp
    · rw [if_neg h2, List.getD_eq_getElem?_getD (l := m ++ [l]), List.getElem?_eq_none (by simp; omega), List.getD_eq_getElem?_getD (l := m), List.getElem?_eq_none (by omega)]

theorem c_impl_TimesMatrix {a v : Value} {m b : List (List Nat)} (ha : FSS w a m) (hv : FSS w v b) (hbb : bits b)
    (H : ∀ u w' vs, Ext w w' → OM w' w.heap.size w'.heap.size u (tmF m b).1 vs → K (.tuple #[u, .int .i64 (tmF m b).2]) w') : call P f_impl_TimesMatrix [a, v] w K := by
  refine I_impl_TimesMatrix ?_
  unfold D_impl_TimesMatrix
  refine c_impl_IsMatrix ha ?_
  rw [una_not]
  refine ⟨_, fun _ _ _ h => h, ?_⟩
  have bad : (matB m && matB b) = false → K (.tuple #[.slice none 0 0, .int .i64 1]) w := fun hb => by
    unfold tmF at H
    simp only [hb, Bool.false_eq_true, if_false] at H
    exact H _ _ [] (Ext.refl _) (OM.nil _ _ _)
  refine grd_split (fun h1 => ?_) (fun h1 => ?_)
  · simp only [Bool.not_eq_eq_eq_not, Bool.not_false] at h1
    refine c_impl_IsMatrix hv ?_
    rw [una_not, pick_bool, h1, Bool.not_true, cond_false]
    refine cnd_split (fun h2 => ?_) (fun h2 => ?_)
    · simp only [Bool.not_eq_eq_eq_not, Bool.not_true] at h2
      exact bad (by rw [h2, Bool.and_false])
    · simp only [Bool.not_eq_eq_eq_not, Bool.not_false] at h2
      have hb12 : (matB m && matB b) = true := by rw [h1, h2]; rfl
      unfold tmF at H
      simp only [hb12, if_true] at H
      rw [ha.len, hv.len, bin_neq]
      refine cnd_dec (fun h3 => ?_) (fun h3 => ?_)
      · rw [if_neg (by omega)] at H
        exact H _ _ [] (Ext.refl _) (OM.nil _ _ _)
      · have hlen : m.length = b.length := by omega
        rw [if_pos hlen] at H
        obtain ⟨p1, p2, p3⟩ := matB_parts h1
        obtain ⟨q1, q2, q3⟩ := matB_parts h2
        rw [ha.len]
        refine c_impl_empty p3 fun ov w1 vs e1 o1 => ?_
        have s1 := e1.size
        rw [(hv.ext e1).len]
        have htl : (turnF b).length = b.length := by simp [turnF]
        refine ⟨fun g y w' => RowKit.Below w.heap.size w w' ∧ ∃ (j : Nat) (out : List (List Nat)), y = .int .i64 j ∧ g + j = b.length ∧ out.length = j ∧ OM w' w.heap.size w1.heap.size ov (filled b.length out) vs ∧ w1.heap.size ≤ w'.heap.size ∧ colsF m ((turnF b).drop j) out = colsF m (turnF b) [],
          ⟨b.length, e1, 0, [], rfl, by omega, rfl, ?_, Nat.le_refl _, rfl⟩, ?_⟩
        · rw [hlen] at o1
          have : filled b.length [] = tab b.length fun _ _ => 0 := tab_congr fun i j _ _ => cell_none (by simp)
          rw [this]; exact o1
        rintro g y junk w2 ⟨hb, j, out, rfl, hg, hl, ho, hsz, ht⟩
        have ha2 := ha.ext hb
        have hv2 := hv.ext hb
        rw [bin_lss]
        refine cnd_dec (fun hlt => ?_) (fun hge => ?_)
        · have hj : j < (turnF b).length := by omega
          refine c_impl_column hv2 q3 (fun r hr => by rw [(q1 r hr).1]; omega) fun cv w3 e3 oc => ?_
          have ecol : ((List.range b.length).map fun i => cell b i j) = (turnF b)[j] := by simp [turnF, tab]
          rw [ecol] at oc
          have hcl : (turnF b)[j].length = m.length := by rw [turnF_row _ (List.getElem_mem hj)]; omega
          refine c_impl_timesVector (MV_col (ha2.ext e3) ‹matB m = true› (oc.FS (turnF_bits hbb _ (List.getElem_mem hj))) hcl (turnF_fin (fun r hr => (q1 r hr).2) _ (List.getElem_mem hj))) (fun hn w' he' => ?_) (fun q u' w' hq he' hoq => ?_)
          · rw [xtr_0, xtr_1, una_not]
            rw [colsF_step hj, hn] at ht
            rw [← ht] at H
            have E3 := e3.trans he'
            exact cnd_yes rfl (H _ _ [] (hb.trans (RowKit.Below.mono E3 hb.size)) (OM.nil _ _ _))
          · rw [xtr_0, xtr_1, una_not]
            refine cnd_no rfl ?_
            have hql : q.length = b.length := by have := timesF_length hq; simp at this; omega
            have hqb := timesF_lt (by simp) hq
            have E3 := e3.trans he'
            have hb3 : RowKit.Below w.heap.size w w' := hb.trans (RowKit.Below.mono E3 hb.size)
            have s2 := hb.size
            have s3 := e3.size
            have s4 := he'.size
            have hoq' := hoq.FS hqb
            rw [hoq'.row.len u_s_float32]
            refine ⟨fun g y w5 => RowKit.Below w.heap.size w w5 ∧ ∃ (i : Nat), y = .int .i64 i ∧ g + i = q.length ∧ OM w5 w.heap.size w1.heap.size ov (tab b.length fun p c => if c = j ∧ p < i then q.getD p 0 else cell out c p) vs ∧ w'.heap.size ≤ w5.heap.size ∧ OS w5 w3.heap.size u' q,
              ⟨q.length, hb3, 0, rfl, by omega, ?_, Nat.le_refl _, hoq⟩, ?_⟩
            · have : (tab b.length fun p c => if c = j ∧ p < 0 then q.getD p 0 else cell out c p) = filled b.length out := tab_congr fun i j _ _ => by simp
              rw [this]; exact ho.ext E3
            rintro g' y junk' w5 ⟨hb5, i, rfl, hg', ho5, hs5, hq5⟩
            rw [bin_lss]
            refine cnd_dec (fun hlt' => ?_) (fun hge' => ?_)
            · have hi : i < q.length := by omega
              refine ho5.at (i := i) (by rw [tab_length]; omega) fun r hr hor => ?_
              refine (hq5.FS hqb).at hi ?_
              refine ho5.put (i := i) (j := j) hr (by rw [tab_length]; omega) (by rw [tab_row_length]; omega) fun w6 ho6 hc6 => ?_
              rw [bin_add, wrap_i64 (by omega) (by omega)]
              refine ⟨g' - 1, by omega, hc6.below hb5 (Nat.le_refl _) (Nat.le_refl _), i + 1, rfl, by omega, ?_, Nat.le_trans hs5 hc6.size, (OwnR.chg (OwnR.of hq5) hc6 (.inr (by omega))).own⟩
              rw [tab_set] at ho6
              have : tab b.length (upd (fun p c => if c = j ∧ p < i then q.getD p 0 else cell out c p) i j q[i]) = tab b.length fun p c => if c = j ∧ p < i + 1 then q.getD p 0 else cell out c p := by
                refine tab_congr fun p c hp hc => ?_
                unfold upd
                by_cases e1 : p = i
                · by_cases e2 : c = j
                  · subst e1; subst e2; simp [hi]
                  · simp [e2]
                · by_cases e2 : c = j
                  · have : p < i + 1 ↔ p < i := by omega
                    simp [e1, e2, this]
                  · simp [e2]
              rw [this] at ho6; exact ho6
            · have hi : i = q.length := by omega
              subst hi
              rw [bin_add, wrap_i64 (by omega) (by omega)]
              refine ⟨g - 1, by omega, hb5, j + 1, out ++ [q], rfl, by omega, by simp [hl], ?_, by omega, ?_⟩
              · have : (tab b.length fun p c => if c = j ∧ p < q.length then q.getD p 0 else cell out c p) = filled b.length (out ++ [q]) := by
                  refine tab_congr fun p c hp hc => ?_
                  rw [cell_append, hl, hql]
                  by_cases e2 : c = j
                  · simp [e2, hp]
                  · simp [e2]
                rw [this] at ho5; exact ho5
              · rw [← ht, colsF_step hj, hq]
        · have : j = (turnF b).length := by omega
          subst this
          rw [List.drop_length] at ht
          rw [← ht] at H
          simp only [colsF] at H
          have e : filled b.length out = turnF out := by
            unfold filled turnF
            rw [hl, htl]
          rw [e] at ho
          exact H _ _ vs hb (ho.mono (Nat.le_refl _) hsz)
  · have h2 : matB m = false := by cases h : matB m <;> simp_all
    rw [h2, Bool.not_false, pick_bool]
    exact cnd_yes rfl (bad (by rw [h2, Bool.false_and]))

end Go.Proofs.Ytliagkijeigcaaa
