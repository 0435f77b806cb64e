/- The contracts of SolveSystem, as the law wants them. -/
import Derived.Test.YtliagkijeigcaaaS3
import Derived.Test.YtliagkijeigcaaaC15
set_option linter.unusedVariables false
namespace Go.Proofs.Ytliagkijeigcaaa
open Go Go.Vc

variable {w : World} {K : Value → World → Prop}

theorem elimE_lt {n : Nat} : ∀ {f k : Nat} {o o' : List Nat} {m t : List (List Nat)}, elimE n f k o m = .ok (o', t) → f + k = n → o.length = n → (∀ x ∈ o, x < n) → ∀ x ∈ o', x < n
  | 0, k, o, o', m, t, h, _, ho, hx => by simp only [elimE, Except.ok.injEq, Prod.mk.injEq] at h; obtain ⟨rfl, rfl⟩ := h; exact hx
  | f + 1, k, o, o', m, t, h, hk, ho, hx => by
    rw [elimE] at h
    split at h
    · cases h
    · have hb := (bestF_range (m := m) (k := k) (n := n) (f := n - k) (i := k) (b := k) (by omega) (by omega) (Nat.le_refl _) (Nat.le_refl _)).1
      cases hr : rowsE n k (n - (k + 1)) (k + 1) (swapL m k (bestF m k (n - k) k k) []) with
      | none => rw [hr] at h; cases h
      | some t' =>
        rw [hr] at h
        exact elimE_lt h (by omega) (by rw [swapL_length]; exact ho) fun x hx' => hx x (mem_swapL (by omega) (by omega) hx')
theorem elimF_lt {m t : List (List Nat)} {o : List Nat} (h : elimF m = .ok (o, t)) : ∀ x ∈ o, x < m.length :=
  elimE_lt h rfl (by simp) (by simp)
theorem elimE_err {n : Nat} : ∀ {f k : Nat} {o : List Nat} {m : List (List Nat)} {e : Int}, elimE n f k o m = .error e → e = 3 ∨ e = 5
  | 0, k, o, m, e, h => by simp [elimE] at h
  | f + 1, k, o, m, e, h => by
    rw [elimE] at h
    split at h
    · simp at h; exact .inr h.symm
    · cases hr : rowsE n k (n - (k + 1)) (k + 1) (swapL m k (bestF m k (n - k) k k) []) with
      | none => rw [hr] at h; simp at h; exact .inl h.symm
      | some t' => rw [hr] at h; exact elimE_err h

def solveR (m : List (List Nat)) (b : List Nat) : List Nat × Int :=
  if codeF m [b] = 0 then (match elimF m with
    | .error e => ([], e)
    | .ok (o, t) => match solveF o t b with
      | none => ([], 3)
      | some q => (q, 0)) else ([], codeF m [b])

theorem FinL.of {m : List (List Nat)} {b : List Nat} {v : Value} (h : codeF m [b] = 0) (hv : FS w v b) : FinL m.length b := by
  obtain ⟨h1, h2, h3⟩ := code_zero h
  have := h2 b (by simp)
  unfold vecB at this
  simp only [Bool.and_eq_true] at this
  exact ⟨h3 b (by simp), this.1, hv.lt⟩
theorem ER_of {lo hi : Nat} {ov tv : Value} {o : List Nat} {m t : List (List Nat)} {vs : List Value} (he : elimF m = .ok (o, t)) (hm : matB m = true) (hb : bits m) (ho : OI w lo ov o) (ht : OM w lo hi tv t vs) : ER w (.agg #[ov, tv]) ov tv o t m.length := by
  obtain ⟨g1, g2⟩ := elimF_good he hm hb
  exact ⟨rfl, OIR.FI (OI.OIR (hi := w.heap.size) ho fun k hk => (ho.lt k hk).2), ht.FSS g1.lt, g1, g2, elimF_lt he⟩
theorem ER_put {lo hi base : Nat} {w2 w3 w4 : World} {p ov tv : Value} {cs : List Value} {o : List Nat} {m t : List (List Nat)} {vs : List Value} (he : elimF m = .ok (o, t)) (hm : matB m = true) (hb : bits m) (ho : OI w2 lo ov o) (ht : OM w2 lo hi tv t vs)
    (e3 : Ext w2 w3) (b3 : Bx w3 base t_impl_Elimination p cs) (g4 : w3.grownBy w4 (blk p)) : ER w4 (.agg #[ov, tv]) ov tv o t m.length := by
  have tb := Ty.box b3
  exact ER_of he hm hb (keep_row (owns_ext ho e3) g4 tb (by decide)) ((ht.ext e3).keep g4 tb (by decide) (by decide))

theorem c_impl_SolveSystem {a v : Value} {m : List (List Nat)} {x : List Nat} (ha : I_Float32SS w a m) (hv : FS w v x)
    (H : ∀ u w', Ext w w' → OS w' w.heap.size u (solveR m x).1 → K (.tuple #[u, .int .i64 (solveR m x).2]) w') : call P f_impl_SolveSystem [a, v] w K := by
  refine I_impl_SolveSystem ?_
  unfold D_impl_SolveSystem
  refine c_impl_IsMatrix ha.1 ?_
  rw [una_not]
  refine ⟨_, fun _ _ _ h => h, ?_⟩
  have bad : (matB m && vecB x) = false → K (.tuple #[.slice none 0 0, .int .i64 1]) w := fun hb => by
    have e : codeF m [x] = 1 := by unfold codeF; simp only [List.all_cons, List.all_nil, Bool.and_true]; rw [hb]; rfl
    unfold solveR at H
    rw [e] at H
    exact H _ _ (Ext.refl _) (OS.nil _ _)
  refine grd_split (fun h1 => ?_) (fun h1 => ?_)
  · have h1 : matB m = true := nb0 h1
    refine c_isVector hv ?_
    rw [una_not, pick_bool, h1, Bool.not_true, cond_false]
    refine cnd_split (fun h2 => ?_) (fun h2 => ?_)
    · exact bad (by rw [nb1 h2, Bool.and_false])
    · have h2 := nb0 h2
      rw [ha.1.len, hv.row.len u_s_float32, bin_neq]
      have e0 : codeF m [x] = if x.length = m.length then 0 else 2 := by
        unfold codeF
        simp only [List.all_cons, List.all_nil, Bool.and_true, h1, h2, if_true, decide_eq_true_eq]
      refine cnd_dec (fun h3 => ?_) (fun h3 => ?_)
      · have e : codeF m [x] = 2 := by rw [e0, if_neg (by omega)]
        unfold solveR at H
        rw [e] at H
        exact H _ _ (Ext.refl _) (OS.nil _ _)
      · have e : codeF m [x] = 0 := by rw [e0, if_pos (by omega)]
        unfold solveR at H
        rw [if_pos e] at H
        have hfl := FinL.of e hv
        have hm8 := (matB_parts h1).2.2
        refine c_impl_eliminate ha.1 ha.2 h1 (fun er he w2 e2 => ?_) (fun o t he ov tv vs w2 e2 ho ht => ?_)
        · rw [he] at H
          rw [xtr_0, xtr_1]
          refine alc_bx i_impl_Elimination fun p w3 b3 e3 hp => ?_
          refine b3.put i_impl_Elimination (ds := [nilS, nilS]) rfl rfl (one2 rfl rfl) fun w4 b4 g4 => ?_
          have s2 := e2.size
          have E4 : Ext w w4 := RowKit.Below.grown (e2.trans e3) g4 (e2.trans e3).size fun k hk => by rw [hp] at hk; cases hk; exact s2
          rw [bin_neq]
          refine cnd_yes (by have := elimE_err he; rcases this with rfl | rfl <;> decide) ?_
          exact H _ _ E4 (OS.nil _ _)
        · rw [he] at H
          rw [xtr_0, xtr_1]
          refine alc_bx i_impl_Elimination fun p w3 b3 e3 hp => ?_
          refine b3.put i_impl_Elimination (ds := [ov, tv]) rfl rfl (one2 (oneCell_sl ho) (oneCell_sl ht.outer)) fun w4 b4 g4 => ?_
          have s2 := e2.size
          have E4 : Ext w w4 := RowKit.Below.grown (e2.trans e3) g4 (e2.trans e3).size fun k hk => by rw [hp] at hk; cases hk; exact s2
          have er := ER_put he h1 ha.2 ho ht e3 b3 g4
          refine neq_no rfl ?_
          rw [cnd_false]
          refine b4.get u_impl_Elimination rfl i_impl_Elimination rfl ?_
          refine c_impl_solve hm8 er (hv.ext E4) hfl (fun hn w5 e5 => ?_) (fun q u w5 hq hqf e5 ho5 => ?_)
          · simp only [hn] at H
            rw [xtr_0, xtr_1, una_not]
            exact cnd_yes rfl (H _ _ (E4.trans e5) (OS.nil _ _))
          · simp only [hq] at H
            rw [xtr_0, xtr_1, una_not]
            exact cnd_no rfl (H _ _ (E4.trans e5) (owns_base ho5 E4.size))
  · have h2 : matB m = false := by cases h : matB m <;> simp_all
    rw [h2, Bool.not_false, pick_bool]
    exact cnd_yes rfl (bad (by rw [h2, Bool.false_and]))

theorem c_spec_SolveSystem {a v : Value} {m : List (List Nat)} {x : List Nat} (ha : I_Float32SS w a m) (hv : FS w v x)
    (H : ∀ u w', Ext w w' → OS w' w.heap.size u (solveR m x).1 → K (.tuple #[u, .int .i64 (solveR m x).2]) w') : call P f_spec_SolveSystem [a, v] w K := by
  refine I_spec_SolveSystem ?_
  unfold D_spec_SolveSystem
  refine bsl_one u_s_s_float32 i_s_float32 hv.one rfl ?_
  have he := Ext_alloc w (.cells #[v] t_s_float32)
  have hl := FSS_lit1 hv hv.one
  refine c_spec_l10Code (ha.1.ext he) hl ?_
  generalize w.alloc (.cells #[v] t_s_float32) = w1 at he hl ⊢
  rw [bin_neq]
  unfold solveR at H
  refine cnd_dec (fun hne => ?_) (fun heq => ?_)
  · rw [if_neg hne] at H
    exact H _ _ he (OS.nil _ _)
  · have e : codeF m [x] = 0 := by omega
    rw [if_pos e] at H
    have h1 := (code_zero e).1
    have hfl := FinL.of e hv
    have hm8 := (matB_parts h1).2.2
    refine c_spec_l10Eliminate (ha.1.ext he) ha.2 h1 (fun er hel w2 e2 => ?_) (fun o t hel ov tv vs w2 e2 ho ht => ?_)
    · rw [hel] at H
      rw [xtr_0, xtr_1]
      refine alc_bx i_impl_Elimination fun p w3 b3 e3 hp => ?_
      refine b3.put i_impl_Elimination (ds := [nilS, nilS]) rfl rfl (one2 rfl rfl) fun w4 b4 g4 => ?_
      have s2 := e2.size
      have E4 : Ext w1 w4 := RowKit.Below.grown (e2.trans e3) g4 (e2.trans e3).size fun k hk => by rw [hp] at hk; cases hk; exact s2
      rw [bin_neq]
      refine cnd_yes (by have := elimE_err hel; rcases this with rfl | rfl <;> decide) ?_
      exact H _ _ (he.trans E4) (OS.nil _ _)
    · rw [hel] at H
      rw [xtr_0, xtr_1]
      refine alc_bx i_impl_Elimination fun p w3 b3 e3 hp => ?_
      refine b3.put i_impl_Elimination (ds := [ov, tv]) rfl rfl (one2 (oneCell_sl ho) (oneCell_sl ht.outer)) fun w4 b4 g4 => ?_
      have s2 := e2.size
      have E4 : Ext w1 w4 := RowKit.Below.grown (e2.trans e3) g4 (e2.trans e3).size fun k hk => by rw [hp] at hk; cases hk; exact s2
      have er := ER_put hel h1 ha.2 ho ht e3 b3 g4
      refine neq_no rfl ?_
      rw [cnd_false]
      refine b4.get u_impl_Elimination rfl i_impl_Elimination rfl ?_
      refine c_spec_l10Solve hm8 er (hv.ext (he.trans E4)) hfl (fun hn w5 e5 => ?_) (fun q u w5 hq hqf e5 ho5 => ?_)
      · simp only [hn] at H
        rw [xtr_0, xtr_1, una_not]
        exact cnd_yes rfl (H _ _ (he.trans (E4.trans e5)) (OS.nil _ _))
      · simp only [hq] at H
        rw [xtr_0, xtr_1, una_not]
        exact cnd_no rfl (H _ _ (he.trans (E4.trans e5)) (owns_base ho5 (he.trans E4).size))

theorem solve_good {n : Nat} {t : List (List Nat)} {o b : List Nat} : ∀ {f i : Nat} {y q : List Nat}, fwdF t o b f i y = some q → q.length = y.length + f
  | 0, i, y, q, h => by simp only [fwdF, Option.some.injEq] at h; subst h; rfl
  | f + 1, i, y, q, h => by
    rw [fwdF] at h
    split at h
    · cases h
    · have := solve_good (n := n) h
      simp at this; omega
theorem subsF_lt {row x : List Nat} : ∀ {f j s q : Nat}, s < 4294967296 → subsF row x f j s = some q → q < 4294967296
  | 0, j, s, q, hs, h => by simp only [subsF, Option.some.injEq] at h; subst h; exact hs
  | f + 1, j, s, q, hs, h => by
    rw [subsF] at h
    split at h
    · exact subsF_lt opF_lt h
    · cases h
theorem backF_good {t : List (List Nat)} {n : Nat} : ∀ {c : Nat} {y q : List Nat}, backF t n c y = some q → (∀ x ∈ y, x < 4294967296) → q.length = y.length ∧ ∀ x ∈ q, x < 4294967296
  | 0, y, q, h, hy => by simp only [backF, Option.some.injEq] at h; subst h; exact ⟨rfl, hy⟩
  | i + 1, y, q, h, hy => by
    rw [backF] at h
    split at h
    · cases h
    · split at h
      · cases h
      · split at h
        · have := backF_good h (lt_set hy opF_lt)
          rw [List.length_set] at this; exact this
        · cases h
theorem fwdF_lt {t : List (List Nat)} {o b : List Nat} (hb : ∀ x ∈ b, x < 4294967296) : ∀ {f i : Nat} {y q : List Nat}, fwdF t o b f i y = some q → (∀ x ∈ y, x < 4294967296) → ∀ x ∈ q, x < 4294967296
  | 0, i, y, q, h, hy => by simp only [fwdF, Option.some.injEq] at h; subst h; exact hy
  | f + 1, i, y, q, h, hy => by
    rw [fwdF] at h
    split at h
    · cases h
    · rename_i s hs
      refine fwdF_lt hb h fun x hx => ?_
      rcases List.mem_append.1 hx with hx | hx
      · exact hy x hx
      · simp at hx; subst hx
        refine subsF_lt ?_ hs
        rcases Nat.lt_or_ge (o.getD i 0) b.length with hl | hl
        · rw [getDn hl]; exact hb _ (List.getElem_mem hl)
        · rw [List.getD_eq_getElem?_getD, List.getElem?_eq_none hl]; decide
theorem solveF_good {t : List (List Nat)} {o b q : List Nat} (h : solveF o t b = some q) (hb : ∀ x ∈ b, x < 4294967296) : q.length = b.length ∧ ∀ x ∈ q, x < 4294967296 := by
  unfold solveF at h
  split at h
  · cases h
  · rename_i y hy
    have h1 := solve_good (n := 0) hy
    have h2 := fwdF_lt hb hy (by simp)
    obtain ⟨h3, h4⟩ := backF_good h h2
    exact ⟨by simp at h1; omega, h4⟩
theorem solveR_bits {m : List (List Nat)} {x : List Nat} (hx : ∀ b ∈ x, b < 4294967296) : ∀ b ∈ (solveR m x).1, b < 4294967296 := by
  unfold solveR
  split
  · cases h : elimF m with
    | error e => simp
    | ok p =>
      obtain ⟨o, t⟩ := p
      simp only []
      cases h2 : solveF o t x with
      | none => simp
      | some q => exact (solveF_good h2 hx).2
  · simp

theorem s_SolveSystem {a v : Value} {m : List (List Nat)} {x : List Nat} (ha : I_Float32SS w a m) (hv : I_Float32S w v x) (H : ∀ u w', Ext w w' → I_Float32S w' u (solveR m x).1 → K (.tuple #[u, .int .i64 (solveR m x).2]) w') : call P f_spec_SolveSystem [a, v] w K :=
  c_spec_SolveSystem ha hv fun u w' he ho => H u w' he (ho.FS (solveR_bits hv.lt))
theorem p_SolveSystem {a v : Value} {m : List (List Nat)} {x : List Nat} (ha : I_Float32SS w a m) (hv : I_Float32S w v x) (H : ∀ u w', Ext w w' → O_Float32S w' w.heap.size w'.heap.size u (solveR m x).1 → K (.tuple #[u, .int .i64 (solveR m x).2]) w') : call P f_impl_SolveSystem [a, v] w K :=
  c_impl_SolveSystem ha hv fun u w' he ho => H u w' he ⟨OwnR.of ho, solveR_bits hv.lt⟩

theorem fwdF_len {t : List (List Nat)} {o b : List Nat} : ∀ {f i : Nat} {y q : List Nat}, fwdF t o b f i y = some q → q.length = y.length + f := fun h => solve_good (n := 0) h
theorem backF_len {t : List (List Nat)} {n : Nat} : ∀ {c : Nat} {y q : List Nat}, backF t n c y = some q → q.length = y.length
  | 0, y, q, h => by simp only [backF, Option.some.injEq] at h; subst h; rfl
  | i + 1, y, q, h => by
    rw [backF] at h
    split at h
    · cases h
    · split at h
      · cases h
      · split at h
        · have := backF_len h
          rw [List.length_set] at this; exact this
        · cases h
theorem solveF_len {t : List (List Nat)} {o b q : List Nat} (h : solveF o t b = some q) : q.length = b.length := by
  unfold solveF at h
  split at h
  · cases h
  · rename_i y hy
    have h1 := fwdF_len hy
    have h2 := backF_len h
    simp at h1; omega
theorem small_SolveSystem_0 (m : List (List Nat)) (x : List Nat) : cnt_Float32S (solveR m x).1 ≤ 1099511627776 := by
  unfold solveR
  split
  · rename_i hc
    cases h : elimF m with
    | error e => simp [cnt_Float32S]
    | ok p =>
      obtain ⟨o, t⟩ := p
      simp only []
      cases h2 : solveF o t x with
      | none => simp [cnt_Float32S]
      | some q =>
        have h3 := solveF_len h2
        obtain ⟨c1, _, c3⟩ := code_zero hc
        have h8 := (matB_parts c1).2.2
        have := c3 x (by simp)
        show q.length ≤ _
        omega
  · simp [cnt_Float32S]
end Go.Proofs.Ytliagkijeigcaaa
