/- The contracts of InverseOf, as the law wants them. -/
import Derived.Test.YtliagkijeigcaaaS4
set_option linter.unusedVariables false
namespace Go.Proofs.Ytliagkijeigcaaa
open Go Go.Vc

variable {w : World} {K : Value → World → Prop}

def unitF (n j : Nat) : List Nat := (List.replicate n 0).set j 1065353216
theorem unitF_length (n j : Nat) : (unitF n j).length = n := by simp [unitF]
theorem unitF_fin (n j : Nat) : FinL n (unitF n j) := by
  refine ⟨unitF_length n j, all_set ?_ (by decide), lt_set ?_ (by decide)⟩
  · rw [List.all_eq_true]
    intro b hb
    rw [List.mem_replicate] at hb
    rw [hb.2]; decide
  · intro b hb
    rw [List.mem_replicate] at hb
    rw [hb.2]; decide

theorem c_impl_unitColumn {n j : Nat} (hn : n ≤ 8) (hj : j < n) (H : ∀ v w', Ext w w' → OS w' w.heap.size v (unitF n j) → K v w') : call P f_impl_unitColumn [.int .i64 n, .int .i64 j] w K := by
  refine I_impl_unitColumn ?_
  unfold D_impl_unitColumn
  refine mks_intro u_s_float32 i_float32 rfl (by omega) (by simp only [maxLen]; omega) fun w1 v o1 e1 => ?_
  refine owns_set o1 (x := fl 1065353216) hj rfl u_s_float32 i_float32 fun w2 o2 g2 => ?_
  refine H v w2 (e1.grown g2 e1.size fun k hk => (o1.lt k hk).1) ?_
  show w2.ownsRow w.heap.size t_float32 1 v (unitF n j).length ((unitF n j).map fl)
  rw [unitF_length]
  unfold unitF
  rw [List.map_set, List.map_replicate]; exact o2
theorem c_spec_l10Unit {n j : Nat} (hn : n ≤ 8) (hj : j < n) (H : ∀ v w', Ext w w' → OS w' w.heap.size v (unitF n j) → K v w') : call P f_spec_l10Unit [.int .i64 n, .int .i64 j] w K := by
  refine I_spec_l10Unit ?_
  unfold D_spec_l10Unit
  refine mks_intro u_s_float32 i_float32 rfl (by omega) (by simp only [maxLen]; omega) fun w1 v o1 e1 => ?_
  refine owns_set o1 (x := fl 1065353216) hj rfl u_s_float32 i_float32 fun w2 o2 g2 => ?_
  refine H v w2 (e1.grown g2 e1.size fun k hk => (o1.lt k hk).1) ?_
  show w2.ownsRow w.heap.size t_float32 1 v (unitF n j).length ((unitF n j).map fl)
  rw [unitF_length]
  unfold unitF
  rw [List.map_set, List.map_replicate]; exact o2

/-- The columns of the inverse. -/
def invF (o : List Nat) (t : List (List Nat)) (n : Nat) : Nat → Nat → List (List Nat) → Option (List (List Nat))
  | 0, _, out => some out
  | f + 1, j, out => match solveF o t (unitF n j) with
    | none => none
    | some q => invF o t n f (j + 1) (out ++ [q])
theorem invF_step {o : List Nat} {t out : List (List Nat)} {n j : Nat} (h : j < n) : invF o t n (n - j) j out = match solveF o t (unitF n j) with
    | none => none
    | some q => invF o t n (n - (j + 1)) (j + 1) (out ++ [q]) := by
  rw [show n - j = (n - (j + 1)) + 1 by omega, invF]
theorem invF_end {o : List Nat} {t out : List (List Nat)} {n j : Nat} (h : n ≤ j) : invF o t n (n - j) j out = some out := by
  rw [show n - j = 0 by omega, invF]

theorem c_spec_l10Inverse {v ov tv : Value} {o : List Nat} {t : List (List Nat)} {n : Nat} (hn : n ≤ 8) (he : ER w v ov tv o t n)
    (h0 : invF o t n n 0 [] = none → ∀ w', Ext w w' → K (.tuple #[.slice none 0 0, .bool false]) w')
    (h1 : ∀ q u vs w', invF o t n n 0 [] = some q → q.length = n → (∀ r ∈ q, FinL n r) → Ext w w' → OM w' w.heap.size w'.heap.size u (turnF q) vs → K (.tuple #[u, .bool true]) w') : call P f_spec_l10Inverse [v] w K := by
  refine I_spec_l10Inverse ?_
  unfold D_spec_l10Inverse
  obtain rfl := he.val
  refine bx_bx fun p w1 bp e1 _ => ?_
  refine bsl_nil u_s_s_float32 i_s_float32 ?_
  have h00 := OM.lit0 w1
  have e2 := Ext_alloc w1 (.cells #[] t_s_float32)
  generalize w1.alloc (.cells #[] t_s_float32) = w2 at h00 e2 ⊢
  refine ⟨fun g y x w' => RowKit.Below w.heap.size w w' ∧ ∃ (j : Nat) (out : List (List Nat)) (vs : List Value), x = .int .i64 j ∧ g + j = n ∧ Bx w' w.heap.size t_impl_Elimination p [ov, tv] ∧ OM w' w.heap.size w'.heap.size y out vs ∧ out.length = j ∧ (∀ r ∈ out, FinL n r) ∧ invF o t n (n - j) j out = invF o t n n 0 [],
    ⟨n, e1.trans e2, 0, [], [], rfl, by omega, bp.ext e2, h00.mono e1.size (Nat.le_refl _), rfl, by simp, rfl⟩, ?_⟩
  rintro g y x junk w3 ⟨hb3, j, out, vs, rfl, hg, bp3, hy, hol, hof, hinv⟩
  have s3 := hb3.size
  refine Bx.fld bp3 (off := 0) rfl u_impl_Elimination rfl i_s_int64 u_s_int64 rfl ?_
  rw [Row.len (he.ord.ext hb3) u_s_int64, List.length_map, he.len, bin_lss]
  refine cnd_dec (fun hlt => ?_) (fun hge => ?_)
  · have hj : j < n := by omega
    refine bp3.get u_impl_Elimination rfl i_impl_Elimination rfl ?_
    refine Bx.fld bp3 (off := 0) rfl u_impl_Elimination rfl i_s_int64 u_s_int64 rfl ?_
    rw [Row.len (he.ord.ext hb3) u_s_int64, List.length_map, he.len]
    refine c_spec_l10Unit hn hj fun cv w4 e4 oc => ⟨e4, ?_⟩
    have hb4 : RowKit.Below w.heap.size w w4 := hb3.trans (RowKit.Below.mono e4 s3)
    have hu := unitF_fin n j
    rw [invF_step hj] at hinv
    refine c_spec_l10Solve hn (he.ext hb4) (oc.FS hu.lt) hu (fun hn0 w5 e5 => ?_) (fun q u w5 hq hqf e5 ho5 => ?_)
    · rw [hn0] at hinv
      rw [xtr_0, xtr_1, una_not]
      exact cnd_yes rfl (h0 hinv.symm _ (hb4.trans (RowKit.Below.mono e5 hb4.size)))
    · rw [hq] at hinv
      rw [xtr_0, xtr_1, una_not]
      refine cnd_no rfl ?_
      have e35 := e4.trans e5
      have s4 := e4.size
      have s5 := e5.size
      have hb5 : RowKit.Below w.heap.size w w5 := hb3.trans (RowKit.Below.mono e35 s3)
      have hy5 := hy.ext e35
      refine app1 hy5.outer (oneCell_sl ho5) u_s_s_float32 i_s_float32 rfl (by simp [maxLen]; omega) (by omega) hb5.size fun y' w6 h6 g6 => ?_
      have hy6 := hy5.pushed ((OwnR.of ho5).mono s4 (Nat.le_refl _)) s3 h6 g6
      rw [bin_add, wrap_i64 (by omega) (by omega)]
      refine ⟨g - 1, by omega, hb5.grown g6 hb5.size fun k hk => (hy5.outer.lt k hk).1, j + 1, out ++ [q], vs ++ [u], rfl, by omega, keep_box (bp3.ext e35) g6 (Ty.owns hy5.outer) (by decide), hy6, by simp [hol], ?_, hinv⟩
      intro r hr
      rcases List.mem_append.1 hr with hr | hr
      · exact hof r hr
      · simp at hr; subst hr; exact hqf
  · have hj : j = n := by omega
    subst hj
    rw [invF_end (Nat.le_refl _)] at hinv
    refine c_spec_l10Turn (hy.FSS fun r hr => (hof r hr).lt) (by omega) (fun r hr => by rw [(hof r hr).len]; omega) fun v5 w5 vs5 e5 o5 => ?_
    exact h1 out v5 vs5 w5 hinv.symm hol hof (hb3.trans (RowKit.Below.mono e5 s3)) (o5.mono s3 (Nat.le_refl _))

theorem c_impl_invert {v ov tv : Value} {o : List Nat} {t : List (List Nat)} {n : Nat} (hn : n ≤ 8) (he : ER w v ov tv o t n)
    (h0 : invF o t n n 0 [] = none → ∀ w', Ext w w' → K (.tuple #[.slice none 0 0, .bool false]) w')
    (h1 : ∀ q u vs w', invF o t n n 0 [] = some q → q.length = n → (∀ r ∈ q, FinL n r) → Ext w w' → OM w' w.heap.size w'.heap.size u (turnF q) vs → K (.tuple #[u, .bool true]) w') : call P f_impl_invert [v] w K := by
  refine I_impl_invert ?_
  unfold D_impl_invert
  obtain rfl := he.val
  refine bx_bx fun p w1 bp e1 _ => ?_
  refine Bx.fld bp (off := 0) rfl u_impl_Elimination rfl i_s_int64 u_s_int64 rfl ?_
  rw [Row.len (he.ord.ext e1) u_s_int64, List.length_map, he.len]
  refine c_impl_empty hn fun iv_ w2 vs e2 o2 => ?_
  have s1 := e1.size
  refine ⟨fun g x w' => RowKit.Below w.heap.size w w' ∧ ∃ (j : Nat) (out : List (List Nat)), x = .int .i64 j ∧ g + j = n ∧ Bx w' w.heap.size t_impl_Elimination p [ov, tv] ∧ OM w' w.heap.size w2.heap.size iv_ (filled n out) vs ∧ w2.heap.size ≤ w'.heap.size ∧ out.length = j ∧ (∀ r ∈ out, FinL n r) ∧ invF o t n (n - j) j out = invF o t n n 0 [],
    ⟨n, e1.trans e2, 0, [], rfl, by omega, bp.ext e2, ?_, Nat.le_refl _, rfl, by simp, rfl⟩, ?_⟩
  · have : filled n [] = tab n fun _ _ => 0 := tab_congr fun i j _ _ => cell_none (by simp)
    rw [this]; exact o2.mono s1 (Nat.le_refl _)
  rintro g x junk w3 ⟨hb3, j, out, rfl, hg, bp3, hy, hsz, hol, hof, hinv⟩
  have s3 := hb3.size
  rw [bin_lss]
  refine cnd_dec (fun hlt => ?_) (fun hge => ?_)
  · have hj : j < n := by omega
    refine bp3.get u_impl_Elimination rfl i_impl_Elimination rfl ?_
    refine c_impl_unitColumn hn hj fun cv w4 e4 oc => ⟨e4, ?_⟩
    have hb4 : RowKit.Below w.heap.size w w4 := hb3.trans (RowKit.Below.mono e4 s3)
    have hu := unitF_fin n j
    rw [invF_step hj] at hinv
    refine c_impl_solve hn (he.ext hb4) (oc.FS hu.lt) hu (fun hn0 w5 e5 => ?_) (fun q u w5 hq hqf e5 ho5 => ?_)
    · rw [hn0] at hinv
      rw [xtr_0, xtr_1, una_not]
      exact cnd_yes rfl (h0 hinv.symm _ (hb4.trans (RowKit.Below.mono e5 hb4.size)))
    · rw [hq] at hinv
      rw [xtr_0, xtr_1, una_not]
      refine cnd_no rfl ?_
      have e35 := e4.trans e5
      have s4 := e4.size
      have s5 := e5.size
      have hb5 : RowKit.Below w.heap.size w w5 := hb3.trans (RowKit.Below.mono e35 s3)
      have hql := hqf.len
      refine ⟨fun g x w6 => RowKit.Below w.heap.size w w6 ∧ ∃ (i : Nat), x = .int .i64 i ∧ g + i = n ∧ OM w6 w.heap.size w2.heap.size iv_ (tab n fun p c => if c = j ∧ p < i then q.getD p 0 else cell out c p) vs ∧ w5.heap.size ≤ w6.heap.size ∧ OS w6 w4.heap.size u q ∧ Bx w6 w.heap.size t_impl_Elimination p [ov, tv],
        ⟨n, hb5, 0, rfl, by omega, ?_, Nat.le_refl _, ho5, bp3.ext e35⟩, ?_⟩
      · have : (tab n fun p c => if c = j ∧ p < 0 then q.getD p 0 else cell out c p) = filled n out := tab_congr fun i j _ _ => by simp
        rw [this]; exact hy.ext e35
      rintro g' x junk' w6 ⟨hb6, i, rfl, hg', hy6, hs6, hq6, bp6⟩
      rw [bin_lss]
      refine cnd_dec (fun hlt' => ?_) (fun hge' => ?_)
      · have hi : i < n := by omega
        have hit : i < (tab n fun p c => if c = j ∧ p < i then q.getD p 0 else cell out c p).length := by rw [tab_length]; exact hi
        have hjt : j < (tab n fun p c => if c = j ∧ p < i then q.getD p 0 else cell out c p)[i].length := by rw [tab_row_length]; exact hj
        refine hy6.atI hit fun r hr => ?_
        refine (hq6.FS hqf.lt).at (i := i) (by omega) ?_
        refine hy6.put' (i := i) (j := j) hr hit hjt fun w7 hy7 g7 t7 hlo => ?_
        have hrt := hy6.rows i hit
        have hc7 : Chg w.heap.size w2.heap.size w6 w7 := by
          obtain ⟨r', hr', hor, hrk⟩ := hrt
          rw [hr] at hr'; cases hr'
          exact Chg.grown g7 fun k hk => ⟨(hor.lt k hk).1, hrk k hk⟩
        rw [bin_add, wrap_i64 (by omega) (by omega)]
        refine ⟨g' - 1, by omega, hc7.below hb6 (Nat.le_refl _) (Nat.le_refl _), i + 1, rfl, by omega, ?_, Nat.le_trans hs6 hc7.size, (OwnR.chg (OwnR.of hq6) hc7 (.inr (by omega))).own, keep_box bp6 g7 t7 (by decide)⟩
        rw [tab_set] at hy7
        have : tab n (upd (fun p c => if c = j ∧ p < i then q.getD p 0 else cell out c p) i j q[i]) = tab n fun p c => if c = j ∧ p < i + 1 then q.getD p 0 else cell out c p := by
          refine tab_congr fun p c hp hc => ?_
          unfold upd
          by_cases e1 : p = i
          · by_cases e2 : c = j
            · subst e1; subst e2; simp [hql, hi]
            · simp [e2]
          · by_cases e2 : c = j
            · have : p < i + 1 ↔ p < i := by omega
              simp [e1, e2, this]
            · simp [e2]
        rw [this] at hy7; exact hy7
      · have hi : i = n := by omega
        subst hi
        rw [bin_add, wrap_i64 (by omega) (by omega)]
        refine ⟨g - 1, by omega, hb6, j + 1, out ++ [q], rfl, by omega, bp6, ?_, by omega, by simp [hol], ?_, hinv⟩
        · have : (tab i fun p c => if c = j ∧ p < i then q.getD p 0 else cell out c p) = filled i (out ++ [q]) := by
            refine tab_congr fun p c hp hc => ?_
            rw [cell_append, hol]
            by_cases e2 : c = j
            · simp [e2, hp]
            · simp [e2]
          rw [this] at hy6; exact hy6
        · intro r hr
          rcases List.mem_append.1 hr with hr | hr
          · exact hof r hr
          · simp at hr; subst hr; exact hqf
  · have hj : j = n := by omega
    subst hj
    rw [invF_end (Nat.le_refl _)] at hinv
    have e : filled j out = turnF out := by
      unfold filled turnF
      rw [hol]
    rw [e] at hy
    exact h1 out iv_ vs w3 hinv.symm hol hof hb3 (hy.mono (Nat.le_refl _) hsz)

def invR (m : List (List Nat)) : List (List Nat) × Int :=
  if matB m then (match elimF m with
    | .error e => ([], e)
    | .ok (o, t) => match invF o t m.length m.length 0 [] with
      | none => ([], 3)
      | some q => (turnF q, 0)) else ([], 1)

theorem invF_good {o : List Nat} {t : List (List Nat)} {n : Nat} : ∀ {f j : Nat} {out q : List (List Nat)}, invF o t n f j out = some q → bits out → q.length = out.length + f ∧ bits q
  | 0, j, out, q, h, hb => by simp only [invF, Option.some.injEq] at h; subst h; exact ⟨rfl, hb⟩
  | f + 1, j, out, q, h, hb => by
    rw [invF] at h
    split at h
    · cases h
    · rename_i s hs
      obtain ⟨h1, h2⟩ := invF_good h (fun r hr => by
        rcases List.mem_append.1 hr with hr | hr
        · exact hb r hr
        · simp at hr; subst hr; exact (solveF_good hs (unitF_fin n j).lt).2)
      refine ⟨by simp at h1; omega, h2⟩
theorem invR_bits (m : List (List Nat)) : bits (invR m).1 := by
  unfold invR
  split
  · cases h : elimF m with
    | error e => intro r hr; simp at hr
    | ok p =>
      obtain ⟨o, t⟩ := p
      simp only []
      cases h2 : invF o t m.length m.length 0 [] with
      | none => intro r hr; simp at hr
      | some q => exact turnF_bits (invF_good h2 (by intro r hr; simp at hr)).2
  · intro r hr; simp at hr
theorem small_InverseOf_0 (m : List (List Nat)) : cnt_Float32SS (invR m).1 ≤ 1099511627776 := by
  unfold invR
  split
  · rename_i hm
    cases h : elimF m with
    | error e => simp [cnt_Float32SS, total]
    | ok p =>
      obtain ⟨o, t⟩ := p
      simp only []
      cases h2 : invF o t m.length m.length 0 [] with
      | none => simp [cnt_Float32SS, total]
      | some q =>
        have h3 := (invF_good h2 (by intro r hr; simp at hr)).1
        have h8 := (matB_parts hm).2.2
        have hl : q.length ≤ 8 := by simp at h3; omega
        have := total_le (m := turnF q) (k := 8) fun r hr => by rw [turnF_row r hr]; exact hl
        have h4 : (turnF q).length = q.length := by simp [turnF]
        show total (turnF q) ≤ _
        rw [h4] at this
        omega
  · simp [cnt_Float32SS, total]

theorem c_impl_InverseOf {a : Value} {m : List (List Nat)} (ha : I_Float32SS w a m)
    (H : ∀ u vs w', Ext w w' → OM w' w.heap.size w'.heap.size u (invR m).1 vs → K (.tuple #[u, .int .i64 (invR m).2]) w') : call P f_impl_InverseOf [a] w K := by
  refine I_impl_InverseOf ?_
  unfold D_impl_InverseOf
  refine c_impl_IsMatrix ha.1 ?_
  rw [una_not]
  unfold invR at H
  refine cnd_split (fun hm => ?_) (fun hm => ?_)
  · have hm : matB m = false := nb1 hm
    simp only [hm, Bool.false_eq_true, if_false] at H
    exact H _ [] _ (Ext.refl _) (OM.nil _ _ _)
  · have hm : matB m = true := nb0 hm
    simp only [hm, if_true] at H
    have hm8 := (matB_parts hm).2.2
    refine c_impl_eliminate ha.1 ha.2 hm (fun er he w2 e2 => ?_) (fun o t he ov tv vs w2 e2 ho ht => ?_)
    · rw [he] at H
      rw [xtr_0, xtr_1]
      refine alc_bx i_impl_Elimination fun p w3 b3 e3 hp => ?_
      refine b3.put i_impl_Elimination (ds := [nilS, nilS]) rfl rfl (one2 rfl rfl) fun w4 b4 g4 => ?_
      have s2 := e2.size
      have E4 : Ext w w4 := RowKit.Below.grown (e2.trans e3) g4 (e2.trans e3).size fun k hk => by rw [hp] at hk; cases hk; exact s2
      rw [bin_neq]
      refine cnd_yes (by have := elimE_err he; rcases this with rfl | rfl <;> decide) ?_
      exact H _ [] _ E4 (OM.nil _ _ _)
    · rw [he] at H
      rw [xtr_0, xtr_1]
      refine alc_bx i_impl_Elimination fun p w3 b3 e3 hp => ?_
      refine b3.put i_impl_Elimination (ds := [ov, tv]) rfl rfl (one2 (oneCell_sl ho) (oneCell_sl ht.outer)) fun w4 b4 g4 => ?_
      have s2 := e2.size
      have E4 : Ext w w4 := RowKit.Below.grown (e2.trans e3) g4 (e2.trans e3).size fun k hk => by rw [hp] at hk; cases hk; exact s2
      have er := ER_put he hm ha.2 ho ht e3 b3 g4
      refine neq_no rfl ?_
      rw [cnd_false]
      refine b4.get u_impl_Elimination rfl i_impl_Elimination rfl ?_
      refine c_impl_invert hm8 er (fun hn w5 e5 => ?_) (fun q u vs5 w5 hq hql hqf e5 ho5 => ?_)
      · simp only [hn] at H
        rw [xtr_0, xtr_1, una_not]
        exact cnd_yes rfl (H _ [] _ (E4.trans e5) (OM.nil _ _ _))
      · simp only [hq] at H
        rw [xtr_0, xtr_1, una_not]
        exact cnd_no rfl (H _ vs5 _ (E4.trans e5) (ho5.mono E4.size (Nat.le_refl _)))
theorem c_spec_InverseOf {a : Value} {m : List (List Nat)} (ha : I_Float32SS w a m)
    (H : ∀ u vs w', Ext w w' → OM w' w.heap.size w'.heap.size u (invR m).1 vs → K (.tuple #[u, .int .i64 (invR m).2]) w') : call P f_spec_InverseOf [a] w K := by
  refine I_spec_InverseOf ?_
  unfold D_spec_InverseOf
  refine c_spec_l10Is ha.1 ?_
  rw [una_not]
  unfold invR at H
  refine cnd_split (fun hm => ?_) (fun hm => ?_)
  · have hm : matB m = false := nb1 hm
    simp only [hm, Bool.false_eq_true, if_false] at H
    exact H _ [] _ (Ext.refl _) (OM.nil _ _ _)
  · have hm : matB m = true := nb0 hm
    simp only [hm, if_true] at H
    have hm8 := (matB_parts hm).2.2
    refine c_spec_l10Eliminate ha.1 ha.2 hm (fun er he w2 e2 => ?_) (fun o t he ov tv vs w2 e2 ho ht => ?_)
    · rw [he] at H
      rw [xtr_0, xtr_1]
      refine alc_bx i_impl_Elimination fun p w3 b3 e3 hp => ?_
      refine b3.put i_impl_Elimination (ds := [nilS, nilS]) rfl rfl (one2 rfl rfl) fun w4 b4 g4 => ?_
      have s2 := e2.size
      have E4 : Ext w w4 := RowKit.Below.grown (e2.trans e3) g4 (e2.trans e3).size fun k hk => by rw [hp] at hk; cases hk; exact s2
      rw [bin_neq]
      refine cnd_yes (by have := elimE_err he; rcases this with rfl | rfl <;> decide) ?_
      exact H _ [] _ E4 (OM.nil _ _ _)
    · rw [he] at H
      rw [xtr_0, xtr_1]
      refine alc_bx i_impl_Elimination fun p w3 b3 e3 hp => ?_
      refine b3.put i_impl_Elimination (ds := [ov, tv]) rfl rfl (one2 (oneCell_sl ho) (oneCell_sl ht.outer)) fun w4 b4 g4 => ?_
      have s2 := e2.size
      have E4 : Ext w w4 := RowKit.Below.grown (e2.trans e3) g4 (e2.trans e3).size fun k hk => by rw [hp] at hk; cases hk; exact s2
      have er := ER_put he hm ha.2 ho ht e3 b3 g4
      refine neq_no rfl ?_
      rw [cnd_false]
      refine b4.get u_impl_Elimination rfl i_impl_Elimination rfl ?_
      refine c_spec_l10Inverse hm8 er (fun hn w5 e5 => ?_) (fun q u vs5 w5 hq hql hqf e5 ho5 => ?_)
      · simp only [hn] at H
        rw [xtr_0, xtr_1, una_not]
        exact cnd_yes rfl (H _ [] _ (E4.trans e5) (OM.nil _ _ _))
      · simp only [hq] at H
        rw [xtr_0, xtr_1, una_not]
        exact cnd_no rfl (H _ vs5 _ (E4.trans e5) (ho5.mono E4.size (Nat.le_refl _)))

theorem s_InverseOf {a : Value} {m : List (List Nat)} (ha : I_Float32SS w a m) (H : ∀ u w', Ext w w' → I_Float32SS w' u (invR m).1 → K (.tuple #[u, .int .i64 (invR m).2]) w') : call P f_spec_InverseOf [a] w K :=
  c_spec_InverseOf ha fun u vs w' he ho => H u w' he ⟨ho.FSS (invR_bits _), invR_bits _⟩
theorem p_InverseOf {a : Value} {m : List (List Nat)} (ha : I_Float32SS w a m) (H : ∀ u w', Ext w w' → O_Float32SS w' w.heap.size w'.heap.size u (invR m).1 → K (.tuple #[u, .int .i64 (invR m).2]) w') : call P f_impl_InverseOf [a] w K :=
  c_impl_InverseOf ha fun u vs w' he ho => H u w' he ⟨⟨vs, ho⟩, invR_bits _⟩
end Go.Proofs.Ytliagkijeigcaaa
