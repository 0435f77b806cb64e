/- The contracts of EliminationOf, as the law wants them. -/
import Derived.Test.YtliagkijeigcaaaT2
import Derived.Test.YtliagkijeigcaaaS1
set_option linter.unusedVariables false
namespace Go.Proofs.Ytliagkijeigcaaa
open Go Go.Vc

variable {w : World} {K : Value → World → Prop}

theorem colsE_good {p : List Nat} {q n : Nat} : ∀ {f j : Nat} {r s : List Nat}, colsE p q f j r = some s → r.length = n → r.all finB = true → (∀ b ∈ r, b < 4294967296) → s.length = n ∧ s.all finB = true ∧ ∀ b ∈ s, b < 4294967296
  | 0, j, r, s, h, h1, h2, h3 => by simp only [colsE, Option.some.injEq] at h; subst h; exact ⟨h1, h2, h3⟩
  | f + 1, j, r, s, h, h1, h2, h3 => by
    rw [colsE] at h
    split at h
    · rename_i hf
      exact colsE_good h (by rw [List.length_set]; exact h1) (all_set h2 hf) (lt_set h3 opF_lt)
    · cases h
theorem rowE_good {n k : Nat} {p r s : List Nat} (h : rowE n k p r = some s) (h1 : r.length = n) (h2 : r.all finB = true) (h3 : ∀ b ∈ r, b < 4294967296) : s.length = n ∧ s.all finB = true ∧ ∀ b ∈ s, b < 4294967296 := by
  unfold rowE at h
  split at h
  · rename_i hf
    exact colsE_good h (by rw [List.length_set]; exact h1) (all_set h2 hf) (lt_set h3 opF_lt)
  · cases h
theorem rowsE_good {n k : Nat} : ∀ {f i : Nat} {m t : List (List Nat)}, rowsE n k f i m = some t → f + i ≤ n → Good n m → Good n t
  | 0, i, m, t, h, _, hG => by simp only [rowsE, Option.some.injEq] at h; subst h; exact hG
  | f + 1, i, m, t, h, hi, hG => by
    rw [rowsE] at h
    have hil : i < m.length := by rw [hG.len]; omega
    cases hr : rowE n k (m.getD k []) (m.getD i []) with
    | none => rw [hr] at h; cases h
    | some r =>
      rw [hr] at h
      rw [getD_lt hil] at hr
      obtain ⟨a1, a2, a3⟩ := rowE_good hr (hG.row hil) (hG.fin _ (List.getElem_mem hil)) (hG.lt _ (List.getElem_mem hil))
      exact rowsE_good h (by omega) (hG.set i a1 a2 a3)
theorem elimE_good {n : Nat} : ∀ {f k : Nat} {o o' : List Nat} {m t : List (List Nat)}, elimE n f k o m = .ok (o', t) → f + k = n → Good n m → o.length = n → Good n t ∧ o'.length = n
  | 0, k, o, o', m, t, h, _, hG, ho => by simp only [elimE, Except.ok.injEq, Prod.mk.injEq] at h; obtain ⟨rfl, rfl⟩ := h; exact ⟨hG, ho⟩
  | f + 1, k, o, o', m, t, h, hk, hG, ho => by
    rw [elimE] at h
    split at h
    · cases h
    · have hb := (bestF_range (m := m) (k := k) (n := n) (f := n - k) (i := k) (b := k) (by omega) (by omega) (Nat.le_refl _) (Nat.le_refl _)).1
      have hG' : Good n (swapL m k (bestF m k (n - k) k k) []) := hG.swap (by rw [hG.len]; omega) (by rw [hG.len]; omega)
      cases hr : rowsE n k (n - (k + 1)) (k + 1) (swapL m k (bestF m k (n - k) k k) []) with
      | none => rw [hr] at h; cases h
      | some t' =>
        rw [hr] at h
        exact elimE_good h (by omega) (rowsE_good hr (by omega) hG') (by rw [swapL_length]; exact ho)
theorem elimF_good {m t : List (List Nat)} {o : List Nat} (h : elimF m = .ok (o, t)) (hm : matB m = true) (hb : bits m) : Good m.length t ∧ o.length = m.length :=
  elimE_good h rfl (Good.of hm hb) (by simp)

def elimR (m : List (List Nat)) : DE × Int :=
  if matB m then (match elimF m with
    | .error e => (([], []), e)
    | .ok (o, t) => ((o.map Int.ofNat, t), 0)) else (([], []), 1)

theorem OI.OIR {w : World} {lo hi : Nat} {v : Value} {o : List Nat} (h : OI w lo v o) (ht : ∀ k, v.ownBlock = some k → k < hi) : OIR w lo hi v (o.map Int.ofNat) := by
  refine ⟨?_, ht⟩
  rw [List.length_map, List.map_map]
  exact h

theorem o_empty (w : World) (lo hi : Nat) : O_Elimination w lo hi (.agg #[nilS, nilS]) ([], []) :=
  ⟨nilS, nilS, [], rfl, ⟨⟨rfl, .inl ⟨rfl, rfl⟩⟩, fun k hk => by cases hk⟩, OM.nil _ _ _, by intro r hr; simp at hr⟩

theorem p_EliminationOf {a : Value} {m : List (List Nat)} (ha : I_Float32SS w a m) (H : ∀ u w', Ext w w' → O_Elimination w' w.heap.size w'.heap.size u (elimR m).1 → K (.tuple #[u, .int .i64 (elimR m).2]) w') : call P f_impl_EliminationOf [a] w K := by
  refine I_impl_EliminationOf ?_
  unfold D_impl_EliminationOf
  refine alc_bx i_impl_Elimination fun q w1 b1 e1 hq => ?_
  have s1 := e1.size
  have up : ∀ {w2 w3 : World}, Ext w1 w2 → w2.grownBy w3 (blk q) → Ext w w3 := fun e g => RowKit.Below.grown (e1.trans e) g (e1.trans e).size fun k hk => by rw [hq] at hk; cases hk; exact Nat.le_refl _
  refine c_impl_IsMatrix (ha.1.ext e1) ?_
  rw [una_not]
  refine cnd_split (fun hm => ?_) (fun hm => ?_)
  · have hm : matB m = false := nb1 hm
    unfold elimR at H
    simp only [hm, Bool.false_eq_true, if_false] at H
    rw [bld_elim]
    refine b1.put i_impl_Elimination (ds := [nilS, nilS]) rfl rfl (one2 rfl rfl) fun w2 b2 g2 => ?_
    refine b2.getc u_impl_Elimination rfl i_impl_Elimination rfl ?_
    exact H _ _ (up (Ext.refl _) g2) (o_empty _ _ _)
  · have hm : matB m = true := nb0 hm
    unfold elimR at H
    simp only [hm, if_true] at H
    refine c_impl_eliminate (ha.1.ext e1) ha.2 hm (fun e he w2 e2 => ?_) (fun o t he ov tv vs w2 e2 ho ht => ?_)
    · rw [he] at H
      rw [xtr_0, xtr_1]
      refine (b1.ext e2).put i_impl_Elimination (ds := [nilS, nilS]) rfl rfl (one2 rfl rfl) fun w3 b3 g3 => ?_
      refine b3.getc u_impl_Elimination rfl i_impl_Elimination rfl ?_
      exact H _ _ (up e2 g3) (o_empty _ _ _)
    · rw [he] at H
      rw [xtr_0, xtr_1]
      have tq := Ty.box (b1.ext e2)
      refine (b1.ext e2).put i_impl_Elimination (ds := [ov, tv]) rfl rfl (one2 (oneCell_sl ho) (oneCell_sl ht.outer)) fun w3 b3 g3 => ?_
      refine b3.getc u_impl_Elimination rfl i_impl_Elimination rfl ?_
      have ho3 := keep_row ho g3 tq (by decide)
      exact H _ _ (up e2 g3) ⟨ov, tv, vs, rfl, OI.OIR (owns_base ho3 s1) fun k hk => (ho3.lt k hk).2, ((ht.keep g3 tq (by decide) (by decide)).sized).mono s1 (Nat.le_refl _), (elimF_good he hm ha.2).1.lt⟩

theorem s_EliminationOf {a : Value} {m : List (List Nat)} (ha : I_Float32SS w a m) (H : ∀ u w', Ext w w' → I_Elimination w' u (elimR m).1 → K (.tuple #[u, .int .i64 (elimR m).2]) w') : call P f_spec_EliminationOf [a] w K := by
  refine I_spec_EliminationOf ?_
  unfold D_spec_EliminationOf
  refine alc_bx i_impl_Elimination fun q w1 b1 e1 hq => ?_
  have s1 := e1.size
  have up : ∀ {w2 w3 : World}, Ext w1 w2 → w2.grownBy w3 (blk q) → Ext w w3 := fun e g => RowKit.Below.grown (e1.trans e) g (e1.trans e).size fun k hk => by rw [hq] at hk; cases hk; exact Nat.le_refl _
  refine c_spec_l10Is (ha.1.ext e1) ?_
  rw [una_not]
  refine cnd_split (fun hm => ?_) (fun hm => ?_)
  · have hm : matB m = false := nb1 hm
    unfold elimR at H
    simp only [hm, Bool.false_eq_true, if_false] at H
    rw [bld_elim]
    refine b1.put i_impl_Elimination (ds := [nilS, nilS]) rfl rfl (one2 rfl rfl) fun w2 b2 g2 => ?_
    refine b2.getc u_impl_Elimination rfl i_impl_Elimination rfl ?_
    exact H _ _ (up (Ext.refl _) g2) (o_empty _ 0 0).I
  · have hm : matB m = true := nb0 hm
    unfold elimR at H
    simp only [hm, if_true] at H
    refine c_spec_l10Eliminate (ha.1.ext e1) ha.2 hm (fun e he w2 e2 => ?_) (fun o t he ov tv vs w2 e2 ho ht => ?_)
    · rw [he] at H
      rw [xtr_0, xtr_1]
      refine alc_bx i_impl_Elimination fun q2 w3 b3 e3 hq2 => ?_
      have b1' := (b1.ext e2).ext e3
      refine b3.put i_impl_Elimination (ds := [nilS, nilS]) rfl rfl (one2 rfl rfl) fun w4 b4 g4 => ?_
      refine b4.get u_impl_Elimination rfl i_impl_Elimination rfl ?_
      have s2 := e2.size
      have E4 : Ext w1 w4 := RowKit.Below.grown (e2.trans e3) g4 (e2.trans e3).size fun k hk => by rw [hq2] at hk; cases hk; exact s2
      have b1' := b1.ext E4
      refine b1'.put i_impl_Elimination (ds := [nilS, nilS]) rfl rfl (one2 rfl rfl) fun w5 b5 g5 => ?_
      refine b5.getc u_impl_Elimination rfl i_impl_Elimination rfl ?_
      exact H _ _ (up E4 g5) (o_empty _ 0 0).I
    · rw [he] at H
      rw [xtr_0, xtr_1]
      have one := one2 (oneCell_sl ho) (oneCell_sl ht.outer)
      refine alc_bx i_impl_Elimination fun q2 w3 b3 e3 hq2 => ?_
      have t3 := Ty.box b3
      refine b3.put i_impl_Elimination (ds := [ov, tv]) rfl rfl one fun w4 b4 g4 => ?_
      refine b4.get u_impl_Elimination rfl i_impl_Elimination rfl ?_
      have s2 := e2.size
      have E4 : Ext w1 w4 := RowKit.Below.grown (e2.trans e3) g4 (e2.trans e3).size fun k hk => by rw [hq2] at hk; cases hk; exact s2
      have b1' := b1.ext E4
      have t4 := Ty.box b1'
      have ho4 := keep_row (owns_ext ho e3) g4 t3 (by decide)
      have ht4 := (ht.ext e3).keep g4 t3 (by decide) (by decide)
      refine b1'.put i_impl_Elimination (ds := [ov, tv]) rfl rfl one fun w5 b5 g5 => ?_
      refine b5.getc u_impl_Elimination rfl i_impl_Elimination rfl ?_
      have ho5 := keep_row ho4 g5 t4 (by decide)
      have ht5 := ht4.keep g5 t4 (by decide) (by decide)
      exact H _ _ (up E4 g5) ⟨ov, tv, rfl, OIR.FI (OI.OIR (hi := w5.heap.size) ho5 fun k hk => (ho5.lt k hk).2), ht5.FSS (elimF_good he hm ha.2).1.lt, (elimF_good he hm ha.2).1.lt⟩

theorem small_EliminationOf_0 (m : List (List Nat)) : cnt_Elimination (elimR m).1 ≤ 1099511627776 := by
  unfold elimR
  by_cases hm : matB m = true
  · simp only [hm, if_true]
    cases h : elimF m with
    | error e => simp [cnt_Elimination, total]
    | ok x =>
      obtain ⟨o, t⟩ := x
      have h8 := (matB_parts hm).2.2
      have key : ∀ {f k : Nat} {n : Nat} {o o' : List Nat} {m t : List (List Nat)}, elimE n f k o m = .ok (o', t) → f + k = n → square n m → o.length = n → square n t ∧ o'.length = n := by
        intro f
        induction f with
        | zero => intro k n o o' m t h _ hG ho; simp only [elimE, Except.ok.injEq, Prod.mk.injEq] at h; obtain ⟨rfl, rfl⟩ := h; exact ⟨hG, ho⟩
        | succ f ih =>
          intro k n o o' m t h hk hG ho
          rw [elimE] at h
          split at h
          · cases h
          · cases hr : rowsE n k (n - (k + 1)) (k + 1) (swapL m k (bestF m k (n - k) k k) []) with
            | none => rw [hr] at h; cases h
            | some t' =>
              rw [hr] at h
              have hb := (bestF_range (m := m) (k := k) (n := n) (f := n - k) (i := k) (b := k) (by omega) (by omega) (Nat.le_refl _) (Nat.le_refl _)).1
              have hsq : square n (swapL m k (bestF m k (n - k) k k) []) := ⟨by rw [swapL_length]; exact hG.1, fun x hx => hG.2 x (mem_swapL (by rw [hG.1]; omega) (by rw [hG.1]; omega) hx)⟩
              refine ih h (by omega) ?_ (by rw [swapL_length]; exact ho)
              have rows : ∀ {f i : Nat} {m t : List (List Nat)}, rowsE n k f i m = some t → f + i ≤ n → square n m → square n t := by
                intro f
                induction f with
                | zero => intro i m t h _ hG; simp only [rowsE, Option.some.injEq] at h; subst h; exact hG
                | succ f ih =>
                  intro i m t h hi hG
                  rw [rowsE] at h
                  have hil : i < m.length := by rw [hG.1]; omega
                  cases hr : rowE n k (m.getD k []) (m.getD i []) with
                  | none => rw [hr] at h; cases h
                  | some r =>
                    rw [hr] at h
                    have hrl : r.length = n := by
                      rw [getD_lt hil] at hr
                      unfold rowE at hr
                      split at hr
                      · have cl : ∀ {f j : Nat} {r s : List Nat} {p : List Nat} {q : Nat}, colsE p q f j r = some s → s.length = r.length := by
                          intro f
                          induction f with
                          | zero => intro j r s p q h; simp only [colsE, Option.some.injEq] at h; subst h; rfl
                          | succ f ih =>
                            intro j r s p q h
                            rw [colsE] at h
                            split at h
                            · rw [ih h, List.length_set]
                            · cases h
                        rw [cl hr, List.length_set]; exact hG.row hil
                      · cases hr
                    refine ih h (by omega) ⟨by rw [List.length_set]; exact hG.1, fun x hx => ?_⟩
                    rcases List.mem_or_eq_of_mem_set hx with hx | rfl
                    · exact hG.2 x hx
                    · exact hrl
              exact rows hr (by omega) hsq
      obtain ⟨k1, k2⟩ := key h rfl ⟨rfl, fun r hr => ((matB_parts hm).1 r hr).1⟩ (by simp)
      have := total_le (m := t) (k := m.length) fun r hr => Nat.le_of_eq (k1.2 r hr)
      have h3 := k1.1
      unfold cnt_Elimination
      simp only [List.length_map]
      have h64 : t.length * m.length ≤ 8 * 8 := Nat.mul_le_mul (by omega) h8
      omega
  · have hm : matB m = false := by simpa using hm
    simp only [hm, Bool.false_eq_true, if_false]
    simp [cnt_Elimination, total]
end Go.Proofs.Ytliagkijeigcaaa
