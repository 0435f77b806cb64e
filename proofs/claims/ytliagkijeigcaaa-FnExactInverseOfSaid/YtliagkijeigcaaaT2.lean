/- The interface for lists of whole numbers and eliminations. -/
import Derived.Test.YtliagkijeigcaaaT1
import Derived.Test.YtliagkijeigcaaaC13
set_option linter.unusedVariables false
namespace Go.Proofs.Ytliagkijeigcaaa
open Go Go.Vc

variable {w : World} {K : Value → World → Prop} {lo hi : Nat} {v : Value}

/-! ### lists of whole numbers -/
abbrev vI (n : Int) : Value := .int .i64 n
def FI (w : World) (v : Value) (l : List Int) : Prop := Row 1 w v l.length (l.map vI)
theorem FI.ext {w' : World} {l : List Int} (h : FI w v l) (he : Ext w w') : FI w' v l := Row.ext h he
abbrev OIR (w : World) (lo hi : Nat) (v : Value) (l : List Int) : Prop := OwnR w lo hi t_int64 1 v l.length (l.map vI)
theorem OIR.FI {l : List Int} (h : OIR w lo hi v l) : FI w v l := owns_Row h.own
def mkI (k : Int) (n : Nat) : List Int := (List.range n).map (fun j => k + (j : Nat))
@[simp] theorem mkI_length (k : Int) (n : Nat) : (mkI k n).length = n := by simp [mkI]
theorem mkI_get (k : Int) (n i : Nat) (h : i < (mkI k n).length) : (mkI k n)[i] = k + (i : Nat) := by simp [mkI]

theorem c_eqInt64S {u : Value} {l : List Int} (hu : FI w u l) (hv : FI w v l) (H : K (.bool true) w) : call P f_laws_eqInt64S [u, v] w K := by
  refine I_laws_eqInt64S ?_
  unfold D_laws_eqInt64S
  have hb := hu.bound
  simp only [maxLen] at hb
  rw [Row.len hu u_s_int64, Row.len hv u_s_int64, bin_neq]
  refine cnd_no (by simp) ?_
  refine ⟨fun m x w' => w' = w ∧ ∃ i : Nat, x = .int .i64 i ∧ m + i = l.length, ⟨l.length, rfl, 0, rfl, by omega⟩, ?_⟩
  rintro m x junk w' ⟨rfl, i, rfl, hm⟩
  rw [Row.len hu u_s_int64, bin_lss]
  refine cnd_dec (fun hlt => ?_) (fun hge => H)
  have hi : i < l.length := by omega
  refine Row.at1 hu (get_map hi) u_s_int64 i_int64 u_int64 rfl ?_
  refine Row.at1 hv (get_map hi) u_s_int64 i_int64 u_int64 rfl ?_
  refine neq_no rfl ?_
  rw [cnd_false, bin_add]
  refine ⟨m - 1, by omega, rfl, i + 1, ?_, by omega⟩
  rw [wrap_i64 (by omega) (by omega)]; rfl

theorem c_markInt64S {l : List Int} {k : Int} (h : OIR w lo hi v l) (h0 : 0 ≤ k) (h1 : k + l.length ≤ 4611686018427387904) (H : ∀ w', OIR w' lo hi v (mkI k l.length) → w.grownBy w' v.ownBlock → K (.int .i64 (k + l.length)) w') :
    call P f_laws_markInt64S [v, .int .i64 k] w K := by
  refine I_laws_markInt64S ?_
  unfold D_laws_markInt64S
  refine ⟨fun g x y w' => w.grownBy w' v.ownBlock ∧ ∃ i : Nat, y = .int .i64 i ∧ x = .int .i64 (k + i) ∧ g + i = l.length ∧ w'.ownsRow lo t_int64 1 v l.length ((mkI k i).map vI ++ (l.map vI).drop i),
    ⟨l.length, World.grownBy.refl _ _, 0, rfl, by simp, by omega, by simpa [mkI] using h.own⟩, ?_⟩
  rintro g x y junk w2 ⟨hg, i, rfl, rfl, hm, ho⟩
  rw [(owns_Row ho).len u_s_int64, bin_lss]
  refine cnd_dec (fun hlt => ?_) (fun hge => ?_)
  · have hi : i < l.length := by omega
    refine owns_set ho hi (x := vI (k + i)) rfl u_s_int64 i_int64 fun w3 ho3 hg3 => ?_
    rw [bin_add, bin_add, wrap_i64 (by omega) (by omega), wrap_i64 (by omega) (by omega)]
    refine ⟨g - 1, by omega, grown_trans hg hg3, i + 1, rfl, by congr 1; omega, by omega, ?_⟩
    have e : ((mkI k i).map vI ++ (l.map vI).drop i).set i (vI (k + i)) = (mkI k (i + 1)).map vI ++ (l.map vI).drop (i + 1) := by
      rw [List.set_append_right _ _ (by simp)]
      simp only [List.length_map, mkI_length, Nat.sub_self]
      have hd : (l.map vI).drop i = vI l[i] :: (l.map vI).drop (i + 1) := by
        rw [List.drop_eq_getElem_cons (by simpa using hi)]; simp
      rw [hd, List.set_cons_zero]
      have : mkI k (i + 1) = mkI k i ++ [k + i] := by simp [mkI, List.range_succ]
      rw [this]; simp
    rw [e] at ho3; exact ho3
  · have hi : i = l.length := by omega
    subst hi
    have e : (l.map vI).drop l.length = [] := by simp
    rw [e, List.append_nil] at ho
    refine H _ ⟨?_, h.top⟩ hg
    rw [mkI_length]; exact ho

theorem c_heldInt64S {k : Int} {n : Nat} (h : FI w v (mkI k n)) (h0 : 0 ≤ k) (h1 : k + n ≤ 4611686018427387904) (H : K (.int .i64 (k + n)) w) : call P f_laws_heldInt64S [v, .int .i64 k] w K := by
  refine I_laws_heldInt64S ?_
  unfold D_laws_heldInt64S
  refine ⟨fun g x y w' => w' = w ∧ ∃ i : Nat, y = .int .i64 i ∧ x = .int .i64 (k + i) ∧ g + i = n, ⟨n, rfl, 0, rfl, by simp, by omega⟩, ?_⟩
  rintro g x y junk w2 ⟨rfl, i, rfl, rfl, hm⟩
  rw [Row.len h u_s_int64, mkI_length, bin_lss]
  refine cnd_dec (fun hlt => ?_) (fun hge => ?_)
  · have hi : i < (mkI k n).length := by rw [mkI_length]; omega
    refine Row.at1 h (get_map hi) u_s_int64 i_int64 u_int64 rfl ?_
    rw [mkI_get]
    refine neq_no rfl ?_
    rw [cnd_false, bin_add, bin_add, wrap_i64 (by omega) (by omega), wrap_i64 (by omega) (by omega)]
    exact ⟨g - 1, by omega, rfl, i + 1, rfl, by congr 1; omega, by omega⟩
  · have hi : i = n := by omega
    subst hi; exact H

/-! ### eliminations -/
abbrev DE := List Int × List (List Nat)
def I_Elimination (w : World) (v : Value) (d : DE) : Prop := ∃ ov tv, v = .agg #[ov, tv] ∧ FI w ov d.1 ∧ I_Float32SS w tv d.2
theorem I_Elimination.ext {w' : World} {d : DE} (h : I_Elimination w v d) (he : Ext w w') : I_Elimination w' v d := by
  obtain ⟨ov, tv, h1, h2, h3⟩ := h
  exact ⟨ov, tv, h1, h2.ext he, A_Float32SS.ext h3 he⟩
def O_Elimination (w : World) (lo hi : Nat) (v : Value) (d : DE) : Prop := ∃ ov tv vs, v = .agg #[ov, tv] ∧ OIR w lo hi ov d.1 ∧ OM w lo hi tv d.2 vs ∧ bits d.2
theorem O_Elimination.ext {w' : World} {d : DE} (h : O_Elimination w lo hi v d) (he : Ext w w') : O_Elimination w' lo hi v d := by
  obtain ⟨ov, tv, vs, h1, h2, h3, h4⟩ := h
  exact ⟨ov, tv, vs, h1, h2.ext he, h3.ext he, h4⟩
theorem O_Elimination.chg {w' : World} {d : DE} {lo' hi' : Nat} (h : O_Elimination w lo hi v d) (hc : Chg lo' hi' w w') (hd : hi ≤ lo' ∨ hi' ≤ lo) : O_Elimination w' lo hi v d := by
  obtain ⟨ov, tv, vs, h1, h2, h3, h4⟩ := h
  exact ⟨ov, tv, vs, h1, h2.chg hc hd, h3.chg hc hd, h4⟩
theorem O_Elimination.I {d : DE} (h : O_Elimination w lo hi v d) : I_Elimination w v d := by
  obtain ⟨ov, tv, vs, h1, h2, h3, h4⟩ := h
  exact ⟨ov, tv, h1, OIR.FI h2, h3.FSS h4, h4⟩
def cnt_Elimination (d : DE) : Nat := d.1.length + total d.2
def mk_Elimination (k : Int) (d : DE) : DE := (mkI k d.1.length, mkM (k + d.1.length) d.2)
theorem FI.one {l : List Int} (h : FI w v l) : v.oneCell' = true := by
  obtain ⟨_, _, a, cap, rfl, _⟩ := h
  rfl
theorem FSS.one {m : List (List Nat)} (h : FSS w v m) : v.oneCell' = true := by
  obtain ⟨vs, h, _⟩ := h.ex
  obtain ⟨_, _, a, cap, rfl, _⟩ := h
  rfl
theorem Elimination_agg {d : DE} (h : I_Elimination w v d) : ∃ cs : List Value, v = .agg cs.toArray ∧ cs.length = 2 ∧ ∀ x ∈ cs, x.oneCell' = true := by
  obtain ⟨ov, tv, h1, h2, h3⟩ := h
  exact ⟨[ov, tv], h1, rfl, one2 h2.one h3.1.one⟩
theorem c_eq_Elimination {u : Value} {d : DE} (h1 : I_Elimination w u d) (h2 : I_Elimination w v d) (H : ∀ w', Ext w w' → K (.bool true) w') : call P f_laws_eqElimination [u, v] w K := by
  obtain ⟨o1, t1, rfl, a1, b1⟩ := h1
  obtain ⟨o2, t2, rfl, a2, b2⟩ := h2
  refine I_laws_eqElimination ?_
  unfold D_laws_eqElimination
  refine bx_bx fun p w1 p1 e1 _ => ?_
  refine bx_bx fun q w2 p2 e2 _ => ?_
  have p1 := p1.ext e2
  have E := e1.trans e2
  refine Bx.fld p1 (off := 0) rfl u_impl_Elimination rfl i_s_int64 u_s_int64 rfl ?_
  refine Bx.fld p2 (off := 0) rfl u_impl_Elimination rfl i_s_int64 u_s_int64 rfl ?_
  refine c_eqInt64S (a1.ext E) (a2.ext E) ?_
  rw [una_not, Bool.not_true, cnd_false]
  refine Bx.fld p1 (off := 1) rfl u_impl_Elimination rfl i_s_s_float32 u_s_s_float32 rfl ?_
  refine Bx.fld p2 (off := 1) rfl u_impl_Elimination rfl i_s_s_float32 u_s_s_float32 rfl ?_
  refine c_eq_Float32SS (A_Float32SS.ext b1 E) (A_Float32SS.ext b2 E) fun w3 e3 => ?_
  rw [una_not, Bool.not_true, cnd_false]
  exact H _ (E.trans e3)
theorem c_mark_Elimination {d : DE} {k : Int} (h : O_Elimination w lo hi v d) (h0 : 0 ≤ k) (h1 : k + cnt_Elimination d ≤ 4611686018427387904) (H : ∀ w', O_Elimination w' lo hi v (mk_Elimination k d) → Chg lo hi w w' → K (.int .i64 (k + cnt_Elimination d)) w') :
    call P f_laws_markElimination [v, .int .i64 k] w K := by
  obtain ⟨ov, tv, vs, rfl, a1, b1, b2⟩ := h
  unfold cnt_Elimination at *
  refine I_laws_markElimination ?_
  unfold D_laws_markElimination
  refine bx_bx fun p w1 p1 e1 _ => ?_
  refine Bx.fld p1 (off := 0) rfl u_impl_Elimination rfl i_s_int64 u_s_int64 rfl ?_
  have a1 := OwnR.ext a1 e1
  refine c_markInt64S a1 h0 (by omega) fun w2 a2 g2 => ?_
  have t2 := Ty.owns a1.own
  have p2 := keep_box p1 g2 t2 (by decide)
  have b2' := (b1.ext e1).keep g2 t2 (by decide) (by decide)
  refine Bx.fld p2 (off := 1) rfl u_impl_Elimination rfl i_s_s_float32 u_s_s_float32 rfl ?_
  refine c_markFloat32SSk b2' (by omega) (by omega) fun w3 b3 c3 k3 => ?_
  have a3 : OIR w3 lo hi ov (mkI k d.1.length) := ⟨k3.owns a2.own (by decide), a2.top⟩
  have := H w3 ⟨ov, tv, vs, rfl, a3, b3, mkM_bits _ _⟩ ((Chg.of_ext e1).trans ((OwnR.grown a1 g2).trans c3))
  rw [show k + ((d.1.length + total d.2 : Nat) : Int) = k + d.1.length + total d.2 by omega] at this
  exact this
theorem c_held_Elimination {d : DE} {k : Int} (h : I_Elimination w v (mk_Elimination k d)) (h0 : 0 ≤ k) (h1 : k + cnt_Elimination d ≤ 4611686018427387904) (H : ∀ w', Ext w w' → K (.int .i64 (k + cnt_Elimination d)) w') : call P f_laws_heldElimination [v, .int .i64 k] w K := by
  obtain ⟨ov, tv, rfl, a1, b1⟩ := h
  unfold cnt_Elimination at *
  refine I_laws_heldElimination ?_
  unfold D_laws_heldElimination
  refine bx_bx fun p w1 p1 e1 _ => ?_
  refine Bx.fld p1 (off := 0) rfl u_impl_Elimination rfl i_s_int64 u_s_int64 rfl ?_
  refine c_heldInt64S (a1.ext e1) h0 (by omega) ?_
  refine lss_no (by omega) ?_
  rw [cnd_false]
  refine Bx.fld p1 (off := 1) rfl u_impl_Elimination rfl i_s_s_float32 u_s_s_float32 rfl ?_
  refine c_held_Float32SS (m := d.2) (A_Float32SS.ext b1 e1) (by omega) (by unfold cnt_Float32SS; omega) fun w2 e2 => ?_
  refine lss_no (by unfold cnt_Float32SS; omega) ?_
  rw [cnd_false]
  have := H w2 (e1.trans e2)
  rw [show k + ((d.1.length + total d.2 : Nat) : Int) = k + d.1.length + total d.2 by omega] at this
  exact this
end Go.Proofs.Ytliagkijeigcaaa
