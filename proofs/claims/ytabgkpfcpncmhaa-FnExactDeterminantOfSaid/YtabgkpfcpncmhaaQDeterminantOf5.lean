import Derived.Test.YtabgkpfcpncmhaaRows
import Derived.Test.YtabgkpfcpncmhaaQDeterminantOf4
set_option linter.unusedSimpArgs false
set_option linter.unusedVariables false
/- The program's DeterminantOf returns what the reference's returns, for all arguments, changes no argument and shares no memory. No condition. -/
set_option linter.unusedVariables false
namespace Go.Proofs.Ytabgkpfcpncmhaa
open Go Go.Vc
open Go.ChangeShapes Go.WideShapes Go.ChangeAt Go.RowKit

set_option maxRecDepth 20000 in
theorem law_DeterminantOf {w : World} {K : Value → World → Prop} {v_m : Value} {m : List (List Nat)} (hA_m : A_Float32SS w v_m m) (H : ∀ w', Ext w w' → K (.bool true) w') : call P f_laws_FnExactDeterminantOf [v_m] w K := by
  refine I_laws_FnExactDeterminantOf ?_
  unfold D_laws_FnExactDeterminantOf
  have E := Ext.refl w
  refine c_sz_Float32SS (hA_m.ext E) (by omega) (by omega) fun r3 w1 e2 hr4 => ?_
  have E := E.trans e2
  have se2 := e2.size
  rw [bin_lss]
  refine cnd_dec (fun _ => H _ E) (fun hz5 => ?_)
  have hs_m : sz_Float32SS m ≤ 1048576 := by omega
  have hc_m := cnt_sz_Float32SS m
  have hr_0 := small_DeterminantOf_0 m
  refine c_to_Float32SS (hA_m.ext E) hs_m fun v8 w6 e7 o9 => ?_
  have E := E.trans e7
  have se7 := e7.size
  refine s_DeterminantOf o9.I fun u12 w10 e11 h13 => ?_
  have o9 := o9.ext e11
  have E := E.trans e11
  have se11 := e11.size
  have EU14 := Ext.refl w10
  rw [xtr_0]
  rw [xtr_1]
  refine alc_bx i_impl_Dyadic fun p15 w16 b17 e18 _ => ?_
  have o9 := o9.ext e18
  have E := E.trans e18
  have EU14 := EU14.trans e18
  have se18 := e18.size
  have b17 := BxR.of b17
  obtain ⟨cs22, rfl, hl23, h124⟩ := Dyadic_agg h13
  refine Bx.put b17.own i_impl_Dyadic hl23 rfl h124 fun w19 b17N g20 => ?_
  have c21 := b17.grown g20
  have o9 := o9.chg c21 (by omega)
  have E : Ext w w19 := Chg.below c21 E (by omega) (Nat.le_refl _)
  have EU14 : Ext w10 w19 := Chg.below c21 EU14 (by omega) (Nat.le_refl _)
  have sc21 := c21.size
  have b17 : BxR w19 _ _ _ _ _ := ⟨b17N, b17.top⟩
  clear b17N
  refine c_to_Float32SS (hA_m.ext E) hs_m fun v27 w25 e26 o28 => ?_
  have o9 := o9.ext e26
  have b17 := b17.ext e26
  have E := E.trans e26
  have EU14 := EU14.trans e26
  have se26 := e26.size
  refine p_DeterminantOf o28.I fun u31 w29 e30 h32 => ?_
  have o9 := o9.ext e30
  have b17 := b17.ext e30
  have o28 := o28.ext e30
  have E := E.trans e30
  have EU14 := EU14.trans e30
  have se30 := e30.size
  rw [xtr_0]
  rw [xtr_1]
  refine alc_bx i_impl_Dyadic fun p33 w34 b35 e36 _ => ?_
  have o9 := o9.ext e36
  have b17 := b17.ext e36
  have o28 := o28.ext e36
  have h32 := h32.ext e36
  have E := E.trans e36
  have EU14 := EU14.trans e36
  have se36 := e36.size
  have b35 := BxR.of b35
  obtain ⟨cs40, rfl, hl41, h142⟩ := Dyadic_agg h32.I
  refine Bx.put b35.own i_impl_Dyadic hl41 rfl h142 fun w37 b35N g38 => ?_
  have c39 := b35.grown g38
  have o9 := o9.chg c39 (by omega)
  have b17 := b17.chg c39 (by omega)
  have o28 := o28.chg c39 (by omega)
  have h32 := h32.chg c39 (by omega)
  have E : Ext w w37 := Chg.below c39 E (by omega) (Nat.le_refl _)
  have EU14 : Ext w10 w37 := Chg.below c39 EU14 (by omega) (Nat.le_refl _)
  have sc39 := c39.size
  have b35 : BxR w37 _ _ _ _ _ := ⟨b35N, b35.top⟩
  clear b35N
  refine Bx.get b35.own u_impl_Dyadic rfl i_impl_Dyadic hl41 ?_
  refine Bx.get b17.own u_impl_Dyadic rfl i_impl_Dyadic hl23 ?_
  refine c_eq_Dyadic h32.I (h13.ext EU14) fun w43 e44 => ?_
  have o9 := o9.ext e44
  have b17 := b17.ext e44
  have o28 := o28.ext e44
  have h32 := h32.ext e44
  have b35 := b35.ext e44
  have E := E.trans e44
  have EU14 := EU14.trans e44
  have se44 := e44.size
  rw [una_not, Bool.not_true]
  refine ⟨_, fun _ _ _ h => h, ?_⟩
  rw [grd_false_false]
  refine neq_no rfl ?_
  rw [pick_bool, cond_false]
  rw [cnd_false]
  refine c_to_Float32SS (hA_m.ext E) hs_m fun v47 w45 e46 o48 => ?_
  have o9 := o9.ext e46
  have b17 := b17.ext e46
  have o28 := o28.ext e46
  have h32 := h32.ext e46
  have b35 := b35.ext e46
  have E := E.trans e46
  have EU14 := EU14.trans e46
  have se46 := e46.size
  refine c_eq_Float32SS o28.I o48.I fun w49 e50 => ?_
  have o9 := o9.ext e50
  have b17 := b17.ext e50
  have o28 := o28.ext e50
  have h32 := h32.ext e50
  have b35 := b35.ext e50
  have o48 := o48.ext e50
  have E := E.trans e50
  have EU14 := EU14.trans e50
  have se50 := e50.size
  rw [una_not, Bool.not_true]
  rw [cnd_false]
  refine c_mark_Float32SS o28 (by omega) (by omega) fun w51 o28N c52 => ?_
  have o9 := o9.chg c52 (by omega)
  have b17 := b17.chg c52 (by omega)
  have h32 := h32.chg c52 (by omega)
  have b35 := b35.chg c52 (by omega)
  have o48 := o48.chg c52 (by omega)
  have E : Ext w w51 := Chg.below c52 E (by omega) (Nat.le_refl _)
  have EU14 : Ext w10 w51 := Chg.below c52 EU14 (by omega) (Nat.le_refl _)
  have sc52 := c52.size
  have o28 := o28N
  clear o28N
  refine lss_no (by omega) ?_
  refine ⟨_, fun _ _ _ h => h, ?_⟩
  rw [grd_false_false]
  refine Bx.get b35.own u_impl_Dyadic rfl i_impl_Dyadic hl41 ?_
  refine Bx.get b17.own u_impl_Dyadic rfl i_impl_Dyadic hl23 ?_
  refine c_eq_Dyadic h32.I (h13.ext EU14) fun w53 e54 => ?_
  have o9 := o9.ext e54
  have b17 := b17.ext e54
  have o28 := o28.ext e54
  have h32 := h32.ext e54
  have b35 := b35.ext e54
  have o48 := o48.ext e54
  have E := E.trans e54
  have EU14 := EU14.trans e54
  have se54 := e54.size
  rw [una_not, Bool.not_true]
  rw [pick_bool, cond_false]
  refine ⟨_, fun _ _ _ h => h, ?_⟩
  rw [grd_false_false]
  refine neq_no rfl ?_
  rw [pick_bool, cond_false]
  rw [cnd_false]
  refine Bx.get b35.own u_impl_Dyadic rfl i_impl_Dyadic hl41 ?_
  refine c_mark_Dyadic h32 (by omega) (by omega) fun w55 h32N c56 => ?_
  have o9 := o9.chg c56 (by omega)
  have b17 := b17.chg c56 (by omega)
  have o28 := o28.chg c56 (by omega)
  have b35 := b35.chg c56 (by omega)
  have o48 := o48.chg c56 (by omega)
  have E : Ext w w55 := Chg.below c56 E (by omega) (Nat.le_refl _)
  have EU14 : Ext w10 w55 := Chg.below c56 EU14 (by omega) (Nat.le_refl _)
  have sc56 := c56.size
  have h32 := h32N
  clear h32N
  refine Bx.get b35.own u_impl_Dyadic rfl i_impl_Dyadic hl41 ?_
  refine c_held_Dyadic h32.I (by omega) (by omega) fun w57 e58 => ?_
  have o9 := o9.ext e58
  have b17 := b17.ext e58
  have o28 := o28.ext e58
  have h32 := h32.ext e58
  have b35 := b35.ext e58
  have o48 := o48.ext e58
  have E := E.trans e58
  have EU14 := EU14.trans e58
  have se58 := e58.size
  refine lss_no (by omega) ?_
  rw [cnd_false]
  refine neq_no (by omega) ?_
  rw [cnd_false]
  refine c_to_Float32SS (hA_m.ext E) hs_m fun v61 w59 e60 o62 => ?_
  have o9 := o9.ext e60
  have b17 := b17.ext e60
  have o28 := o28.ext e60
  have h32 := h32.ext e60
  have b35 := b35.ext e60
  have o48 := o48.ext e60
  have E := E.trans e60
  have EU14 := EU14.trans e60
  have se60 := e60.size
  refine p_DeterminantOf o62.I fun u65 w63 e64 h66 => ?_
  have o9 := o9.ext e64
  have b17 := b17.ext e64
  have o28 := o28.ext e64
  have h32 := h32.ext e64
  have b35 := b35.ext e64
  have o48 := o48.ext e64
  have o62 := o62.ext e64
  have E := E.trans e64
  have EU14 := EU14.trans e64
  have se64 := e64.size
  rw [xtr_0]
  rw [xtr_1]
  refine alc_bx i_impl_Dyadic fun p67 w68 b69 e70 _ => ?_
  have o9 := o9.ext e70
  have b17 := b17.ext e70
  have o28 := o28.ext e70
  have h32 := h32.ext e70
  have b35 := b35.ext e70
  have o48 := o48.ext e70
  have o62 := o62.ext e70
  have h66 := h66.ext e70
  have E := E.trans e70
  have EU14 := EU14.trans e70
  have se70 := e70.size
  have b69 := BxR.of b69
  obtain ⟨cs74, rfl, hl75, h176⟩ := Dyadic_agg h66.I
  refine Bx.put b69.own i_impl_Dyadic hl75 rfl h176 fun w71 b69N g72 => ?_
  have c73 := b69.grown g72
  have o9 := o9.chg c73 (by omega)
  have b17 := b17.chg c73 (by omega)
  have o28 := o28.chg c73 (by omega)
  have h32 := h32.chg c73 (by omega)
  have b35 := b35.chg c73 (by omega)
  have o48 := o48.chg c73 (by omega)
  have o62 := o62.chg c73 (by omega)
  have h66 := h66.chg c73 (by omega)
  have E : Ext w w71 := Chg.below c73 E (by omega) (Nat.le_refl _)
  have EU14 : Ext w10 w71 := Chg.below c73 EU14 (by omega) (Nat.le_refl _)
  have sc73 := c73.size
  have b69 : BxR w71 _ _ _ _ _ := ⟨b69N, b69.top⟩
  clear b69N
  refine Bx.get b69.own u_impl_Dyadic rfl i_impl_Dyadic hl75 ?_
  refine Bx.get b17.own u_impl_Dyadic rfl i_impl_Dyadic hl23 ?_
  refine c_eq_Dyadic h66.I (h13.ext EU14) fun w77 e78 => ?_
  have o9 := o9.ext e78
  have b17 := b17.ext e78
  have o28 := o28.ext e78
  have h32 := h32.ext e78
  have b35 := b35.ext e78
  have o48 := o48.ext e78
  have o62 := o62.ext e78
  have h66 := h66.ext e78
  have b69 := b69.ext e78
  have E := E.trans e78
  have EU14 := EU14.trans e78
  have se78 := e78.size
  rw [una_not, Bool.not_true]
  refine ⟨_, fun _ _ _ h => h, ?_⟩
  rw [grd_false_false]
  refine neq_no rfl ?_
  rw [pick_bool, cond_false]
  rw [cnd_false]
  refine Bx.get b35.own u_impl_Dyadic rfl i_impl_Dyadic hl41 ?_
  refine c_held_Dyadic h32.I (by omega) (by omega) fun w79 e80 => ?_
  have o9 := o9.ext e80
  have b17 := b17.ext e80
  have o28 := o28.ext e80
  have h32 := h32.ext e80
  have b35 := b35.ext e80
  have o48 := o48.ext e80
  have o62 := o62.ext e80
  have h66 := h66.ext e80
  have b69 := b69.ext e80
  have E := E.trans e80
  have EU14 := EU14.trans e80
  have se80 := e80.size
  refine lss_no (by omega) ?_
  rw [cnd_false]
  refine neq_no (by omega) ?_
  rw [cnd_false]
  exact H _ E

set_option maxRecDepth 100000 in
theorem DeterminantOf_lifted (os : Os) (started : os.Started) (H : Type) (enc : TypeId × Value → H) :
    ReturnsInHanded {} Try.checked os f_laws_FnExactDeterminantOf .any (Rows.fnExactDeterminantOfSpec.pre6 enc Try.prog Try.f3 Rows.fnExactDeterminantOfRow.domain false) (Rows.fnExactDeterminantOfSpec.post enc Try.prog Try.f3 false true false false) := by
  refine returnsInHanded_of_change (C := Try.checked) own started (by kernel_rfl) Try.func3
    (ChangeSpec.witness6 (enc := enc) (C := Try.checked) false ⟨#[], #[.slice none 0 0], []⟩ 8 (by kernel_rfl) (by kernel_rfl) (by kernel_rfl) (by kernel_rfl)) ?_
  intro W base args ds gs before hval0 hW hcnd _
  have hW' := hW
  obtain ⟨p, q, hA0, hV, rfl, hfz, hnd⟩ := hW
  have hA : DataW.TrodAll enc Try.prog W 0 (fun _ => true) true Try.f3.params.toList args.toList ds p := hA0
  rw [Try.params3] at hA
  obtain ⟨v0, vs0, d0, ds0, p0, q0, hargs0, rfl, rfl, h0, r0⟩ := trodAll_cons hA
  obtain ⟨rfl, rfl, rfl⟩ := trodAll_nil r0
  obtain rfl : args = #[v0] := by cases args; simp_all
  obtain ⟨rfl, rfl⟩ := trodVars_none hV
  have hval : ∀ (j : Nat) t v, Try.f3.params[j]? = some t → (#[v0] : Array Value)[j]? = some v → Value.okWide Try.prog W .any base t v := hval0
  rw [Try.params3] at hval
  obtain ⟨a0, len0, cap0, rfl⟩ := okWide_slice u_s_s_float32 (hval 0 t_s_s_float32 v0 rfl rfl)
  have k0 := h0
  have lt0 : ∀ x ∈ p0, x.block < W.heap.size := by obtain ⟨m, hm⟩ := k0; exact DataW.trod_lt m _ _ _ hm
  obtain ⟨m, hA_m⟩ : ∃ m, A_Float32SS W (.slice a0 len0 cap0) m := by
    obtain ⟨fuel, hf⟩ := h0
    exact open_Float32SS hf
  clear hval0 hval
  refine (calls_of Try.func3 (by kernel_rfl) (by kernel_rfl) (law_DeterminantOf (K := fun v w' => v = .bool true ∧ Ext (Vc.N W) w') hA_m.N fun w' he => ⟨rfl, he⟩)).mono ?_
  rintro e W' ⟨v, rfl, rfl, he⟩
  have bel := below_N he
  exact ⟨_, rfl, _, _, _, [], _, [], hW', trodAll_mk1 (shut_bool u_bool _), (trodAll_cons_mk (Below.trod laidOut (by kernel_rfl) (of_decide_eq_true (by kernel_rfl)) k0 bel lt0) trodAll_mk0), rfl, bel.frame _, fun h => by cases h⟩

theorem DeterminantOf_holds : Rows.FnExactDeterminantOfSaid :=
  OpenClaim.holds_of_wide 3 Try.f3 rfl rfl rfl rfl rfl rfl rfl ⟨rfl, rfl, rfl, rfl, rfl⟩ rfl rfl rfl rfl rfl (by kernel_rfl) Try.func3 joined_FnExactDeterminantOf
    (of_decide_eq_true (by kernel_rfl)) (by unfold Func.isWrapper; first | (rw [if_pos (by decide +kernel)]; kernel_rfl) | (rw [if_neg (by decide +kernel)]; exact ⟨rfl, rfl⟩))
    (fun os started H enc _ => DeterminantOf_lifted os started H enc)

end Go.Proofs.Ytabgkpfcpncmhaa
