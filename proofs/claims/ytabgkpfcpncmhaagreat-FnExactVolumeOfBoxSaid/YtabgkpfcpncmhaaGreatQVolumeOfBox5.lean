import Derived.Test.YtabgkpfcpncmhaaGreatRows
import Derived.Test.YtabgkpfcpncmhaaGreatQVolumeOfBox4
set_option linter.unusedSimpArgs false
set_option linter.unusedVariables false
/- The program's VolumeOfBox returns what the reference's returns, for all arguments, changes no argument and shares no memory. No condition. -/
set_option linter.unusedVariables false
namespace Go.Proofs.YtabgkpfcpncmhaaGreat
open Go Go.Vc
open Go.ChangeShapes Go.WideShapes Go.ChangeAt Go.RowKit

set_option maxRecDepth 20000 in
theorem law_VolumeOfBox {w : World} {K : Value → World → Prop} {v_box : Value} {box : List IV} (hA_box : A_IntervalS w v_box box) (H : ∀ w', Ext w w' → K (.bool true) w') : call P f_laws_FnExactVolumeOfBox [v_box] w K := by
  refine I_laws_FnExactVolumeOfBox ?_
  unfold D_laws_FnExactVolumeOfBox
  have E := Ext.refl w
  refine c_sz_IntervalS (hA_box.ext E) (by omega) (by omega) fun r3 w1 e2 hr4 => ?_
  have E := E.trans e2
  have se2 := e2.size
  rw [bin_lss]
  refine cnd_dec (fun _ => H _ E) (fun hz5 => ?_)
  have hs_box : sz_IntervalS box ≤ 1048576 := by omega
  have hc_box := cnt_sz_IntervalS box
  have hr_0 := small_VolumeOfBox_0 box
  refine c_to_IntervalS (hA_box.ext E) hs_box fun v8 w6 e7 o9 => ?_
  have E := E.trans e7
  have se7 := e7.size
  refine s_VolumeOfBox o9.I fun u12 w10 e11 h13 => ?_
  have o9 := o9.ext e11
  have E := E.trans e11
  have se11 := e11.size
  have EU14 := Ext.refl w10
  rw [xtr_0]
  rw [xtr_1]
  refine alc_bx i_impl_Interval fun p15 w16 b17 e18 _ => ?_
  have o9 := o9.ext e18
  have E := E.trans e18
  have EU14 := EU14.trans e18
  have se18 := e18.size
  have b17 := BxR.of b17
  obtain ⟨cs22, rfl, hl23, h124⟩ := Interval_agg h13
  refine Bx.put b17.own i_impl_Interval hl23 rfl h124 fun w19 b17N g20 => ?_
  have c21 := b17.grown g20
  have o9 := o9.chg c21 (by omega)
  have E : Ext w w19 := Chg.below c21 E (by omega) (Nat.le_refl _)
  have EU14 : Ext w10 w19 := Chg.below c21 EU14 (by omega) (Nat.le_refl _)
  have sc21 := c21.size
  have b17 : BxR w19 _ _ _ _ _ := ⟨b17N, b17.top⟩
  clear b17N
  refine c_to_IntervalS (hA_box.ext E) hs_box fun v27 w25 e26 o28 => ?_
  have o9 := o9.ext e26
  have b17 := b17.ext e26
  have E := E.trans e26
  have EU14 := EU14.trans e26
  have se26 := e26.size
  refine p_VolumeOfBox o28.I fun u31 w29 e30 h32 => ?_
  have o9 := o9.ext e30
  have b17 := b17.ext e30
  have o28 := o28.ext e30
  have E := E.trans e30
  have EU14 := EU14.trans e30
  have se30 := e30.size
  rw [xtr_0]
  rw [xtr_1]
  refine alc_bx i_impl_Interval fun p33 w34 b35 e36 _ => ?_
  have o9 := o9.ext e36
  have b17 := b17.ext e36
  have o28 := o28.ext e36
  have h32 := h32.ext e36
  have E := E.trans e36
  have EU14 := EU14.trans e36
  have se36 := e36.size
  have b35 := BxR.of b35
  obtain ⟨cs40, rfl, hl41, h142⟩ := Interval_agg h32.I
  refine Bx.put b35.own i_impl_Interval hl41 rfl h142 fun w37 b35N g38 => ?_
  have c39 := b35.grown g38
  have o9 := o9.chg c39 (by omega)
  have b17 := b17.chg c39 (by omega)
  have o28 := o28.chg c39 (by omega)
  have h32 := h32.chg c39 (by omega)
  have E : Ext w w37 := Chg.below c39 E (by omega) (Nat.le_refl _)
  have EU14 : Ext w10 w37 := Chg.below c39 EU14 (by omega) (Nat.le_refl _)
  have sc39 := c39.size
  have b35 : BxR w37 _ _ _ _ _ := ⟨b35N, b35.top⟩
  clear b35N
  refine Bx.get b35.own u_impl_Interval rfl i_impl_Interval hl41 ?_
  refine Bx.get b17.own u_impl_Interval rfl i_impl_Interval hl23 ?_
  refine c_eq_Interval h32.I (h13.ext EU14) fun w43 e44 => ?_
  have o9 := o9.ext e44
  have b17 := b17.ext e44
  have o28 := o28.ext e44
  have h32 := h32.ext e44
  have b35 := b35.ext e44
  have E := E.trans e44
  have EU14 := EU14.trans e44
  have se44 := e44.size
  rw [una_not, Bool.not_true]
  refine ⟨_, fun _ _ _ h => h, ?_⟩
  rw [grd_false_false]
  refine neq_no rfl ?_
  rw [pick_bool, cond_false]
  rw [cnd_false]
  refine c_to_IntervalS (hA_box.ext E) hs_box fun v47 w45 e46 o48 => ?_
  have o9 := o9.ext e46
  have b17 := b17.ext e46
  have o28 := o28.ext e46
  have h32 := h32.ext e46
  have b35 := b35.ext e46
  have E := E.trans e46
  have EU14 := EU14.trans e46
  have se46 := e46.size
  refine c_eq_IntervalS o28.I o48.I fun w49 e50 => ?_
  have o9 := o9.ext e50
  have b17 := b17.ext e50
  have o28 := o28.ext e50
  have h32 := h32.ext e50
  have b35 := b35.ext e50
  have o48 := o48.ext e50
  have E := E.trans e50
  have EU14 := EU14.trans e50
  have se50 := e50.size
  rw [una_not, Bool.not_true]
  rw [cnd_false]
  exact H _ E

set_option maxRecDepth 100000 in
theorem VolumeOfBox_lifted (os : Os) (started : os.Started) (H : Type) (enc : TypeId × Value → H) :
    ReturnsInHanded {} Tryz.checked os f_laws_FnExactVolumeOfBox .any (Rows.fnExactVolumeOfBoxSpec.pre6 enc Tryz.prog Tryz.f8 Rows.fnExactVolumeOfBoxRow.domain false) (Rows.fnExactVolumeOfBoxSpec.post enc Tryz.prog Tryz.f8 false true false false) := by
  refine returnsInHanded_of_change (C := Tryz.checked) own started (by kernel_rfl) Tryz.func8
    (ChangeSpec.witness6 (enc := enc) (C := Tryz.checked) false ⟨#[], #[.slice none 0 0], []⟩ 8 (by kernel_rfl) (by kernel_rfl) (by kernel_rfl) (by kernel_rfl)) ?_
  intro W base args ds gs before hval0 hW hcnd _
  have hW' := hW
  obtain ⟨p, q, hA0, hV, rfl, hfz, hnd⟩ := hW
  have hA : DataW.TrodAll enc Tryz.prog W 0 (fun _ => true) true Tryz.f8.params.toList args.toList ds p := hA0
  rw [Tryz.params8] at hA
  obtain ⟨v0, vs0, d0, ds0, p0, q0, hargs0, rfl, rfl, h0, r0⟩ := trodAll_cons hA
  obtain ⟨rfl, rfl, rfl⟩ := trodAll_nil r0
  obtain rfl : args = #[v0] := by cases args; simp_all
  obtain ⟨rfl, rfl⟩ := trodVars_none hV
  have hval : ∀ (j : Nat) t v, Tryz.f8.params[j]? = some t → (#[v0] : Array Value)[j]? = some v → Value.okWide Tryz.prog W .any base t v := hval0
  rw [Tryz.params8] at hval
  obtain ⟨a0, len0, cap0, rfl⟩ := okWide_slice u_s_laws_Interval (hval 0 t_s_laws_Interval v0 rfl rfl)
  have k0 := h0
  have lt0 : ∀ x ∈ p0, x.block < W.heap.size := by obtain ⟨m, hm⟩ := k0; exact DataW.trod_lt m _ _ _ hm
  obtain ⟨box, hA_box⟩ : ∃ box, A_IntervalS W (.slice a0 len0 cap0) box := by
    obtain ⟨fuel, hf⟩ := h0
    exact open_IntervalS hf
  clear hval0 hval
  refine (calls_of Tryz.func8 (by kernel_rfl) (by kernel_rfl) (law_VolumeOfBox (K := fun v w' => v = .bool true ∧ Ext (Vc.N W) w') hA_box.N fun w' he => ⟨rfl, he⟩)).mono ?_
  rintro e W' ⟨v, rfl, rfl, he⟩
  have bel := below_N he
  exact ⟨_, rfl, _, _, _, [], _, [], hW', trodAll_mk1 (shut_bool u_bool _), (trodAll_cons_mk (Below.trod laidOut (by kernel_rfl) (of_decide_eq_true (by kernel_rfl)) k0 bel lt0) trodAll_mk0), rfl, bel.frame _, fun h => by cases h⟩

theorem VolumeOfBox_holds : Rows.FnExactVolumeOfBoxSaid :=
  OpenClaim.holds_of_wide 8 Tryz.f8 rfl rfl rfl rfl rfl rfl rfl ⟨rfl, rfl, rfl, rfl, rfl⟩ rfl rfl rfl rfl rfl (by kernel_rfl) Tryz.func8 joined_FnExactVolumeOfBox
    (of_decide_eq_true (by kernel_rfl)) (by unfold Func.isWrapper; first | (rw [if_pos (by decide +kernel)]; kernel_rfl) | (rw [if_neg (by decide +kernel)]; exact ⟨rfl, rfl⟩))
    (fun os started H enc _ => VolumeOfBox_lifted os started H enc)

end Go.Proofs.YtabgkpfcpncmhaaGreat
