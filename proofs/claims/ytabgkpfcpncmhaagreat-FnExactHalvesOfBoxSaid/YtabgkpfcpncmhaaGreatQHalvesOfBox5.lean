import Derived.Test.YtabgkpfcpncmhaaGreatRows
import Derived.Test.YtabgkpfcpncmhaaGreatQHalvesOfBox4
set_option linter.unusedSimpArgs false
set_option linter.unusedVariables false
/- The program's HalvesOfBox returns what the reference's returns, for all arguments, changes no argument and shares no memory. No condition. -/
set_option linter.unusedVariables false
namespace Go.Proofs.YtabgkpfcpncmhaaGreat
open Go Go.Vc
open Go.ChangeShapes Go.WideShapes Go.ChangeAt Go.RowKit

set_option maxRecDepth 20000 in
theorem law_HalvesOfBox {w : World} {K : Value → World → Prop} {v_box : Value} {box : List IV} (hA_box : A_IntervalS w v_box box) (H : ∀ w', Ext w w' → K (.bool true) w') : call P f_laws_FnExactHalvesOfBox [v_box] w K := by
  refine I_laws_FnExactHalvesOfBox ?_
  unfold D_laws_FnExactHalvesOfBox
  have E := Ext.refl w
  refine c_sz_IntervalS (hA_box.ext E) (by omega) (by omega) fun r3 w1 e2 hr4 => ?_
  have E := E.trans e2
  have se2 := e2.size
  rw [bin_lss]
  refine cnd_dec (fun _ => H _ E) (fun hz5 => ?_)
  have hs_box : sz_IntervalS box ≤ 1048576 := by omega
  have hc_box := cnt_sz_IntervalS box
  have hr_0 := small_HalvesOfBox_0 box
  have hr_1 := small_HalvesOfBox_1 box
  refine c_to_IntervalS (hA_box.ext E) hs_box fun v8 w6 e7 o9 => ?_
  have E := E.trans e7
  have se7 := e7.size
  refine s_HalvesOfBox o9.I fun u12 u14 w10 e11 h13 h15 => ?_
  have o9 := o9.ext e11
  have E := E.trans e11
  have se11 := e11.size
  have EU16 := Ext.refl w10
  rw [xtr_0]
  rw [xtr_1]
  rw [xtr_2]
  refine c_to_IntervalS (hA_box.ext E) hs_box fun v19 w17 e18 o20 => ?_
  have o9 := o9.ext e18
  have E := E.trans e18
  have EU16 := EU16.trans e18
  have se18 := e18.size
  refine p_HalvesOfBox o20.I fun u23 u25 w21 e22 mid0 q27 q28 h24 h26 => ?_
  have o9 := o9.ext e22
  have o20 := o20.ext e22
  have E := E.trans e22
  have EU16 := EU16.trans e22
  have se22 := e22.size
  rw [xtr_0]
  rw [xtr_1]
  rw [xtr_2]
  refine c_eq_IntervalS h24.I (h13.ext EU16) fun w29 e30 => ?_
  have o9 := o9.ext e30
  have o20 := o20.ext e30
  have h24 := h24.ext e30
  have h26 := h26.ext e30
  have E := E.trans e30
  have EU16 := EU16.trans e30
  have se30 := e30.size
  rw [una_not, Bool.not_true]
  refine ⟨_, fun _ _ _ h => h, ?_⟩
  rw [grd_false_false]
  refine c_eq_IntervalS h26.I (h15.ext EU16) fun w31 e32 => ?_
  have o9 := o9.ext e32
  have o20 := o20.ext e32
  have h24 := h24.ext e32
  have h26 := h26.ext e32
  have E := E.trans e32
  have EU16 := EU16.trans e32
  have se32 := e32.size
  rw [una_not, Bool.not_true]
  rw [pick_bool, cond_false]
  refine ⟨_, fun _ _ _ h => h, ?_⟩
  rw [grd_false_false]
  refine neq_no rfl ?_
  rw [pick_bool, cond_false]
  rw [cnd_false]
  refine c_to_IntervalS (hA_box.ext E) hs_box fun v35 w33 e34 o36 => ?_
  have o9 := o9.ext e34
  have o20 := o20.ext e34
  have h24 := h24.ext e34
  have h26 := h26.ext e34
  have E := E.trans e34
  have EU16 := EU16.trans e34
  have se34 := e34.size
  refine c_eq_IntervalS o20.I o36.I fun w37 e38 => ?_
  have o9 := o9.ext e38
  have o20 := o20.ext e38
  have h24 := h24.ext e38
  have h26 := h26.ext e38
  have o36 := o36.ext e38
  have E := E.trans e38
  have EU16 := EU16.trans e38
  have se38 := e38.size
  rw [una_not, Bool.not_true]
  rw [cnd_false]
  refine c_mark_IntervalS o20 (by omega) (by omega) fun w39 o20N c40 => ?_
  have o9 := o9.chg c40 (by omega)
  have h24 := h24.chg c40 (by omega)
  have h26 := h26.chg c40 (by omega)
  have o36 := o36.chg c40 (by omega)
  have E : Ext w w39 := Chg.below c40 E (by omega) (Nat.le_refl _)
  have EU16 : Ext w10 w39 := Chg.below c40 EU16 (by omega) (Nat.le_refl _)
  have sc40 := c40.size
  have o20 := o20N
  clear o20N
  refine lss_no (by omega) ?_
  refine ⟨_, fun _ _ _ h => h, ?_⟩
  rw [grd_false_false]
  refine c_eq_IntervalS h24.I (h13.ext EU16) fun w41 e42 => ?_
  have o9 := o9.ext e42
  have o20 := o20.ext e42
  have h24 := h24.ext e42
  have h26 := h26.ext e42
  have o36 := o36.ext e42
  have E := E.trans e42
  have EU16 := EU16.trans e42
  have se42 := e42.size
  rw [una_not, Bool.not_true]
  rw [pick_bool, cond_false]
  refine ⟨_, fun _ _ _ h => h, ?_⟩
  rw [grd_false_false]
  refine c_eq_IntervalS h26.I (h15.ext EU16) fun w43 e44 => ?_
  have o9 := o9.ext e44
  have o20 := o20.ext e44
  have h24 := h24.ext e44
  have h26 := h26.ext e44
  have o36 := o36.ext e44
  have E := E.trans e44
  have EU16 := EU16.trans e44
  have se44 := e44.size
  rw [una_not, Bool.not_true]
  rw [pick_bool, cond_false]
  refine ⟨_, fun _ _ _ h => h, ?_⟩
  rw [grd_false_false]
  refine neq_no rfl ?_
  rw [pick_bool, cond_false]
  rw [cnd_false]
  refine c_mark_IntervalS h24 (by omega) (by omega) fun w45 h24N c46 => ?_
  have o9 := o9.chg c46 (by omega)
  have o20 := o20.chg c46 (by omega)
  have h26 := h26.chg c46 (by omega)
  have o36 := o36.chg c46 (by omega)
  have E : Ext w w45 := Chg.below c46 E (by omega) (Nat.le_refl _)
  have EU16 : Ext w10 w45 := Chg.below c46 EU16 (by omega) (Nat.le_refl _)
  have sc46 := c46.size
  have h24 := h24N
  clear h24N
  refine c_mark_IntervalS h26 (by omega) (by omega) fun w47 h26N c48 => ?_
  have o9 := o9.chg c48 (by omega)
  have o20 := o20.chg c48 (by omega)
  have h24 := h24.chg c48 (by omega)
  have o36 := o36.chg c48 (by omega)
  have E : Ext w w47 := Chg.below c48 E (by omega) (Nat.le_refl _)
  have EU16 : Ext w10 w47 := Chg.below c48 EU16 (by omega) (Nat.le_refl _)
  have sc48 := c48.size
  have h26 := h26N
  clear h26N
  refine c_held_IntervalS h24.I (by omega) (by omega) fun w49 e50 => ?_
  have o9 := o9.ext e50
  have o20 := o20.ext e50
  have h24 := h24.ext e50
  have h26 := h26.ext e50
  have o36 := o36.ext e50
  have E := E.trans e50
  have EU16 := EU16.trans e50
  have se50 := e50.size
  refine lss_no (by omega) ?_
  rw [cnd_false]
  refine c_held_IntervalS h26.I (by omega) (by omega) fun w51 e52 => ?_
  have o9 := o9.ext e52
  have o20 := o20.ext e52
  have h24 := h24.ext e52
  have h26 := h26.ext e52
  have o36 := o36.ext e52
  have E := E.trans e52
  have EU16 := EU16.trans e52
  have se52 := e52.size
  refine lss_no (by omega) ?_
  rw [cnd_false]
  refine neq_no (by omega) ?_
  rw [cnd_false]
  refine c_to_IntervalS (hA_box.ext E) hs_box fun v55 w53 e54 o56 => ?_
  have o9 := o9.ext e54
  have o20 := o20.ext e54
  have h24 := h24.ext e54
  have h26 := h26.ext e54
  have o36 := o36.ext e54
  have E := E.trans e54
  have EU16 := EU16.trans e54
  have se54 := e54.size
  refine p_HalvesOfBox o56.I fun u59 u61 w57 e58 mid0 q63 q64 h60 h62 => ?_
  have o9 := o9.ext e58
  have o20 := o20.ext e58
  have h24 := h24.ext e58
  have h26 := h26.ext e58
  have o36 := o36.ext e58
  have o56 := o56.ext e58
  have E := E.trans e58
  have EU16 := EU16.trans e58
  have se58 := e58.size
  rw [xtr_0]
  rw [xtr_1]
  rw [xtr_2]
  refine c_eq_IntervalS h60.I (h13.ext EU16) fun w65 e66 => ?_
  have o9 := o9.ext e66
  have o20 := o20.ext e66
  have h24 := h24.ext e66
  have h26 := h26.ext e66
  have o36 := o36.ext e66
  have o56 := o56.ext e66
  have h60 := h60.ext e66
  have h62 := h62.ext e66
  have E := E.trans e66
  have EU16 := EU16.trans e66
  have se66 := e66.size
  rw [una_not, Bool.not_true]
  refine ⟨_, fun _ _ _ h => h, ?_⟩
  rw [grd_false_false]
  refine c_eq_IntervalS h62.I (h15.ext EU16) fun w67 e68 => ?_
  have o9 := o9.ext e68
  have o20 := o20.ext e68
  have h24 := h24.ext e68
  have h26 := h26.ext e68
  have o36 := o36.ext e68
  have o56 := o56.ext e68
  have h60 := h60.ext e68
  have h62 := h62.ext e68
  have E := E.trans e68
  have EU16 := EU16.trans e68
  have se68 := e68.size
  rw [una_not, Bool.not_true]
  rw [pick_bool, cond_false]
  refine ⟨_, fun _ _ _ h => h, ?_⟩
  rw [grd_false_false]
  refine neq_no rfl ?_
  rw [pick_bool, cond_false]
  rw [cnd_false]
  refine c_held_IntervalS h24.I (by omega) (by omega) fun w69 e70 => ?_
  have o9 := o9.ext e70
  have o20 := o20.ext e70
  have h24 := h24.ext e70
  have h26 := h26.ext e70
  have o36 := o36.ext e70
  have o56 := o56.ext e70
  have h60 := h60.ext e70
  have h62 := h62.ext e70
  have E := E.trans e70
  have EU16 := EU16.trans e70
  have se70 := e70.size
  refine lss_no (by omega) ?_
  rw [cnd_false]
  refine c_held_IntervalS h26.I (by omega) (by omega) fun w71 e72 => ?_
  have o9 := o9.ext e72
  have o20 := o20.ext e72
  have h24 := h24.ext e72
  have h26 := h26.ext e72
  have o36 := o36.ext e72
  have o56 := o56.ext e72
  have h60 := h60.ext e72
  have h62 := h62.ext e72
  have E := E.trans e72
  have EU16 := EU16.trans e72
  have se72 := e72.size
  refine lss_no (by omega) ?_
  rw [cnd_false]
  refine neq_no (by omega) ?_
  rw [cnd_false]
  exact H _ E

set_option maxRecDepth 100000 in
theorem HalvesOfBox_lifted (os : Os) (started : os.Started) (H : Type) (enc : TypeId × Value → H) :
    ReturnsInHanded {} Tryz.checked os f_laws_FnExactHalvesOfBox .any (Rows.fnExactHalvesOfBoxSpec.pre6 enc Tryz.prog Tryz.f6 Rows.fnExactHalvesOfBoxRow.domain false) (Rows.fnExactHalvesOfBoxSpec.post enc Tryz.prog Tryz.f6 false true false false) := by
  refine returnsInHanded_of_change (C := Tryz.checked) own started (by kernel_rfl) Tryz.func6
    (ChangeSpec.witness6 (enc := enc) (C := Tryz.checked) false ⟨#[], #[.slice none 0 0], []⟩ 8 (by kernel_rfl) (by kernel_rfl) (by kernel_rfl) (by kernel_rfl)) ?_
  intro W base args ds gs before hval0 hW hcnd _
  have hW' := hW
  obtain ⟨p, q, hA0, hV, rfl, hfz, hnd⟩ := hW
  have hA : DataW.TrodAll enc Tryz.prog W 0 (fun _ => true) true Tryz.f6.params.toList args.toList ds p := hA0
  rw [Tryz.params6] at hA
  obtain ⟨v0, vs0, d0, ds0, p0, q0, hargs0, rfl, rfl, h0, r0⟩ := trodAll_cons hA
  obtain ⟨rfl, rfl, rfl⟩ := trodAll_nil r0
  obtain rfl : args = #[v0] := by cases args; simp_all
  obtain ⟨rfl, rfl⟩ := trodVars_none hV
  have hval : ∀ (j : Nat) t v, Tryz.f6.params[j]? = some t → (#[v0] : Array Value)[j]? = some v → Value.okWide Tryz.prog W .any base t v := hval0
  rw [Tryz.params6] at hval
  obtain ⟨a0, len0, cap0, rfl⟩ := okWide_slice u_s_laws_Interval (hval 0 t_s_laws_Interval v0 rfl rfl)
  have k0 := h0
  have lt0 : ∀ x ∈ p0, x.block < W.heap.size := by obtain ⟨m, hm⟩ := k0; exact DataW.trod_lt m _ _ _ hm
  obtain ⟨box, hA_box⟩ : ∃ box, A_IntervalS W (.slice a0 len0 cap0) box := by
    obtain ⟨fuel, hf⟩ := h0
    exact open_IntervalS hf
  clear hval0 hval
  refine (calls_of Tryz.func6 (by kernel_rfl) (by kernel_rfl) (law_HalvesOfBox (K := fun v w' => v = .bool true ∧ Ext (Vc.N W) w') hA_box.N fun w' he => ⟨rfl, he⟩)).mono ?_
  rintro e W' ⟨v, rfl, rfl, he⟩
  have bel := below_N he
  exact ⟨_, rfl, _, _, _, [], _, [], hW', trodAll_mk1 (shut_bool u_bool _), (trodAll_cons_mk (Below.trod laidOut (by kernel_rfl) (of_decide_eq_true (by kernel_rfl)) k0 bel lt0) trodAll_mk0), rfl, bel.frame _, fun h => by cases h⟩

theorem HalvesOfBox_holds : Rows.FnExactHalvesOfBoxSaid :=
  OpenClaim.holds_of_wide 6 Tryz.f6 rfl rfl rfl rfl rfl rfl rfl ⟨rfl, rfl, rfl, rfl, rfl⟩ rfl rfl rfl rfl rfl (by kernel_rfl) Tryz.func6 joined_FnExactHalvesOfBox
    (of_decide_eq_true (by kernel_rfl)) (by unfold Func.isWrapper; first | (rw [if_pos (by decide +kernel)]; kernel_rfl) | (rw [if_neg (by decide +kernel)]; exact ⟨rfl, rfl⟩))
    (fun os started H enc _ => HalvesOfBox_lifted os started H enc)

end Go.Proofs.YtabgkpfcpncmhaaGreat
