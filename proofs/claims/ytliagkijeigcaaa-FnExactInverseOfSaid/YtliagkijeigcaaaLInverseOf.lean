/- The program's InverseOf returns what the reference's returns, for all arguments, changes no argument and shares no memory. No condition. -/
import Derived.Test.YtliagkijeigcaaaRows
import Derived.Test.YtliagkijeigcaaaR1
import Derived.Test.YtliagkijeigcaaaS5
set_option linter.unusedVariables false
namespace Go.Proofs.Ytliagkijeigcaaa
open Go Go.Vc
open Go.ChangeShapes Go.WideShapes Go.ChangeAt Go.RowKit

theorem law_InverseOf {w : World} {K : Value → World → Prop} {v_m : Value} {m : List (List Nat)} (hA_m : A_Float32SS w v_m m) (H : ∀ w', Ext w w' → K (.bool true) w') : call P f_laws_FnExactInverseOf [v_m] w K := by
  refine I_laws_FnExactInverseOf ?_
  unfold D_laws_FnExactInverseOf
  have E := Ext.refl w
  refine c_sz_Float32SS (hA_m.ext E) (by omega) (by omega) fun r3 w1 e2 hr4 => ?_
  have E := E.trans e2
  have se2 := e2.size
  rw [bin_lss]
  refine cnd_dec (fun _ => H _ E) (fun hz5 => ?_)
  have hs_m : sz_Float32SS m ≤ 1048576 := by omega
  have hc_m := cnt_sz_Float32SS m
  have hr_0 := small_InverseOf_0 m
  refine c_to_Float32SS (hA_m.ext E) hs_m fun v8 w6 e7 o9 => ?_
  have E := E.trans e7
  have se7 := e7.size
  refine s_InverseOf o9.I fun u12 w10 e11 h13 => ?_
  have o9 := o9.ext e11
  have E := E.trans e11
  have se11 := e11.size
  have EU14 := Ext.refl w10
  rw [xtr_0]
  rw [xtr_1]
  refine c_to_Float32SS (hA_m.ext E) hs_m fun v17 w15 e16 o18 => ?_
  have o9 := o9.ext e16
  have E := E.trans e16
  have EU14 := EU14.trans e16
  have se16 := e16.size
  refine p_InverseOf o18.I fun u21 w19 e20 h22 => ?_
  have o9 := o9.ext e20
  have o18 := o18.ext e20
  have E := E.trans e20
  have EU14 := EU14.trans e20
  have se20 := e20.size
  rw [xtr_0]
  rw [xtr_1]
  refine c_eq_Float32SS h22.I (h13.ext EU14) fun w23 e24 => ?_
  have o9 := o9.ext e24
  have o18 := o18.ext e24
  have h22 := h22.ext e24
  have E := E.trans e24
  have EU14 := EU14.trans e24
  have se24 := e24.size
  rw [una_not, Bool.not_true]
  refine ⟨_, fun _ _ _ h => h, ?_⟩
  rw [grd_false_false]
  refine neq_no rfl ?_
  rw [pick_bool, cond_false]
  rw [cnd_false]
  refine c_to_Float32SS (hA_m.ext E) hs_m fun v27 w25 e26 o28 => ?_
  have o9 := o9.ext e26
  have o18 := o18.ext e26
  have h22 := h22.ext e26
  have E := E.trans e26
  have EU14 := EU14.trans e26
  have se26 := e26.size
  refine c_eq_Float32SS o18.I o28.I fun w29 e30 => ?_
  have o9 := o9.ext e30
  have o18 := o18.ext e30
  have h22 := h22.ext e30
  have o28 := o28.ext e30
  have E := E.trans e30
  have EU14 := EU14.trans e30
  have se30 := e30.size
  rw [una_not, Bool.not_true]
  rw [cnd_false]
  refine c_mark_Float32SS o18 (by omega) (by omega) fun w31 o18N c32 => ?_
  have o9 := o9.chg c32 (by omega)
  have h22 := h22.chg c32 (by omega)
  have o28 := o28.chg c32 (by omega)
  have E : Ext w w31 := Chg.below c32 E (by omega) (Nat.le_refl _)
  have EU14 : Ext w10 w31 := Chg.below c32 EU14 (by omega) (Nat.le_refl _)
  have sc32 := c32.size
  have o18 := o18N
  clear o18N
  refine lss_no (by omega) ?_
  refine ⟨_, fun _ _ _ h => h, ?_⟩
  rw [grd_false_false]
  refine c_eq_Float32SS h22.I (h13.ext EU14) fun w33 e34 => ?_
  have o9 := o9.ext e34
  have o18 := o18.ext e34
  have h22 := h22.ext e34
  have o28 := o28.ext e34
  have E := E.trans e34
  have EU14 := EU14.trans e34
  have se34 := e34.size
  rw [una_not, Bool.not_true]
  rw [pick_bool, cond_false]
  refine ⟨_, fun _ _ _ h => h, ?_⟩
  rw [grd_false_false]
  refine neq_no rfl ?_
  rw [pick_bool, cond_false]
  rw [cnd_false]
  refine c_mark_Float32SS h22 (by omega) (by omega) fun w35 h22N c36 => ?_
  have o9 := o9.chg c36 (by omega)
  have o18 := o18.chg c36 (by omega)
  have o28 := o28.chg c36 (by omega)
  have E : Ext w w35 := Chg.below c36 E (by omega) (Nat.le_refl _)
  have EU14 : Ext w10 w35 := Chg.below c36 EU14 (by omega) (Nat.le_refl _)
  have sc36 := c36.size
  have h22 := h22N
  clear h22N
  refine c_held_Float32SS h22.I (by omega) (by omega) fun w37 e38 => ?_
  have o9 := o9.ext e38
  have o18 := o18.ext e38
  have h22 := h22.ext e38
  have o28 := o28.ext e38
  have E := E.trans e38
  have EU14 := EU14.trans e38
  have se38 := e38.size
  refine lss_no (by omega) ?_
  rw [cnd_false]
  refine neq_no (by omega) ?_
  rw [cnd_false]
  refine c_to_Float32SS (hA_m.ext E) hs_m fun v41 w39 e40 o42 => ?_
  have o9 := o9.ext e40
  have o18 := o18.ext e40
  have h22 := h22.ext e40
  have o28 := o28.ext e40
  have E := E.trans e40
  have EU14 := EU14.trans e40
  have se40 := e40.size
  refine p_InverseOf o42.I fun u45 w43 e44 h46 => ?_
  have o9 := o9.ext e44
  have o18 := o18.ext e44
  have h22 := h22.ext e44
  have o28 := o28.ext e44
  have o42 := o42.ext e44
  have E := E.trans e44
  have EU14 := EU14.trans e44
  have se44 := e44.size
  rw [xtr_0]
  rw [xtr_1]
  refine c_eq_Float32SS h46.I (h13.ext EU14) fun w47 e48 => ?_
  have o9 := o9.ext e48
  have o18 := o18.ext e48
  have h22 := h22.ext e48
  have o28 := o28.ext e48
  have o42 := o42.ext e48
  have h46 := h46.ext e48
  have E := E.trans e48
  have EU14 := EU14.trans e48
  have se48 := e48.size
  rw [una_not, Bool.not_true]
  refine ⟨_, fun _ _ _ h => h, ?_⟩
  rw [grd_false_false]
  refine neq_no rfl ?_
  rw [pick_bool, cond_false]
  rw [cnd_false]
  refine c_held_Float32SS h22.I (by omega) (by omega) fun w49 e50 => ?_
  have o9 := o9.ext e50
  have o18 := o18.ext e50
  have h22 := h22.ext e50
  have o28 := o28.ext e50
  have o42 := o42.ext e50
  have h46 := h46.ext e50
  have E := E.trans e50
  have EU14 := EU14.trans e50
  have se50 := e50.size
  refine lss_no (by omega) ?_
  rw [cnd_false]
  refine neq_no (by omega) ?_
  rw [cnd_false]
  exact H _ E

set_option maxRecDepth 100000 in
theorem InverseOf_lifted (os : Os) (started : os.Started) (H : Type) (enc : TypeId × Value → H) :
    ReturnsInHanded {} Try.checked os f_laws_FnExactInverseOf .any (Rows.fnExactInverseOfSpec.pre6 enc Try.prog Try.f9 Rows.fnExactInverseOfRow.domain false) (Rows.fnExactInverseOfSpec.post enc Try.prog Try.f9 false true false false) := by
  refine returnsInHanded_of_change (C := Try.checked) own started (by kernel_rfl) Try.func9
    (ChangeSpec.witness6 (enc := enc) (C := Try.checked) false ⟨#[], #[.slice none 0 0], []⟩ 8 (by kernel_rfl) (by kernel_rfl) (by kernel_rfl) (by kernel_rfl)) ?_
  intro W base args ds gs before hval0 hW hcnd _
  have hW' := hW
  obtain ⟨p, q, hA0, hV, rfl, hfz, hnd⟩ := hW
  have hA : DataW.TrodAll enc Try.prog W 0 (fun _ => true) true Try.f9.params.toList args.toList ds p := hA0
  rw [Try.params9] at hA
  obtain ⟨v0, vs0, d0, ds0, p0, q0, hargs0, rfl, rfl, h0, r0⟩ := trodAll_cons hA
  obtain ⟨rfl, rfl, rfl⟩ := trodAll_nil r0
  obtain rfl : args = #[v0] := by cases args; simp_all
  obtain ⟨rfl, rfl⟩ := trodVars_none hV
  have hval : ∀ (j : Nat) t v, Try.f9.params[j]? = some t → (#[v0] : Array Value)[j]? = some v → Value.okWide Try.prog W .any base t v := hval0
  rw [Try.params9] at hval
  obtain ⟨a0, len0, cap0, rfl⟩ := okWide_slice u_s_s_float32 (hval 0 t_s_s_float32 v0 rfl rfl)
  have k0 := h0
  have lt0 : ∀ x ∈ p0, x.block < W.heap.size := by obtain ⟨m, hm⟩ := k0; exact DataW.trod_lt m _ _ _ hm
  obtain ⟨m, hA_m⟩ : ∃ m, A_Float32SS W (.slice a0 len0 cap0) m := by
    obtain ⟨fuel, hf⟩ := h0
    exact open_Float32SS hf
  clear hval0 hval
  refine (calls_of Try.func9 (by kernel_rfl) (by kernel_rfl) (law_InverseOf (K := fun v w' => v = .bool true ∧ Ext (Vc.N W) w') hA_m.N fun w' he => ⟨rfl, he⟩)).mono ?_
  rintro e W' ⟨v, rfl, rfl, he⟩
  have bel := below_N he
  exact ⟨_, rfl, _, _, _, [], _, [], hW', trodAll_mk1 (shut_bool u_bool _), (trodAll_cons_mk (Below.trod laidOut (by kernel_rfl) (of_decide_eq_true (by kernel_rfl)) k0 bel lt0) trodAll_mk0), rfl, bel.frame _, fun h => by cases h⟩

theorem InverseOf_holds : Rows.FnExactInverseOfSaid :=
  OpenClaim.holds_of_wide 9 Try.f9 rfl rfl rfl rfl rfl rfl rfl ⟨rfl, rfl, rfl, rfl, rfl⟩ rfl rfl rfl rfl rfl (by kernel_rfl) Try.func9 (by kernel_rfl)
    (of_decide_eq_true (by kernel_rfl)) (by unfold Func.isWrapper; first | (rw [if_pos (by decide +kernel)]; kernel_rfl) | (rw [if_neg (by decide +kernel)]; exact ⟨rfl, rfl⟩))
    (fun os started H enc _ => InverseOf_lifted os started H enc)

end Go.Proofs.Ytliagkijeigcaaa
