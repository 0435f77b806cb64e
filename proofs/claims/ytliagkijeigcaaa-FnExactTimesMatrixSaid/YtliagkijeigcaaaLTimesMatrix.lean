/- The program's TimesMatrix returns what the reference's returns, for all arguments, changes no argument and shares no memory. No condition. -/
import Derived.Test.YtliagkijeigcaaaRows
import Derived.Test.YtliagkijeigcaaaR1
import Derived.Test.YtliagkijeigcaaaS1
set_option linter.unusedVariables false
namespace Go.Proofs.Ytliagkijeigcaaa
open Go Go.Vc
open Go.ChangeShapes Go.WideShapes Go.ChangeAt Go.RowKit

theorem law_TimesMatrix {w : World} {K : Value → World → Prop} {v_m : Value} {m : List (List Nat)} (hA_m : A_Float32SS w v_m m) {v_b : Value} {b : List (List Nat)} (hA_b : A_Float32SS w v_b b) (H : ∀ w', Ext w w' → K (.bool true) w') : call P f_laws_FnExactTimesMatrix [v_m, v_b] w K := by
  refine I_laws_FnExactTimesMatrix ?_
  unfold D_laws_FnExactTimesMatrix
  have E := Ext.refl w
  refine c_sz_Float32SS (hA_m.ext E) (by omega) (by omega) fun r3 w1 e2 hr4 => ?_
  have E := E.trans e2
  have se2 := e2.size
  rw [bin_lss]
  refine cnd_dec (fun _ => H _ E) (fun hz5 => ?_)
  refine c_sz_Float32SS (hA_b.ext E) (by omega) (by omega) fun r8 w6 e7 hr9 => ?_
  have E := E.trans e7
  have se7 := e7.size
  rw [bin_lss]
  refine cnd_dec (fun _ => H _ E) (fun hz10 => ?_)
  have hs_m : sz_Float32SS m ≤ 1048576 := by omega
  have hc_m := cnt_sz_Float32SS m
  have hs_b : sz_Float32SS b ≤ 1048576 := by omega
  have hc_b := cnt_sz_Float32SS b
  have hr_0 := small_TimesMatrix_0 m b
  refine c_to_Float32SS (hA_m.ext E) hs_m fun v13 w11 e12 o14 => ?_
  have E := E.trans e12
  have se12 := e12.size
  refine c_to_Float32SS (hA_b.ext E) hs_b fun v17 w15 e16 o18 => ?_
  have o14 := o14.ext e16
  have E := E.trans e16
  have se16 := e16.size
  refine s_TimesMatrix o14.I o18.I fun u21 w19 e20 h22 => ?_
  have o14 := o14.ext e20
  have o18 := o18.ext e20
  have E := E.trans e20
  have se20 := e20.size
  have EU23 := Ext.refl w19
  rw [xtr_0]
  rw [xtr_1]
  refine c_to_Float32SS (hA_m.ext E) hs_m fun v26 w24 e25 o27 => ?_
  have o14 := o14.ext e25
  have o18 := o18.ext e25
  have E := E.trans e25
  have EU23 := EU23.trans e25
  have se25 := e25.size
  refine c_to_Float32SS (hA_b.ext E) hs_b fun v30 w28 e29 o31 => ?_
  have o14 := o14.ext e29
  have o18 := o18.ext e29
  have o27 := o27.ext e29
  have E := E.trans e29
  have EU23 := EU23.trans e29
  have se29 := e29.size
  refine p_TimesMatrix o27.I o31.I fun u34 w32 e33 h35 => ?_
  have o14 := o14.ext e33
  have o18 := o18.ext e33
  have o27 := o27.ext e33
  have o31 := o31.ext e33
  have E := E.trans e33
  have EU23 := EU23.trans e33
  have se33 := e33.size
  rw [xtr_0]
  rw [xtr_1]
  refine c_eq_Float32SS h35.I (h22.ext EU23) fun w36 e37 => ?_
  have o14 := o14.ext e37
  have o18 := o18.ext e37
  have o27 := o27.ext e37
  have o31 := o31.ext e37
  have h35 := h35.ext e37
  have E := E.trans e37
  have EU23 := EU23.trans e37
  have se37 := e37.size
  rw [una_not, Bool.not_true]
  refine ⟨_, fun _ _ _ h => h, ?_⟩
  rw [grd_false_false]
  refine neq_no rfl ?_
  rw [pick_bool, cond_false]
  rw [cnd_false]
  refine c_to_Float32SS (hA_m.ext E) hs_m fun v40 w38 e39 o41 => ?_
  have o14 := o14.ext e39
  have o18 := o18.ext e39
  have o27 := o27.ext e39
  have o31 := o31.ext e39
  have h35 := h35.ext e39
  have E := E.trans e39
  have EU23 := EU23.trans e39
  have se39 := e39.size
  refine c_eq_Float32SS o27.I o41.I fun w42 e43 => ?_
  have o14 := o14.ext e43
  have o18 := o18.ext e43
  have o27 := o27.ext e43
  have o31 := o31.ext e43
  have h35 := h35.ext e43
  have o41 := o41.ext e43
  have E := E.trans e43
  have EU23 := EU23.trans e43
  have se43 := e43.size
  rw [una_not, Bool.not_true]
  rw [cnd_false]
  refine c_to_Float32SS (hA_b.ext E) hs_b fun v46 w44 e45 o47 => ?_
  have o14 := o14.ext e45
  have o18 := o18.ext e45
  have o27 := o27.ext e45
  have o31 := o31.ext e45
  have h35 := h35.ext e45
  have o41 := o41.ext e45
  have E := E.trans e45
  have EU23 := EU23.trans e45
  have se45 := e45.size
  refine c_eq_Float32SS o31.I o47.I fun w48 e49 => ?_
  have o14 := o14.ext e49
  have o18 := o18.ext e49
  have o27 := o27.ext e49
  have o31 := o31.ext e49
  have h35 := h35.ext e49
  have o41 := o41.ext e49
  have o47 := o47.ext e49
  have E := E.trans e49
  have EU23 := EU23.trans e49
  have se49 := e49.size
  rw [una_not, Bool.not_true]
  rw [cnd_false]
  refine c_mark_Float32SS o27 (by omega) (by omega) fun w50 o27N c51 => ?_
  have o14 := o14.chg c51 (by omega)
  have o18 := o18.chg c51 (by omega)
  have o31 := o31.chg c51 (by omega)
  have h35 := h35.chg c51 (by omega)
  have o41 := o41.chg c51 (by omega)
  have o47 := o47.chg c51 (by omega)
  have E : Ext w w50 := Chg.below c51 E (by omega) (Nat.le_refl _)
  have EU23 : Ext w19 w50 := Chg.below c51 EU23 (by omega) (Nat.le_refl _)
  have sc51 := c51.size
  have o27 := o27N
  clear o27N
  refine c_mark_Float32SS o31 (by omega) (by omega) fun w52 o31N c53 => ?_
  have o14 := o14.chg c53 (by omega)
  have o18 := o18.chg c53 (by omega)
  have o27 := o27.chg c53 (by omega)
  have h35 := h35.chg c53 (by omega)
  have o41 := o41.chg c53 (by omega)
  have o47 := o47.chg c53 (by omega)
  have E : Ext w w52 := Chg.below c53 E (by omega) (Nat.le_refl _)
  have EU23 : Ext w19 w52 := Chg.below c53 EU23 (by omega) (Nat.le_refl _)
  have sc53 := c53.size
  have o31 := o31N
  clear o31N
  refine lss_no (by omega) ?_
  refine ⟨_, fun _ _ _ h => h, ?_⟩
  rw [grd_false_false]
  refine c_eq_Float32SS h35.I (h22.ext EU23) fun w54 e55 => ?_
  have o14 := o14.ext e55
  have o18 := o18.ext e55
  have o27 := o27.ext e55
  have o31 := o31.ext e55
  have h35 := h35.ext e55
  have o41 := o41.ext e55
  have o47 := o47.ext e55
  have E := E.trans e55
  have EU23 := EU23.trans e55
  have se55 := e55.size
  rw [una_not, Bool.not_true]
  rw [pick_bool, cond_false]
  refine ⟨_, fun _ _ _ h => h, ?_⟩
  rw [grd_false_false]
  refine neq_no rfl ?_
  rw [pick_bool, cond_false]
  rw [cnd_false]
  refine c_mark_Float32SS h35 (by omega) (by omega) fun w56 h35N c57 => ?_
  have o14 := o14.chg c57 (by omega)
  have o18 := o18.chg c57 (by omega)
  have o27 := o27.chg c57 (by omega)
  have o31 := o31.chg c57 (by omega)
  have o41 := o41.chg c57 (by omega)
  have o47 := o47.chg c57 (by omega)
  have E : Ext w w56 := Chg.below c57 E (by omega) (Nat.le_refl _)
  have EU23 : Ext w19 w56 := Chg.below c57 EU23 (by omega) (Nat.le_refl _)
  have sc57 := c57.size
  have h35 := h35N
  clear h35N
  refine c_held_Float32SS h35.I (by omega) (by omega) fun w58 e59 => ?_
  have o14 := o14.ext e59
  have o18 := o18.ext e59
  have o27 := o27.ext e59
  have o31 := o31.ext e59
  have h35 := h35.ext e59
  have o41 := o41.ext e59
  have o47 := o47.ext e59
  have E := E.trans e59
  have EU23 := EU23.trans e59
  have se59 := e59.size
  refine lss_no (by omega) ?_
  rw [cnd_false]
  refine neq_no (by omega) ?_
  rw [cnd_false]
  refine c_to_Float32SS (hA_m.ext E) hs_m fun v62 w60 e61 o63 => ?_
  have o14 := o14.ext e61
  have o18 := o18.ext e61
  have o27 := o27.ext e61
  have o31 := o31.ext e61
  have h35 := h35.ext e61
  have o41 := o41.ext e61
  have o47 := o47.ext e61
  have E := E.trans e61
  have EU23 := EU23.trans e61
  have se61 := e61.size
  refine c_to_Float32SS (hA_b.ext E) hs_b fun v66 w64 e65 o67 => ?_
  have o14 := o14.ext e65
  have o18 := o18.ext e65
  have o27 := o27.ext e65
  have o31 := o31.ext e65
  have h35 := h35.ext e65
  have o41 := o41.ext e65
  have o47 := o47.ext e65
  have o63 := o63.ext e65
  have E := E.trans e65
  have EU23 := EU23.trans e65
  have se65 := e65.size
  refine p_TimesMatrix o63.I o67.I fun u70 w68 e69 h71 => ?_
  have o14 := o14.ext e69
  have o18 := o18.ext e69
  have o27 := o27.ext e69
  have o31 := o31.ext e69
  have h35 := h35.ext e69
  have o41 := o41.ext e69
  have o47 := o47.ext e69
  have o63 := o63.ext e69
  have o67 := o67.ext e69
  have E := E.trans e69
  have EU23 := EU23.trans e69
  have se69 := e69.size
  rw [xtr_0]
  rw [xtr_1]
  refine c_eq_Float32SS h71.I (h22.ext EU23) fun w72 e73 => ?_
  have o14 := o14.ext e73
  have o18 := o18.ext e73
  have o27 := o27.ext e73
  have o31 := o31.ext e73
  have h35 := h35.ext e73
  have o41 := o41.ext e73
  have o47 := o47.ext e73
  have o63 := o63.ext e73
  have o67 := o67.ext e73
  have h71 := h71.ext e73
  have E := E.trans e73
  have EU23 := EU23.trans e73
  have se73 := e73.size
  rw [una_not, Bool.not_true]
  refine ⟨_, fun _ _ _ h => h, ?_⟩
  rw [grd_false_false]
  refine neq_no rfl ?_
  rw [pick_bool, cond_false]
  rw [cnd_false]
  refine c_held_Float32SS h35.I (by omega) (by omega) fun w74 e75 => ?_
  have o14 := o14.ext e75
  have o18 := o18.ext e75
  have o27 := o27.ext e75
  have o31 := o31.ext e75
  have h35 := h35.ext e75
  have o41 := o41.ext e75
  have o47 := o47.ext e75
  have o63 := o63.ext e75
  have o67 := o67.ext e75
  have h71 := h71.ext e75
  have E := E.trans e75
  have EU23 := EU23.trans e75
  have se75 := e75.size
  refine lss_no (by omega) ?_
  rw [cnd_false]
  refine neq_no (by omega) ?_
  rw [cnd_false]
  exact H _ E

set_option maxRecDepth 100000 in
theorem TimesMatrix_lifted (os : Os) (started : os.Started) (H : Type) (enc : TypeId × Value → H) :
    ReturnsInHanded {} Try.checked os f_laws_FnExactTimesMatrix .any (Rows.fnExactTimesMatrixSpec.pre6 enc Try.prog Try.f6 Rows.fnExactTimesMatrixRow.domain false) (Rows.fnExactTimesMatrixSpec.post enc Try.prog Try.f6 false true false false) := by
  refine returnsInHanded_of_change (C := Try.checked) own started (by kernel_rfl) Try.func6
    (ChangeSpec.witness6 (enc := enc) (C := Try.checked) false ⟨#[], #[.slice none 0 0, .slice none 0 0], []⟩ 8 (by kernel_rfl) (by kernel_rfl) (by kernel_rfl) (by kernel_rfl)) ?_
  intro W base args ds gs before hval0 hW hcnd _
  have hW' := hW
  obtain ⟨p, q, hA0, hV, rfl, hfz, hnd⟩ := hW
  have hA : DataW.TrodAll enc Try.prog W 0 (fun _ => true) true Try.f6.params.toList args.toList ds p := hA0
  rw [Try.params6] at hA
  obtain ⟨v0, vs0, d0, ds0, p0, q0, hargs0, rfl, rfl, h0, r0⟩ := trodAll_cons hA
  obtain ⟨v1, vs1, d1, ds1, p1, q1, hargs1, rfl, rfl, h1, r1⟩ := trodAll_cons r0
  obtain ⟨rfl, rfl, rfl⟩ := trodAll_nil r1
  obtain rfl : args = #[v0, v1] := by cases args; simp_all
  obtain ⟨rfl, rfl⟩ := trodVars_none hV
  have hval : ∀ (j : Nat) t v, Try.f6.params[j]? = some t → (#[v0, v1] : Array Value)[j]? = some v → Value.okWide Try.prog W .any base t v := hval0
  rw [Try.params6] at hval
  obtain ⟨a0, len0, cap0, rfl⟩ := okWide_slice u_s_s_float32 (hval 0 t_s_s_float32 v0 rfl rfl)
  have k0 := h0
  have lt0 : ∀ x ∈ p0, x.block < W.heap.size := by obtain ⟨m, hm⟩ := k0; exact DataW.trod_lt m _ _ _ hm
  obtain ⟨m, hA_m⟩ : ∃ m, A_Float32SS W (.slice a0 len0 cap0) m := by
    obtain ⟨fuel, hf⟩ := h0
    exact open_Float32SS hf
  obtain ⟨a1, len1, cap1, rfl⟩ := okWide_slice u_s_s_float32 (hval 1 t_s_s_float32 v1 rfl rfl)
  have k1 := h1
  have lt1 : ∀ x ∈ p1, x.block < W.heap.size := by obtain ⟨m, hm⟩ := k1; exact DataW.trod_lt m _ _ _ hm
  obtain ⟨b, hA_b⟩ : ∃ b, A_Float32SS W (.slice a1 len1 cap1) b := by
    obtain ⟨fuel, hf⟩ := h1
    exact open_Float32SS hf
  clear hval0 hval
  refine (calls_of Try.func6 (by kernel_rfl) (by kernel_rfl) (law_TimesMatrix (K := fun v w' => v = .bool true ∧ Ext (Vc.N W) w') hA_m.N hA_b.N fun w' he => ⟨rfl, he⟩)).mono ?_
  rintro e W' ⟨v, rfl, rfl, he⟩
  have bel := below_N he
  exact ⟨_, rfl, _, _, _, [], _, [], hW', trodAll_mk1 (shut_bool u_bool _), (trodAll_cons_mk (Below.trod laidOut (by kernel_rfl) (of_decide_eq_true (by kernel_rfl)) k0 bel lt0) (trodAll_cons_mk (Below.trod laidOut (by kernel_rfl) (of_decide_eq_true (by kernel_rfl)) k1 bel lt1) trodAll_mk0)), rfl, bel.frame _, fun h => by cases h⟩

theorem TimesMatrix_holds : Rows.FnExactTimesMatrixSaid :=
  OpenClaim.holds_of_wide 6 Try.f6 rfl rfl rfl rfl rfl rfl rfl ⟨rfl, rfl, rfl, rfl, rfl⟩ rfl rfl rfl rfl rfl (by kernel_rfl) Try.func6 (by kernel_rfl)
    (of_decide_eq_true (by kernel_rfl)) (by unfold Func.isWrapper; first | (rw [if_pos (by decide +kernel)]; kernel_rfl) | (rw [if_neg (by decide +kernel)]; exact ⟨rfl, rfl⟩))
    (fun os started H enc _ => TimesMatrix_lifted os started H enc)

end Go.Proofs.Ytliagkijeigcaaa
