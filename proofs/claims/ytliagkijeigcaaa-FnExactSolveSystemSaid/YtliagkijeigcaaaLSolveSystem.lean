/- The program's SolveSystem returns what the reference's returns, for all arguments, changes no argument and shares no memory. No condition. -/
import Derived.Test.YtliagkijeigcaaaRows
import Derived.Test.YtliagkijeigcaaaR1
import Derived.Test.YtliagkijeigcaaaS4
set_option linter.unusedVariables false
namespace Go.Proofs.Ytliagkijeigcaaa
open Go Go.Vc
open Go.ChangeShapes Go.WideShapes Go.ChangeAt Go.RowKit

theorem law_SolveSystem {w : World} {K : Value → World → Prop} {v_m : Value} {m : List (List Nat)} (hA_m : A_Float32SS w v_m m) {v_x : Value} {x : List Nat} (hA_x : A_Float32S w v_x x) (H : ∀ w', Ext w w' → K (.bool true) w') : call P f_laws_FnExactSolveSystem [v_m, v_x] w K := by
  refine I_laws_FnExactSolveSystem ?_
  unfold D_laws_FnExactSolveSystem
  have E := Ext.refl w
  rw [len_Float32S (hA_x.ext E)]
  rw [bin_gtr]
  refine cnd_dec (fun _ => H _ E) (fun hz1 => ?_)
  refine c_sz_Float32SS (hA_m.ext E) (by omega) (by omega) fun r4 w2 e3 hr5 => ?_
  have E := E.trans e3
  have se3 := e3.size
  rw [bin_lss]
  refine cnd_dec (fun _ => H _ E) (fun hz6 => ?_)
  have hs_m : sz_Float32SS m ≤ 1048576 := by omega
  have hc_m := cnt_sz_Float32SS m
  have hs_x : sz_Float32S x ≤ 1048576 := by omega
  have hc_x := cnt_sz_Float32S x
  have hr_0 := small_SolveSystem_0 m x
  refine c_to_Float32SS (hA_m.ext E) hs_m fun v9 w7 e8 o10 => ?_
  have E := E.trans e8
  have se8 := e8.size
  refine c_to_Float32S (hA_x.ext E) hs_x fun v13 w11 e12 o14 => ?_
  have o10 := o10.ext e12
  have E := E.trans e12
  have se12 := e12.size
  refine s_SolveSystem o10.I o14.I fun u17 w15 e16 h18 => ?_
  have o10 := o10.ext e16
  have o14 := o14.ext e16
  have E := E.trans e16
  have se16 := e16.size
  have EU19 := Ext.refl w15
  rw [xtr_0]
  rw [xtr_1]
  refine c_to_Float32SS (hA_m.ext E) hs_m fun v22 w20 e21 o23 => ?_
  have o10 := o10.ext e21
  have o14 := o14.ext e21
  have E := E.trans e21
  have EU19 := EU19.trans e21
  have se21 := e21.size
  refine c_to_Float32S (hA_x.ext E) hs_x fun v26 w24 e25 o27 => ?_
  have o10 := o10.ext e25
  have o14 := o14.ext e25
  have o23 := o23.ext e25
  have E := E.trans e25
  have EU19 := EU19.trans e25
  have se25 := e25.size
  refine p_SolveSystem o23.I o27.I fun u30 w28 e29 h31 => ?_
  have o10 := o10.ext e29
  have o14 := o14.ext e29
  have o23 := o23.ext e29
  have o27 := o27.ext e29
  have E := E.trans e29
  have EU19 := EU19.trans e29
  have se29 := e29.size
  rw [xtr_0]
  rw [xtr_1]
  refine c_eq_Float32S h31.I (h18.ext EU19) fun w32 e33 => ?_
  have o10 := o10.ext e33
  have o14 := o14.ext e33
  have o23 := o23.ext e33
  have o27 := o27.ext e33
  have h31 := h31.ext e33
  have E := E.trans e33
  have EU19 := EU19.trans e33
  have se33 := e33.size
  rw [una_not, Bool.not_true]
  refine ⟨_, fun _ _ _ h => h, ?_⟩
  rw [grd_false_false]
  refine neq_no rfl ?_
  rw [pick_bool, cond_false]
  rw [cnd_false]
  refine c_to_Float32SS (hA_m.ext E) hs_m fun v36 w34 e35 o37 => ?_
  have o10 := o10.ext e35
  have o14 := o14.ext e35
  have o23 := o23.ext e35
  have o27 := o27.ext e35
  have h31 := h31.ext e35
  have E := E.trans e35
  have EU19 := EU19.trans e35
  have se35 := e35.size
  refine c_eq_Float32SS o23.I o37.I fun w38 e39 => ?_
  have o10 := o10.ext e39
  have o14 := o14.ext e39
  have o23 := o23.ext e39
  have o27 := o27.ext e39
  have h31 := h31.ext e39
  have o37 := o37.ext e39
  have E := E.trans e39
  have EU19 := EU19.trans e39
  have se39 := e39.size
  rw [una_not, Bool.not_true]
  rw [cnd_false]
  refine c_to_Float32S (hA_x.ext E) hs_x fun v42 w40 e41 o43 => ?_
  have o10 := o10.ext e41
  have o14 := o14.ext e41
  have o23 := o23.ext e41
  have o27 := o27.ext e41
  have h31 := h31.ext e41
  have o37 := o37.ext e41
  have E := E.trans e41
  have EU19 := EU19.trans e41
  have se41 := e41.size
  refine c_eq_Float32S o27.I o43.I fun w44 e45 => ?_
  have o10 := o10.ext e45
  have o14 := o14.ext e45
  have o23 := o23.ext e45
  have o27 := o27.ext e45
  have h31 := h31.ext e45
  have o37 := o37.ext e45
  have o43 := o43.ext e45
  have E := E.trans e45
  have EU19 := EU19.trans e45
  have se45 := e45.size
  rw [una_not, Bool.not_true]
  rw [cnd_false]
  refine c_mark_Float32SS o23 (by omega) (by omega) fun w46 o23N c47 => ?_
  have o10 := o10.chg c47 (by omega)
  have o14 := o14.chg c47 (by omega)
  have o27 := o27.chg c47 (by omega)
  have h31 := h31.chg c47 (by omega)
  have o37 := o37.chg c47 (by omega)
  have o43 := o43.chg c47 (by omega)
  have E : Ext w w46 := Chg.below c47 E (by omega) (Nat.le_refl _)
  have EU19 : Ext w15 w46 := Chg.below c47 EU19 (by omega) (Nat.le_refl _)
  have sc47 := c47.size
  have o23 := o23N
  clear o23N
  refine c_mark_Float32S o27 (by omega) (by omega) fun w48 o27N c49 => ?_
  have o10 := o10.chg c49 (by omega)
  have o14 := o14.chg c49 (by omega)
  have o23 := o23.chg c49 (by omega)
  have h31 := h31.chg c49 (by omega)
  have o37 := o37.chg c49 (by omega)
  have o43 := o43.chg c49 (by omega)
  have E : Ext w w48 := Chg.below c49 E (by omega) (Nat.le_refl _)
  have EU19 : Ext w15 w48 := Chg.below c49 EU19 (by omega) (Nat.le_refl _)
  have sc49 := c49.size
  have o27 := o27N
  clear o27N
  refine lss_no (by omega) ?_
  refine ⟨_, fun _ _ _ h => h, ?_⟩
  rw [grd_false_false]
  refine c_eq_Float32S h31.I (h18.ext EU19) fun w50 e51 => ?_
  have o10 := o10.ext e51
  have o14 := o14.ext e51
  have o23 := o23.ext e51
  have o27 := o27.ext e51
  have h31 := h31.ext e51
  have o37 := o37.ext e51
  have o43 := o43.ext e51
  have E := E.trans e51
  have EU19 := EU19.trans e51
  have se51 := e51.size
  rw [una_not, Bool.not_true]
  rw [pick_bool, cond_false]
  refine ⟨_, fun _ _ _ h => h, ?_⟩
  rw [grd_false_false]
  refine neq_no rfl ?_
  rw [pick_bool, cond_false]
  rw [cnd_false]
  refine c_mark_Float32S h31 (by omega) (by omega) fun w52 h31N c53 => ?_
  have o10 := o10.chg c53 (by omega)
  have o14 := o14.chg c53 (by omega)
  have o23 := o23.chg c53 (by omega)
  have o27 := o27.chg c53 (by omega)
  have o37 := o37.chg c53 (by omega)
  have o43 := o43.chg c53 (by omega)
  have E : Ext w w52 := Chg.below c53 E (by omega) (Nat.le_refl _)
  have EU19 : Ext w15 w52 := Chg.below c53 EU19 (by omega) (Nat.le_refl _)
  have sc53 := c53.size
  have h31 := h31N
  clear h31N
  refine c_held_Float32S h31.I (by omega) (by omega) fun w54 e55 => ?_
  have o10 := o10.ext e55
  have o14 := o14.ext e55
  have o23 := o23.ext e55
  have o27 := o27.ext e55
  have h31 := h31.ext e55
  have o37 := o37.ext e55
  have o43 := o43.ext e55
  have E := E.trans e55
  have EU19 := EU19.trans e55
  have se55 := e55.size
  refine lss_no (by omega) ?_
  rw [cnd_false]
  refine neq_no (by omega) ?_
  rw [cnd_false]
  refine c_to_Float32SS (hA_m.ext E) hs_m fun v58 w56 e57 o59 => ?_
  have o10 := o10.ext e57
  have o14 := o14.ext e57
  have o23 := o23.ext e57
  have o27 := o27.ext e57
  have h31 := h31.ext e57
  have o37 := o37.ext e57
  have o43 := o43.ext e57
  have E := E.trans e57
  have EU19 := EU19.trans e57
  have se57 := e57.size
  refine c_to_Float32S (hA_x.ext E) hs_x fun v62 w60 e61 o63 => ?_
  have o10 := o10.ext e61
  have o14 := o14.ext e61
  have o23 := o23.ext e61
  have o27 := o27.ext e61
  have h31 := h31.ext e61
  have o37 := o37.ext e61
  have o43 := o43.ext e61
  have o59 := o59.ext e61
  have E := E.trans e61
  have EU19 := EU19.trans e61
  have se61 := e61.size
  refine p_SolveSystem o59.I o63.I fun u66 w64 e65 h67 => ?_
  have o10 := o10.ext e65
  have o14 := o14.ext e65
  have o23 := o23.ext e65
  have o27 := o27.ext e65
  have h31 := h31.ext e65
  have o37 := o37.ext e65
  have o43 := o43.ext e65
  have o59 := o59.ext e65
  have o63 := o63.ext e65
  have E := E.trans e65
  have EU19 := EU19.trans e65
  have se65 := e65.size
  rw [xtr_0]
  rw [xtr_1]
  refine c_eq_Float32S h67.I (h18.ext EU19) fun w68 e69 => ?_
  have o10 := o10.ext e69
  have o14 := o14.ext e69
  have o23 := o23.ext e69
  have o27 := o27.ext e69
  have h31 := h31.ext e69
  have o37 := o37.ext e69
  have o43 := o43.ext e69
  have o59 := o59.ext e69
  have o63 := o63.ext e69
  have h67 := h67.ext e69
  have E := E.trans e69
  have EU19 := EU19.trans e69
  have se69 := e69.size
  rw [una_not, Bool.not_true]
  refine ⟨_, fun _ _ _ h => h, ?_⟩
  rw [grd_false_false]
  refine neq_no rfl ?_
  rw [pick_bool, cond_false]
  rw [cnd_false]
  refine c_held_Float32S h31.I (by omega) (by omega) fun w70 e71 => ?_
  have o10 := o10.ext e71
  have o14 := o14.ext e71
  have o23 := o23.ext e71
  have o27 := o27.ext e71
  have h31 := h31.ext e71
  have o37 := o37.ext e71
  have o43 := o43.ext e71
  have o59 := o59.ext e71
  have o63 := o63.ext e71
  have h67 := h67.ext e71
  have E := E.trans e71
  have EU19 := EU19.trans e71
  have se71 := e71.size
  refine lss_no (by omega) ?_
  rw [cnd_false]
  refine neq_no (by omega) ?_
  rw [cnd_false]
  exact H _ E

set_option maxRecDepth 100000 in
theorem SolveSystem_lifted (os : Os) (started : os.Started) (H : Type) (enc : TypeId × Value → H) :
    ReturnsInHanded {} Try.checked os f_laws_FnExactSolveSystem .any (Rows.fnExactSolveSystemSpec.pre6 enc Try.prog Try.f8 Rows.fnExactSolveSystemRow.domain false) (Rows.fnExactSolveSystemSpec.post enc Try.prog Try.f8 false true false false) := by
  refine returnsInHanded_of_change (C := Try.checked) own started (by kernel_rfl) Try.func8
    (ChangeSpec.witness6 (enc := enc) (C := Try.checked) false ⟨#[], #[.slice none 0 0, .slice none 0 0], []⟩ 8 (by kernel_rfl) (by kernel_rfl) (by kernel_rfl) (by kernel_rfl)) ?_
  intro W base args ds gs before hval0 hW hcnd _
  have hW' := hW
  obtain ⟨p, q, hA0, hV, rfl, hfz, hnd⟩ := hW
  have hA : DataW.TrodAll enc Try.prog W 0 (fun _ => true) true Try.f8.params.toList args.toList ds p := hA0
  rw [Try.params8] at hA
  obtain ⟨v0, vs0, d0, ds0, p0, q0, hargs0, rfl, rfl, h0, r0⟩ := trodAll_cons hA
  obtain ⟨v1, vs1, d1, ds1, p1, q1, hargs1, rfl, rfl, h1, r1⟩ := trodAll_cons r0
  obtain ⟨rfl, rfl, rfl⟩ := trodAll_nil r1
  obtain rfl : args = #[v0, v1] := by cases args; simp_all
  obtain ⟨rfl, rfl⟩ := trodVars_none hV
  have hval : ∀ (j : Nat) t v, Try.f8.params[j]? = some t → (#[v0, v1] : Array Value)[j]? = some v → Value.okWide Try.prog W .any base t v := hval0
  rw [Try.params8] at hval
  obtain ⟨a0, len0, cap0, rfl⟩ := okWide_slice u_s_s_float32 (hval 0 t_s_s_float32 v0 rfl rfl)
  have k0 := h0
  have lt0 : ∀ x ∈ p0, x.block < W.heap.size := by obtain ⟨m, hm⟩ := k0; exact DataW.trod_lt m _ _ _ hm
  obtain ⟨m, hA_m⟩ : ∃ m, A_Float32SS W (.slice a0 len0 cap0) m := by
    obtain ⟨fuel, hf⟩ := h0
    exact open_Float32SS hf
  obtain ⟨a1, len1, cap1, rfl⟩ := okWide_slice u_s_float32 (hval 1 t_s_float32 v1 rfl rfl)
  have k1 := h1
  have lt1 : ∀ x ∈ p1, x.block < W.heap.size := by obtain ⟨m, hm⟩ := k1; exact DataW.trod_lt m _ _ _ hm
  obtain ⟨x, hA_x⟩ : ∃ x, A_Float32S W (.slice a1 len1 cap1) x := by
    obtain ⟨fuel, hf⟩ := h1
    exact open_Float32S hf
  clear hval0 hval
  refine (calls_of Try.func8 (by kernel_rfl) (by kernel_rfl) (law_SolveSystem (K := fun v w' => v = .bool true ∧ Ext (Vc.N W) w') hA_m.N hA_x.N fun w' he => ⟨rfl, he⟩)).mono ?_
  rintro e W' ⟨v, rfl, rfl, he⟩
  have bel := below_N he
  exact ⟨_, rfl, _, _, _, [], _, [], hW', trodAll_mk1 (shut_bool u_bool _), (trodAll_cons_mk (Below.trod laidOut (by kernel_rfl) (of_decide_eq_true (by kernel_rfl)) k0 bel lt0) (trodAll_cons_mk (Below.trod laidOut (by kernel_rfl) (of_decide_eq_true (by kernel_rfl)) k1 bel lt1) trodAll_mk0)), rfl, bel.frame _, fun h => by cases h⟩

theorem SolveSystem_holds : Rows.FnExactSolveSystemSaid :=
  OpenClaim.holds_of_wide 8 Try.f8 rfl rfl rfl rfl rfl rfl rfl ⟨rfl, rfl, rfl, rfl, rfl⟩ rfl rfl rfl rfl rfl (by kernel_rfl) Try.func8 (by kernel_rfl)
    (of_decide_eq_true (by kernel_rfl)) (by unfold Func.isWrapper; first | (rw [if_pos (by decide +kernel)]; kernel_rfl) | (rw [if_neg (by decide +kernel)]; exact ⟨rfl, rfl⟩))
    (fun os started H enc _ => SolveSystem_lifted os started H enc)

end Go.Proofs.Ytliagkijeigcaaa
