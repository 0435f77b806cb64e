import Derived.Test.YtabgkpfcpncmhaaGreatRows
import Derived.Test.YtabgkpfcpncmhaaGreatQResidualOf4
set_option linter.unusedSimpArgs false
set_option linter.unusedVariables false
/- The program's ResidualOf returns what the reference's returns, for all arguments, changes no argument and shares no memory. No condition. -/
set_option linter.unusedVariables false
namespace Go.Proofs.YtabgkpfcpncmhaaGreat
open Go Go.Vc
open Go.ChangeShapes Go.WideShapes Go.ChangeAt Go.RowKit

set_option maxRecDepth 20000 in
theorem law_ResidualOf {w : World} {K : Value → World → Prop} {v_m : Value} {m : List (List Nat)} (hA_m : A_Float32SS w v_m m) {v_x : Value} {x : List Nat} (hA_x : A_Float32S w v_x x) {v_b : Value} {b : List Nat} (hA_b : A_Float32S w v_b b) (H : ∀ w', Ext w w' → K (.bool true) w') : call P f_laws_FnExactResidualOf [v_m, v_x, v_b] w K := by
  refine I_laws_FnExactResidualOf ?_
  unfold D_laws_FnExactResidualOf
  have E := Ext.refl w
  rw [len_Float32S (hA_x.ext E)]
  rw [bin_gtr]
  refine cnd_dec (fun _ => H _ E) (fun hz1 => ?_)
  rw [len_Float32S (hA_b.ext E)]
  rw [bin_gtr]
  refine cnd_dec (fun _ => H _ E) (fun hz2 => ?_)
  refine c_sz_Float32SS (hA_m.ext E) (by omega) (by omega) fun r5 w3 e4 hr6 => ?_
  have E := E.trans e4
  have se4 := e4.size
  rw [bin_lss]
  refine cnd_dec (fun _ => H _ E) (fun hz7 => ?_)
  have hs_m : sz_Float32SS m ≤ 1048576 := by omega
  have hc_m := cnt_sz_Float32SS m
  have hs_x : sz_Float32S x ≤ 1048576 := by omega
  have hc_x := cnt_sz_Float32S x
  have hs_b : sz_Float32S b ≤ 1048576 := by omega
  have hc_b := cnt_sz_Float32S b
  have hr_0 := small_ResidualOf_0 m x b
  refine c_to_Float32SS (hA_m.ext E) hs_m fun v10 w8 e9 o11 => ?_
  have E := E.trans e9
  have se9 := e9.size
  refine c_to_Float32S (hA_x.ext E) hs_x fun v14 w12 e13 o15 => ?_
  have o11 := o11.ext e13
  have E := E.trans e13
  have se13 := e13.size
  refine c_to_Float32S (hA_b.ext E) hs_b fun v18 w16 e17 o19 => ?_
  have o11 := o11.ext e17
  have o15 := o15.ext e17
  have E := E.trans e17
  have se17 := e17.size
  refine s_ResidualOf o11.I o15.I o19.I fun u22 w20 e21 h23 => ?_
  have o11 := o11.ext e21
  have o15 := o15.ext e21
  have o19 := o19.ext e21
  have E := E.trans e21
  have se21 := e21.size
  have EU24 := Ext.refl w20
  rw [xtr_0]
  rw [xtr_1]
  refine c_to_Float32SS (hA_m.ext E) hs_m fun v27 w25 e26 o28 => ?_
  have o11 := o11.ext e26
  have o15 := o15.ext e26
  have o19 := o19.ext e26
  have E := E.trans e26
  have EU24 := EU24.trans e26
  have se26 := e26.size
  refine c_to_Float32S (hA_x.ext E) hs_x fun v31 w29 e30 o32 => ?_
  have o11 := o11.ext e30
  have o15 := o15.ext e30
  have o19 := o19.ext e30
  have o28 := o28.ext e30
  have E := E.trans e30
  have EU24 := EU24.trans e30
  have se30 := e30.size
  refine c_to_Float32S (hA_b.ext E) hs_b fun v35 w33 e34 o36 => ?_
  have o11 := o11.ext e34
  have o15 := o15.ext e34
  have o19 := o19.ext e34
  have o28 := o28.ext e34
  have o32 := o32.ext e34
  have E := E.trans e34
  have EU24 := EU24.trans e34
  have se34 := e34.size
  refine p_ResidualOf o28.I o32.I o36.I fun u39 w37 e38 h40 => ?_
  have o11 := o11.ext e38
  have o15 := o15.ext e38
  have o19 := o19.ext e38
  have o28 := o28.ext e38
  have o32 := o32.ext e38
  have o36 := o36.ext e38
  have E := E.trans e38
  have EU24 := EU24.trans e38
  have se38 := e38.size
  rw [xtr_0]
  rw [xtr_1]
  refine c_eq_Float32S h40.I (h23.ext EU24) fun w41 e42 => ?_
  have o11 := o11.ext e42
  have o15 := o15.ext e42
  have o19 := o19.ext e42
  have o28 := o28.ext e42
  have o32 := o32.ext e42
  have o36 := o36.ext e42
  have h40 := h40.ext e42
  have E := E.trans e42
  have EU24 := EU24.trans e42
  have se42 := e42.size
  rw [una_not, Bool.not_true]
  refine ⟨_, fun _ _ _ h => h, ?_⟩
  rw [grd_false_false]
  refine neq_no rfl ?_
  rw [pick_bool, cond_false]
  rw [cnd_false]
  refine c_to_Float32SS (hA_m.ext E) hs_m fun v45 w43 e44 o46 => ?_
  have o11 := o11.ext e44
  have o15 := o15.ext e44
  have o19 := o19.ext e44
  have o28 := o28.ext e44
  have o32 := o32.ext e44
  have o36 := o36.ext e44
  have h40 := h40.ext e44
  have E := E.trans e44
  have EU24 := EU24.trans e44
  have se44 := e44.size
  refine c_eq_Float32SS o28.I o46.I fun w47 e48 => ?_
  have o11 := o11.ext e48
  have o15 := o15.ext e48
  have o19 := o19.ext e48
  have o28 := o28.ext e48
  have o32 := o32.ext e48
  have o36 := o36.ext e48
  have h40 := h40.ext e48
  have o46 := o46.ext e48
  have E := E.trans e48
  have EU24 := EU24.trans e48
  have se48 := e48.size
  rw [una_not, Bool.not_true]
  rw [cnd_false]
  refine c_to_Float32S (hA_x.ext E) hs_x fun v51 w49 e50 o52 => ?_
  have o11 := o11.ext e50
  have o15 := o15.ext e50
  have o19 := o19.ext e50
  have o28 := o28.ext e50
  have o32 := o32.ext e50
  have o36 := o36.ext e50
  have h40 := h40.ext e50
  have o46 := o46.ext e50
  have E := E.trans e50
  have EU24 := EU24.trans e50
  have se50 := e50.size
  refine c_eq_Float32S o32.I o52.I fun w53 e54 => ?_
  have o11 := o11.ext e54
  have o15 := o15.ext e54
  have o19 := o19.ext e54
  have o28 := o28.ext e54
  have o32 := o32.ext e54
  have o36 := o36.ext e54
  have h40 := h40.ext e54
  have o46 := o46.ext e54
  have o52 := o52.ext e54
  have E := E.trans e54
  have EU24 := EU24.trans e54
  have se54 := e54.size
  rw [una_not, Bool.not_true]
  rw [cnd_false]
  refine c_to_Float32S (hA_b.ext E) hs_b fun v57 w55 e56 o58 => ?_
  have o11 := o11.ext e56
  have o15 := o15.ext e56
  have o19 := o19.ext e56
  have o28 := o28.ext e56
  have o32 := o32.ext e56
  have o36 := o36.ext e56
  have h40 := h40.ext e56
  have o46 := o46.ext e56
  have o52 := o52.ext e56
  have E := E.trans e56
  have EU24 := EU24.trans e56
  have se56 := e56.size
  refine c_eq_Float32S o36.I o58.I fun w59 e60 => ?_
  have o11 := o11.ext e60
  have o15 := o15.ext e60
  have o19 := o19.ext e60
  have o28 := o28.ext e60
  have o32 := o32.ext e60
  have o36 := o36.ext e60
  have h40 := h40.ext e60
  have o46 := o46.ext e60
  have o52 := o52.ext e60
  have o58 := o58.ext e60
  have E := E.trans e60
  have EU24 := EU24.trans e60
  have se60 := e60.size
  rw [una_not, Bool.not_true]
  rw [cnd_false]
  refine c_mark_Float32SS o28 (by omega) (by omega) fun w61 o28N c62 => ?_
  have o11 := o11.chg c62 (by omega)
  have o15 := o15.chg c62 (by omega)
  have o19 := o19.chg c62 (by omega)
  have o32 := o32.chg c62 (by omega)
  have o36 := o36.chg c62 (by omega)
  have h40 := h40.chg c62 (by omega)
  have o46 := o46.chg c62 (by omega)
  have o52 := o52.chg c62 (by omega)
  have o58 := o58.chg c62 (by omega)
  have E : Ext w w61 := Chg.below c62 E (by omega) (Nat.le_refl _)
  have EU24 : Ext w20 w61 := Chg.below c62 EU24 (by omega) (Nat.le_refl _)
  have sc62 := c62.size
  have o28 := o28N
  clear o28N
  refine c_mark_Float32S o32 (by omega) (by omega) fun w63 o32N c64 => ?_
  have o11 := o11.chg c64 (by omega)
  have o15 := o15.chg c64 (by omega)
  have o19 := o19.chg c64 (by omega)
  have o28 := o28.chg c64 (by omega)
  have o36 := o36.chg c64 (by omega)
  have h40 := h40.chg c64 (by omega)
  have o46 := o46.chg c64 (by omega)
  have o52 := o52.chg c64 (by omega)
  have o58 := o58.chg c64 (by omega)
  have E : Ext w w63 := Chg.below c64 E (by omega) (Nat.le_refl _)
  have EU24 : Ext w20 w63 := Chg.below c64 EU24 (by omega) (Nat.le_refl _)
  have sc64 := c64.size
  have o32 := o32N
  clear o32N
  refine c_mark_Float32S o36 (by omega) (by omega) fun w65 o36N c66 => ?_
  have o11 := o11.chg c66 (by omega)
  have o15 := o15.chg c66 (by omega)
  have o19 := o19.chg c66 (by omega)
  have o28 := o28.chg c66 (by omega)
  have o32 := o32.chg c66 (by omega)
  have h40 := h40.chg c66 (by omega)
  have o46 := o46.chg c66 (by omega)
  have o52 := o52.chg c66 (by omega)
  have o58 := o58.chg c66 (by omega)
  have E : Ext w w65 := Chg.below c66 E (by omega) (Nat.le_refl _)
  have EU24 : Ext w20 w65 := Chg.below c66 EU24 (by omega) (Nat.le_refl _)
  have sc66 := c66.size
  have o36 := o36N
  clear o36N
  refine lss_no (by omega) ?_
  refine ⟨_, fun _ _ _ h => h, ?_⟩
  rw [grd_false_false]
  refine c_eq_Float32S h40.I (h23.ext EU24) fun w67 e68 => ?_
  have o11 := o11.ext e68
  have o15 := o15.ext e68
  have o19 := o19.ext e68
  have o28 := o28.ext e68
  have o32 := o32.ext e68
  have o36 := o36.ext e68
  have h40 := h40.ext e68
  have o46 := o46.ext e68
  have o52 := o52.ext e68
  have o58 := o58.ext e68
  have E := E.trans e68
  have EU24 := EU24.trans e68
  have se68 := e68.size
  rw [una_not, Bool.not_true]
  rw [pick_bool, cond_false]
  refine ⟨_, fun _ _ _ h => h, ?_⟩
  rw [grd_false_false]
  refine neq_no rfl ?_
  rw [pick_bool, cond_false]
  rw [cnd_false]
  refine c_mark_Float32S h40 (by omega) (by omega) fun w69 h40N c70 => ?_
  have o11 := o11.chg c70 (by omega)
  have o15 := o15.chg c70 (by omega)
  have o19 := o19.chg c70 (by omega)
  have o28 := o28.chg c70 (by omega)
  have o32 := o32.chg c70 (by omega)
  have o36 := o36.chg c70 (by omega)
  have o46 := o46.chg c70 (by omega)
  have o52 := o52.chg c70 (by omega)
  have o58 := o58.chg c70 (by omega)
  have E : Ext w w69 := Chg.below c70 E (by omega) (Nat.le_refl _)
  have EU24 : Ext w20 w69 := Chg.below c70 EU24 (by omega) (Nat.le_refl _)
  have sc70 := c70.size
  have h40 := h40N
  clear h40N
  refine c_held_Float32S h40.I (by omega) (by omega) fun w71 e72 => ?_
  have o11 := o11.ext e72
  have o15 := o15.ext e72
  have o19 := o19.ext e72
  have o28 := o28.ext e72
  have o32 := o32.ext e72
  have o36 := o36.ext e72
  have h40 := h40.ext e72
  have o46 := o46.ext e72
  have o52 := o52.ext e72
  have o58 := o58.ext e72
  have E := E.trans e72
  have EU24 := EU24.trans e72
  have se72 := e72.size
  refine lss_no (by omega) ?_
  rw [cnd_false]
  refine neq_no (by omega) ?_
  rw [cnd_false]
  refine c_to_Float32SS (hA_m.ext E) hs_m fun v75 w73 e74 o76 => ?_
  have o11 := o11.ext e74
  have o15 := o15.ext e74
  have o19 := o19.ext e74
  have o28 := o28.ext e74
  have o32 := o32.ext e74
  have o36 := o36.ext e74
  have h40 := h40.ext e74
  have o46 := o46.ext e74
  have o52 := o52.ext e74
  have o58 := o58.ext e74
  have E := E.trans e74
  have EU24 := EU24.trans e74
  have se74 := e74.size
  refine c_to_Float32S (hA_x.ext E) hs_x fun v79 w77 e78 o80 => ?_
  have o11 := o11.ext e78
  have o15 := o15.ext e78
  have o19 := o19.ext e78
  have o28 := o28.ext e78
  have o32 := o32.ext e78
  have o36 := o36.ext e78
  have h40 := h40.ext e78
  have o46 := o46.ext e78
  have o52 := o52.ext e78
  have o58 := o58.ext e78
  have o76 := o76.ext e78
  have E := E.trans e78
  have EU24 := EU24.trans e78
  have se78 := e78.size
  refine c_to_Float32S (hA_b.ext E) hs_b fun v83 w81 e82 o84 => ?_
  have o11 := o11.ext e82
  have o15 := o15.ext e82
  have o19 := o19.ext e82
  have o28 := o28.ext e82
  have o32 := o32.ext e82
  have o36 := o36.ext e82
  have h40 := h40.ext e82
  have o46 := o46.ext e82
  have o52 := o52.ext e82
  have o58 := o58.ext e82
  have o76 := o76.ext e82
  have o80 := o80.ext e82
  have E := E.trans e82
  have EU24 := EU24.trans e82
  have se82 := e82.size
  refine p_ResidualOf o76.I o80.I o84.I fun u87 w85 e86 h88 => ?_
  have o11 := o11.ext e86
  have o15 := o15.ext e86
  have o19 := o19.ext e86
  have o28 := o28.ext e86
  have o32 := o32.ext e86
  have o36 := o36.ext e86
  have h40 := h40.ext e86
  have o46 := o46.ext e86
  have o52 := o52.ext e86
  have o58 := o58.ext e86
  have o76 := o76.ext e86
  have o80 := o80.ext e86
  have o84 := o84.ext e86
  have E := E.trans e86
  have EU24 := EU24.trans e86
  have se86 := e86.size
  rw [xtr_0]
  rw [xtr_1]
  refine c_eq_Float32S h88.I (h23.ext EU24) fun w89 e90 => ?_
  have o11 := o11.ext e90
  have o15 := o15.ext e90
  have o19 := o19.ext e90
  have o28 := o28.ext e90
  have o32 := o32.ext e90
  have o36 := o36.ext e90
  have h40 := h40.ext e90
  have o46 := o46.ext e90
  have o52 := o52.ext e90
  have o58 := o58.ext e90
  have o76 := o76.ext e90
  have o80 := o80.ext e90
  have o84 := o84.ext e90
  have h88 := h88.ext e90
  have E := E.trans e90
  have EU24 := EU24.trans e90
  have se90 := e90.size
  rw [una_not, Bool.not_true]
  refine ⟨_, fun _ _ _ h => h, ?_⟩
  rw [grd_false_false]
  refine neq_no rfl ?_
  rw [pick_bool, cond_false]
  rw [cnd_false]
  refine c_held_Float32S h40.I (by omega) (by omega) fun w91 e92 => ?_
  have o11 := o11.ext e92
  have o15 := o15.ext e92
  have o19 := o19.ext e92
  have o28 := o28.ext e92
  have o32 := o32.ext e92
  have o36 := o36.ext e92
  have h40 := h40.ext e92
  have o46 := o46.ext e92
  have o52 := o52.ext e92
  have o58 := o58.ext e92
  have o76 := o76.ext e92
  have o80 := o80.ext e92
  have o84 := o84.ext e92
  have h88 := h88.ext e92
  have E := E.trans e92
  have EU24 := EU24.trans e92
  have se92 := e92.size
  refine lss_no (by omega) ?_
  rw [cnd_false]
  refine neq_no (by omega) ?_
  rw [cnd_false]
  exact H _ E

set_option maxRecDepth 100000 in
theorem ResidualOf_lifted (os : Os) (started : os.Started) (H : Type) (enc : TypeId × Value → H) :
    ReturnsInHanded {} Tryz.checked os f_laws_FnExactResidualOf .any (Rows.fnExactResidualOfSpec.pre6 enc Tryz.prog Tryz.f5 Rows.fnExactResidualOfRow.domain false) (Rows.fnExactResidualOfSpec.post enc Tryz.prog Tryz.f5 false true false false) := by
  refine returnsInHanded_of_change (C := Tryz.checked) own started (by kernel_rfl) Tryz.func5
    (ChangeSpec.witness6 (enc := enc) (C := Tryz.checked) false ⟨#[], #[.slice none 0 0, .slice none 0 0, .slice none 0 0], []⟩ 8 (by kernel_rfl) (by kernel_rfl) (by kernel_rfl) (by kernel_rfl)) ?_
  intro W base args ds gs before hval0 hW hcnd _
  have hW' := hW
  obtain ⟨p, q, hA0, hV, rfl, hfz, hnd⟩ := hW
  have hA : DataW.TrodAll enc Tryz.prog W 0 (fun _ => true) true Tryz.f5.params.toList args.toList ds p := hA0
  rw [Tryz.params5] at hA
  obtain ⟨v0, vs0, d0, ds0, p0, q0, hargs0, rfl, rfl, h0, r0⟩ := trodAll_cons hA
  obtain ⟨v1, vs1, d1, ds1, p1, q1, hargs1, rfl, rfl, h1, r1⟩ := trodAll_cons r0
  obtain ⟨v2, vs2, d2, ds2, p2, q2, hargs2, rfl, rfl, h2, r2⟩ := trodAll_cons r1
  obtain ⟨rfl, rfl, rfl⟩ := trodAll_nil r2
  obtain rfl : args = #[v0, v1, v2] := by cases args; simp_all
  obtain ⟨rfl, rfl⟩ := trodVars_none hV
  have hval : ∀ (j : Nat) t v, Tryz.f5.params[j]? = some t → (#[v0, v1, v2] : Array Value)[j]? = some v → Value.okWide Tryz.prog W .any base t v := hval0
  rw [Tryz.params5] at hval
  obtain ⟨a0, len0, cap0, rfl⟩ := okWide_slice u_s_s_float32 (hval 0 t_s_s_float32 v0 rfl rfl)
  have k0 := h0
  have lt0 : ∀ x ∈ p0, x.block < W.heap.size := by obtain ⟨m, hm⟩ := k0; exact DataW.trod_lt m _ _ _ hm
  obtain ⟨m, hA_m⟩ : ∃ m, A_Float32SS W (.slice a0 len0 cap0) m := by
    obtain ⟨fuel, hf⟩ := h0
    exact open_Float32SS hf
  obtain ⟨a1, len1, cap1, rfl⟩ := okWide_slice u_s_float32 (hval 1 t_s_float32 v1 rfl rfl)
  have k1 := h1
  have lt1 : ∀ x ∈ p1, x.block < W.heap.size := by obtain ⟨m, hm⟩ := k1; exact DataW.trod_lt m _ _ _ hm
  obtain ⟨x, hA_x⟩ : ∃ x, A_Float32S W (.slice a1 len1 cap1) x := by
    obtain ⟨fuel, hf⟩ := h1
    exact open_Float32S hf
  obtain ⟨a2, len2, cap2, rfl⟩ := okWide_slice u_s_float32 (hval 2 t_s_float32 v2 rfl rfl)
  have k2 := h2
  have lt2 : ∀ x ∈ p2, x.block < W.heap.size := by obtain ⟨m, hm⟩ := k2; exact DataW.trod_lt m _ _ _ hm
  obtain ⟨b, hA_b⟩ : ∃ b, A_Float32S W (.slice a2 len2 cap2) b := by
    obtain ⟨fuel, hf⟩ := h2
    exact open_Float32S hf
  clear hval0 hval
  refine (calls_of Tryz.func5 (by kernel_rfl) (by kernel_rfl) (law_ResidualOf (K := fun v w' => v = .bool true ∧ Ext (Vc.N W) w') hA_m.N hA_x.N hA_b.N fun w' he => ⟨rfl, he⟩)).mono ?_
  rintro e W' ⟨v, rfl, rfl, he⟩
  have bel := below_N he
  exact ⟨_, rfl, _, _, _, [], _, [], hW', trodAll_mk1 (shut_bool u_bool _), (trodAll_cons_mk (Below.trod laidOut (by kernel_rfl) (of_decide_eq_true (by kernel_rfl)) k0 bel lt0) (trodAll_cons_mk (Below.trod laidOut (by kernel_rfl) (of_decide_eq_true (by kernel_rfl)) k1 bel lt1) (trodAll_cons_mk (Below.trod laidOut (by kernel_rfl) (of_decide_eq_true (by kernel_rfl)) k2 bel lt2) trodAll_mk0))), rfl, bel.frame _, fun h => by cases h⟩

theorem ResidualOf_holds : Rows.FnExactResidualOfSaid :=
  OpenClaim.holds_of_wide 5 Tryz.f5 rfl rfl rfl rfl rfl rfl rfl ⟨rfl, rfl, rfl, rfl, rfl⟩ rfl rfl rfl rfl rfl (by kernel_rfl) Tryz.func5 joined_FnExactResidualOf
    (of_decide_eq_true (by kernel_rfl)) (by unfold Func.isWrapper; first | (rw [if_pos (by decide +kernel)]; kernel_rfl) | (rw [if_neg (by decide +kernel)]; exact ⟨rfl, rfl⟩))
    (fun os started H enc _ => ResidualOf_lifted os started H enc)

end Go.Proofs.YtabgkpfcpncmhaaGreat
