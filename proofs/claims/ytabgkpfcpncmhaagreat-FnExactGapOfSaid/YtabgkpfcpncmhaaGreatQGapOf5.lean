import Derived.Test.YtabgkpfcpncmhaaGreatRows
import Derived.Test.YtabgkpfcpncmhaaGreatQGapOf4
/- The program's GapOf returns what the reference's returns, for all arguments, changes no argument and shares no memory. No condition. -/
set_option linter.unusedVariables false
namespace Go.Proofs.YtabgkpfcpncmhaaGreat
open Go Go.Vc
open Go.ChangeShapes Go.WideShapes Go.ChangeAt Go.RowKit

theorem law_GapOf {w : World} {K : Value → World → Prop} {v_m : Value} {m : List (List Nat)} (hA_m : A_Float32SS w v_m m) {v_b : Value} {b : List (List Nat)} (hA_b : A_Float32SS w v_b b) (H : ∀ w', Ext w w' → K (.bool true) w') : call P f_laws_FnExactGapOf [v_m, v_b] w K := by
  refine I_laws_FnExactGapOf ?_
  unfold D_laws_FnExactGapOf
  have E := Ext.refl w
  refine c_sz_Float32SS (hA_m.ext E) (by omega) (by omega) fun r3 w1 e2 hr4 => ?_
  have E := E.trans e2
  have se2 := e2.size
  rw [bin_lss]
  refine cnd_dec (fun _ => H _ E) (fun hz5 => ?_)
  refine c_sz_Float32SS (hA_b.ext E) (by omega) (by omega) fun r8 w6 e7 hr9 => ?_
  have E := E.trans e7
  have se7 := e7.size
  rw [bin_lss]
  refine cnd_dec (fun _ => H _ E) (fun hz10 => ?_)
  have hs_m : sz_Float32SS m ≤ 1048576 := by omega
  have hc_m := cnt_sz_Float32SS m
  have hs_b : sz_Float32SS b ≤ 1048576 := by omega
  have hc_b := cnt_sz_Float32SS b
  have hr_0 := small_GapOf_0 m b
  refine c_to_Float32SS (hA_m.ext E) hs_m fun v13 w11 e12 o14 => ?_
  have E := E.trans e12
  have se12 := e12.size
  refine c_to_Float32SS (hA_b.ext E) hs_b fun v17 w15 e16 o18 => ?_
  have o14 := o14.ext e16
  have E := E.trans e16
  have se16 := e16.size
  refine s_GapOf o14.I o18.I fun u21 w19 e20 h22 => ?_
  have o14 := o14.ext e20
  have o18 := o18.ext e20
  have E := E.trans e20
  have se20 := e20.size
  have EU23 := Ext.refl w19
  rw [xtr_0]
  rw [xtr_1]
  refine alc_bx i_impl_Dyadic fun p24 w25 b26 e27 _ => ?_
  have o14 := o14.ext e27
  have o18 := o18.ext e27
  have E := E.trans e27
  have EU23 := EU23.trans e27
  have se27 := e27.size
  have b26 := BxR.of b26
  obtain ⟨cs31, rfl, hl32, h133⟩ := Dyadic_agg h22
  refine Bx.put b26.own i_impl_Dyadic hl32 rfl h133 fun w28 b26N g29 => ?_
  have c30 := b26.grown g29
  have o14 := o14.chg c30 (by omega)
  have o18 := o18.chg c30 (by omega)
  have E : Ext w w28 := Chg.below c30 E (by omega) (Nat.le_refl _)
  have EU23 : Ext w19 w28 := Chg.below c30 EU23 (by omega) (Nat.le_refl _)
  have sc30 := c30.size
  have b26 : BxR w28 _ _ _ _ _ := ⟨b26N, b26.top⟩
  clear b26N
  refine c_to_Float32SS (hA_m.ext E) hs_m fun v36 w34 e35 o37 => ?_
  have o14 := o14.ext e35
  have o18 := o18.ext e35
  have b26 := b26.ext e35
  have E := E.trans e35
  have EU23 := EU23.trans e35
  have se35 := e35.size
  refine c_to_Float32SS (hA_b.ext E) hs_b fun v40 w38 e39 o41 => ?_
  have o14 := o14.ext e39
  have o18 := o18.ext e39
  have b26 := b26.ext e39
  have o37 := o37.ext e39
  have E := E.trans e39
  have EU23 := EU23.trans e39
  have se39 := e39.size
  refine p_GapOf o37.I o41.I fun u44 w42 e43 h45 => ?_
  have o14 := o14.ext e43
  have o18 := o18.ext e43
  have b26 := b26.ext e43
  have o37 := o37.ext e43
  have o41 := o41.ext e43
  have E := E.trans e43
  have EU23 := EU23.trans e43
  have se43 := e43.size
  rw [xtr_0]
  rw [xtr_1]
  refine alc_bx i_impl_Dyadic fun p46 w47 b48 e49 _ => ?_
  have o14 := o14.ext e49
  have o18 := o18.ext e49
  have b26 := b26.ext e49
  have o37 := o37.ext e49
  have o41 := o41.ext e49
  have h45 := h45.ext e49
  have E := E.trans e49
  have EU23 := EU23.trans e49
  have se49 := e49.size
  have b48 := BxR.of b48
  obtain ⟨cs53, rfl, hl54, h155⟩ := Dyadic_agg h45.I
  refine Bx.put b48.own i_impl_Dyadic hl54 rfl h155 fun w50 b48N g51 => ?_
  have c52 := b48.grown g51
  have o14 := o14.chg c52 (by omega)
  have o18 := o18.chg c52 (by omega)
  have b26 := b26.chg c52 (by omega)
  have o37 := o37.chg c52 (by omega)
  have o41 := o41.chg c52 (by omega)
  have h45 := h45.chg c52 (by omega)
  have E : Ext w w50 := Chg.below c52 E (by omega) (Nat.le_refl _)
  have EU23 : Ext w19 w50 := Chg.below c52 EU23 (by omega) (Nat.le_refl _)
  have sc52 := c52.size
  have b48 : BxR w50 _ _ _ _ _ := ⟨b48N, b48.top⟩
  clear b48N
  refine Bx.get b48.own u_impl_Dyadic rfl i_impl_Dyadic hl54 ?_
  refine Bx.get b26.own u_impl_Dyadic rfl i_impl_Dyadic hl32 ?_
  refine c_eq_Dyadic h45.I (h22.ext EU23) fun w56 e57 => ?_
  have o14 := o14.ext e57
  have o18 := o18.ext e57
  have b26 := b26.ext e57
  have o37 := o37.ext e57
  have o41 := o41.ext e57
  have h45 := h45.ext e57
  have b48 := b48.ext e57
  have E := E.trans e57
  have EU23 := EU23.trans e57
  have se57 := e57.size
  rw [una_not, Bool.not_true]
  refine ⟨_, fun _ _ _ h => h, ?_⟩
  rw [grd_false_false]
  refine neq_no rfl ?_
  rw [pick_bool, cond_false]
  rw [cnd_false]
  refine c_to_Float32SS (hA_m.ext E) hs_m fun v60 w58 e59 o61 => ?_
  have o14 := o14.ext e59
  have o18 := o18.ext e59
  have b26 := b26.ext e59
  have o37 := o37.ext e59
  have o41 := o41.ext e59
  have h45 := h45.ext e59
  have b48 := b48.ext e59
  have E := E.trans e59
  have EU23 := EU23.trans e59
  have se59 := e59.size
  refine c_eq_Float32SS o37.I o61.I fun w62 e63 => ?_
  have o14 := o14.ext e63
  have o18 := o18.ext e63
  have b26 := b26.ext e63
  have o37 := o37.ext e63
  have o41 := o41.ext e63
  have h45 := h45.ext e63
  have b48 := b48.ext e63
  have o61 := o61.ext e63
  have E := E.trans e63
  have EU23 := EU23.trans e63
  have se63 := e63.size
  rw [una_not, Bool.not_true]
  rw [cnd_false]
  refine c_to_Float32SS (hA_b.ext E) hs_b fun v66 w64 e65 o67 => ?_
  have o14 := o14.ext e65
  have o18 := o18.ext e65
  have b26 := b26.ext e65
  have o37 := o37.ext e65
  have o41 := o41.ext e65
  have h45 := h45.ext e65
  have b48 := b48.ext e65
  have o61 := o61.ext e65
  have E := E.trans e65
  have EU23 := EU23.trans e65
  have se65 := e65.size
  refine c_eq_Float32SS o41.I o67.I fun w68 e69 => ?_
  have o14 := o14.ext e69
  have o18 := o18.ext e69
  have b26 := b26.ext e69
  have o37 := o37.ext e69
  have o41 := o41.ext e69
  have h45 := h45.ext e69
  have b48 := b48.ext e69
  have o61 := o61.ext e69
  have o67 := o67.ext e69
  have E := E.trans e69
  have EU23 := EU23.trans e69
  have se69 := e69.size
  rw [una_not, Bool.not_true]
  rw [cnd_false]
  refine c_mark_Float32SS o37 (by omega) (by omega) fun w70 o37N c71 => ?_
  have o14 := o14.chg c71 (by omega)
  have o18 := o18.chg c71 (by omega)
  have b26 := b26.chg c71 (by omega)
  have o41 := o41.chg c71 (by omega)
  have h45 := h45.chg c71 (by omega)
  have b48 := b48.chg c71 (by omega)
  have o61 := o61.chg c71 (by omega)
  have o67 := o67.chg c71 (by omega)
  have E : Ext w w70 := Chg.below c71 E (by omega) (Nat.le_refl _)
  have EU23 : Ext w19 w70 := Chg.below c71 EU23 (by omega) (Nat.le_refl _)
  have sc71 := c71.size
  have o37 := o37N
  clear o37N
  refine c_mark_Float32SS o41 (by omega) (by omega) fun w72 o41N c73 => ?_
  have o14 := o14.chg c73 (by omega)
  have o18 := o18.chg c73 (by omega)
  have b26 := b26.chg c73 (by omega)
  have o37 := o37.chg c73 (by omega)
  have h45 := h45.chg c73 (by omega)
  have b48 := b48.chg c73 (by omega)
  have o61 := o61.chg c73 (by omega)
  have o67 := o67.chg c73 (by omega)
  have E : Ext w w72 := Chg.below c73 E (by omega) (Nat.le_refl _)
  have EU23 : Ext w19 w72 := Chg.below c73 EU23 (by omega) (Nat.le_refl _)
  have sc73 := c73.size
  have o41 := o41N
  clear o41N
  refine lss_no (by omega) ?_
  refine ⟨_, fun _ _ _ h => h, ?_⟩
  rw [grd_false_false]
  refine Bx.get b48.own u_impl_Dyadic rfl i_impl_Dyadic hl54 ?_
  refine Bx.get b26.own u_impl_Dyadic rfl i_impl_Dyadic hl32 ?_
  refine c_eq_Dyadic h45.I (h22.ext EU23) fun w74 e75 => ?_
  have o14 := o14.ext e75
  have o18 := o18.ext e75
  have b26 := b26.ext e75
  have o37 := o37.ext e75
  have o41 := o41.ext e75
  have h45 := h45.ext e75
  have b48 := b48.ext e75
  have o61 := o61.ext e75
  have o67 := o67.ext e75
  have E := E.trans e75
  have EU23 := EU23.trans e75
  have se75 := e75.size
  rw [una_not, Bool.not_true]
  rw [pick_bool, cond_false]
  refine ⟨_, fun _ _ _ h => h, ?_⟩
  rw [grd_false_false]
  refine neq_no rfl ?_
  rw [pick_bool, cond_false]
  rw [cnd_false]
  refine Bx.get b48.own u_impl_Dyadic rfl i_impl_Dyadic hl54 ?_
  refine c_mark_Dyadic h45 (by omega) (by omega) fun w76 h45N c77 => ?_
  have o14 := o14.chg c77 (by omega)
  have o18 := o18.chg c77 (by omega)
  have b26 := b26.chg c77 (by omega)
  have o37 := o37.chg c77 (by omega)
  have o41 := o41.chg c77 (by omega)
  have b48 := b48.chg c77 (by omega)
  have o61 := o61.chg c77 (by omega)
  have o67 := o67.chg c77 (by omega)
  have E : Ext w w76 := Chg.below c77 E (by omega) (Nat.le_refl _)
  have EU23 : Ext w19 w76 := Chg.below c77 EU23 (by omega) (Nat.le_refl _)
  have sc77 := c77.size
  have h45 := h45N
  clear h45N
  refine Bx.get b48.own u_impl_Dyadic rfl i_impl_Dyadic hl54 ?_
  refine c_held_Dyadic h45.I (by omega) (by omega) fun w78 e79 => ?_
  have o14 := o14.ext e79
  have o18 := o18.ext e79
  have b26 := b26.ext e79
  have o37 := o37.ext e79
  have o41 := o41.ext e79
  have h45 := h45.ext e79
  have b48 := b48.ext e79
  have o61 := o61.ext e79
  have o67 := o67.ext e79
  have E := E.trans e79
  have EU23 := EU23.trans e79
  have se79 := e79.size
  refine lss_no (by omega) ?_
  rw [cnd_false]
  refine neq_no (by omega) ?_
  rw [cnd_false]
  refine c_to_Float32SS (hA_m.ext E) hs_m fun v82 w80 e81 o83 => ?_
  have o14 := o14.ext e81
  have o18 := o18.ext e81
  have b26 := b26.ext e81
  have o37 := o37.ext e81
  have o41 := o41.ext e81
  have h45 := h45.ext e81
  have b48 := b48.ext e81
  have o61 := o61.ext e81
  have o67 := o67.ext e81
  have E := E.trans e81
  have EU23 := EU23.trans e81
  have se81 := e81.size
  refine c_to_Float32SS (hA_b.ext E) hs_b fun v86 w84 e85 o87 => ?_
  have o14 := o14.ext e85
  have o18 := o18.ext e85
  have b26 := b26.ext e85
  have o37 := o37.ext e85
  have o41 := o41.ext e85
  have h45 := h45.ext e85
  have b48 := b48.ext e85
  have o61 := o61.ext e85
  have o67 := o67.ext e85
  have o83 := o83.ext e85
  have E := E.trans e85
  have EU23 := EU23.trans e85
  have se85 := e85.size
  refine p_GapOf o83.I o87.I fun u90 w88 e89 h91 => ?_
  have o14 := o14.ext e89
  have o18 := o18.ext e89
  have b26 := b26.ext e89
  have o37 := o37.ext e89
  have o41 := o41.ext e89
  have h45 := h45.ext e89
  have b48 := b48.ext e89
  have o61 := o61.ext e89
  have o67 := o67.ext e89
  have o83 := o83.ext e89
  have o87 := o87.ext e89
  have E := E.trans e89
  have EU23 := EU23.trans e89
  have se89 := e89.size
  rw [xtr_0]
  rw [xtr_1]
  refine alc_bx i_impl_Dyadic fun p92 w93 b94 e95 _ => ?_
  have o14 := o14.ext e95
  have o18 := o18.ext e95
  have b26 := b26.ext e95
  have o37 := o37.ext e95
  have o41 := o41.ext e95
  have h45 := h45.ext e95
  have b48 := b48.ext e95
  have o61 := o61.ext e95
  have o67 := o67.ext e95
  have o83 := o83.ext e95
  have o87 := o87.ext e95
  have h91 := h91.ext e95
  have E := E.trans e95
  have EU23 := EU23.trans e95
  have se95 := e95.size
  have b94 := BxR.of b94
  obtain ⟨cs99, rfl, hl100, h1101⟩ := Dyadic_agg h91.I
  refine Bx.put b94.own i_impl_Dyadic hl100 rfl h1101 fun w96 b94N g97 => ?_
  have c98 := b94.grown g97
  have o14 := o14.chg c98 (by omega)
  have o18 := o18.chg c98 (by omega)
  have b26 := b26.chg c98 (by omega)
  have o37 := o37.chg c98 (by omega)
  have o41 := o41.chg c98 (by omega)
  have h45 := h45.chg c98 (by omega)
  have b48 := b48.chg c98 (by omega)
  have o61 := o61.chg c98 (by omega)
  have o67 := o67.chg c98 (by omega)
  have o83 := o83.chg c98 (by omega)
  have o87 := o87.chg c98 (by omega)
  have h91 := h91.chg c98 (by omega)
  have E : Ext w w96 := Chg.below c98 E (by omega) (Nat.le_refl _)
  have EU23 : Ext w19 w96 := Chg.below c98 EU23 (by omega) (Nat.le_refl _)
  have sc98 := c98.size
  have b94 : BxR w96 _ _ _ _ _ := ⟨b94N, b94.top⟩
  clear b94N
  refine Bx.get b94.own u_impl_Dyadic rfl i_impl_Dyadic hl100 ?_
  refine Bx.get b26.own u_impl_Dyadic rfl i_impl_Dyadic hl32 ?_
  refine c_eq_Dyadic h91.I (h22.ext EU23) fun w102 e103 => ?_
  have o14 := o14.ext e103
  have o18 := o18.ext e103
  have b26 := b26.ext e103
  have o37 := o37.ext e103
  have o41 := o41.ext e103
  have h45 := h45.ext e103
  have b48 := b48.ext e103
  have o61 := o61.ext e103
  have o67 := o67.ext e103
  have o83 := o83.ext e103
  have o87 := o87.ext e103
  have h91 := h91.ext e103
  have b94 := b94.ext e103
  have E := E.trans e103
  have EU23 := EU23.trans e103
  have se103 := e103.size
  rw [una_not, Bool.not_true]
  refine ⟨_, fun _ _ _ h => h, ?_⟩
  rw [grd_false_false]
  refine neq_no rfl ?_
  rw [pick_bool, cond_false]
  rw [cnd_false]
  refine Bx.get b48.own u_impl_Dyadic rfl i_impl_Dyadic hl54 ?_
  refine c_held_Dyadic h45.I (by omega) (by omega) fun w104 e105 => ?_
  have o14 := o14.ext e105
  have o18 := o18.ext e105
  have b26 := b26.ext e105
  have o37 := o37.ext e105
  have o41 := o41.ext e105
  have h45 := h45.ext e105
  have b48 := b48.ext e105
  have o61 := o61.ext e105
  have o67 := o67.ext e105
  have o83 := o83.ext e105
  have o87 := o87.ext e105
  have h91 := h91.ext e105
  have b94 := b94.ext e105
  have E := E.trans e105
  have EU23 := EU23.trans e105
  have se105 := e105.size
  refine lss_no (by omega) ?_
  rw [cnd_false]
  refine neq_no (by omega) ?_
  rw [cnd_false]
  exact H _ E

set_option maxRecDepth 100000 in
theorem GapOf_lifted (os : Os) (started : os.Started) (H : Type) (enc : TypeId × Value → H) :
    ReturnsInHanded {} Tryz.checked os f_laws_FnExactGapOf .any (Rows.fnExactGapOfSpec.pre6 enc Tryz.prog Tryz.f3 Rows.fnExactGapOfRow.domain false) (Rows.fnExactGapOfSpec.post enc Tryz.prog Tryz.f3 false true false false) := by
  refine returnsInHanded_of_change (C := Tryz.checked) own started (by kernel_rfl) Tryz.func3
    (ChangeSpec.witness6 (enc := enc) (C := Tryz.checked) false ⟨#[], #[.slice none 0 0, .slice none 0 0], []⟩ 8 (by kernel_rfl) (by kernel_rfl) (by kernel_rfl) (by kernel_rfl)) ?_
  intro W base args ds gs before hval0 hW hcnd _
  have hW' := hW
  obtain ⟨p, q, hA0, hV, rfl, hfz, hnd⟩ := hW
  have hA : DataW.TrodAll enc Tryz.prog W 0 (fun _ => true) true Tryz.f3.params.toList args.toList ds p := hA0
  rw [Tryz.params3] at hA
  obtain ⟨v0, vs0, d0, ds0, p0, q0, hargs0, rfl, rfl, h0, r0⟩ := trodAll_cons hA
  obtain ⟨v1, vs1, d1, ds1, p1, q1, hargs1, rfl, rfl, h1, r1⟩ := trodAll_cons r0
  obtain ⟨rfl, rfl, rfl⟩ := trodAll_nil r1
  obtain rfl : args = #[v0, v1] := by cases args; simp_all
  obtain ⟨rfl, rfl⟩ := trodVars_none hV
  have hval : ∀ (j : Nat) t v, Tryz.f3.params[j]? = some t → (#[v0, v1] : Array Value)[j]? = some v → Value.okWide Tryz.prog W .any base t v := hval0
  rw [Tryz.params3] at hval
  obtain ⟨a0, len0, cap0, rfl⟩ := okWide_slice u_s_s_float32 (hval 0 t_s_s_float32 v0 rfl rfl)
  have k0 := h0
  have lt0 : ∀ x ∈ p0, x.block < W.heap.size := by obtain ⟨m, hm⟩ := k0; exact DataW.trod_lt m _ _ _ hm
  obtain ⟨m, hA_m⟩ : ∃ m, A_Float32SS W (.slice a0 len0 cap0) m := by
    obtain ⟨fuel, hf⟩ := h0
    exact open_Float32SS hf
  obtain ⟨a1, len1, cap1, rfl⟩ := okWide_slice u_s_s_float32 (hval 1 t_s_s_float32 v1 rfl rfl)
  have k1 := h1
  have lt1 : ∀ x ∈ p1, x.block < W.heap.size := by obtain ⟨m, hm⟩ := k1; exact DataW.trod_lt m _ _ _ hm
  obtain ⟨b, hA_b⟩ : ∃ b, A_Float32SS W (.slice a1 len1 cap1) b := by
    obtain ⟨fuel, hf⟩ := h1
    exact open_Float32SS hf
  clear hval0 hval
  refine (calls_of Tryz.func3 (by kernel_rfl) (by kernel_rfl) (law_GapOf (K := fun v w' => v = .bool true ∧ Ext (Vc.N W) w') hA_m.N hA_b.N fun w' he => ⟨rfl, he⟩)).mono ?_
  rintro e W' ⟨v, rfl, rfl, he⟩
  have bel := below_N he
  exact ⟨_, rfl, _, _, _, [], _, [], hW', trodAll_mk1 (shut_bool u_bool _), (trodAll_cons_mk (Below.trod laidOut (by kernel_rfl) (of_decide_eq_true (by kernel_rfl)) k0 bel lt0) (trodAll_cons_mk (Below.trod laidOut (by kernel_rfl) (of_decide_eq_true (by kernel_rfl)) k1 bel lt1) trodAll_mk0)), rfl, bel.frame _, fun h => by cases h⟩

theorem GapOf_holds : Rows.FnExactGapOfSaid :=
  OpenClaim.holds_of_wide 3 Tryz.f3 rfl rfl rfl rfl rfl rfl rfl ⟨rfl, rfl, rfl, rfl, rfl⟩ rfl rfl rfl rfl rfl (by kernel_rfl) Tryz.func3 joined_FnExactGapOf
    (of_decide_eq_true (by kernel_rfl)) (by unfold Func.isWrapper; first | (rw [if_pos (by decide +kernel)]; kernel_rfl) | (rw [if_neg (by decide +kernel)]; exact ⟨rfl, rfl⟩))
    (fun os started H enc _ => GapOf_lifted os started H enc)

end Go.Proofs.YtabgkpfcpncmhaaGreat
