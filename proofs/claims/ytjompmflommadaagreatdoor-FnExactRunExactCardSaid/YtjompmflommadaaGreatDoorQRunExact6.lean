import Derived.Test.YtjompmflommadaaGreatDoorRows
import Derived.Test.YtjompmflommadaaGreatDoorTie
import Derived.Test.YtjompmflommadaaGreatDoorCards
import Derived.Test.YtjompmflommadaaGreatDoorQRunExact5
set_option linter.unusedSimpArgs false
set_option linter.unusedVariables false
/- The program's RunExact returns what the reference's returns, for all arguments, changes no argument and shares no memory. No condition. -/
set_option linter.unusedVariables false
namespace Go.Proofs.YtjompmflommadaaGreatDoor
open Go Go.Vc
open Go.ChangeShapes Go.WideShapes Go.ChangeAt Go.RowKit

set_option maxRecDepth 20000 in
theorem law_RunExact {w : World} {K : Value → World → Prop} {v_ws : Value} {ws : List (List UInt8)} (hA_ws : A_Program w v_ws ws) {v_vs : Value} {vs : List Nat} (hA_vs : A_Float32S w v_vs vs) (H : ∀ w', Ext w w' → K (.bool true) w') : call P f_laws_FnExactRunExact [v_ws, v_vs] w K := by
  refine I_laws_FnExactRunExact ?_
  unfold D_laws_FnExactRunExact
  have E := Ext.refl w
  obtain ⟨cs5, rfl, hl6, h17⟩ := Program_aggA hA_ws
  refine bx_agg fun p1 w2 b3 e4 => ?_
  have E := E.trans e4
  have se4 := e4.size
  have b3 := BxR.of b3
  rw [len_Float32S (hA_vs.ext E)]
  rw [bin_gtr]
  refine cnd_dec (fun _ => H _ E) (fun hz8 => ?_)
  refine Bx.get b3.own u_laws_Program rfl i_laws_Program hl6 ?_
  refine c_sz_Program (hA_ws.ext E) (by omega) (by omega) fun r11 w9 e10 hr12 => ?_
  have b3 := b3.ext e10
  have E := E.trans e10
  have se10 := e10.size
  rw [bin_lss]
  refine cnd_dec (fun _ => H _ E) (fun hz13 => ?_)
  refine Bx.get b3.own u_laws_Program rfl i_laws_Program hl6 ?_
  have hs_ws : sz_Program ws ≤ 1048576 := by omega
  have hc_ws := cnt_sz_Program ws
  have hs_vs : sz_Float32S vs ≤ 1048576 := by omega
  have hc_vs := cnt_sz_Float32S vs
  have hr_0 := small_RunExact_0 ws vs
  refine c_to_Program (hA_ws.ext E) hs_ws fun v16 w14 e15 o17 => ?_
  have b3 := b3.ext e15
  have E := E.trans e15
  have se15 := e15.size
  refine c_to_Float32S (hA_vs.ext E) hs_vs fun v20 w18 e19 o21 => ?_
  have b3 := b3.ext e19
  have o17 := o17.ext e19
  have E := E.trans e19
  have se19 := e19.size
  refine s_RunExact o17.I o21.I fun u24 w22 e23 h25 => ?_
  have b3 := b3.ext e23
  have o17 := o17.ext e23
  have o21 := o21.ext e23
  have E := E.trans e23
  have se23 := e23.size
  have EU26 := Ext.refl w22
  rw [xtr_0]
  rw [xtr_1]
  refine alc_bx i_impl_Dyadic fun p27 w28 b29 e30 _ => ?_
  have b3 := b3.ext e30
  have o17 := o17.ext e30
  have o21 := o21.ext e30
  have E := E.trans e30
  have EU26 := EU26.trans e30
  have se30 := e30.size
  have b29 := BxR.of b29
  obtain ⟨cs34, rfl, hl35, h136⟩ := Dyadic_agg h25
  refine Bx.put b29.own i_impl_Dyadic hl35 rfl h136 fun w31 b29N g32 => ?_
  have c33 := b29.grown g32
  have b3 := b3.chg c33 (by omega)
  have o17 := o17.chg c33 (by omega)
  have o21 := o21.chg c33 (by omega)
  have E : Ext w w31 := Chg.below c33 E (by omega) (Nat.le_refl _)
  have EU26 : Ext w22 w31 := Chg.below c33 EU26 (by omega) (Nat.le_refl _)
  have sc33 := c33.size
  have b29 : BxR w31 _ _ _ _ _ := ⟨b29N, b29.top⟩
  clear b29N
  refine Bx.get b3.own u_laws_Program rfl i_laws_Program hl6 ?_
  refine c_to_Program (hA_ws.ext E) hs_ws fun v39 w37 e38 o40 => ?_
  have b3 := b3.ext e38
  have o17 := o17.ext e38
  have o21 := o21.ext e38
  have b29 := b29.ext e38
  have E := E.trans e38
  have EU26 := EU26.trans e38
  have se38 := e38.size
  refine alc_bx i_impl_Program fun p41 w42 b43 e44 _ => ?_
  have b3 := b3.ext e44
  have o17 := o17.ext e44
  have o21 := o21.ext e44
  have b29 := b29.ext e44
  have o40 := o40.ext e44
  have E := E.trans e44
  have EU26 := EU26.trans e44
  have se44 := e44.size
  have b43 := BxR.of b43
  obtain ⟨cs48, rfl, hl49, h150⟩ := Program_agg o40.I
  refine Bx.put b43.own i_impl_Program hl49 rfl h150 fun w45 b43N g46 => ?_
  have c47 := b43.grown g46
  have b3 := b3.chg c47 (by omega)
  have o17 := o17.chg c47 (by omega)
  have o21 := o21.chg c47 (by omega)
  have b29 := b29.chg c47 (by omega)
  have o40 := o40.chg c47 (by omega)
  have E : Ext w w45 := Chg.below c47 E (by omega) (Nat.le_refl _)
  have EU26 : Ext w22 w45 := Chg.below c47 EU26 (by omega) (Nat.le_refl _)
  have sc47 := c47.size
  have b43 : BxR w45 _ _ _ _ _ := ⟨b43N, b43.top⟩
  clear b43N
  refine c_to_Float32S (hA_vs.ext E) hs_vs fun v53 w51 e52 o54 => ?_
  have b3 := b3.ext e52
  have o17 := o17.ext e52
  have o21 := o21.ext e52
  have b29 := b29.ext e52
  have o40 := o40.ext e52
  have b43 := b43.ext e52
  have E := E.trans e52
  have EU26 := EU26.trans e52
  have se52 := e52.size
  refine Bx.get b43.own u_impl_Program rfl i_impl_Program hl49 ?_
  refine p_RunExact o40.I o54.I fun u57 w55 e56 h58 => ?_
  have b3 := b3.ext e56
  have o17 := o17.ext e56
  have o21 := o21.ext e56
  have b29 := b29.ext e56
  have o40 := o40.ext e56
  have b43 := b43.ext e56
  have o54 := o54.ext e56
  have E := E.trans e56
  have EU26 := EU26.trans e56
  have se56 := e56.size
  rw [xtr_0]
  rw [xtr_1]
  refine alc_bx i_impl_Dyadic fun p59 w60 b61 e62 _ => ?_
  have b3 := b3.ext e62
  have o17 := o17.ext e62
  have o21 := o21.ext e62
  have b29 := b29.ext e62
  have o40 := o40.ext e62
  have b43 := b43.ext e62
  have o54 := o54.ext e62
  have h58 := h58.ext e62
  have E := E.trans e62
  have EU26 := EU26.trans e62
  have se62 := e62.size
  have b61 := BxR.of b61
  obtain ⟨cs66, rfl, hl67, h168⟩ := Dyadic_agg h58.I
  refine Bx.put b61.own i_impl_Dyadic hl67 rfl h168 fun w63 b61N g64 => ?_
  have c65 := b61.grown g64
  have b3 := b3.chg c65 (by omega)
  have o17 := o17.chg c65 (by omega)
  have o21 := o21.chg c65 (by omega)
  have b29 := b29.chg c65 (by omega)
  have o40 := o40.chg c65 (by omega)
  have b43 := b43.chg c65 (by omega)
  have o54 := o54.chg c65 (by omega)
  have h58 := h58.chg c65 (by omega)
  have E : Ext w w63 := Chg.below c65 E (by omega) (Nat.le_refl _)
  have EU26 : Ext w22 w63 := Chg.below c65 EU26 (by omega) (Nat.le_refl _)
  have sc65 := c65.size
  have b61 : BxR w63 _ _ _ _ _ := ⟨b61N, b61.top⟩
  clear b61N
  refine Bx.get b61.own u_impl_Dyadic rfl i_impl_Dyadic hl67 ?_
  refine Bx.get b29.own u_impl_Dyadic rfl i_impl_Dyadic hl35 ?_
  refine c_eq_Dyadic h58.I (h25.ext EU26) fun w69 e70 => ?_
  have b3 := b3.ext e70
  have o17 := o17.ext e70
  have o21 := o21.ext e70
  have b29 := b29.ext e70
  have o40 := o40.ext e70
  have b43 := b43.ext e70
  have o54 := o54.ext e70
  have h58 := h58.ext e70
  have b61 := b61.ext e70
  have E := E.trans e70
  have EU26 := EU26.trans e70
  have se70 := e70.size
  rw [una_not, Bool.not_true]
  refine ⟨_, fun _ _ _ h => h, ?_⟩
  rw [grd_false_false]
  refine neq_no rfl ?_
  rw [pick_bool, cond_false]
  rw [cnd_false]
  refine Bx.get b43.own u_impl_Program rfl i_impl_Program hl49 ?_
  refine Bx.get b3.own u_laws_Program rfl i_laws_Program hl6 ?_
  refine c_to_Program (hA_ws.ext E) hs_ws fun v73 w71 e72 o74 => ?_
  have b3 := b3.ext e72
  have o17 := o17.ext e72
  have o21 := o21.ext e72
  have b29 := b29.ext e72
  have o40 := o40.ext e72
  have b43 := b43.ext e72
  have o54 := o54.ext e72
  have h58 := h58.ext e72
  have b61 := b61.ext e72
  have E := E.trans e72
  have EU26 := EU26.trans e72
  have se72 := e72.size
  refine ⟨e72, ?_⟩
  refine c_eq_Program o40.I o74.I fun w75 e76 => ?_
  have b3 := b3.ext e76
  have o17 := o17.ext e76
  have o21 := o21.ext e76
  have b29 := b29.ext e76
  have o40 := o40.ext e76
  have b43 := b43.ext e76
  have o54 := o54.ext e76
  have h58 := h58.ext e76
  have b61 := b61.ext e76
  have o74 := o74.ext e76
  have E := E.trans e76
  have EU26 := EU26.trans e76
  have se76 := e76.size
  rw [una_not, Bool.not_true]
  rw [cnd_false]
  refine c_to_Float32S (hA_vs.ext E) hs_vs fun v79 w77 e78 o80 => ?_
  have b3 := b3.ext e78
  have o17 := o17.ext e78
  have o21 := o21.ext e78
  have b29 := b29.ext e78
  have o40 := o40.ext e78
  have b43 := b43.ext e78
  have o54 := o54.ext e78
  have h58 := h58.ext e78
  have b61 := b61.ext e78
  have o74 := o74.ext e78
  have E := E.trans e78
  have EU26 := EU26.trans e78
  have se78 := e78.size
  refine c_eq_Float32S o54.I o80.I fun w81 e82 => ?_
  have b3 := b3.ext e82
  have o17 := o17.ext e82
  have o21 := o21.ext e82
  have b29 := b29.ext e82
  have o40 := o40.ext e82
  have b43 := b43.ext e82
  have o54 := o54.ext e82
  have h58 := h58.ext e82
  have b61 := b61.ext e82
  have o74 := o74.ext e82
  have o80 := o80.ext e82
  have E := E.trans e82
  have EU26 := EU26.trans e82
  have se82 := e82.size
  rw [una_not, Bool.not_true]
  rw [cnd_false]
  refine Bx.get b43.own u_impl_Program rfl i_impl_Program hl49 ?_
  refine c_mark_Program o40 (by omega) (by omega) fun w83 o40N c84 => ?_
  have b3 := b3.chg c84 (by omega)
  have o17 := o17.chg c84 (by omega)
  have o21 := o21.chg c84 (by omega)
  have b29 := b29.chg c84 (by omega)
  have b43 := b43.chg c84 (by omega)
  have o54 := o54.chg c84 (by omega)
  have h58 := h58.chg c84 (by omega)
  have b61 := b61.chg c84 (by omega)
  have o74 := o74.chg c84 (by omega)
  have o80 := o80.chg c84 (by omega)
  have E : Ext w w83 := Chg.below c84 E (by omega) (Nat.le_refl _)
  have EU26 : Ext w22 w83 := Chg.below c84 EU26 (by omega) (Nat.le_refl _)
  have sc84 := c84.size
  have o40 := o40N
  clear o40N
  refine c_mark_Float32S o54 (by omega) (by omega) fun w85 o54N c86 => ?_
  have b3 := b3.chg c86 (by omega)
  have o17 := o17.chg c86 (by omega)
  have o21 := o21.chg c86 (by omega)
  have b29 := b29.chg c86 (by omega)
  have o40 := o40.chg c86 (by omega)
  have b43 := b43.chg c86 (by omega)
  have h58 := h58.chg c86 (by omega)
  have b61 := b61.chg c86 (by omega)
  have o74 := o74.chg c86 (by omega)
  have o80 := o80.chg c86 (by omega)
  have E : Ext w w85 := Chg.below c86 E (by omega) (Nat.le_refl _)
  have EU26 : Ext w22 w85 := Chg.below c86 EU26 (by omega) (Nat.le_refl _)
  have sc86 := c86.size
  have o54 := o54N
  clear o54N
  refine lss_no (by omega) ?_
  refine ⟨_, fun _ _ _ h => h, ?_⟩
  rw [grd_false_false]
  refine Bx.get b61.own u_impl_Dyadic rfl i_impl_Dyadic hl67 ?_
  refine Bx.get b29.own u_impl_Dyadic rfl i_impl_Dyadic hl35 ?_
  refine c_eq_Dyadic h58.I (h25.ext EU26) fun w87 e88 => ?_
  have b3 := b3.ext e88
  have o17 := o17.ext e88
  have o21 := o21.ext e88
  have b29 := b29.ext e88
  have o40 := o40.ext e88
  have b43 := b43.ext e88
  have o54 := o54.ext e88
  have h58 := h58.ext e88
  have b61 := b61.ext e88
  have o74 := o74.ext e88
  have o80 := o80.ext e88
  have E := E.trans e88
  have EU26 := EU26.trans e88
  have se88 := e88.size
  rw [una_not, Bool.not_true]
  rw [pick_bool, cond_false]
  refine ⟨_, fun _ _ _ h => h, ?_⟩
  rw [grd_false_false]
  refine neq_no rfl ?_
  rw [pick_bool, cond_false]
  rw [cnd_false]
  refine Bx.get b61.own u_impl_Dyadic rfl i_impl_Dyadic hl67 ?_
  refine c_mark_Dyadic h58 (by omega) (by omega) fun w89 h58N c90 => ?_
  have b3 := b3.chg c90 (by omega)
  have o17 := o17.chg c90 (by omega)
  have o21 := o21.chg c90 (by omega)
  have b29 := b29.chg c90 (by omega)
  have o40 := o40.chg c90 (by omega)
  have b43 := b43.chg c90 (by omega)
  have o54 := o54.chg c90 (by omega)
  have b61 := b61.chg c90 (by omega)
  have o74 := o74.chg c90 (by omega)
  have o80 := o80.chg c90 (by omega)
  have E : Ext w w89 := Chg.below c90 E (by omega) (Nat.le_refl _)
  have EU26 : Ext w22 w89 := Chg.below c90 EU26 (by omega) (Nat.le_refl _)
  have sc90 := c90.size
  have h58 := h58N
  clear h58N
  refine Bx.get b61.own u_impl_Dyadic rfl i_impl_Dyadic hl67 ?_
  refine c_held_Dyadic h58.I (by omega) (by omega) fun w91 e92 => ?_
  have b3 := b3.ext e92
  have o17 := o17.ext e92
  have o21 := o21.ext e92
  have b29 := b29.ext e92
  have o40 := o40.ext e92
  have b43 := b43.ext e92
  have o54 := o54.ext e92
  have h58 := h58.ext e92
  have b61 := b61.ext e92
  have o74 := o74.ext e92
  have o80 := o80.ext e92
  have E := E.trans e92
  have EU26 := EU26.trans e92
  have se92 := e92.size
  refine lss_no (by omega) ?_
  rw [cnd_false]
  refine neq_no (by omega) ?_
  rw [cnd_false]
  refine Bx.get b3.own u_laws_Program rfl i_laws_Program hl6 ?_
  refine c_to_Program (hA_ws.ext E) hs_ws fun v95 w93 e94 o96 => ?_
  have b3 := b3.ext e94
  have o17 := o17.ext e94
  have o21 := o21.ext e94
  have b29 := b29.ext e94
  have o40 := o40.ext e94
  have b43 := b43.ext e94
  have o54 := o54.ext e94
  have h58 := h58.ext e94
  have b61 := b61.ext e94
  have o74 := o74.ext e94
  have o80 := o80.ext e94
  have E := E.trans e94
  have EU26 := EU26.trans e94
  have se94 := e94.size
  refine c_to_Float32S (hA_vs.ext E) hs_vs fun v99 w97 e98 o100 => ?_
  have b3 := b3.ext e98
  have o17 := o17.ext e98
  have o21 := o21.ext e98
  have b29 := b29.ext e98
  have o40 := o40.ext e98
  have b43 := b43.ext e98
  have o54 := o54.ext e98
  have h58 := h58.ext e98
  have b61 := b61.ext e98
  have o74 := o74.ext e98
  have o80 := o80.ext e98
  have o96 := o96.ext e98
  have E := E.trans e98
  have EU26 := EU26.trans e98
  have se98 := e98.size
  refine p_RunExact o96.I o100.I fun u103 w101 e102 h104 => ?_
  have b3 := b3.ext e102
  have o17 := o17.ext e102
  have o21 := o21.ext e102
  have b29 := b29.ext e102
  have o40 := o40.ext e102
  have b43 := b43.ext e102
  have o54 := o54.ext e102
  have h58 := h58.ext e102
  have b61 := b61.ext e102
  have o74 := o74.ext e102
  have o80 := o80.ext e102
  have o96 := o96.ext e102
  have o100 := o100.ext e102
  have E := E.trans e102
  have EU26 := EU26.trans e102
  have se102 := e102.size
  rw [xtr_0]
  rw [xtr_1]
  refine alc_bx i_impl_Dyadic fun p105 w106 b107 e108 _ => ?_
  have b3 := b3.ext e108
  have o17 := o17.ext e108
  have o21 := o21.ext e108
  have b29 := b29.ext e108
  have o40 := o40.ext e108
  have b43 := b43.ext e108
  have o54 := o54.ext e108
  have h58 := h58.ext e108
  have b61 := b61.ext e108
  have o74 := o74.ext e108
  have o80 := o80.ext e108
  have o96 := o96.ext e108
  have o100 := o100.ext e108
  have h104 := h104.ext e108
  have E := E.trans e108
  have EU26 := EU26.trans e108
  have se108 := e108.size
  have b107 := BxR.of b107
  obtain ⟨cs112, rfl, hl113, h1114⟩ := Dyadic_agg h104.I
  refine Bx.put b107.own i_impl_Dyadic hl113 rfl h1114 fun w109 b107N g110 => ?_
  have c111 := b107.grown g110
  have b3 := b3.chg c111 (by omega)
  have o17 := o17.chg c111 (by omega)
  have o21 := o21.chg c111 (by omega)
  have b29 := b29.chg c111 (by omega)
  have o40 := o40.chg c111 (by omega)
  have b43 := b43.chg c111 (by omega)
  have o54 := o54.chg c111 (by omega)
  have h58 := h58.chg c111 (by omega)
  have b61 := b61.chg c111 (by omega)
  have o74 := o74.chg c111 (by omega)
  have o80 := o80.chg c111 (by omega)
  have o96 := o96.chg c111 (by omega)
  have o100 := o100.chg c111 (by omega)
  have h104 := h104.chg c111 (by omega)
  have E : Ext w w109 := Chg.below c111 E (by omega) (Nat.le_refl _)
  have EU26 : Ext w22 w109 := Chg.below c111 EU26 (by omega) (Nat.le_refl _)
  have sc111 := c111.size
  have b107 : BxR w109 _ _ _ _ _ := ⟨b107N, b107.top⟩
  clear b107N
  refine Bx.get b107.own u_impl_Dyadic rfl i_impl_Dyadic hl113 ?_
  refine Bx.get b29.own u_impl_Dyadic rfl i_impl_Dyadic hl35 ?_
  refine c_eq_Dyadic h104.I (h25.ext EU26) fun w115 e116 => ?_
  have b3 := b3.ext e116
  have o17 := o17.ext e116
  have o21 := o21.ext e116
  have b29 := b29.ext e116
  have o40 := o40.ext e116
  have b43 := b43.ext e116
  have o54 := o54.ext e116
  have h58 := h58.ext e116
  have b61 := b61.ext e116
  have o74 := o74.ext e116
  have o80 := o80.ext e116
  have o96 := o96.ext e116
  have o100 := o100.ext e116
  have h104 := h104.ext e116
  have b107 := b107.ext e116
  have E := E.trans e116
  have EU26 := EU26.trans e116
  have se116 := e116.size
  rw [una_not, Bool.not_true]
  refine ⟨_, fun _ _ _ h => h, ?_⟩
  rw [grd_false_false]
  refine neq_no rfl ?_
  rw [pick_bool, cond_false]
  rw [cnd_false]
  refine Bx.get b61.own u_impl_Dyadic rfl i_impl_Dyadic hl67 ?_
  refine c_held_Dyadic h58.I (by omega) (by omega) fun w117 e118 => ?_
  have b3 := b3.ext e118
  have o17 := o17.ext e118
  have o21 := o21.ext e118
  have b29 := b29.ext e118
  have o40 := o40.ext e118
  have b43 := b43.ext e118
  have o54 := o54.ext e118
  have h58 := h58.ext e118
  have b61 := b61.ext e118
  have o74 := o74.ext e118
  have o80 := o80.ext e118
  have o96 := o96.ext e118
  have o100 := o100.ext e118
  have h104 := h104.ext e118
  have b107 := b107.ext e118
  have E := E.trans e118
  have EU26 := EU26.trans e118
  have se118 := e118.size
  refine lss_no (by omega) ?_
  rw [cnd_false]
  refine neq_no (by omega) ?_
  rw [cnd_false]
  exact H _ E

set_option maxRecDepth 100000 in
theorem RunExact_lifted (os : Os) (started : os.Started) (H : Type) (enc : TypeId × Value → H) :
    ReturnsInHanded {} Tryz.checked os f_laws_FnExactRunExact .any (fun w args => (Rows.fnExactRunExactSpec.pre enc Tryz.prog Tryz.f9 Rows.fnExactRunExactRow.domain false w args ∧ laidMetH Tryz.prog Rows.fnExactRunExactRow.laid w) ∧ sizedMet enc Tryz.prog Tryz.f9 (OpenSpec.ofChange Rows.fnExactRunExactSpec) false w args) (Rows.fnExactRunExactSpec.post enc Tryz.prog Tryz.f9 false true false false) := by
  refine returnsInHanded_of_change_and (C := Tryz.checked) (X := fun w _ => laidMetH Tryz.prog Rows.fnExactRunExactRow.laid w) (fun _ _ _ hh h => h.of_heap hh) own started (by kernel_rfl) Tryz.func9
    (ChangeSpec.witness_shaped (enc := enc) (C := Tryz.checked) (os := os) (X := fun w _ => laidMetH Tryz.prog Rows.fnExactRunExactRow.laid w) false (World.doorLaid Tryz.prog 72 os) #[.agg #[.slice none 0 0], .slice none 0 0] 8 rfl (World.shaped_of_RefB (by kernel_rfl) (by kernel_rfl)) (by kernel_rfl) (by kernel_rfl) (by kernel_rfl) (door_met5 os _)) ?_
  intro W base args ds gs before hval0 hW hcnd _ hL _
  have hW' := hW
  obtain ⟨p, q, hA0, hV, rfl, hfz, hnd⟩ := hW
  have hA : DataW.TrodAll enc Tryz.prog W 0 (fun _ => true) true Tryz.f9.params.toList args.toList ds p := hA0
  rw [Tryz.params9] at hA
  obtain ⟨v0, vs0, d0, ds0, p0, q0, hargs0, rfl, rfl, h0, r0⟩ := trodAll_cons hA
  obtain ⟨v1, vs1, d1, ds1, p1, q1, hargs1, rfl, rfl, h1, r1⟩ := trodAll_cons r0
  obtain ⟨rfl, rfl, rfl⟩ := trodAll_nil r1
  obtain rfl : args = #[v0, v1] := by cases args; simp_all
  obtain ⟨rfl, rfl⟩ := trodVars_none hV
  have hval : ∀ (j : Nat) t v, Tryz.f9.params[j]? = some t → (#[v0, v1] : Array Value)[j]? = some v → Value.okWide Tryz.prog W .any base t v := hval0
  rw [Tryz.params9] at hval
  obtain ⟨cs0, rfl, _⟩ := okWide_struct u_laws_Program (hval 0 t_laws_Program v0 rfl rfl)
  have k0 := h0
  have lt0 : ∀ x ∈ p0, x.block < W.heap.size := by obtain ⟨m, hm⟩ := k0; exact DataW.trod_lt m _ _ _ hm
  obtain ⟨ws, hA_ws⟩ : ∃ ws, A_Program W (.agg cs0) ws := by
    obtain ⟨fuel, hf⟩ := h0
    exact open_Program hf
  obtain ⟨a1, len1, cap1, rfl⟩ := okWide_slice u_s_float32 (hval 1 t_s_float32 v1 rfl rfl)
  have k1 := h1
  have lt1 : ∀ x ∈ p1, x.block < W.heap.size := by obtain ⟨m, hm⟩ := k1; exact DataW.trod_lt m _ _ _ hm
  obtain ⟨vs, hA_vs⟩ : ∃ vs, A_Float32S W (.slice a1 len1 cap1) vs := by
    obtain ⟨fuel, hf⟩ := h1
    exact open_Float32S hf
  clear hval0 hval
  refine (calls_of Tryz.func9 (by kernel_rfl) (by kernel_rfl) (law_RunExact (K := fun v w' => v = .bool true ∧ Ext (Vc.N W) w') hA_ws.N hA_vs.N fun w' he => ⟨rfl, he⟩)).mono ?_
  rintro e W' ⟨v, rfl, rfl, he⟩
  have bel := below_N he
  exact ⟨_, rfl, _, _, _, [], _, [], hW', trodAll_mk1 (shut_bool u_bool _), (trodAll_cons_mk (Below.trod laidOut (by kernel_rfl) (of_decide_eq_true (by kernel_rfl)) k0 bel lt0) (trodAll_cons_mk (Below.trod laidOut (by kernel_rfl) (of_decide_eq_true (by kernel_rfl)) k1 bel lt1) trodAll_mk0)), rfl, bel.frame _, fun h => by cases h⟩

theorem RunExact_holds : Rows.FnExactRunExactSaid :=
  OpenClaim.holds_of_wide 9 Tryz.f9 rfl rfl rfl rfl rfl rfl rfl ⟨rfl, rfl, rfl, rfl, rfl⟩ rfl rfl rfl rfl rfl (by kernel_rfl) Tryz.func9 joined_FnExactRunExact
    (of_decide_eq_true (by kernel_rfl)) (by unfold Func.isWrapper; first | (rw [if_pos (by decide +kernel)]; kernel_rfl) | (rw [if_neg (by decide +kernel)]; exact ⟨rfl, rfl⟩))
    (fun os started H enc _ => RunExact_lifted os started H enc)

theorem RunExact_goes : Tryz.pinned.checked.prog.goes 9 = false := by
  unfold Program.goes Program.unfollowed
  rw [reach_FnExactRunExact]
  kernel_rfl
theorem RunExact_named : Tryz.pinned.checked.prog.funcNamed Rows.fnExactRunExactRow.func = some 9 := by kernel_rfl
theorem RunExact_goesBy : false = Rows.fnExactRunExactRow.goesBy Tryz.pinned.checked.prog := by
  unfold OpenClaim.goesBy Program.goesAt Program.goesFrom
  rw [show Rows.fnExactRunExactRow.start = .entering from rfl, RunExact_named, Option.any_some, RunExact_goes]; rfl
theorem RunExact_text : Rows.fnExactRunExactRow.wfByText (OpenSpec.ofChange Rows.fnExactRunExactSpec) = true := by kernel_rfl
theorem RunExact_main : Tryz.pinned.checked.prog.mainIs = some (true, String.toList "d4ad9ba8e3a97d00c5cc123a56869d5bc39b5731d24b833c156fa00a7d4c1861") := by kernel_rfl
theorem RunExact_looks : true = Tryz.pinned.checked.prog.looks [] := by kernel_rfl
theorem RunExact_stands : (([24, 52] : List TypeId).all fun u => !Tryz.pinned.checked.prog.wantsStandIn u) = true := by kernel_rfl
set_option maxRecDepth 100000 in
theorem RunExact_card : Rows.FnExactRunExactCardSaid :=
  Claim7.holds_tied_plain_at .later [] [.data, .data, .data, .sentinel, .sentinel] true (true, "d4ad9ba8e3a97d00c5cc123a56869d5bc39b5731d24b833c156fa00a7d4c1861") true
    RunExact_holds (fun _ h => by cases h) RunExact_text (fun _ h => by cases h) fnExactRunExact_row_tie rfl ⟨rfl, rfl⟩ RunExact_main rfl
    (fun f fn hf hfn => by
      obtain rfl : f = 9 := (Option.some.inj (RunExact_named.symm.trans hf)).symm
      obtain rfl : fn = Tryz.f9 := (Option.some.inj (Tryz.func9.symm.trans hfn)).symm
      exact ⟨RunExact_looks, fun j t ht => by
        rw [Tryz.params9] at ht
        have hm : t ∈ ([24, 52] : List TypeId) := by simpa using Array.mem_of_getElem? ht
        simpa using List.all_eq_true.1 RunExact_stands t hm⟩)
    RunExact_goesBy

end Go.Proofs.YtjompmflommadaaGreatDoor
