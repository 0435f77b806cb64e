import Derived.Test.YtjompmflommadaaGreatDoorRows
import Derived.Test.YtjompmflommadaaGreatDoorTie
import Derived.Test.YtjompmflommadaaGreatDoorCards
import Derived.Test.YtjompmflommadaaGreatDoorQRunPair5
set_option linter.unusedSimpArgs false
set_option linter.unusedVariables false

set_option linter.unusedVariables false
namespace Go.Proofs.YtjompmflommadaaGreatDoor
open Go Go.Vc
open Go.ChangeShapes Go.WideShapes Go.ChangeAt Go.RowKit
set_option maxRecDepth 20000 in
theorem law_RunPair {w : World} {K : Value → World → Prop} {v_ws : Value} {ws : List (List UInt8)} (hA_ws : A_Program w v_ws ws) {v_vs : Value} {vs : List Nat} (hA_vs : A_Float32S w v_vs vs) (H : ∀ w', Ext w w' → K (.bool true) w') : call P f_laws_FnExactRunPair [v_ws, v_vs] w K := by
  refine I_laws_FnExactRunPair ?_
  unfold D_laws_FnExactRunPair
  have E := Ext.refl w
  obtain ⟨cs5, rfl, hl6, h17⟩ := Program_aggA hA_ws
  refine bx_agg fun p1 w2 b3 e4 => ?_
  have E := E.trans e4
  have se4 := e4.size
  have b3 := BxR.of b3
  rw [len_Float32S (hA_vs.ext E)]
  rw [bin_gtr]
  refine cnd_dec (fun _ => H _ E) (fun hz8 => ?_)
  refine Bx.get b3.own u_laws_Program rfl i_laws_Program hl6 ?_
  refine c_sz_Program (hA_ws.ext E) (by omega) (by omega) fun r11 w9 e10 hr12 => ?_
  have b3 := b3.ext e10
  have E := E.trans e10
  have se10 := e10.size
  rw [bin_lss]
  refine cnd_dec (fun _ => H _ E) (fun hz13 => ?_)
  refine Bx.get b3.own u_laws_Program rfl i_laws_Program hl6 ?_
  have hs_ws : sz_Program ws ≤ 1048576 := by omega
  have hc_ws := cnt_sz_Program ws
  have hs_vs : sz_Float32S vs ≤ 1048576 := by omega
  have hc_vs := cnt_sz_Float32S vs
  have hr_0 := small_RunPair_0 ws vs
  refine c_to_Program (hA_ws.ext E) hs_ws fun v16 w14 e15 o17 => ?_
  have b3 := b3.ext e15
  have E := E.trans e15
  have se15 := e15.size
  refine c_to_Float32S (hA_vs.ext E) hs_vs fun v20 w18 e19 o21 => ?_
  have b3 := b3.ext e19
  have o17 := o17.ext e19
  have E := E.trans e19
  have se19 := e19.size
  refine s_RunPair o17.I o21.I fun u24 w22 e23 h25 => ?_
  have b3 := b3.ext e23
  have o17 := o17.ext e23
  have o21 := o21.ext e23
  have E := E.trans e23
  have se23 := e23.size
  have EU26 := Ext.refl w22
  rw [xtr_0]
  rw [xtr_1]
  refine alc_bx i_impl_Pair fun p27 w28 b29 e30 _ => ?_
  have b3 := b3.ext e30
  have o17 := o17.ext e30
  have o21 := o21.ext e30
  have E := E.trans e30
  have EU26 := EU26.trans e30
  have se30 := e30.size
  have b29 := BxR.of b29
  obtain ⟨cs34, rfl, hl35, h136⟩ := Pair_agg h25
  refine Bx.put b29.own i_impl_Pair hl35 rfl h136 fun w31 b29N g32 => ?_
  have c33 := b29.grown g32
  have b3 := b3.chg c33 (by omega)
  have o17 := o17.chg c33 (by omega)
  have o21 := o21.chg c33 (by omega)
  have E : Ext w w31 := Chg.below c33 E (by omega) (Nat.le_refl _)
  have EU26 : Ext w22 w31 := Chg.below c33 EU26 (by omega) (Nat.le_refl _)
  have sc33 := c33.size
  have b29 : BxR w31 _ _ _ _ _ := ⟨b29N, b29.top⟩
  clear b29N
  refine Bx.get b3.own u_laws_Program rfl i_laws_Program hl6 ?_
  refine c_to_Program (hA_ws.ext E) hs_ws fun v39 w37 e38 o40 => ?_
  have b3 := b3.ext e38
  have o17 := o17.ext e38
  have o21 := o21.ext e38
  have b29 := b29.ext e38
  have E := E.trans e38
  have EU26 := EU26.trans e38
  have se38 := e38.size
  refine alc_bx i_impl_Program fun p41 w42 b43 e44 _ => ?_
  have b3 := b3.ext e44
  have o17 := o17.ext e44
  have o21 := o21.ext e44
  have b29 := b29.ext e44
  have o40 := o40.ext e44
  have E := E.trans e44
  have EU26 := EU26.trans e44
  have se44 := e44.size
  have b43 := BxR.of b43
  obtain ⟨cs48, rfl, hl49, h150⟩ := Program_agg o40.I
  refine Bx.put b43.own i_impl_Program hl49 rfl h150 fun w45 b43N g46 => ?_
  have c47 := b43.grown g46
  have b3 := b3.chg c47 (by omega)
  have o17 := o17.chg c47 (by omega)
  have o21 := o21.chg c47 (by omega)
  have b29 := b29.chg c47 (by omega)
  have o40 := o40.chg c47 (by omega)
  have E : Ext w w45 := Chg.below c47 E (by omega) (Nat.le_refl _)
  have EU26 : Ext w22 w45 := Chg.below c47 EU26 (by omega) (Nat.le_refl _)
  have sc47 := c47.size
  have b43 : BxR w45 _ _ _ _ _ := ⟨b43N, b43.top⟩
  clear b43N
  refine c_to_Float32S (hA_vs.ext E) hs_vs fun v53 w51 e52 o54 => ?_
  have b3 := b3.ext e52
  have o17 := o17.ext e52
  have o21 := o21.ext e52
  have b29 := b29.ext e52
  have o40 := o40.ext e52
  have b43 := b43.ext e52
  have E := E.trans e52
  have EU26 := EU26.trans e52
  have se52 := e52.size
  refine Bx.get b43.own u_impl_Program rfl i_impl_Program hl49 ?_
  refine p_RunPair o40.I o54.I fun u57 w55 e56 h58 => ?_
  have b3 := b3.ext e56
  have o17 := o17.ext e56
  have o21 := o21.ext e56
  have b29 := b29.ext e56
  have o40 := o40.ext e56
  have b43 := b43.ext e56
  have o54 := o54.ext e56
  have E := E.trans e56
  have EU26 := EU26.trans e56
  have se56 := e56.size
  rw [xtr_0]
  rw [xtr_1]
  refine alc_bx i_impl_Pair fun p59 w60 b61 e62 _ => ?_
  have b3 := b3.ext e62
  have o17 := o17.ext e62
  have o21 := o21.ext e62
  have b29 := b29.ext e62
  have o40 := o40.ext e62
  have b43 := b43.ext e62
  have o54 := o54.ext e62
  have h58 := h58.ext e62
  have E := E.trans e62
  have EU26 := EU26.trans e62
  have se62 := e62.size
  have b61 := BxR.of b61
  obtain ⟨cs66, rfl, hl67, h168⟩ := Pair_agg h58.I
  refine Bx.put b61.own i_impl_Pair hl67 rfl h168 fun w63 b61N g64 => ?_
  have c65 := b61.grown g64
  have b3 := b3.chg c65 (by omega)
  have o17 := o17.chg c65 (by omega)
  have o21 := o21.chg c65 (by omega)
  have b29 := b29.chg c65 (by omega)
  have o40 := o40.chg c65 (by omega)
  have b43 := b43.chg c65 (by omega)
  have o54 := o54.chg c65 (by omega)
  have h58 := h58.chg c65 (by omega)
  have E : Ext w w63 := Chg.below c65 E (by omega) (Nat.le_refl _)
  have EU26 : Ext w22 w63 := Chg.below c65 EU26 (by omega) (Nat.le_refl _)
  have sc65 := c65.size
  have b61 : BxR w63 _ _ _ _ _ := ⟨b61N, b61.top⟩
  clear b61N
  refine Bx.get b61.own u_impl_Pair rfl i_impl_Pair hl67 ?_
  refine Bx.get b29.own u_impl_Pair rfl i_impl_Pair hl35 ?_
  refine c_eq_Pair h58.I (h25.ext EU26) fun w69 e70 => ?_
  have b3 := b3.ext e70
  have o17 := o17.ext e70
  have o21 := o21.ext e70
  have b29 := b29.ext e70
  have o40 := o40.ext e70
  have b43 := b43.ext e70
  have o54 := o54.ext e70
  have h58 := h58.ext e70
  have b61 := b61.ext e70
  have E := E.trans e70
  have EU26 := EU26.trans e70
  have se70 := e70.size
  rw [una_not, Bool.not_true]
  refine ⟨_, fun _ _ _ h => h, ?_⟩
  rw [grd_false_false]
  refine neq_no rfl ?_
  rw [pick_bool, cond_false]
  rw [cnd_false]
  refine Bx.get b43.own u_impl_Program rfl i_impl_Program hl49 ?_
  refine Bx.get b3.own u_laws_Program rfl i_laws_Program hl6 ?_
  refine c_to_Program (hA_ws.ext E) hs_ws fun v73 w71 e72 o74 => ?_
  have b3 := b3.ext e72
  have o17 := o17.ext e72
  have o21 := o21.ext e72
  have b29 := b29.ext e72
  have o40 := o40.ext e72
  have b43 := b43.ext e72
  have o54 := o54.ext e72
  have h58 := h58.ext e72
  have b61 := b61.ext e72
  have E := E.trans e72
  have EU26 := EU26.trans e72
  have se72 := e72.size
  refine ⟨e72, ?_⟩
  refine c_eq_Program o40.I o74.I fun w75 e76 => ?_
  have b3 := b3.ext e76
  have o17 := o17.ext e76
  have o21 := o21.ext e76
  have b29 := b29.ext e76
  have o40 := o40.ext e76
  have b43 := b43.ext e76
  have o54 := o54.ext e76
  have h58 := h58.ext e76
  have b61 := b61.ext e76
  have o74 := o74.ext e76
  have E := E.trans e76
  have EU26 := EU26.trans e76
  have se76 := e76.size
  rw [una_not, Bool.not_true]
  rw [cnd_false]
  refine c_to_Float32S (hA_vs.ext E) hs_vs fun v79 w77 e78 o80 => ?_
  have b3 := b3.ext e78
  have o17 := o17.ext e78
  have o21 := o21.ext e78
  have b29 := b29.ext e78
  have o40 := o40.ext e78
  have b43 := b43.ext e78
  have o54 := o54.ext e78
  have h58 := h58.ext e78
  have b61 := b61.ext e78
  have o74 := o74.ext e78
  have E := E.trans e78
  have EU26 := EU26.trans e78
  have se78 := e78.size
  refine c_eq_Float32S o54.I o80.I fun w81 e82 => ?_
  have b3 := b3.ext e82
  have o17 := o17.ext e82
  have o21 := o21.ext e82
  have b29 := b29.ext e82
  have o40 := o40.ext e82
  have b43 := b43.ext e82
  have o54 := o54.ext e82
  have h58 := h58.ext e82
  have b61 := b61.ext e82
  have o74 := o74.ext e82
  have o80 := o80.ext e82
  have E := E.trans e82
  have EU26 := EU26.trans e82
  have se82 := e82.size
  rw [una_not, Bool.not_true]
  rw [cnd_false]
  exact H _ E
set_option maxRecDepth 100000 in
theorem RunPair_lifted (os : Os) (started : os.Started) (H : Type) (enc : TypeId × Value → H) :
    ReturnsInHanded {} Tryz.checked os f_laws_FnExactRunPair .any (fun w args => (Rows.fnExactRunPairSpec.pre enc Tryz.prog Tryz.f10 Rows.fnExactRunPairRow.domain false w args ∧ laidMetH Tryz.prog Rows.fnExactRunPairRow.laid w) ∧ sizedMet enc Tryz.prog Tryz.f10 (OpenSpec.ofChange Rows.fnExactRunPairSpec) false w args) (Rows.fnExactRunPairSpec.post enc Tryz.prog Tryz.f10 false true false false) := by
  refine returnsInHanded_of_change_and (C := Tryz.checked) (X := fun w _ => laidMetH Tryz.prog Rows.fnExactRunPairRow.laid w) (fun _ _ _ hh h => h.of_heap hh) own started (by kernel_rfl) Tryz.func10
    (ChangeSpec.witness_shaped (enc := enc) (C := Tryz.checked) (os := os) (X := fun w _ => laidMetH Tryz.prog Rows.fnExactRunPairRow.laid w) false (World.doorLaid Tryz.prog 72 os) #[.agg #[.slice none 0 0], .slice none 0 0] 8 rfl (World.shaped_of_RefB (by kernel_rfl) (by kernel_rfl)) (by kernel_rfl) (by kernel_rfl) (by kernel_rfl) (door_met5 os _)) ?_
  intro W base args ds gs before hval0 hW hcnd _ hL _
  have hW' := hW
  obtain ⟨p, q, hA0, hV, rfl, hfz, hnd⟩ := hW
  have hA : DataW.TrodAll enc Tryz.prog W 0 (fun _ => true) true Tryz.f10.params.toList args.toList ds p := hA0
  rw [Tryz.params10] at hA
  obtain ⟨v0, vs0, d0, ds0, p0, q0, hargs0, rfl, rfl, h0, r0⟩ := trodAll_cons hA
  obtain ⟨v1, vs1, d1, ds1, p1, q1, hargs1, rfl, rfl, h1, r1⟩ := trodAll_cons r0
  obtain ⟨rfl, rfl, rfl⟩ := trodAll_nil r1
  obtain rfl : args = #[v0, v1] := by cases args; simp_all
  obtain ⟨rfl, rfl⟩ := trodVars_none hV
  have hval : ∀ (j : Nat) t v, Tryz.f10.params[j]? = some t → (#[v0, v1] : Array Value)[j]? = some v → Value.okWide Tryz.prog W .any base t v := hval0
  rw [Tryz.params10] at hval
  obtain ⟨cs0, rfl, _⟩ := okWide_struct u_laws_Program (hval 0 t_laws_Program v0 rfl rfl)
  have k0 := h0
  have lt0 : ∀ x ∈ p0, x.block < W.heap.size := by obtain ⟨m, hm⟩ := k0; exact DataW.trod_lt m _ _ _ hm
  obtain ⟨ws, hA_ws⟩ : ∃ ws, A_Program W (.agg cs0) ws := by
    obtain ⟨fuel, hf⟩ := h0
    exact open_Program hf
  obtain ⟨a1, len1, cap1, rfl⟩ := okWide_slice u_s_float32 (hval 1 t_s_float32 v1 rfl rfl)
  have k1 := h1
  have lt1 : ∀ x ∈ p1, x.block < W.heap.size := by obtain ⟨m, hm⟩ := k1; exact DataW.trod_lt m _ _ _ hm
  obtain ⟨vs, hA_vs⟩ : ∃ vs, A_Float32S W (.slice a1 len1 cap1) vs := by
    obtain ⟨fuel, hf⟩ := h1
    exact open_Float32S hf
  clear hval0 hval
  refine (calls_of Tryz.func10 (by kernel_rfl) (by kernel_rfl) (law_RunPair (K := fun v w' => v = .bool true ∧ Ext (Vc.N W) w') hA_ws.N hA_vs.N fun w' he => ⟨rfl, he⟩)).mono ?_
  rintro e W' ⟨v, rfl, rfl, he⟩
  have bel := below_N he
  exact ⟨_, rfl, _, _, _, [], _, [], hW', trodAll_mk1 (shut_bool u_bool _), (trodAll_cons_mk (Below.trod laidOut (by kernel_rfl) (of_decide_eq_true (by kernel_rfl)) k0 bel lt0) (trodAll_cons_mk (Below.trod laidOut (by kernel_rfl) (of_decide_eq_true (by kernel_rfl)) k1 bel lt1) trodAll_mk0)), rfl, bel.frame _, fun h => by cases h⟩
theorem RunPair_holds : Rows.FnExactRunPairSaid :=
  OpenClaim.holds_of_wide 10 Tryz.f10 rfl rfl rfl rfl rfl rfl rfl ⟨rfl, rfl, rfl, rfl, rfl⟩ rfl rfl rfl rfl rfl (by kernel_rfl) Tryz.func10 joined_FnExactRunPair
    (of_decide_eq_true (by kernel_rfl)) (by unfold Func.isWrapper; first | (rw [if_pos (by decide +kernel)]; kernel_rfl) | (rw [if_neg (by decide +kernel)]; exact ⟨rfl, rfl⟩))
    (fun os started H enc _ => RunPair_lifted os started H enc)
theorem RunPair_goes : Tryz.pinned.checked.prog.goes 10 = false := by
  unfold Program.goes Program.unfollowed
  rw [reach_FnExactRunPair]
  kernel_rfl
theorem RunPair_named : Tryz.pinned.checked.prog.funcNamed Rows.fnExactRunPairRow.func = some 10 := by kernel_rfl
theorem RunPair_goesBy : false = Rows.fnExactRunPairRow.goesBy Tryz.pinned.checked.prog := by
  unfold OpenClaim.goesBy Program.goesAt Program.goesFrom
  rw [show Rows.fnExactRunPairRow.start = .entering from rfl, RunPair_named, Option.any_some, RunPair_goes]; rfl
theorem RunPair_text : Rows.fnExactRunPairRow.wfByText (OpenSpec.ofChange Rows.fnExactRunPairSpec) = true := by kernel_rfl
theorem RunPair_main : Tryz.pinned.checked.prog.mainIs = some (true, String.toList "d4ad9ba8e3a97d00c5cc123a56869d5bc39b5731d24b833c156fa00a7d4c1861") := by kernel_rfl
theorem RunPair_looks : true = Tryz.pinned.checked.prog.looks [] := by kernel_rfl
theorem RunPair_stands : (([24, 52] : List TypeId).all fun u => !Tryz.pinned.checked.prog.wantsStandIn u) = true := by kernel_rfl
set_option maxRecDepth 100000 in
theorem RunPair_card : Rows.FnExactRunPairCardSaid :=
  Claim7.holds_tied_plain_at .later [] [.data, .data, .data, .sentinel, .sentinel] true (true, "d4ad9ba8e3a97d00c5cc123a56869d5bc39b5731d24b833c156fa00a7d4c1861") true
    RunPair_holds (fun _ h => by cases h) RunPair_text (fun _ h => by cases h) fnExactRunPair_row_tie rfl ⟨rfl, rfl⟩ RunPair_main rfl
    (fun f fn hf hfn => by
      obtain rfl : f = 10 := (Option.some.inj (RunPair_named.symm.trans hf)).symm
      obtain rfl : fn = Tryz.f10 := (Option.some.inj (Tryz.func10.symm.trans hfn)).symm
      exact ⟨RunPair_looks, fun j t ht => by
        rw [Tryz.params10] at ht
        have hm : t ∈ ([24, 52] : List TypeId) := by simpa using Array.mem_of_getElem? ht
        simpa using List.all_eq_true.1 RunPair_stands t hm⟩)
    RunPair_goesBy
end Go.Proofs.YtjompmflommadaaGreatDoor
