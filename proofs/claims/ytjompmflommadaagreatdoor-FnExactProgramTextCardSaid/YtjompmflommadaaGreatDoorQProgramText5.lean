import Derived.Test.YtjompmflommadaaGreatDoorRows
import Derived.Test.YtjompmflommadaaGreatDoorTie
import Derived.Test.YtjompmflommadaaGreatDoorCards
import Derived.Test.YtjompmflommadaaGreatDoorQProgramText4
set_option linter.unusedSimpArgs false
set_option linter.unusedVariables false

set_option linter.unusedVariables false
namespace Go.Proofs.YtjompmflommadaaGreatDoor
open Go Go.Vc
open Go.ChangeShapes Go.WideShapes Go.ChangeAt Go.RowKit
set_option maxRecDepth 20000 in
theorem law_ProgramText {w : World} {K : Value → World → Prop} {v_ws : Value} {ws : List (List UInt8)} (hA_ws : A_Program w v_ws ws) (H : ∀ w', Ext w w' → K (.bool true) w') : call P f_laws_FnExactProgramText [v_ws] w K := by
  refine I_laws_FnExactProgramText ?_
  unfold D_laws_FnExactProgramText
  have E := Ext.refl w
  obtain ⟨cs5, rfl, hl6, h17⟩ := Program_aggA hA_ws
  refine bx_agg fun p1 w2 b3 e4 => ?_
  have E := E.trans e4
  have se4 := e4.size
  have b3 := BxR.of b3
  refine Bx.get b3.own u_laws_Program rfl i_laws_Program hl6 ?_
  refine c_sz_Program (hA_ws.ext E) (by omega) (by omega) fun r10 w8 e9 hr11 => ?_
  have b3 := b3.ext e9
  have E := E.trans e9
  have se9 := e9.size
  rw [bin_lss]
  refine cnd_dec (fun _ => H _ E) (fun hz12 => ?_)
  refine Bx.get b3.own u_laws_Program rfl i_laws_Program hl6 ?_
  have hs_ws : sz_Program ws ≤ 1048576 := by omega
  have hc_ws := cnt_sz_Program ws
  refine c_to_Program (hA_ws.ext E) hs_ws fun v15 w13 e14 o16 => ?_
  have b3 := b3.ext e14
  have E := E.trans e14
  have se14 := e14.size
  refine s_ProgramText o16.I fun w17 e18 => ?_
  have b3 := b3.ext e18
  have o16 := o16.ext e18
  have E := E.trans e18
  have se18 := e18.size
  have EU19 := Ext.refl w17
  rw [xtr_0]
  rw [xtr_1]
  refine Bx.get b3.own u_laws_Program rfl i_laws_Program hl6 ?_
  refine c_to_Program (hA_ws.ext E) hs_ws fun v22 w20 e21 o23 => ?_
  have b3 := b3.ext e21
  have o16 := o16.ext e21
  have E := E.trans e21
  have EU19 := EU19.trans e21
  have se21 := e21.size
  refine alc_bx i_impl_Program fun p24 w25 b26 e27 _ => ?_
  have b3 := b3.ext e27
  have o16 := o16.ext e27
  have o23 := o23.ext e27
  have E := E.trans e27
  have EU19 := EU19.trans e27
  have se27 := e27.size
  have b26 := BxR.of b26
  obtain ⟨cs31, rfl, hl32, h133⟩ := Program_agg o23.I
  refine Bx.put b26.own i_impl_Program hl32 rfl h133 fun w28 b26N g29 => ?_
  have c30 := b26.grown g29
  have b3 := b3.chg c30 (by omega)
  have o16 := o16.chg c30 (by omega)
  have o23 := o23.chg c30 (by omega)
  have E : Ext w w28 := Chg.below c30 E (by omega) (Nat.le_refl _)
  have EU19 : Ext w17 w28 := Chg.below c30 EU19 (by omega) (Nat.le_refl _)
  have sc30 := c30.size
  have b26 : BxR w28 _ _ _ _ _ := ⟨b26N, b26.top⟩
  clear b26N
  refine Bx.get b26.own u_impl_Program rfl i_impl_Program hl32 ?_
  refine p_ProgramText o23.I fun w34 e35 => ?_
  have b3 := b3.ext e35
  have o16 := o16.ext e35
  have o23 := o23.ext e35
  have b26 := b26.ext e35
  have E := E.trans e35
  have EU19 := EU19.trans e35
  have se35 := e35.size
  rw [xtr_0]
  rw [xtr_1]
  refine sneq_no ?_
  refine ⟨_, fun _ _ _ h => h, ?_⟩
  rw [grd_false_false]
  refine neq_no rfl ?_
  rw [pick_bool, cond_false]
  rw [cnd_false]
  refine Bx.get b26.own u_impl_Program rfl i_impl_Program hl32 ?_
  refine Bx.get b3.own u_laws_Program rfl i_laws_Program hl6 ?_
  refine c_to_Program (hA_ws.ext E) hs_ws fun v38 w36 e37 o39 => ?_
  have b3 := b3.ext e37
  have o16 := o16.ext e37
  have o23 := o23.ext e37
  have b26 := b26.ext e37
  have E := E.trans e37
  have EU19 := EU19.trans e37
  have se37 := e37.size
  refine ⟨e37, ?_⟩
  refine c_eq_Program o23.I o39.I fun w40 e41 => ?_
  have b3 := b3.ext e41
  have o16 := o16.ext e41
  have o23 := o23.ext e41
  have b26 := b26.ext e41
  have o39 := o39.ext e41
  have E := E.trans e41
  have EU19 := EU19.trans e41
  have se41 := e41.size
  rw [una_not, Bool.not_true]
  rw [cnd_false]
  exact H _ E
set_option maxRecDepth 100000 in
theorem ProgramText_lifted (os : Os) (started : os.Started) (H : Type) (enc : TypeId × Value → H) :
    ReturnsInHanded {} Tryz.checked os f_laws_FnExactProgramText .any (fun w args => (Rows.fnExactProgramTextSpec.pre enc Tryz.prog Tryz.f6 Rows.fnExactProgramTextRow.domain false w args ∧ laidMetH Tryz.prog Rows.fnExactProgramTextRow.laid w) ∧ sizedMet enc Tryz.prog Tryz.f6 (OpenSpec.ofChange Rows.fnExactProgramTextSpec) false w args) (Rows.fnExactProgramTextSpec.post enc Tryz.prog Tryz.f6 false true false false) := by
  refine returnsInHanded_of_change_and (C := Tryz.checked) (X := fun w _ => laidMetH Tryz.prog Rows.fnExactProgramTextRow.laid w) (fun _ _ _ hh h => h.of_heap hh) own started (by kernel_rfl) Tryz.func6
    (ChangeSpec.witness_shaped (enc := enc) (C := Tryz.checked) (os := os) (X := fun w _ => laidMetH Tryz.prog Rows.fnExactProgramTextRow.laid w) false (World.doorLaid Tryz.prog 72 os) #[.agg #[.slice none 0 0]] 8 rfl (World.shaped_of_RefB (by kernel_rfl) (by kernel_rfl)) (by kernel_rfl) (by kernel_rfl) (by kernel_rfl) (door_met5 os _)) ?_
  intro W base args ds gs before hval0 hW hcnd _ hL _
  have hW' := hW
  obtain ⟨p, q, hA0, hV, rfl, hfz, hnd⟩ := hW
  have hA : DataW.TrodAll enc Tryz.prog W 0 (fun _ => true) true Tryz.f6.params.toList args.toList ds p := hA0
  rw [Tryz.params6] at hA
  obtain ⟨v0, vs0, d0, ds0, p0, q0, hargs0, rfl, rfl, h0, r0⟩ := trodAll_cons hA
  obtain ⟨rfl, rfl, rfl⟩ := trodAll_nil r0
  obtain rfl : args = #[v0] := by cases args; simp_all
  obtain ⟨rfl, rfl⟩ := trodVars_none hV
  have hval : ∀ (j : Nat) t v, Tryz.f6.params[j]? = some t → (#[v0] : Array Value)[j]? = some v → Value.okWide Tryz.prog W .any base t v := hval0
  rw [Tryz.params6] at hval
  obtain ⟨cs0, rfl, _⟩ := okWide_struct u_laws_Program (hval 0 t_laws_Program v0 rfl rfl)
  have k0 := h0
  have lt0 : ∀ x ∈ p0, x.block < W.heap.size := by obtain ⟨m, hm⟩ := k0; exact DataW.trod_lt m _ _ _ hm
  obtain ⟨ws, hA_ws⟩ : ∃ ws, A_Program W (.agg cs0) ws := by
    obtain ⟨fuel, hf⟩ := h0
    exact open_Program hf
  clear hval0 hval
  refine (calls_of Tryz.func6 (by kernel_rfl) (by kernel_rfl) (law_ProgramText (K := fun v w' => v = .bool true ∧ Ext (Vc.N W) w') hA_ws.N fun w' he => ⟨rfl, he⟩)).mono ?_
  rintro e W' ⟨v, rfl, rfl, he⟩
  have bel := below_N he
  exact ⟨_, rfl, _, _, _, [], _, [], hW', trodAll_mk1 (shut_bool u_bool _), (trodAll_cons_mk (Below.trod laidOut (by kernel_rfl) (of_decide_eq_true (by kernel_rfl)) k0 bel lt0) trodAll_mk0), rfl, bel.frame _, fun h => by cases h⟩
theorem ProgramText_holds : Rows.FnExactProgramTextSaid :=
  OpenClaim.holds_of_wide 6 Tryz.f6 rfl rfl rfl rfl rfl rfl rfl ⟨rfl, rfl, rfl, rfl, rfl⟩ rfl rfl rfl rfl rfl (by kernel_rfl) Tryz.func6 joined_FnExactProgramText
    (of_decide_eq_true (by kernel_rfl)) (by unfold Func.isWrapper; first | (rw [if_pos (by decide +kernel)]; kernel_rfl) | (rw [if_neg (by decide +kernel)]; exact ⟨rfl, rfl⟩))
    (fun os started H enc _ => ProgramText_lifted os started H enc)
theorem ProgramText_goes : Tryz.pinned.checked.prog.goes 6 = false := by
  unfold Program.goes Program.unfollowed
  rw [reach_FnExactProgramText]
  kernel_rfl
theorem ProgramText_named : Tryz.pinned.checked.prog.funcNamed Rows.fnExactProgramTextRow.func = some 6 := by kernel_rfl
theorem ProgramText_goesBy : false = Rows.fnExactProgramTextRow.goesBy Tryz.pinned.checked.prog := by
  unfold OpenClaim.goesBy Program.goesAt Program.goesFrom
  rw [show Rows.fnExactProgramTextRow.start = .entering from rfl, ProgramText_named, Option.any_some, ProgramText_goes]; rfl
theorem ProgramText_text : Rows.fnExactProgramTextRow.wfByText (OpenSpec.ofChange Rows.fnExactProgramTextSpec) = true := by kernel_rfl
theorem ProgramText_main : Tryz.pinned.checked.prog.mainIs = some (true, String.toList "d4ad9ba8e3a97d00c5cc123a56869d5bc39b5731d24b833c156fa00a7d4c1861") := by kernel_rfl
theorem ProgramText_looks : true = Tryz.pinned.checked.prog.looks [] := by kernel_rfl
theorem ProgramText_stands : (([24] : List TypeId).all fun u => !Tryz.pinned.checked.prog.wantsStandIn u) = true := by kernel_rfl
set_option maxRecDepth 100000 in
theorem ProgramText_card : Rows.FnExactProgramTextCardSaid :=
  Claim7.holds_tied_plain_at .later [] [.data, .data, .data, .sentinel, .sentinel] true (true, "d4ad9ba8e3a97d00c5cc123a56869d5bc39b5731d24b833c156fa00a7d4c1861") true
    ProgramText_holds (fun _ h => by cases h) ProgramText_text (fun _ h => by cases h) fnExactProgramText_row_tie rfl ⟨rfl, rfl⟩ ProgramText_main rfl
    (fun f fn hf hfn => by
      obtain rfl : f = 6 := (Option.some.inj (ProgramText_named.symm.trans hf)).symm
      obtain rfl : fn = Tryz.f6 := (Option.some.inj (Tryz.func6.symm.trans hfn)).symm
      exact ⟨ProgramText_looks, fun j t ht => by
        rw [Tryz.params6] at ht
        have hm : t ∈ ([24] : List TypeId) := by simpa using Array.mem_of_getElem? ht
        simpa using List.all_eq_true.1 ProgramText_stands t hm⟩)
    ProgramText_goesBy
end Go.Proofs.YtjompmflommadaaGreatDoor
