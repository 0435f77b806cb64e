import Derived.Test.YtjompmflommadaaGreatDoorRows
import Derived.Test.YtjompmflommadaaGreatDoorTie
import Derived.Test.YtjompmflommadaaGreatDoorCards
import Derived.Test.YtjompmflommadaaGreatDoorQParseProgram5
set_option linter.unusedSimpArgs false
set_option linter.unusedVariables false
/- The program's ParseProgram returns what the reference's returns, for all arguments, changes no argument and shares no memory. No condition. -/
set_option linter.unusedVariables false
namespace Go.Proofs.YtjompmflommadaaGreatDoor
open Go Go.Vc
open Go.ChangeShapes Go.WideShapes Go.ChangeAt Go.RowKit

set_option maxRecDepth 20000 in
theorem law_ParseProgram {w : World} {K : Value → World → Prop} {s : ByteArray} (hA_s : A_string s) (H : ∀ w', Ext w w' → K (.bool true) w') : call P f_laws_FnExactParseProgram [(.string s)] w K := by
  refine I_laws_FnExactParseProgram ?_
  unfold D_laws_FnExactParseProgram
  have E := Ext.refl w
  rw [bl0_len_s u_string]
  rw [bin_gtr]
  refine cnd_dec (fun _ => H _ E) (fun hz1 => ?_)
  have hr_0 := small_ParseProgram_0 s
  refine s_ParseProgram (by omega) fun u4 w2 e3 h5 => ?_
  have E := E.trans e3
  have se3 := e3.size
  have EU6 := Ext.refl w2
  rw [xtr_0]
  rw [xtr_1]
  refine alc_bx i_impl_Program fun p7 w8 b9 e10 _ => ?_
  have E := E.trans e10
  have EU6 := EU6.trans e10
  have se10 := e10.size
  have b9 := BxR.of b9
  obtain ⟨cs14, rfl, hl15, h116⟩ := Program_agg h5
  refine Bx.put b9.own i_impl_Program hl15 rfl h116 fun w11 b9N g12 => ?_
  have c13 := b9.grown g12
  have E : Ext w w11 := Chg.below c13 E (by omega) (Nat.le_refl _)
  have EU6 : Ext w2 w11 := Chg.below c13 EU6 (by omega) (Nat.le_refl _)
  have sc13 := c13.size
  have b9 : BxR w11 _ _ _ _ _ := ⟨b9N, b9.top⟩
  clear b9N
  refine p_ParseProgram (by omega) fun u19 w17 e18 h20 => ?_
  have b9 := b9.ext e18
  have E := E.trans e18
  have EU6 := EU6.trans e18
  have se18 := e18.size
  rw [xtr_0]
  rw [xtr_1]
  refine alc_bx i_impl_Program fun p21 w22 b23 e24 _ => ?_
  have b9 := b9.ext e24
  have h20 := h20.ext e24
  have E := E.trans e24
  have EU6 := EU6.trans e24
  have se24 := e24.size
  have b23 := BxR.of b23
  obtain ⟨cs28, rfl, hl29, h130⟩ := Program_agg h20.I
  refine Bx.put b23.own i_impl_Program hl29 rfl h130 fun w25 b23N g26 => ?_
  have c27 := b23.grown g26
  have b9 := b9.chg c27 (by omega)
  have h20 := h20.chg c27 (by omega)
  have E : Ext w w25 := Chg.below c27 E (by omega) (Nat.le_refl _)
  have EU6 : Ext w2 w25 := Chg.below c27 EU6 (by omega) (Nat.le_refl _)
  have sc27 := c27.size
  have b23 : BxR w25 _ _ _ _ _ := ⟨b23N, b23.top⟩
  clear b23N
  refine Bx.get b23.own u_impl_Program rfl i_impl_Program hl29 ?_
  refine Bx.get b9.own u_impl_Program rfl i_impl_Program hl15 ?_
  refine c_eq_Program h20.I (h5.ext EU6) fun w31 e32 => ?_
  have b9 := b9.ext e32
  have h20 := h20.ext e32
  have b23 := b23.ext e32
  have E := E.trans e32
  have EU6 := EU6.trans e32
  have se32 := e32.size
  rw [una_not, Bool.not_true]
  refine ⟨_, fun _ _ _ h => h, ?_⟩
  rw [grd_false_false]
  refine neq_no rfl ?_
  rw [pick_bool, cond_false]
  rw [cnd_false]
  refine Bx.get b23.own u_impl_Program rfl i_impl_Program hl29 ?_
  refine c_mark_Program h20 (by omega) (by omega) fun w33 h20N c34 => ?_
  have b9 := b9.chg c34 (by omega)
  have b23 := b23.chg c34 (by omega)
  have E : Ext w w33 := Chg.below c34 E (by omega) (Nat.le_refl _)
  have EU6 : Ext w2 w33 := Chg.below c34 EU6 (by omega) (Nat.le_refl _)
  have sc34 := c34.size
  have h20 := h20N
  clear h20N
  refine Bx.get b23.own u_impl_Program rfl i_impl_Program hl29 ?_
  refine c_held_Program h20.I (by omega) (by omega) fun w35 e36 => ?_
  have b9 := b9.ext e36
  have h20 := h20.ext e36
  have b23 := b23.ext e36
  have E := E.trans e36
  have EU6 := EU6.trans e36
  have se36 := e36.size
  refine lss_no (by omega) ?_
  rw [cnd_false]
  refine neq_no (by omega) ?_
  rw [cnd_false]
  refine p_ParseProgram (by omega) fun u39 w37 e38 h40 => ?_
  have b9 := b9.ext e38
  have h20 := h20.ext e38
  have b23 := b23.ext e38
  have E := E.trans e38
  have EU6 := EU6.trans e38
  have se38 := e38.size
  rw [xtr_0]
  rw [xtr_1]
  refine alc_bx i_impl_Program fun p41 w42 b43 e44 _ => ?_
  have b9 := b9.ext e44
  have h20 := h20.ext e44
  have b23 := b23.ext e44
  have h40 := h40.ext e44
  have E := E.trans e44
  have EU6 := EU6.trans e44
  have se44 := e44.size
  have b43 := BxR.of b43
  obtain ⟨cs48, rfl, hl49, h150⟩ := Program_agg h40.I
  refine Bx.put b43.own i_impl_Program hl49 rfl h150 fun w45 b43N g46 => ?_
  have c47 := b43.grown g46
  have b9 := b9.chg c47 (by omega)
  have h20 := h20.chg c47 (by omega)
  have b23 := b23.chg c47 (by omega)
  have h40 := h40.chg c47 (by omega)
  have E : Ext w w45 := Chg.below c47 E (by omega) (Nat.le_refl _)
  have EU6 : Ext w2 w45 := Chg.below c47 EU6 (by omega) (Nat.le_refl _)
  have sc47 := c47.size
  have b43 : BxR w45 _ _ _ _ _ := ⟨b43N, b43.top⟩
  clear b43N
  refine Bx.get b43.own u_impl_Program rfl i_impl_Program hl49 ?_
  refine Bx.get b9.own u_impl_Program rfl i_impl_Program hl15 ?_
  refine c_eq_Program h40.I (h5.ext EU6) fun w51 e52 => ?_
  have b9 := b9.ext e52
  have h20 := h20.ext e52
  have b23 := b23.ext e52
  have h40 := h40.ext e52
  have b43 := b43.ext e52
  have E := E.trans e52
  have EU6 := EU6.trans e52
  have se52 := e52.size
  rw [una_not, Bool.not_true]
  refine ⟨_, fun _ _ _ h => h, ?_⟩
  rw [grd_false_false]
  refine neq_no rfl ?_
  rw [pick_bool, cond_false]
  rw [cnd_false]
  refine Bx.get b23.own u_impl_Program rfl i_impl_Program hl29 ?_
  refine c_held_Program h20.I (by omega) (by omega) fun w53 e54 => ?_
  have b9 := b9.ext e54
  have h20 := h20.ext e54
  have b23 := b23.ext e54
  have h40 := h40.ext e54
  have b43 := b43.ext e54
  have E := E.trans e54
  have EU6 := EU6.trans e54
  have se54 := e54.size
  refine lss_no (by omega) ?_
  rw [cnd_false]
  refine neq_no (by omega) ?_
  rw [cnd_false]
  exact H _ E

set_option maxRecDepth 100000 in
theorem ParseProgram_lifted (os : Os) (started : os.Started) (H : Type) (enc : TypeId × Value → H) :
    ReturnsInHanded {} Tryz.checked os f_laws_FnExactParseProgram .any (fun w args => (Rows.fnExactParseProgramSpec.pre enc Tryz.prog Tryz.f7 Rows.fnExactParseProgramRow.domain false w args ∧ laidMetH Tryz.prog Rows.fnExactParseProgramRow.laid w) ∧ sizedMet enc Tryz.prog Tryz.f7 (OpenSpec.ofChange Rows.fnExactParseProgramSpec) false w args) (Rows.fnExactParseProgramSpec.post enc Tryz.prog Tryz.f7 false true false false) := by
  refine returnsInHanded_of_change_and (C := Tryz.checked) (X := fun w _ => laidMetH Tryz.prog Rows.fnExactParseProgramRow.laid w) (fun _ _ _ hh h => h.of_heap hh) own started (by kernel_rfl) Tryz.func7
    (ChangeSpec.witness_shaped (enc := enc) (C := Tryz.checked) (os := os) (X := fun w _ => laidMetH Tryz.prog Rows.fnExactParseProgramRow.laid w) false (World.laidAll Tryz.prog os Rows.fnExactParseProgramRow.laid) #[.string ⟨#[]⟩] 8 (World.laidAll_os _ _ _) (World.shaped_of_ZipB (by kernel_rfl) (by kernel_rfl)) (by kernel_rfl) (by kernel_rfl) (by kernel_rfl) (door_met7 os _)) ?_
  intro W base args ds gs before hval0 hW hcnd _ hL _
  have hW' := hW
  obtain ⟨p, q, hA0, hV, rfl, hfz, hnd⟩ := hW
  have hA : DataW.TrodAll enc Tryz.prog W 0 (fun _ => true) true Tryz.f7.params.toList args.toList ds p := hA0
  rw [Tryz.params7] at hA
  obtain ⟨v0, vs0, d0, ds0, p0, q0, hargs0, rfl, rfl, h0, r0⟩ := trodAll_cons hA
  obtain ⟨rfl, rfl, rfl⟩ := trodAll_nil r0
  obtain rfl : args = #[v0] := by cases args; simp_all
  obtain ⟨rfl, rfl⟩ := trodVars_none hV
  have hval : ∀ (j : Nat) t v, Tryz.f7.params[j]? = some t → (#[v0] : Array Value)[j]? = some v → Value.okWide Tryz.prog W .any base t v := hval0
  rw [Tryz.params7] at hval
  have k0 := h0
  have lt0 : ∀ x ∈ p0, x.block < W.heap.size := by obtain ⟨m, hm⟩ := k0; exact DataW.trod_lt m _ _ _ hm
  obtain ⟨s, hA_s, rfl⟩ := okWide_string (hval 0 _ v0 rfl rfl)
  clear hval0 hval
  refine (calls_of Tryz.func7 (by kernel_rfl) (by kernel_rfl) (law_ParseProgram (K := fun v w' => v = .bool true ∧ Ext (Vc.N W) w') hA_s fun w' he => ⟨rfl, he⟩)).mono ?_
  rintro e W' ⟨v, rfl, rfl, he⟩
  have bel := below_N he
  exact ⟨_, rfl, _, _, _, [], _, [], hW', trodAll_mk1 (shut_bool u_bool _), (trodAll_cons_mk (Below.trod laidOut (by kernel_rfl) (of_decide_eq_true (by kernel_rfl)) k0 bel lt0) trodAll_mk0), rfl, bel.frame _, fun h => by cases h⟩

theorem ParseProgram_holds : Rows.FnExactParseProgramSaid :=
  OpenClaim.holds_of_wide 7 Tryz.f7 rfl rfl rfl rfl rfl rfl rfl ⟨rfl, rfl, rfl, rfl, rfl⟩ rfl rfl rfl rfl rfl (by kernel_rfl) Tryz.func7 joined_FnExactParseProgram
    (of_decide_eq_true (by kernel_rfl)) (by unfold Func.isWrapper; first | (rw [if_pos (by decide +kernel)]; kernel_rfl) | (rw [if_neg (by decide +kernel)]; exact ⟨rfl, rfl⟩))
    (fun os started H enc _ => ParseProgram_lifted os started H enc)

theorem ParseProgram_goes : Tryz.pinned.checked.prog.goes 7 = false := by
  unfold Program.goes Program.unfollowed
  rw [reach_FnExactParseProgram]
  kernel_rfl
theorem ParseProgram_named : Tryz.pinned.checked.prog.funcNamed Rows.fnExactParseProgramRow.func = some 7 := by kernel_rfl
theorem ParseProgram_goesBy : false = Rows.fnExactParseProgramRow.goesBy Tryz.pinned.checked.prog := by
  unfold OpenClaim.goesBy Program.goesAt Program.goesFrom
  rw [show Rows.fnExactParseProgramRow.start = .entering from rfl, ParseProgram_named, Option.any_some, ParseProgram_goes]; rfl
theorem ParseProgram_text : Rows.fnExactParseProgramRow.wfByText (OpenSpec.ofChange Rows.fnExactParseProgramSpec) = true := by kernel_rfl
theorem ParseProgram_main : Tryz.pinned.checked.prog.mainIs = some (true, String.toList "d4ad9ba8e3a97d00c5cc123a56869d5bc39b5731d24b833c156fa00a7d4c1861") := by kernel_rfl
theorem ParseProgram_looks : true = Tryz.pinned.checked.prog.looks [] := by kernel_rfl
theorem ParseProgram_stands : (([9] : List TypeId).all fun u => !Tryz.pinned.checked.prog.wantsStandIn u) = true := by kernel_rfl
set_option maxRecDepth 100000 in
theorem ParseProgram_card : Rows.FnExactParseProgramCardSaid :=
  Claim7.holds_tied_plain_at .later [] [.data, .data, .data, .data, .sentinel, .sentinel, .pinned] true (true, "d4ad9ba8e3a97d00c5cc123a56869d5bc39b5731d24b833c156fa00a7d4c1861") true
    ParseProgram_holds (fun _ h => by cases h) ParseProgram_text (fun _ h => by cases h) fnExactParseProgram_row_tie rfl ⟨rfl, rfl⟩ ParseProgram_main rfl
    (fun f fn hf hfn => by
      obtain rfl : f = 7 := (Option.some.inj (ParseProgram_named.symm.trans hf)).symm
      obtain rfl : fn = Tryz.f7 := (Option.some.inj (Tryz.func7.symm.trans hfn)).symm
      exact ⟨ParseProgram_looks, fun j t ht => by
        rw [Tryz.params7] at ht
        have hm : t ∈ ([9] : List TypeId) := by simpa using Array.mem_of_getElem? ht
        simpa using List.all_eq_true.1 ParseProgram_stands t hm⟩)
    ParseProgram_goesBy

end Go.Proofs.YtjompmflommadaaGreatDoor
