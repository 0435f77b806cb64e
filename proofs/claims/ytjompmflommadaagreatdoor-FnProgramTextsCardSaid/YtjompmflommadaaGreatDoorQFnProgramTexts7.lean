import Derived.Test.YtjompmflommadaaGreatDoorRows
import Derived.Test.YtjompmflommadaaGreatDoorTie
import Derived.Test.YtjompmflommadaaGreatDoorCards
import Derived.Test.YtjompmflommadaaGreatDoorQFnProgramTexts6
set_option linter.unusedSimpArgs false
set_option linter.unusedVariables false
namespace Go.Proofs.YtjompmflommadaaGreatDoor
section
open Go Go.Vc
open Go.ChangeShapes Go.WideShapes Go.ChangeAt Go.RowKit
set_option maxRecDepth 100000 in
theorem FnProgramTexts_lifted (os : Os) (started : os.Started) (H : Type) (enc : TypeId × Value → H) :
  ReturnsInHanded {} Tryz.checked os Fx .any (fun w args => (Rows.fnProgramTextsSpec.pre enc Tryz.prog Tryz.f11 Rows.fnProgramTextsRow.domain false w args ∧ laidMetH Tryz.prog Rows.fnProgramTextsRow.laid w) ∧ sizedMet enc Tryz.prog Tryz.f11 (OpenSpec.ofChange Rows.fnProgramTextsSpec) false w args) (Rows.fnProgramTextsSpec.post enc Tryz.prog Tryz.f11 false true false false) := by
 refine returnsInHanded_of_change_and (C := Tryz.checked) (X := fun w _ => laidMetH Tryz.prog Rows.fnProgramTextsRow.laid w) (fun _ _ _ hh h => h.of_heap hh) own started (by kernel_rfl) Tryz.func11
  (ChangeSpec.witness_shaped (enc := enc) (C := Tryz.checked) (os := os) (X := fun w _ => laidMetH Tryz.prog Rows.fnProgramTextsRow.laid w) false (World.laidAll Tryz.prog os Rows.fnProgramTextsRow.laid) #[.slice none 0 0] 8 (World.laidAll_os _ _ _) (World.shaped_of_ZipB (by kernel_rfl) (by kernel_rfl)) (by kernel_rfl) (by kernel_rfl) (by kernel_rfl) (Ae1 os _)) ?_
 intro W base args ds gs before hval0 hW hcnd _ hL _
 have hW' := hW
 obtain ⟨p, q, hA0, hV, rfl, hfz, hnd⟩ := hW
 have hA : DataW.TrodAll enc Tryz.prog W 0 (fun _ => true) true Tryz.f11.params.toList args.toList ds p := hA0
 rw [Tryz.params11] at hA
 obtain ⟨v0, vs0, d0, ds0, p0, q0, hargs0, rfl, rfl, h0, r0⟩ := trodAll_cons hA
 obtain ⟨rfl, rfl, rfl⟩ := trodAll_nil r0
 obtain rfl : args = #[v0] := by cases args; simp_all
 obtain ⟨rfl, rfl⟩ := trodVars_none hV
 have hval : ∀ (j : Nat) t v, Tryz.f11.params[j]? = some t → (#[v0] : Array Value)[j]? = some v → Value.okWide Tryz.prog W .any base t v := hval0
 rw [Tryz.params11] at hval
 obtain ⟨a0, len0, cap0, rfl⟩ := okWide_slice Cb (hval 0 MB v0 rfl rfl)
 have k0 := h0
 have lt0 : ∀ x ∈ p0, x.block < W.heap.size := by obtain ⟨m, hm⟩ := k0; exact DataW.trod_lt m _ _ _ hm
 obtain ⟨bs, hA_bs⟩ : ∃ bs, Q8 W (.slice a0 len0 cap0) bs := by
  obtain ⟨fuel, hf⟩ := h0
  exact Ae3 hf
 clear hval0 hval
 refine (AgY Tryz.func11 (by kernel_rfl) (by kernel_rfl) (Ui (K := fun v w' => v = .bool true ∧ Ext (Vc.N W) w') hA_bs.N.1 hA_bs.2 fun w' he => ⟨rfl, he⟩)).mono ?_
 rintro e W' ⟨v, rfl, rfl, he⟩
 have bel := AiT he
 exact ⟨_, rfl, _, _, _, [], _, [], hW', trodAll_mk1 (shut_bool Qk _), (trodAll_cons_mk (Below.trod laidOut (by kernel_rfl) (of_decide_eq_true (by kernel_rfl)) k0 bel lt0) trodAll_mk0), rfl, bel.frame _, fun h => by cases h⟩
theorem FnProgramTexts_holds : Rows.FnProgramTextsSaid :=
 OpenClaim.holds_of_wide 11 Tryz.f11 rfl rfl rfl rfl rfl rfl rfl ⟨rfl, rfl, rfl, rfl, rfl⟩ rfl rfl rfl rfl rfl (by kernel_rfl) Tryz.func11 Qo
  (of_decide_eq_true (by kernel_rfl)) (by unfold Func.isWrapper; first | (rw [if_pos (by decide +kernel)]; kernel_rfl) | (rw [if_neg (by decide +kernel)]; exact ⟨rfl, rfl⟩))
  (fun os started H enc _ => FnProgramTexts_lifted os started H enc)
theorem FnProgramTexts_goes : Tryz.pinned.checked.prog.goes 11 = false := by
 unfold Program.goes Program.unfollowed
 rw [Kf]
 kernel_rfl
theorem FnProgramTexts_named : Tryz.pinned.checked.prog.funcNamed Rows.fnProgramTextsRow.func = some 11 := by kernel_rfl
theorem FnProgramTexts_goesBy : false = Rows.fnProgramTextsRow.goesBy Tryz.pinned.checked.prog := by
 unfold OpenClaim.goesBy Program.goesAt Program.goesFrom
 rw [show Rows.fnProgramTextsRow.start = .entering from rfl, FnProgramTexts_named, Option.any_some, FnProgramTexts_goes]; rfl
theorem FnProgramTexts_text : Rows.fnProgramTextsRow.wfByText (OpenSpec.ofChange Rows.fnProgramTextsSpec) = true := by kernel_rfl
theorem FnProgramTexts_main : Tryz.pinned.checked.prog.mainIs = some (true, String.toList "d4ad9ba8e3a97d00c5cc123a56869d5bc39b5731d24b833c156fa00a7d4c1861") := by kernel_rfl
theorem FnProgramTexts_looks : true = Tryz.pinned.checked.prog.looks [] := by kernel_rfl
theorem FnProgramTexts_stands : (([72] : List TypeId).all fun u => !Tryz.pinned.checked.prog.wantsStandIn u) = true := by kernel_rfl
set_option maxRecDepth 100000 in
theorem FnProgramTexts_card : Rows.FnProgramTextsCardSaid :=
 Claim7.holds_tied_plain_at .later [] [.data, .data, .data, .data, .sentinel, .sentinel, .pinned] true (true, "d4ad9ba8e3a97d00c5cc123a56869d5bc39b5731d24b833c156fa00a7d4c1861") true
  FnProgramTexts_holds (fun _ h => by cases h) FnProgramTexts_text (fun _ h => by cases h) fnProgramTexts_row_tie rfl ⟨rfl, rfl⟩ FnProgramTexts_main rfl
  (fun f fn hf hfn => by
   obtain rfl : f = 11 := (Option.some.inj (FnProgramTexts_named.symm.trans hf)).symm
   obtain rfl : fn = Tryz.f11 := (Option.some.inj (Tryz.func11.symm.trans hfn)).symm
   exact ⟨FnProgramTexts_looks, fun j t ht => by
    rw [Tryz.params11] at ht
    have hm : t ∈ ([72] : List TypeId) := by simpa using Array.mem_of_getElem? ht
    simpa using List.all_eq_true.1 FnProgramTexts_stands t hm⟩)
  FnProgramTexts_goesBy
end
end Go.Proofs.YtjompmflommadaaGreatDoor
