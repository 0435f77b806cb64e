import Derived.Test.YtjompmflommadaaGreatDoorRows
import Derived.Test.YtjompmflommadaaGreatDoorTie
import Derived.Test.YtjompmflommadaaGreatDoorCards
import Derived.Test.YtjompmflommadaaGreatDoorQIsServer4
set_option linter.unusedSimpArgs false
set_option linter.unusedVariables false

set_option linter.unusedVariables false
namespace Go.Proofs.YtjompmflommadaaGreatDoor
open Go Go.Vc
open Go.ChangeShapes Go.WideShapes Go.ChangeAt Go.RowKit
set_option maxRecDepth 20000 in
theorem law_IsServer {w : World} {K : Value → World → Prop} {v_sv : Value} {sv : SV} (hA_sv : A_Server w v_sv sv) (H : ∀ w', Ext w w' → K (.bool true) w') : call P f_laws_FnExactIsServer [v_sv] w K := by
  refine I_laws_FnExactIsServer ?_
  unfold D_laws_FnExactIsServer
  have E := Ext.refl w
  obtain ⟨cs5, rfl, hl6, h17⟩ := Server_aggA hA_sv
  refine bx_agg fun p1 w2 b3 e4 => ?_
  have E := E.trans e4
  have se4 := e4.size
  have b3 := BxR.of b3
  refine Bx.get b3.own u_laws_Server rfl i_laws_Server hl6 ?_
  refine c_sz_Server (hA_sv.ext E) (by omega) (by omega) fun r10 w8 e9 hr11 => ?_
  have b3 := b3.ext e9
  have E := E.trans e9
  have se9 := e9.size
  rw [bin_lss]
  refine cnd_dec (fun _ => H _ E) (fun hz12 => ?_)
  refine Bx.get b3.own u_laws_Server rfl i_laws_Server hl6 ?_
  have hs_sv : sz_Server sv ≤ 1048576 := by omega
  have hc_sv := cnt_sz_Server sv
  refine c_to_Server (hA_sv.ext E) hs_sv fun v15 w13 e14 o16 => ?_
  have b3 := b3.ext e14
  have E := E.trans e14
  have se14 := e14.size
  refine s_IsServer o16.I fun w17 e18 => ?_
  have b3 := b3.ext e18
  have o16 := o16.ext e18
  have E := E.trans e18
  have se18 := e18.size
  have EU19 := Ext.refl w17
  refine Bx.get b3.own u_laws_Server rfl i_laws_Server hl6 ?_
  refine c_to_Server (hA_sv.ext E) hs_sv fun v22 w20 e21 o23 => ?_
  have b3 := b3.ext e21
  have o16 := o16.ext e21
  have E := E.trans e21
  have EU19 := EU19.trans e21
  have se21 := e21.size
  refine alc_bx i_impl_Server fun p24 w25 b26 e27 _ => ?_
  have b3 := b3.ext e27
  have o16 := o16.ext e27
  have o23 := o23.ext e27
  have E := E.trans e27
  have EU19 := EU19.trans e27
  have se27 := e27.size
  have b26 := BxR.of b26
  obtain ⟨cs31, rfl, hl32, h133⟩ := Server_agg o23.I
  refine Bx.put b26.own i_impl_Server hl32 rfl h133 fun w28 b26N g29 => ?_
  have c30 := b26.grown g29
  have b3 := b3.chg c30 (by omega)
  have o16 := o16.chg c30 (by omega)
  have o23 := o23.chg c30 (by omega)
  have E : Ext w w28 := Chg.below c30 E (by omega) (Nat.le_refl _)
  have EU19 : Ext w17 w28 := Chg.below c30 EU19 (by omega) (Nat.le_refl _)
  have sc30 := c30.size
  have b26 : BxR w28 _ _ _ _ _ := ⟨b26N, b26.top⟩
  clear b26N
  refine Bx.get b26.own u_impl_Server rfl i_impl_Server hl32 ?_
  refine p_IsServer o23.I fun w34 e35 => ?_
  have b3 := b3.ext e35
  have o16 := o16.ext e35
  have o23 := o23.ext e35
  have b26 := b26.ext e35
  have E := E.trans e35
  have EU19 := EU19.trans e35
  have se35 := e35.size
  refine bneq_no u_bool ?_
  rw [cnd_false]
  refine Bx.get b26.own u_impl_Server rfl i_impl_Server hl32 ?_
  refine Bx.get b3.own u_laws_Server rfl i_laws_Server hl6 ?_
  refine c_to_Server (hA_sv.ext E) hs_sv fun v38 w36 e37 o39 => ?_
  have b3 := b3.ext e37
  have o16 := o16.ext e37
  have o23 := o23.ext e37
  have b26 := b26.ext e37
  have E := E.trans e37
  have EU19 := EU19.trans e37
  have se37 := e37.size
  refine ⟨e37, ?_⟩
  refine c_eq_Server o23.I o39.I fun w40 e41 => ?_
  have b3 := b3.ext e41
  have o16 := o16.ext e41
  have o23 := o23.ext e41
  have b26 := b26.ext e41
  have o39 := o39.ext e41
  have E := E.trans e41
  have EU19 := EU19.trans e41
  have se41 := e41.size
  rw [una_not, Bool.not_true]
  rw [cnd_false]
  exact H _ E
set_option maxRecDepth 100000 in
theorem IsServer_lifted (os : Os) (started : os.Started) (H : Type) (enc : TypeId × Value → H) :
    ReturnsInHanded {} Tryz.checked os f_laws_FnExactIsServer .any (fun w args => (Rows.fnExactIsServerSpec.pre enc Tryz.prog Tryz.f8 Rows.fnExactIsServerRow.domain false w args ∧ laidMetH Tryz.prog Rows.fnExactIsServerRow.laid w) ∧ sizedMet enc Tryz.prog Tryz.f8 (OpenSpec.ofChange Rows.fnExactIsServerSpec) false w args) (Rows.fnExactIsServerSpec.post enc Tryz.prog Tryz.f8 false true false false) := by
  refine returnsInHanded_of_change_and (C := Tryz.checked) (X := fun w _ => laidMetH Tryz.prog Rows.fnExactIsServerRow.laid w) (fun _ _ _ hh h => h.of_heap hh) own started (by kernel_rfl) Tryz.func8
    (ChangeSpec.witness_shaped (enc := enc) (C := Tryz.checked) (os := os) (X := fun w _ => laidMetH Tryz.prog Rows.fnExactIsServerRow.laid w) false (World.doorLaid Tryz.prog 72 os) #[.agg #[.slice none 0 0, .slice none 0 0, .slice none 0 0]] 8 rfl (World.shaped_of_RefB (by kernel_rfl) (by kernel_rfl)) (by kernel_rfl) (by kernel_rfl) (by kernel_rfl) (door_met5 os _)) ?_
  intro W base args ds gs before hval0 hW hcnd _ hL _
  have hW' := hW
  obtain ⟨p, q, hA0, hV, rfl, hfz, hnd⟩ := hW
  have hA : DataW.TrodAll enc Tryz.prog W 0 (fun _ => true) true Tryz.f8.params.toList args.toList ds p := hA0
  rw [Tryz.params8] at hA
  obtain ⟨v0, vs0, d0, ds0, p0, q0, hargs0, rfl, rfl, h0, r0⟩ := trodAll_cons hA
  obtain ⟨rfl, rfl, rfl⟩ := trodAll_nil r0
  obtain rfl : args = #[v0] := by cases args; simp_all
  obtain ⟨rfl, rfl⟩ := trodVars_none hV
  have hval : ∀ (j : Nat) t v, Tryz.f8.params[j]? = some t → (#[v0] : Array Value)[j]? = some v → Value.okWide Tryz.prog W .any base t v := hval0
  rw [Tryz.params8] at hval
  obtain ⟨cs0, rfl, _⟩ := okWide_struct u_laws_Server (hval 0 t_laws_Server v0 rfl rfl)
  have k0 := h0
  have lt0 : ∀ x ∈ p0, x.block < W.heap.size := by obtain ⟨m, hm⟩ := k0; exact DataW.trod_lt m _ _ _ hm
  obtain ⟨sv, hA_sv⟩ : ∃ sv, A_Server W (.agg cs0) sv := by
    obtain ⟨fuel, hf⟩ := h0
    exact open_Server hf
  clear hval0 hval
  refine (calls_of Tryz.func8 (by kernel_rfl) (by kernel_rfl) (law_IsServer (K := fun v w' => v = .bool true ∧ Ext (Vc.N W) w') hA_sv.N fun w' he => ⟨rfl, he⟩)).mono ?_
  rintro e W' ⟨v, rfl, rfl, he⟩
  have bel := below_N he
  exact ⟨_, rfl, _, _, _, [], _, [], hW', trodAll_mk1 (shut_bool u_bool _), (trodAll_cons_mk (Below.trod laidOut (by kernel_rfl) (of_decide_eq_true (by kernel_rfl)) k0 bel lt0) trodAll_mk0), rfl, bel.frame _, fun h => by cases h⟩
theorem IsServer_holds : Rows.FnExactIsServerSaid :=
  OpenClaim.holds_of_wide 8 Tryz.f8 rfl rfl rfl rfl rfl rfl rfl ⟨rfl, rfl, rfl, rfl, rfl⟩ rfl rfl rfl rfl rfl (by kernel_rfl) Tryz.func8 joined_FnExactIsServer
    (of_decide_eq_true (by kernel_rfl)) (by unfold Func.isWrapper; first | (rw [if_pos (by decide +kernel)]; kernel_rfl) | (rw [if_neg (by decide +kernel)]; exact ⟨rfl, rfl⟩))
    (fun os started H enc _ => IsServer_lifted os started H enc)
theorem IsServer_goes : Tryz.pinned.checked.prog.goes 8 = false := by
  unfold Program.goes Program.unfollowed
  rw [reach_FnExactIsServer]
  kernel_rfl
theorem IsServer_named : Tryz.pinned.checked.prog.funcNamed Rows.fnExactIsServerRow.func = some 8 := by kernel_rfl
theorem IsServer_goesBy : false = Rows.fnExactIsServerRow.goesBy Tryz.pinned.checked.prog := by
  unfold OpenClaim.goesBy Program.goesAt Program.goesFrom
  rw [show Rows.fnExactIsServerRow.start = .entering from rfl, IsServer_named, Option.any_some, IsServer_goes]; rfl
theorem IsServer_text : Rows.fnExactIsServerRow.wfByText (OpenSpec.ofChange Rows.fnExactIsServerSpec) = true := by kernel_rfl
theorem IsServer_main : Tryz.pinned.checked.prog.mainIs = some (true, String.toList "d4ad9ba8e3a97d00c5cc123a56869d5bc39b5731d24b833c156fa00a7d4c1861") := by kernel_rfl
theorem IsServer_looks : true = Tryz.pinned.checked.prog.looks [] := by kernel_rfl
theorem IsServer_stands : (([42] : List TypeId).all fun u => !Tryz.pinned.checked.prog.wantsStandIn u) = true := by kernel_rfl
set_option maxRecDepth 100000 in
theorem IsServer_card : Rows.FnExactIsServerCardSaid :=
  Claim7.holds_tied_plain_at .later [] [.data, .data, .data, .sentinel, .sentinel] true (true, "d4ad9ba8e3a97d00c5cc123a56869d5bc39b5731d24b833c156fa00a7d4c1861") true
    IsServer_holds (fun _ h => by cases h) IsServer_text (fun _ h => by cases h) fnExactIsServer_row_tie rfl ⟨rfl, rfl⟩ IsServer_main rfl
    (fun f fn hf hfn => by
      obtain rfl : f = 8 := (Option.some.inj (IsServer_named.symm.trans hf)).symm
      obtain rfl : fn = Tryz.f8 := (Option.some.inj (Tryz.func8.symm.trans hfn)).symm
      exact ⟨IsServer_looks, fun j t ht => by
        rw [Tryz.params8] at ht
        have hm : t ∈ ([42] : List TypeId) := by simpa using Array.mem_of_getElem? ht
        simpa using List.all_eq_true.1 IsServer_stands t hm⟩)
    IsServer_goesBy
end Go.Proofs.YtjompmflommadaaGreatDoor
