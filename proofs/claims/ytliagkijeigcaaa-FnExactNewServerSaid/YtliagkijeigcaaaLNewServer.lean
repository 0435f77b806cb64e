/- The program's NewServer returns what the reference's returns, for all arguments, changes no argument and shares no memory. No condition. -/
import Derived.Test.YtliagkijeigcaaaRows
import Derived.Test.YtliagkijeigcaaaR1
import Derived.Test.YtliagkijeigcaaaS2
set_option linter.unusedVariables false
namespace Go.Proofs.Ytliagkijeigcaaa
open Go Go.Vc
open Go.ChangeShapes Go.WideShapes Go.ChangeAt Go.RowKit

theorem law_NewServer {w : World} {K : Value → World → Prop}  (H : ∀ w', Ext w w' → K (.bool true) w') : call P f_laws_FnExactNewServer [] w K := by
  refine I_laws_FnExactNewServer ?_
  unfold D_laws_FnExactNewServer
  have E := Ext.refl w
  have hr_0 := small_NewServer_0 
  refine s_NewServer  fun u3 w1 e2 h4 => ?_
  have E := E.trans e2
  have se2 := e2.size
  have EU5 := Ext.refl w1
  refine alc_bx i_impl_Server fun p6 w7 b8 e9 _ => ?_
  have E := E.trans e9
  have EU5 := EU5.trans e9
  have se9 := e9.size
  have b8 := BxR.of b8
  obtain ⟨cs13, rfl, hl14, h115⟩ := Server_agg h4
  refine Bx.put b8.own i_impl_Server hl14 rfl h115 fun w10 b8N g11 => ?_
  have c12 := b8.grown g11
  have E : Ext w w10 := Chg.below c12 E (by omega) (Nat.le_refl _)
  have EU5 : Ext w1 w10 := Chg.below c12 EU5 (by omega) (Nat.le_refl _)
  have sc12 := c12.size
  have b8 : BxR w10 _ _ _ _ _ := ⟨b8N, b8.top⟩
  clear b8N
  refine p_NewServer  fun u18 w16 e17 h19 => ?_
  have b8 := b8.ext e17
  have E := E.trans e17
  have EU5 := EU5.trans e17
  have se17 := e17.size
  refine alc_bx i_impl_Server fun p20 w21 b22 e23 _ => ?_
  have b8 := b8.ext e23
  have h19 := h19.ext e23
  have E := E.trans e23
  have EU5 := EU5.trans e23
  have se23 := e23.size
  have b22 := BxR.of b22
  obtain ⟨cs27, rfl, hl28, h129⟩ := Server_agg h19.I
  refine Bx.put b22.own i_impl_Server hl28 rfl h129 fun w24 b22N g25 => ?_
  have c26 := b22.grown g25
  have b8 := b8.chg c26 (by omega)
  have h19 := h19.chg c26 (by omega)
  have E : Ext w w24 := Chg.below c26 E (by omega) (Nat.le_refl _)
  have EU5 : Ext w1 w24 := Chg.below c26 EU5 (by omega) (Nat.le_refl _)
  have sc26 := c26.size
  have b22 : BxR w24 _ _ _ _ _ := ⟨b22N, b22.top⟩
  clear b22N
  refine Bx.get b22.own u_impl_Server rfl i_impl_Server hl28 ?_
  refine Bx.get b8.own u_impl_Server rfl i_impl_Server hl14 ?_
  refine c_eq_Server h19.I (h4.ext EU5) fun w30 e31 => ?_
  have b8 := b8.ext e31
  have h19 := h19.ext e31
  have b22 := b22.ext e31
  have E := E.trans e31
  have EU5 := EU5.trans e31
  have se31 := e31.size
  rw [una_not, Bool.not_true]
  rw [cnd_false]
  refine Bx.get b22.own u_impl_Server rfl i_impl_Server hl28 ?_
  refine c_mark_Server h19 (by omega) (by omega) fun w32 h19N c33 => ?_
  have b8 := b8.chg c33 (by omega)
  have b22 := b22.chg c33 (by omega)
  have E : Ext w w32 := Chg.below c33 E (by omega) (Nat.le_refl _)
  have EU5 : Ext w1 w32 := Chg.below c33 EU5 (by omega) (Nat.le_refl _)
  have sc33 := c33.size
  have h19 := h19N
  clear h19N
  refine Bx.get b22.own u_impl_Server rfl i_impl_Server hl28 ?_
  refine c_held_Server h19.I (by omega) (by omega) fun w34 e35 => ?_
  have b8 := b8.ext e35
  have h19 := h19.ext e35
  have b22 := b22.ext e35
  have E := E.trans e35
  have EU5 := EU5.trans e35
  have se35 := e35.size
  refine lss_no (by omega) ?_
  rw [cnd_false]
  refine neq_no (by omega) ?_
  rw [cnd_false]
  refine p_NewServer  fun u38 w36 e37 h39 => ?_
  have b8 := b8.ext e37
  have h19 := h19.ext e37
  have b22 := b22.ext e37
  have E := E.trans e37
  have EU5 := EU5.trans e37
  have se37 := e37.size
  refine alc_bx i_impl_Server fun p40 w41 b42 e43 _ => ?_
  have b8 := b8.ext e43
  have h19 := h19.ext e43
  have b22 := b22.ext e43
  have h39 := h39.ext e43
  have E := E.trans e43
  have EU5 := EU5.trans e43
  have se43 := e43.size
  have b42 := BxR.of b42
  obtain ⟨cs47, rfl, hl48, h149⟩ := Server_agg h39.I
  refine Bx.put b42.own i_impl_Server hl48 rfl h149 fun w44 b42N g45 => ?_
  have c46 := b42.grown g45
  have b8 := b8.chg c46 (by omega)
  have h19 := h19.chg c46 (by omega)
  have b22 := b22.chg c46 (by omega)
  have h39 := h39.chg c46 (by omega)
  have E : Ext w w44 := Chg.below c46 E (by omega) (Nat.le_refl _)
  have EU5 : Ext w1 w44 := Chg.below c46 EU5 (by omega) (Nat.le_refl _)
  have sc46 := c46.size
  have b42 : BxR w44 _ _ _ _ _ := ⟨b42N, b42.top⟩
  clear b42N
  refine Bx.get b42.own u_impl_Server rfl i_impl_Server hl48 ?_
  refine Bx.get b8.own u_impl_Server rfl i_impl_Server hl14 ?_
  refine c_eq_Server h39.I (h4.ext EU5) fun w50 e51 => ?_
  have b8 := b8.ext e51
  have h19 := h19.ext e51
  have b22 := b22.ext e51
  have h39 := h39.ext e51
  have b42 := b42.ext e51
  have E := E.trans e51
  have EU5 := EU5.trans e51
  have se51 := e51.size
  rw [una_not, Bool.not_true]
  rw [cnd_false]
  refine Bx.get b22.own u_impl_Server rfl i_impl_Server hl28 ?_
  refine c_held_Server h19.I (by omega) (by omega) fun w52 e53 => ?_
  have b8 := b8.ext e53
  have h19 := h19.ext e53
  have b22 := b22.ext e53
  have h39 := h39.ext e53
  have b42 := b42.ext e53
  have E := E.trans e53
  have EU5 := EU5.trans e53
  have se53 := e53.size
  refine lss_no (by omega) ?_
  rw [cnd_false]
  refine neq_no (by omega) ?_
  rw [cnd_false]
  exact H _ E

set_option maxRecDepth 100000 in
theorem NewServer_lifted (os : Os) (started : os.Started) (H : Type) (enc : TypeId × Value → H) :
    ReturnsInHanded {} Try.checked os f_laws_FnExactNewServer .any (Rows.fnExactNewServerSpec.pre6 enc Try.prog Try.f4 Rows.fnExactNewServerRow.domain false) (Rows.fnExactNewServerSpec.post enc Try.prog Try.f4 false true false false) := by
  refine returnsInHanded_of_change (C := Try.checked) own started (by kernel_rfl) Try.func4
    (ChangeSpec.witness6 (enc := enc) (C := Try.checked) false ⟨#[], #[], []⟩ 8 (by kernel_rfl) (by kernel_rfl) (by kernel_rfl) (by kernel_rfl)) ?_
  intro W base args ds gs before hval0 hW hcnd _
  have hW' := hW
  obtain ⟨p, q, hA0, hV, rfl, hfz, hnd⟩ := hW
  have hA : DataW.TrodAll enc Try.prog W 0 (fun _ => true) true Try.f4.params.toList args.toList ds p := hA0
  rw [Try.params4] at hA
  obtain ⟨hnil, rfl, rfl⟩ := trodAll_nil hA
  obtain rfl : args = #[] := by cases args; simp_all
  obtain ⟨rfl, rfl⟩ := trodVars_none hV
  have hval : ∀ (j : Nat) t v, Try.f4.params[j]? = some t → (#[] : Array Value)[j]? = some v → Value.okWide Try.prog W .any base t v := hval0
  rw [Try.params4] at hval
  clear hval0 hval
  refine (calls_of Try.func4 (by kernel_rfl) (by kernel_rfl) (law_NewServer (K := fun v w' => v = .bool true ∧ Ext (Vc.N W) w')  fun w' he => ⟨rfl, he⟩)).mono ?_
  rintro e W' ⟨v, rfl, rfl, he⟩
  have bel := below_N he
  exact ⟨_, rfl, _, _, _, [], _, [], hW', trodAll_mk1 (shut_bool u_bool _), trodAll_mk0, rfl, bel.frame _, fun h => by cases h⟩

theorem NewServer_holds : Rows.FnExactNewServerSaid :=
  OpenClaim.holds_of_wide 4 Try.f4 rfl rfl rfl rfl rfl rfl rfl ⟨rfl, rfl, rfl, rfl, rfl⟩ rfl rfl rfl rfl rfl (by kernel_rfl) Try.func4 (by kernel_rfl)
    (of_decide_eq_true (by kernel_rfl)) (by unfold Func.isWrapper; first | (rw [if_pos (by decide +kernel)]; kernel_rfl) | (rw [if_neg (by decide +kernel)]; exact ⟨rfl, rfl⟩))
    (fun os started H enc _ => NewServer_lifted os started H enc)

end Go.Proofs.Ytliagkijeigcaaa
