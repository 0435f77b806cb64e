import Derived.Test.YtabgkpfcpncmhaaGreatRows
import Derived.Test.YtabgkpfcpncmhaaGreatQRoundedDeterminant5
set_option linter.unusedSimpArgs false
set_option linter.unusedVariables false
/- The program's RoundedDeterminant returns what the reference's returns, for all arguments, changes no argument and shares no memory. No condition. -/
set_option linter.unusedVariables false
namespace Go.Proofs.YtabgkpfcpncmhaaGreat
open Go Go.Vc
open Go.ChangeShapes Go.WideShapes Go.ChangeAt Go.RowKit

set_option maxRecDepth 20000 in
theorem law_RoundedDeterminant {w : World} {K : Value → World → Prop} {v_m : Value} {m : List (List Nat)} (hA_m : A_Float32SS w v_m m) {md : Int} (hA_md : A_int64 md) (H : ∀ w', Ext w w' → K (.bool true) w') : call P f_laws_FnExactRoundedDeterminant [v_m, (.int .i64 md)] w K := by
  refine I_laws_FnExactRoundedDeterminant ?_
  unfold D_laws_FnExactRoundedDeterminant
  have E := Ext.refl w
  refine c_sz_Float32SS (hA_m.ext E) (by omega) (by omega) fun r3 w1 e2 hr4 => ?_
  have E := E.trans e2
  have se2 := e2.size
  rw [bin_lss]
  refine cnd_dec (fun _ => H _ E) (fun hz5 => ?_)
  have hs_m : sz_Float32SS m ≤ 1048576 := by omega
  have hc_m := cnt_sz_Float32SS m
  refine c_to_Float32SS (hA_m.ext E) hs_m fun v8 w6 e7 o9 => ?_
  have E := E.trans e7
  have se7 := e7.size
  refine s_RoundedDeterminant o9.I hA_md fun w10 e11 => ?_
  have o9 := o9.ext e11
  have E := E.trans e11
  have se11 := e11.size
  have EU12 := Ext.refl w10
  rw [xtr_0]
  rw [xtr_1]
  rw [xtr_2]
  refine c_to_Float32SS (hA_m.ext E) hs_m fun v15 w13 e14 o16 => ?_
  have o9 := o9.ext e14
  have E := E.trans e14
  have EU12 := EU12.trans e14
  have se14 := e14.size
  refine p_RoundedDeterminant o16.I hA_md fun w17 e18 => ?_
  have o9 := o9.ext e18
  have o16 := o16.ext e18
  have E := E.trans e18
  have EU12 := EU12.trans e18
  have se18 := e18.size
  rw [xtr_0]
  rw [xtr_1]
  rw [xtr_2]
  refine rcnv_widen u_float32 u_float64 fun _ q19 => ?_
  refine rcnv_widen u_float32 u_float64 fun _ q20 => ?_
  refine c_sameFloat (wid_deq (Feq.refl _) q19 q20) ?_
  rw [una_not, Bool.not_true]
  refine ⟨_, fun _ _ _ h => h, ?_⟩
  rw [grd_false_false]
  refine neq_no rfl ?_
  rw [pick_bool, cond_false]
  refine ⟨_, fun _ _ _ h => h, ?_⟩
  rw [grd_false_false]
  refine neq_no rfl ?_
  rw [pick_bool, cond_false]
  rw [cnd_false]
  refine c_to_Float32SS (hA_m.ext E) hs_m fun v23 w21 e22 o24 => ?_
  have o9 := o9.ext e22
  have o16 := o16.ext e22
  have E := E.trans e22
  have EU12 := EU12.trans e22
  have se22 := e22.size
  refine c_eq_Float32SS o16.I o24.I fun w25 e26 => ?_
  have o9 := o9.ext e26
  have o16 := o16.ext e26
  have o24 := o24.ext e26
  have E := E.trans e26
  have EU12 := EU12.trans e26
  have se26 := e26.size
  rw [una_not, Bool.not_true]
  rw [cnd_false]
  exact H _ E

set_option maxRecDepth 100000 in
theorem RoundedDeterminant_lifted (os : Os) (started : os.Started) (H : Type) (enc : TypeId × Value → H) :
    ReturnsInHanded {} Tryz.checked os f_laws_FnExactRoundedDeterminant .any (Rows.fnExactRoundedDeterminantSpec.pre6 enc Tryz.prog Tryz.f7 Rows.fnExactRoundedDeterminantRow.domain false) (Rows.fnExactRoundedDeterminantSpec.post enc Tryz.prog Tryz.f7 false true false false) := by
  refine returnsInHanded_of_change (C := Tryz.checked) own started (by kernel_rfl) Tryz.func7
    (ChangeSpec.witness6 (enc := enc) (C := Tryz.checked) false ⟨#[], #[.slice none 0 0, .int .i64 0], []⟩ 8 (by kernel_rfl) (by kernel_rfl) (by kernel_rfl) (by kernel_rfl)) ?_
  intro W base args ds gs before hval0 hW hcnd _
  have hW' := hW
  obtain ⟨p, q, hA0, hV, rfl, hfz, hnd⟩ := hW
  have hA : DataW.TrodAll enc Tryz.prog W 0 (fun _ => true) true Tryz.f7.params.toList args.toList ds p := hA0
  rw [Tryz.params7] at hA
  obtain ⟨v0, vs0, d0, ds0, p0, q0, hargs0, rfl, rfl, h0, r0⟩ := trodAll_cons hA
  obtain ⟨v1, vs1, d1, ds1, p1, q1, hargs1, rfl, rfl, h1, r1⟩ := trodAll_cons r0
  obtain ⟨rfl, rfl, rfl⟩ := trodAll_nil r1
  obtain rfl : args = #[v0, v1] := by cases args; simp_all
  obtain ⟨rfl, rfl⟩ := trodVars_none hV
  have hval : ∀ (j : Nat) t v, Tryz.f7.params[j]? = some t → (#[v0, v1] : Array Value)[j]? = some v → Value.okWide Tryz.prog W .any base t v := hval0
  rw [Tryz.params7] at hval
  obtain ⟨a0, len0, cap0, rfl⟩ := okWide_slice u_s_s_float32 (hval 0 t_s_s_float32 v0 rfl rfl)
  have k0 := h0
  have lt0 : ∀ x ∈ p0, x.block < W.heap.size := by obtain ⟨m, hm⟩ := k0; exact DataW.trod_lt m _ _ _ hm
  obtain ⟨m, hA_m⟩ : ∃ m, A_Float32SS W (.slice a0 len0 cap0) m := by
    obtain ⟨fuel, hf⟩ := h0
    exact open_Float32SS hf
  have k1 := h1
  have lt1 : ∀ x ∈ p1, x.block < W.heap.size := by obtain ⟨m, hm⟩ := k1; exact DataW.trod_lt m _ _ _ hm
  obtain ⟨md, hA_md, rfl⟩ := okWide_int64 (hval 1 _ v1 rfl rfl)
  clear hval0 hval
  refine (calls_of Tryz.func7 (by kernel_rfl) (by kernel_rfl) (law_RoundedDeterminant (K := fun v w' => v = .bool true ∧ Ext (Vc.N W) w') hA_m.N hA_md fun w' he => ⟨rfl, he⟩)).mono ?_
  rintro e W' ⟨v, rfl, rfl, he⟩
  have bel := below_N he
  exact ⟨_, rfl, _, _, _, [], _, [], hW', trodAll_mk1 (shut_bool u_bool _), (trodAll_cons_mk (Below.trod laidOut (by kernel_rfl) (of_decide_eq_true (by kernel_rfl)) k0 bel lt0) (trodAll_cons_mk (Below.trod laidOut (by kernel_rfl) (of_decide_eq_true (by kernel_rfl)) k1 bel lt1) trodAll_mk0)), rfl, bel.frame _, fun h => by cases h⟩

theorem RoundedDeterminant_holds : Rows.FnExactRoundedDeterminantSaid :=
  OpenClaim.holds_of_wide 7 Tryz.f7 rfl rfl rfl rfl rfl rfl rfl ⟨rfl, rfl, rfl, rfl, rfl⟩ rfl rfl rfl rfl rfl (by kernel_rfl) Tryz.func7 joined_FnExactRoundedDeterminant
    (of_decide_eq_true (by kernel_rfl)) (by unfold Func.isWrapper; first | (rw [if_pos (by decide +kernel)]; kernel_rfl) | (rw [if_neg (by decide +kernel)]; exact ⟨rfl, rfl⟩))
    (fun os started H enc _ => RoundedDeterminant_lifted os started H enc)

end Go.Proofs.YtabgkpfcpncmhaaGreat
