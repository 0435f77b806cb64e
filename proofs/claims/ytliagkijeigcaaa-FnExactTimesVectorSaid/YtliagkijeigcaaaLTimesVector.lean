/- The program's TimesVector returns what the reference's returns, for all arguments, changes no argument and shares no memory. No condition. -/
import Derived.Test.YtliagkijeigcaaaRows
import Derived.Test.YtliagkijeigcaaaR1
import Derived.Test.YtliagkijeigcaaaC7
set_option linter.unusedVariables false
namespace Go.Proofs.Ytliagkijeigcaaa
open Go Go.Vc
open Go.ChangeShapes Go.WideShapes Go.ChangeAt Go.RowKit

theorem law_TimesVector {w : World} {K : Value → World → Prop} {a v : Value} {m : List (List Nat)} {x : List Nat} (h : FSS w a m) (hb : bits m) (hv : FS w v x) (H : ∀ w', Ext w w' → K (.bool true) w') : call P f_laws_FnExactTimesVector [a, v] w K := by
  refine I_laws_FnExactTimesVector ?_
  unfold D_laws_FnExactTimesVector
  rw [hv.row.len u_s_float32, bin_gtr]
  refine cnd_dec (fun _ => H _ (Ext.refl _)) (fun hx => ?_)
  refine c_szFloat32SS h (by decide) (by decide) fun r hr => ?_
  rw [bin_lss]
  refine cnd_dec (fun _ => H _ (Ext.refl _)) (fun hr0 => ?_)
  have hm : m.length + total m ≤ 1048576 := by omega
  have hrow : ∀ r ∈ m, r.length ≤ 1048576 := fun r hr => by have := len_le_total hr; omega
  have hxl : x.length ≤ 1048576 := by omega
  have hml : m.length ≤ 1048576 := by omega
  have fb := tvF_bits m x
  have fs := tvF_small m x
  -- the reference
  refine c_toFloat32SS h hml hrow fun a1 w1 vs1 e1 o1 => ?_
  refine c_toFloat32S (hv.ext e1) hxl fun v1 w2 e2 q1 => ?_
  refine c_spec_TimesVector ((o1.ext e2).FSS hb) (q1.FS hv.lt) fun u w3 e3 ou => ?_
  rw [xtr_0, xtr_1]
  have ou := OwnR.of ou
  have E3 := (e1.trans e2).trans e3
  -- the program
  refine c_toFloat32SS (h.ext E3) hml hrow fun a2 w4 vs2 e4 o2 => ?_
  refine c_toFloat32S (hv.ext (E3.trans e4)) hxl fun v2 w5 e5 q2 => ?_
  refine c_impl_TimesVector ((o2.ext e5).FSS hb) (q2.FS hv.lt) fun g w6 e6 og => ?_
  rw [xtr_0, xtr_1]
  have q2 := OwnR.of q2
  have og := OwnR.of og
  have e46 := (e4.trans e5).trans e6
  refine c_eqFloat32S (OS.FS og.own fb) (OS.FS (ou.ext e46).own fb) (Leq.refl _) ?_
  rw [una_not, Bool.not_true]
  refine ⟨_, fun _ _ _ h => h, ?_⟩
  rw [grd_false_false, bin_neq, pick_bool, cond_false]
  refine cnd_no (by simp) ?_
  -- the arguments are as they were
  have E6 := E3.trans e46
  refine c_toFloat32SS (h.ext E6) hml hrow fun a3 w7 vs3 e7 o3 => ?_
  refine c_eqFloat32SS ((o2.ext ((e5.trans e6).trans e7)).FSS hb) (o3.FSS hb) (LLeq.refl _) ?_
  rw [una_not, Bool.not_true, cnd_false]
  refine c_toFloat32S (hv.ext (E6.trans e7)) hxl fun v3 w8 e8 q3 => ?_
  refine c_eqFloat32S (OS.FS (q2.ext ((e6.trans e7).trans e8)).own hv.lt) (q3.FS hv.lt) (Leq.refl _) ?_
  rw [una_not, Bool.not_true, cnd_false]
  have E8 := (E6.trans e7).trans e8
  have e68 := e7.trans e8
  have s1 := e1.size; have s2 := e2.size; have s3 := e3.size; have s4 := e4.size; have s5 := e5.size; have s6 := e6.size; have s7 := e7.size; have s8 := e8.size
  -- marks on the arguments
  refine c_markFloat32SS (o2.ext (e5.trans (e6.trans e68))) (by decide) (by omega) (by omega) fun w9 o9 c9 => ?_
  have q9 := (q2.ext (e6.trans e68)).chg c9 (.inr (by omega))
  have g9 := (og.ext e68).chg c9 (.inr (by omega))
  have u9 := (ou.ext (e46.trans e68)).chg c9 (.inl (by omega))
  refine c_markFloat32S q9.own (by omega) (by omega) fun wa qa ga => ?_
  have ca := q9.grown ga
  have ga := g9.chg ca (.inr (by omega))
  have ua := u9.chg ca (.inl (by omega))
  rw [bin_lss]
  refine ⟨_, fun _ _ _ h => h, ?_⟩
  have en : decide (1 + (total m : Int) + x.length < 0) = false := by rw [decide_eq_false_iff_not]; omega
  rw [en, grd_false_false]
  refine c_eqFloat32S (OS.FS ga.own fb) (OS.FS ua.own fb) (Leq.refl _) ?_
  rw [una_not, Bool.not_true, pick_bool, cond_false]
  refine ⟨_, fun _ _ _ h => h, ?_⟩
  rw [grd_false_false, bin_neq, pick_bool, cond_false]
  refine cnd_no (by simp) ?_
  -- marks on the result
  refine c_markFloat32S ga.own (by omega) (by omega) fun wb gb hgb => ?_
  have cb := ga.grown hgb
  have ub := ua.chg cb (.inl (by omega))
  have gb : OwnR wb w5.heap.size w6.heap.size t_float32 1 g (mk 1 (tvF m x).1.length).length ((mk 1 (tvF m x).1.length).map fl) := ⟨gb, ga.top⟩
  refine c_heldFloat32S (OS.FS gb.own (mk_bits _ _)) (by omega) (by omega) ?_
  rw [bin_lss]
  refine cnd_no (by rw [decide_eq_false_iff_not]; omega) ?_
  rw [bin_neq]
  refine cnd_no (by simp) ?_
  -- once more
  have B8 : Below w.heap.size w wb := cb.below (ca.below (c9.below E8 (by omega) (Nat.le_refl _)) (by omega) (Nat.le_refl _)) (by omega) (Nat.le_refl _)
  have s9 := c9.size; have sa := ca.size; have sb := cb.size
  refine c_toFloat32SS (h.ext B8) hml hrow fun a4 wc vs4 ec o4 => ?_
  have B9 : Ext w wc := B8.trans (Below.mono ec B8.size)
  refine c_toFloat32S (hv.ext B9) hxl fun v4 wd ed q4 => ?_
  refine c_impl_TimesVector ((o4.ext ed).FSS hb) (q4.FS hv.lt) fun g2 we ee og2 => ?_
  rw [xtr_0, xtr_1]
  have ebe := (ec.trans ed).trans ee
  refine c_eqFloat32S (OS.FS og2 fb) (OS.FS (ub.ext ebe).own fb) (Leq.refl _) ?_
  rw [una_not, Bool.not_true]
  refine ⟨_, fun _ _ _ h => h, ?_⟩
  rw [grd_false_false, bin_neq, pick_bool, cond_false]
  refine cnd_no (by simp) ?_
  refine c_heldFloat32S (OS.FS (gb.ext ebe).own (mk_bits _ _)) (by omega) (by omega) ?_
  rw [bin_lss]
  refine cnd_no (by rw [decide_eq_false_iff_not]; omega) ?_
  rw [bin_neq]
  refine cnd_no (by simp) ?_
  exact H _ (B8.trans (Below.mono ebe B8.size))

set_option maxRecDepth 100000 in
theorem TimesVector_lifted (os : Os) (started : os.Started) (H : Type) (enc : TypeId × Value → H) :
    ReturnsInHanded {} Try.checked os f_laws_FnExactTimesVector .any (Rows.fnExactTimesVectorSpec.pre6 enc Try.prog Try.f5 Rows.fnExactTimesVectorRow.domain false) (Rows.fnExactTimesVectorSpec.post enc Try.prog Try.f5 false true false false) := by
  refine returnsInHanded_of_change (C := Try.checked) own started (by kernel_rfl) Try.func5
    (ChangeSpec.witness6 (enc := enc) (C := Try.checked) false ⟨#[], #[.slice none 0 0, .slice none 0 0], []⟩ 8 (by kernel_rfl) (by kernel_rfl) (by kernel_rfl) (by kernel_rfl)) ?_
  intro W base args ds gs before hval0 hW hcnd _
  have hW' := hW
  obtain ⟨p, q, hA0, hV, rfl, hfz, hnd⟩ := hW
  have hA : DataW.TrodAll enc Try.prog W 0 (fun _ => true) true Try.f5.params.toList args.toList ds p := hA0
  rw [Try.params5] at hA
  obtain ⟨v0, vs0, d0, ds0, p0, q0, hargs0, rfl, rfl, h0, r0⟩ := trodAll_cons hA
  obtain ⟨v1, vs1, d1, ds1, p1, q1, hargs1, rfl, rfl, h1, r1⟩ := trodAll_cons r0
  obtain ⟨rfl, rfl, rfl⟩ := trodAll_nil r1
  obtain rfl : args = #[v0, v1] := by cases args; simp_all
  obtain ⟨rfl, rfl⟩ := trodVars_none hV
  have hval : ∀ (j : Nat) t v, Try.f5.params[j]? = some t → (#[v0, v1] : Array Value)[j]? = some v → Value.okWide Try.prog W .any base t v := hval0
  rw [Try.params5] at hval
  obtain ⟨a0, len0, cap0, rfl⟩ := okWide_slice u_s_s_float32 (hval 0 t_s_s_float32 v0 rfl rfl)
  obtain ⟨a1, len1, cap1, rfl⟩ := okWide_slice u_s_float32 (hval 1 t_s_float32 v1 rfl rfl)
  have k0 := h0
  have k1 := h1
  have lt0 : ∀ x ∈ p0, x.block < W.heap.size := by obtain ⟨m, hm⟩ := k0; exact DataW.trod_lt m _ _ _ hm
  have lt1 : ∀ x ∈ p1, x.block < W.heap.size := by obtain ⟨m, hm⟩ := k1; exact DataW.trod_lt m _ _ _ hm
  obtain ⟨m, hm, hbits⟩ : ∃ m, FSS W (.slice a0 len0 cap0) m ∧ bits m := by
    obtain ⟨fuel, hf⟩ := h0
    exact open_FSS hf
  obtain ⟨x, hx⟩ : ∃ x, FS W (.slice a1 len1 cap1) x := by
    obtain ⟨fuel, hf⟩ := h1
    exact open_FS hf
  clear hval0 hval
  refine (calls_of Try.func5 (by kernel_rfl) (by kernel_rfl) (law_TimesVector (K := fun v w' => v = .bool true ∧ Ext (Vc.N W) w') hm.N hbits hx.N fun w' he => ⟨rfl, he⟩)).mono ?_
  rintro e W' ⟨v, rfl, rfl, he⟩
  have bel := below_N he
  exact ⟨_, rfl, _, _, _, [], _, [], hW', trodAll_mk1 (shut_bool u_bool _), (trodAll_cons_mk (Below.trod laidOut (by kernel_rfl) (of_decide_eq_true (by kernel_rfl)) k0 bel lt0) (trodAll_cons_mk (Below.trod laidOut (by kernel_rfl) (of_decide_eq_true (by kernel_rfl)) k1 bel lt1) trodAll_mk0)), rfl, bel.frame _, fun h => by cases h⟩

theorem TimesVector_holds : Rows.FnExactTimesVectorSaid :=
  OpenClaim.holds_of_wide 5 Try.f5 rfl rfl rfl rfl rfl rfl rfl ⟨rfl, rfl, rfl, rfl, rfl⟩ rfl rfl rfl rfl rfl (by kernel_rfl) Try.func5 (by kernel_rfl)
    (of_decide_eq_true (by kernel_rfl)) (by unfold Func.isWrapper; first | (rw [if_pos (by decide +kernel)]; kernel_rfl) | (rw [if_neg (by decide +kernel)]; exact ⟨rfl, rfl⟩))
    (fun os started H enc _ => TimesVector_lifted os started H enc)

end Go.Proofs.Ytliagkijeigcaaa
