/- Contracts: floats, lists of floats, matrices that are only read. -/
import Derived.Test.YtliagkijeigcaaaFn0
import Derived.Test.YtliagkijeigcaaaFn1
import Derived.Test.YtliagkijeigcaaaFn2
import Derived.Test.YtliagkijeigcaaaFn3
set_option linter.unusedVariables false
namespace Go.Proofs.Ytliagkijeigcaaa
open Go Go.Vc

abbrev fl (b : Nat) : Value := .float .f32 b
def finB (b : Nat) : Bool := decide (Fin Ieee.single b)

/-- A slice of floats. -/
structure FS (w : World) (v : Value) (l : List Nat) : Prop where
  row : Row 1 w v l.length (l.map fl)
  lt : ∀ b ∈ l, b < 4294967296
theorem FS.ext {w w' : World} {v : Value} {l : List Nat} (h : FS w v l) (he : Ext w w') : FS w' v l := ⟨h.row.ext he, h.lt⟩
theorem FS.bound {w : World} {v : Value} {l : List Nat} (h : FS w v l) : l.length ≤ 9223372036854775807 := by have := h.row.bound; simp only [maxLen] at this; omega

variable {w : World} {K : Value → World → Prop}

theorem call_extern {g : FuncId} {fn : Func} {e : Array Value → Sem Value} (hf : P.funcs[g]? = some fn) (hn : (fn.name == "runtime.NumGoroutine") = false) (hb : fn.body = none) (h1 : Extern.findNext fn = none) (h2 : Extern.find fn = some e)
    {args : List Value} (H : SemA P (e args.toArray) w K) : call P g args w K := by
  intro c hc
  obtain ⟨v, c', hr, hk⟩ := H c hc
  refine ⟨.value v, c', ?_, hk⟩
  have hn' : ¬ fn.name = "runtime.NumGoroutine" := by simpa using hn
  simp [callFunc, program, Sem.run, hf, hn', hb, h1, h2, mark, hr]

theorem c_Float32bits {b : Nat} (H : K (.int .u32 b) w) : call P f_math_Float32bits [fl b] w K :=
  call_extern fun_math_Float32bits (by kernel_rfl) rfl (by kernel_rfl) (e := Extern.MathFloatBits.float32bits) (by kernel_rfl) (SemA_pure H)

theorem c_isFinite {b : Nat} (hb : b < 4294967296) (H : K (.bool (finB b)) w) : call P f_impl_isFinite [fl b] w K := by
  refine I_impl_isFinite ?_
  unfold D_impl_isFinite
  refine c_Float32bits ?_
  rw [bin_shr _ _ _ _ _ _ _ _ (by decide)]
  have e1 : Int.fdiv (b : Int) (2 ^ min (Int.toNat 23) IntKind.u32.bits) = ((b / 8388608 : Nat) : Int) := by
    rw [Int.fdiv_eq_ediv_of_nonneg _ (by simp [IntKind.bits])]
    simp [IntKind.bits]
  rw [e1, bin_and]
  have e2 : IntKind.u32.wrap ((BitVec.ofInt IntKind.u32.bits ((b / 8388608 : Nat) : Int) &&& BitVec.ofInt IntKind.u32.bits 255).toNat) = ((b / 8388608 % 256 : Nat) : Int) := by
    have h1 : (BitVec.ofInt IntKind.u32.bits ((b / 8388608 : Nat) : Int) &&& BitVec.ofInt IntKind.u32.bits 255).toNat = b / 8388608 % 256 := by
      rw [BitVec.toNat_and]
      have a1 : (BitVec.ofInt IntKind.u32.bits ((b / 8388608 : Nat) : Int)).toNat = b / 8388608 := by
        simp [IntKind.bits]; omega
      have a2 : (BitVec.ofInt IntKind.u32.bits 255).toNat = 2 ^ 8 - 1 := rfl
      rw [a1, a2, Nat.and_two_pow_sub_one_eq_mod]
    rw [h1]
    exact wrap_of (by simp [IntKind.min, IntKind.signed]; omega) (by simp [IntKind.max, IntKind.signed, IntKind.bits]; omega)
  rw [e2]
  simp only [bin_neq]
  have e3 : decide (((b / 8388608 % 256 : Nat) : Int) ≠ 255) = finB b := by
    unfold finB
    rw [decide_eq_decide, fin_iff_bits]; omega
  rw [e3]
  exact H

theorem c_l01Finite {b : Nat} (H : K (.bool (finB b)) w) : call P f_spec_l01Finite [fl b] w K := by
  refine I_spec_l01Finite ?_
  unfold D_spec_l01Finite
  refine rbin_float (by simp) fun r hr => ?_
  simp only [bin_feql]
  have e : (FloatKind.f32.format.order r 0 == some .eq) = finB b := by
    unfold finB
    by_cases hf : Fin Ieee.single b
    · rw [decide_eq_true hf]
      have := FR_some hr (show floatBits .sub .f32 b b = some 0 from sub_self hf)
      subst this; rfl
    · rw [decide_eq_false hf]
      rcases hr with hr | hr
      · rw [show floatBits .sub .f32 b b = none from sub_self_none hs1 hf] at hr; cases hr
      · rw [show FloatKind.f32.format.order r 0 = none from order_nan_left hs1 0 hr.2.1]; rfl
  rw [e]; exact H

theorem get_map {α β : Type} {f : α → β} {l : List α} {i : Nat} (hi : i < l.length) : (l.map f)[i]? = some (f l[i]) := by simp [hi]

theorem c_areFinite {v : Value} {l : List Nat} (h : FS w v l) (H : K (.bool (l.all finB)) w) : call P f_impl_areFinite [v] w K := by
  refine I_impl_areFinite ?_
  unfold D_impl_areFinite
  rw [h.row.len u_s_float32]
  have hb := h.bound
  refine ⟨fun m x w' => w' = w ∧ ∃ i : Nat, x = .int .i64 i ∧ m + i = l.length ∧ (l.take i).all finB = true, ⟨l.length, rfl, 0, rfl, by omega, by simp⟩, ?_⟩
  rintro m x junk w' ⟨rfl, i, rfl, hm, hall⟩
  rw [bin_lss]
  refine cnd_dec (fun hlt => ?_) (fun hge => ?_)
  · have hi : i < l.length := by omega
    refine h.row.at1 (get_map hi) u_s_float32 i_float32 u_float32 rfl ?_
    refine c_isFinite (h.lt _ (List.getElem_mem hi)) ?_
    rw [una_not]
    refine cnd_split (fun hf => ?_) (fun hf => ?_)
    · have : l.all finB = false := by
        refine Bool.eq_false_iff.2 fun hall' => ?_
        have := List.all_eq_true.1 hall' l[i] (List.getElem_mem hi)
        rw [this] at hf; cases hf
      rw [this] at H; exact H
    · rw [bin_add]
      refine ⟨m - 1, by omega, rfl, i + 1, ?_, by omega, ?_⟩
      · rw [wrap_i64 (by omega) (by omega)]; rfl
      · rw [List.take_succ_eq_append_getElem hi, List.all_append, hall]
        simpa using hf
  · have : l.take i = l := List.take_of_length_le (by omega)
    rw [this] at hall
    rw [hall] at H; exact H

end Go.Proofs.Ytliagkijeigcaaa
