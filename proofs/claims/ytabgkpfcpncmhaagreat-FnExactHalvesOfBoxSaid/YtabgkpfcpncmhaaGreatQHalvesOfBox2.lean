import Derived.Test.YtabgkpfcpncmhaaGreatVcK
import Derived.Test.YtabgkpfcpncmhaaGreatVcI
import Derived.ProofKit
import Derived.OpenShut
import Derived.ChangeOld
import Derived.Deep.Slices
import Derived.Test.YtabgkpfcpncmhaaGreatU1
import Derived.Test.YtabgkpfcpncmhaaGreatVcL
import Derived.Test.YtabgkpfcpncmhaaGreatQHalvesOfBox1
set_option linter.unusedSimpArgs false
set_option linter.unusedVariables false
/- Written by a program (gen.py): what is left to show of each function's call. -/
set_option linter.unusedVariables false
set_option maxRecDepth 20000
namespace Go.Proofs.YtabgkpfcpncmhaaGreat
open Go Go.Vc

/-- math.Ldexp -/
def D_math_Ldexp (a0 a1 : Value) (w : World) (K : Value → World → Prop) : Prop :=
  cnd (.bool false)
    (call P f_math_archLdexp [a0, a1] w fun x7_1 w2 =>
    K x7_1 w2)
    (call P f_math_ldexp [a0, a1] w fun x10_3 w4 =>
    K x10_3 w4)
def P_math_Ldexp : Plan := (.seq (.reg [.op (0, 0, false)]) (.seq (.cond (.seq (.reg [.op (0, 0, false), .op (1, 0, false), .op (2, 2, false), .op (3, 0, false)]) .leaf) .leaf) (.seq (.reg [.op (0, 0, false), .op (1, 0, false), .op (2, 2, false), .op (3, 0, false)]) .leaf)))
theorem I_math_Ldexp {a0 a1 : Value} {w : World} {K : Value → World → Prop} (h : D_math_Ldexp a0 a1 w K) : call P f_math_Ldexp [a0, a1] w K :=
  call_of_vc mixed Tryz.func194 (c := codeOf Tryz.f194) (by kernel_rfl) (by kernel_rfl) (p := P_math_Ldexp) (by kernel_rfl) (by rw [Tryz.ntmps194]; simp) (by
    have e : D_math_Ldexp a0 a1 w K = vc P P_math_Ldexp (codeOf Tryz.f194) (env0 [a0, a1]) w (retX P Tryz.f194.results.toList K) := by kernel_rfl
    exact e ▸ h)

/-- math.Inf -/
def D_math_Inf (a0 : Value) (w : World) (K : Value → World → Prop) : Prop :=
  bin P .geq 3 false true a0 (.int .i64 0) w fun x5_1 =>
  cnd x5_1
    (call P f_math_Float64frombits [(.int .u64 9218868437227405312)] w fun x7_2 w3 =>
    K x7_2 w3)
    (call P f_math_Float64frombits [(.int .u64 18442240474082181120)] w fun x7_4 w5 =>
    K x7_4 w5)
def P_math_Inf : Plan := (.seq (.reg [.op (0, 0, false)]) (.seq (.reg [.op (0, 0, false)]) (.seq (.seq (.reg [.op (0, 0, false), .op (1, 0, false)]) (.cond (.reg [.op (0, 0, false)]) (.reg [.op (0, 0, false)]))) (.seq (.reg [.op (0, 0, false), .op (1, 2, false), .op (2, 0, false)]) .leaf))))
theorem I_math_Inf {a0 : Value} {w : World} {K : Value → World → Prop} (h : D_math_Inf a0 w K) : call P f_math_Inf [a0] w K :=
  call_of_vc mixed Tryz.func255 (c := codeOf Tryz.f255) (by kernel_rfl) (by kernel_rfl) (p := P_math_Inf) (by kernel_rfl) (by rw [Tryz.ntmps255]; simp) (by
    have e : D_math_Inf a0 w K = vc P P_math_Inf (codeOf Tryz.f255) (env0 [a0]) w (retX P Tryz.f255.results.toList K) := by kernel_rfl
    exact e ▸ h)

/-- math.ldexp -/
def D_math_ldexp (a0 a1 : Value) (w : World) (K : Value → World → Prop) : Prop :=
  bin P .eql 39 false true a0 (.float .f64 0) w fun x10_1 =>
  cnd x10_1
    (K a0 w)
    (call P f_math_IsInf [a0, (.int .i64 0)] w fun x14_2 w3 =>
    ∃ J4 : Value → World → Prop, (∀ (x17_5 : Value) (junk7 : Env) (w6 : World), J4 x17_5 w6 →
      pick x14_2 (.bool true) x17_5 fun x18_8 =>
      cnd x18_8
        (K a0 w6)
        (call P f_math_normalize [a0] w6 fun x22_9 w10 =>
        xtr P x22_9 0 w10 fun x23_11 =>
        xtr P x22_9 1 w10 fun x24_12 =>
        bin P .add 3 false false a1 x24_12 w10 fun x27_13 =>
        call P f_math_Float64bits [x23_11] w10 fun x29_14 w15 =>
        bin P .shr 227 false true x29_14 (.int .u64 52) w15 fun x32_16 =>
        cnv P 227 3 x32_16 w15 fun x33_17 =>
        bin P .and 3 false true x33_17 (.int .i64 2047) w15 fun x34_18 =>
        bin P .sub 3 false true x34_18 (.int .i64 1023) w15 fun x35_19 =>
        bin P .add 3 false false x27_13 x35_19 w15 fun x36_20 =>
        bin P .lss 3 false true x36_20 (.int .i64 (-1075)) w15 fun x38_21 =>
        cnd x38_21
          (call P f_math_Copysign [(.float .f64 0), x23_11] w15 fun x40_22 w23 =>
          K x40_22 w23)
          (bin P .gtr 3 false true x36_20 (.int .i64 1023) w15 fun x42_24 =>
          cnd x42_24
            (bin P .lss 39 false true x23_11 (.float .f64 0) w15 fun x44_25 =>
            cnd x44_25
              (call P f_math_Inf [(.int .i64 (-1))] w15 fun x45_26 w27 =>
              K x45_26 w27)
              (call P f_math_Inf [(.int .i64 1)] w15 fun x46_28 w29 =>
              K x46_28 w29))
            (∃ J30 : Value → Value → World → Prop, (∀ (x1_33 : Value) (x7_34 : Value) (junk31 : Env) (w32 : World), J30 x1_33 x7_34 w32 →
              bin P .andNot 227 false true x29_14 (.int .u64 9218868437227405312) w32 fun x52_35 =>
              bin P .add 3 false true x1_33 (.int .i64 1023) w32 fun x55_36 =>
              cnv P 3 227 x55_36 w32 fun x56_37 =>
              bin P .shl 227 false true x56_37 (.int .u64 52) w32 fun x57_38 =>
              bin P .or 227 false false x52_35 x57_38 w32 fun x58_39 =>
              call P f_math_Float64frombits [x58_39] w32 fun x61_40 w41 =>
              rbin P .mul 39 false false x7_34 x61_40 w41 fun x62_42 =>
              K x62_42 w41) ∧
              (bin P .lss 3 false true x36_20 (.int .i64 (-1022)) w15 fun x48_43 =>
              cnd x48_43
                (bin P .add 3 false true x36_20 (.int .i64 53) w15 fun x50_44 =>
                J30 x50_44 (.float .f64 4368491638549381120) w15)
                (J30 x36_20 (.float .f64 4607182418800017408) w15)))))) ∧
      grd x14_2 false
        (call P f_math_IsNaN [a0] w3 fun x17_45 w46 =>
        J4 x17_45 w46)
        (J4 undef w3))
def P_math_ldexp : Plan := (.seq (.reg [.op (0, 0, false)]) (.seq (.blk (.seq (.reg [.op (0, 0, false), .op (1, 0, false), .op (2, 0, false)]) (.cond (.seq (.reg [.op (0, 0, false), .op (1, 0, false)]) .leaf) (.seq (.reg [.op (0, 0, false), .op (1, 2, false), .op (2, 0, false), .grp 2 false [(3, 0, false), (4, 2, false)] [17] 196608, .op (5, 0, false), .op (6, 0, false)]) (.cond (.seq (.reg [.op (0, 0, false), .op (1, 0, false)]) .leaf) .leaf))))) (.seq (.reg [.op (0, 0, false), .op (1, 2, false), .op (2, 0, false), .op (3, 0, false), .op (4, 0, false), .op (5, 0, false), .op (6, 0, false)]) (.seq (.reg [.op (0, 0, false), .op (1, 0, false), .op (2, 0, false), .op (3, 0, false)]) (.seq (.reg [.op (0, 0, false), .op (1, 2, false), .op (2, 0, false)]) (.seq (.reg [.op (0, 0, false), .op (1, 0, false), .op (2, 0, false), .op (3, 0, false), .op (4, 0, false), .op (5, 0, false), .op (6, 0, false), .op (7, 0, false)]) (.seq (.seq (.reg [.op (0, 0, false), .op (1, 0, false)]) (.cond (.seq (.reg [.op (0, 0, false), .op (1, 2, false), .op (2, 0, false)]) .leaf) .leaf)) (.seq (.seq (.reg [.op (0, 0, false), .op (1, 0, false)]) (.cond (.seq (.seq (.reg [.op (0, 0, false), .op (1, 0, false)]) (.cond (.seq (.reg [.op (0, 2, false), .op (1, 0, false)]) .leaf) .leaf)) (.seq (.reg [.op (0, 2, false), .op (1, 0, false)]) .leaf)) .leaf)) (.seq (.reg [.op (0, 0, false)]) (.cut [1, 7] 2111062325330050 (.seq (.reg [.op (0, 0, false), .op (1, 0, false)]) (.cond (.seq (.reg [.op (0, 0, false), .op (1, 0, false), .op (2, 0, false)]) (.reg [.op (0, 0, false)])) .leaf)) (.seq (.reg [.op (0, 0, false), .op (1, 0, false), .op (2, 0, false)]) (.seq (.reg [.op (0, 0, false), .op (1, 0, false), .op (2, 0, false), .op (3, 0, false), .op (4, 0, false), .op (5, 0, false), .op (6, 0, false)]) (.seq (.reg [.op (0, 0, false), .op (1, 0, false), .op (2, 2, false), .op (3, 1, false), .op (4, 0, false)]) .leaf)))))))))))))
theorem I_math_ldexp {a0 a1 : Value} {w : World} {K : Value → World → Prop} (h : D_math_ldexp a0 a1 w K) : call P f_math_ldexp [a0, a1] w K :=
  call_of_vc mixed Tryz.func262 (c := codeOf Tryz.f262) (by kernel_rfl) (by kernel_rfl) (p := P_math_ldexp) (by kernel_rfl) (by rw [Tryz.ntmps262]; simp) (by
    have e : D_math_ldexp a0 a1 w K = vc P P_math_ldexp (codeOf Tryz.f262) (env0 [a0, a1]) w (retX P Tryz.f262.results.toList K) := by kernel_rfl
    exact e ▸ h)

/-- math.IsInf -/
def D_math_IsInf (a0 a1 : Value) (w : World) (K : Value → World → Prop) : Prop :=
  bin P .eql 3 false true a1 (.int .i64 0) w fun x6_1 =>
  cnd x6_1
    (call P f_math_Abs [a0] w fun x8_2 w3 =>
    bin P .gtr 39 false true x8_2 (.float .f64 9218868437227405311) w3 fun x14_4 =>
    K x14_4 w3)
    (bin P .lss 3 false true a1 (.int .i64 0) w fun x10_5 =>
    cnd x10_5
      (una P .neg a0 w fun x12_6 =>
      bin P .gtr 39 false true x12_6 (.float .f64 9218868437227405311) w fun x14_7 =>
      K x14_7 w)
      (bin P .gtr 39 false true a0 (.float .f64 9218868437227405311) w fun x14_8 =>
      K x14_8 w))
def P_math_IsInf : Plan := (.seq (.reg [.op (0, 0, false)]) (.seq (.seq (.reg [.op (0, 0, false), .op (1, 0, false)]) (.cond (.reg [.op (0, 0, false), .op (1, 2, false), .op (2, 0, false)]) (.seq (.reg [.op (0, 0, false), .op (1, 0, false)]) (.cond (.reg [.op (0, 0, false), .op (1, 0, false), .op (2, 0, false)]) .leaf)))) (.seq (.reg [.op (0, 0, false), .op (1, 0, false), .op (2, 0, false)]) .leaf)))
theorem I_math_IsInf {a0 a1 : Value} {w : World} {K : Value → World → Prop} (h : D_math_IsInf a0 a1 w K) : call P f_math_IsInf [a0, a1] w K :=
  call_of_vc mixed Tryz.func289 (c := codeOf Tryz.f289) (by kernel_rfl) (by kernel_rfl) (p := P_math_IsInf) (by kernel_rfl) (by rw [Tryz.ntmps289]; simp) (by
    have e : D_math_IsInf a0 a1 w K = vc P P_math_IsInf (codeOf Tryz.f289) (env0 [a0, a1]) w (retX P Tryz.f289.results.toList K) := by kernel_rfl
    exact e ▸ h)

/-- math.IsNaN -/
def D_math_IsNaN (a0 : Value) (w : World) (K : Value → World → Prop) : Prop :=
  bin P .neq 39 false false a0 a0 w fun x5_1 =>
  K x5_1 w
def P_math_IsNaN : Plan := (.seq (.reg [.op (0, 0, false)]) (.seq (.reg [.op (0, 0, false), .op (1, 0, false), .op (2, 0, false), .op (3, 0, false)]) .leaf))
theorem I_math_IsNaN {a0 : Value} {w : World} {K : Value → World → Prop} (h : D_math_IsNaN a0 w K) : call P f_math_IsNaN [a0] w K :=
  call_of_vc mixed Tryz.func290 (c := codeOf Tryz.f290) (by kernel_rfl) (by kernel_rfl) (p := P_math_IsNaN) (by kernel_rfl) (by rw [Tryz.ntmps290]; simp) (by
    have e : D_math_IsNaN a0 w K = vc P P_math_IsNaN (codeOf Tryz.f290) (env0 [a0]) w (retX P Tryz.f290.results.toList K) := by kernel_rfl
    exact e ▸ h)

/-- math.normalize -/
def D_math_normalize (a0 : Value) (w : World) (K : Value → World → Prop) : Prop :=
  call P f_math_Abs [a0] w fun x5_1 w2 =>
  bin P .lss 39 false true x5_1 (.float .f64 4503599627370496) w2 fun x6_3 =>
  cnd x6_3
    (rbin P .mul 39 false true a0 (.float .f64 4841369599423283200) w2 fun x8_4 =>
    K (.tuple #[x8_4, (.int .i64 (-52))]) w2)
    (K (.tuple #[a0, (.int .i64 0)]) w2)
def P_math_normalize : Plan := (.seq (.reg [.op (0, 0, false), .op (1, 0, false)]) (.seq (.seq (.reg [.op (0, 0, false), .op (1, 2, false), .op (2, 0, false)]) (.cond (.seq (.reg [.op (0, 0, false), .op (1, 1, false), .op (2, 0, false), .op (3, 0, false)]) .leaf) .leaf)) (.seq (.reg [.op (0, 0, false), .op (1, 0, false), .op (2, 0, false)]) .leaf)))
theorem I_math_normalize {a0 : Value} {w : World} {K : Value → World → Prop} (h : D_math_normalize a0 w K) : call P f_math_normalize [a0] w K :=
  call_of_vc mixed Tryz.func291 (c := codeOf Tryz.f291) (by kernel_rfl) (by kernel_rfl) (p := P_math_normalize) (by kernel_rfl) (by rw [Tryz.ntmps291]; simp) (by
    have e : D_math_normalize a0 w K = vc P P_math_normalize (codeOf Tryz.f291) (env0 [a0]) w (retX P Tryz.f291.results.toList K) := by kernel_rfl
    exact e ▸ h)

/-- math.Copysign -/
def D_math_Copysign (a0 a1 : Value) (w : World) (K : Value → World → Prop) : Prop :=
  call P f_math_Float64bits [a0] w fun x6_1 w2 =>
  bin P .andNot 227 false true x6_1 (.int .u64 9223372036854775808) w2 fun x7_3 =>
  call P f_math_Float64bits [a1] w2 fun x9_4 w5 =>
  bin P .and 227 false true x9_4 (.int .u64 9223372036854775808) w5 fun x10_6 =>
  bin P .or 227 false false x7_3 x10_6 w5 fun x11_7 =>
  call P f_math_Float64frombits [x11_7] w5 fun x12_8 w9 =>
  K x12_8 w9
def P_math_Copysign : Plan := (.seq (.reg [.op (0, 0, false)]) (.seq (.reg [.op (0, 0, false), .op (1, 2, false), .op (2, 0, false), .op (3, 0, false), .op (4, 2, false), .op (5, 0, false), .op (6, 0, false), .op (7, 2, false), .op (8, 0, false)]) .leaf))
theorem I_math_Copysign {a0 a1 : Value} {w : World} {K : Value → World → Prop} (h : D_math_Copysign a0 a1 w K) : call P f_math_Copysign [a0, a1] w K :=
  call_of_vc mixed Tryz.func293 (c := codeOf Tryz.f293) (by kernel_rfl) (by kernel_rfl) (p := P_math_Copysign) (by kernel_rfl) (by rw [Tryz.ntmps293]; simp) (by
    have e : D_math_Copysign a0 a1 w K = vc P P_math_Copysign (codeOf Tryz.f293) (env0 [a0, a1]) w (retX P Tryz.f293.results.toList K) := by kernel_rfl
    exact e ▸ h)

/-- math.Abs -/
def D_math_Abs (a0 : Value) (w : World) (K : Value → World → Prop) : Prop :=
  call P f_math_Float64bits [a0] w fun x4_1 w2 =>
  bin P .andNot 227 false true x4_1 (.int .u64 9223372036854775808) w2 fun x5_3 =>
  call P f_math_Float64frombits [x5_3] w2 fun x6_4 w5 =>
  K x6_4 w5
def P_math_Abs : Plan := (.seq (.reg [.op (0, 0, false)]) (.seq (.reg [.op (0, 0, false), .op (1, 2, false), .op (2, 0, false), .op (3, 2, false), .op (4, 0, false)]) .leaf))
theorem I_math_Abs {a0 : Value} {w : World} {K : Value → World → Prop} (h : D_math_Abs a0 w K) : call P f_math_Abs [a0] w K :=
  call_of_vc mixed Tryz.func307 (c := codeOf Tryz.f307) (by kernel_rfl) (by kernel_rfl) (p := P_math_Abs) (by kernel_rfl) (by rw [Tryz.ntmps307]; simp) (by
    have e : D_math_Abs a0 w K = vc P P_math_Abs (codeOf Tryz.f307) (env0 [a0]) w (retX P Tryz.f307.results.toList K) := by kernel_rfl
    exact e ▸ h)

end Go.Proofs.YtabgkpfcpncmhaaGreat

/- Written by a program (gen.py): what is left to show of each function's call. -/
set_option linter.unusedVariables false
set_option maxRecDepth 20000
namespace Go.Proofs.YtabgkpfcpncmhaaGreat
open Go Go.Vc

/-- spec.l06Up -/
def D_spec_l06Up (a0 : Value) (w : World) (K : Value → World → Prop) : Prop :=
  bx P 28 a0 w fun x1_1 w2 =>
  ld P 28 x1_1 w2 fun x6_3 =>
  call P f_spec_l03Round [x6_3, (.int .i64 2)] w2 fun x7_4 w5 =>
  xtr P x7_4 0 w5 fun x8_6 =>
  xtr P x7_4 1 w5 fun x9_7 =>
  K x8_6 w5
def P_spec_l06Up : Plan := (.seq (.reg [.op (0, 2, false), .op (1, 0, false)]) (.seq (.reg [.op (0, 0, false), .op (1, 2, false), .op (2, 0, false), .op (3, 0, false), .op (4, 0, false), .op (5, 0, false), .op (6, 0, false)]) (.seq (.reg [.op (0, 0, false), .op (1, 0, false)]) .leaf)))
theorem I_spec_l06Up {a0 : Value} {w : World} {K : Value → World → Prop} (h : D_spec_l06Up a0 w K) : call P f_spec_l06Up [a0] w K :=
  call_of_vc mixed Tryz.func100 (c := codeOf Tryz.f100) (by kernel_rfl) (by kernel_rfl) (p := P_spec_l06Up) (by kernel_rfl) (by rw [Tryz.ntmps100]; simp) (by
    have e : D_spec_l06Up a0 w K = vc P P_spec_l06Up (codeOf Tryz.f100) (env0 [a0]) w (retX P Tryz.f100.results.toList K) := by kernel_rfl
    exact e ▸ h)

/-- spec.l06Is -/
def D_spec_l06Is (a0 : Value) (w : World) (K : Value → World → Prop) : Prop :=
  bx P 61 a0 w fun x1_1 w2 =>
  fda P 61 x1_1 0 w2 fun x3_3 =>
  ld P 35 x3_3 w2 fun x4_4 =>
  call P f_spec_l06Plain [x4_4] w2 fun x5_5 w6 =>
  ∃ J7 : Value → World → Prop, (∀ (x9_8 : Value) (junk10 : Env) (w9 : World), J7 x9_8 w9 →
    pick x5_5 x9_8 (.bool false) fun x10_11 =>
    ∃ J12 : Value → World → Prop, (∀ (x16_13 : Value) (junk15 : Env) (w14 : World), J12 x16_13 w14 →
    pick x10_11 x16_13 (.bool false) fun x17_16 =>
      ∃ J17 : Value → World → Prop, (∀ (x22_18 : Value) (junk20 : Env) (w19 : World), J17 x22_18 w19 →
    pick x17_16 x22_18 (.bool false) fun x23_21 =>
        ∃ J22 : Value → World → Prop, (∀ (x29_23 : Value) (junk25 : Env) (w24 : World), J22 x29_23 w24 →
    pick x23_21 x29_23 (.bool false) fun x30_26 =>
          K x30_26 w24) ∧
    grd x23_21 true
      (fda P 61 x1_1 1 w19 fun x25_27 =>
            ld P 35 x25_27 w19 fun x26_28 =>
            call P f_spec_l01Huge [] w19 fun x27_29 w30 =>
            Ext w19 w30 ∧ una P .neg x27_29 w30 fun x28_31 =>
            bin P .gtr 35 false false x26_28 x28_31 w30 fun x29_32 =>
            J22 x29_32 w30)
      (J22 undef w19)) ∧
    grd x17_16 true
      (fda P 61 x1_1 0 w14 fun x19_33 =>
          ld P 35 x19_33 w14 fun x20_34 =>
          call P f_spec_l01Huge [] w14 fun x21_35 w36 =>
          Ext w14 w36 ∧ bin P .lss 35 false false x20_34 x21_35 w36 fun x22_37 =>
          J17 x22_37 w36)
      (J17 undef w14)) ∧
    grd x10_11 true
      (fda P 61 x1_1 0 w9 fun x12_38 =>
        ld P 35 x12_38 w9 fun x13_39 =>
        fda P 61 x1_1 1 w9 fun x14_40 =>
        ld P 35 x14_40 w9 fun x15_41 =>
        bin P .leq 35 false false x13_39 x15_41 w9 fun x16_42 =>
        J12 x16_42 w9)
      (J12 undef w9)) ∧
    grd x5_5 true
      (fda P 61 x1_1 1 w6 fun x7_43 =>
      ld P 35 x7_43 w6 fun x8_44 =>
      call P f_spec_l06Plain [x8_44] w6 fun x9_45 w46 =>
      J7 x9_45 w46)
      (J7 undef w6)
def P_spec_l06Is : Plan := (.seq (.reg [.op (0, 2, false), .op (1, 0, false)]) (.seq (.reg [.op (0, 0, false), .op (1, 0, false), .op (2, 2, false), .op (3, 0, false), .grp 3 true [(4, 0, false), (5, 0, false), (6, 2, false)] [9] 896, .op (7, 0, false), .op (8, 0, false), .grp 8 true [(9, 0, false), (10, 0, false), (11, 0, false), (12, 0, false), (13, 0, false)] [16] 126976, .op (14, 0, false), .op (15, 0, false), .grp 15 true [(16, 0, false), (17, 0, false), (18, 2, true), (19, 0, false)] [22] 7864320, .op (20, 0, false), .op (21, 0, false), .grp 21 true [(22, 0, false), (23, 0, false), (24, 2, true), (25, 0, false), (26, 0, false)] [29] 1040187392, .op (27, 0, false), .op (28, 0, false)]) .leaf))
theorem I_spec_l06Is {a0 : Value} {w : World} {K : Value → World → Prop} (h : D_spec_l06Is a0 w K) : call P f_spec_l06Is [a0] w K :=
  call_of_vc mixed Tryz.func198 (c := codeOf Tryz.f198) (by kernel_rfl) (by kernel_rfl) (p := P_spec_l06Is) (by kernel_rfl) (by rw [Tryz.ntmps198]; simp) (by
    have e : D_spec_l06Is a0 w K = vc P P_spec_l06Is (codeOf Tryz.f198) (env0 [a0]) w (retX P Tryz.f198.results.toList K) := by kernel_rfl
    exact e ▸ h)

/-- spec.l06Bounded -/
def D_spec_l06Bounded (a0 : Value) (w : World) (K : Value → World → Prop) : Prop :=
  bx P 61 a0 w fun x1_1 w2 =>
  fda P 61 x1_1 0 w2 fun x3_3 =>
  ld P 35 x3_3 w2 fun x4_4 =>
  call P f_spec_l01Finite [x4_4] w2 fun x5_5 w6 =>
  ∃ J7 : Value → World → Prop, (∀ (x9_8 : Value) (junk10 : Env) (w9 : World), J7 x9_8 w9 →
    pick x5_5 x9_8 (.bool false) fun x10_11 =>
    K x10_11 w9) ∧
    grd x5_5 true
      (fda P 61 x1_1 1 w6 fun x7_12 =>
      ld P 35 x7_12 w6 fun x8_13 =>
      call P f_spec_l01Finite [x8_13] w6 fun x9_14 w15 =>
      J7 x9_14 w15)
      (J7 undef w6)
def P_spec_l06Bounded : Plan := (.seq (.reg [.op (0, 2, false), .op (1, 0, false)]) (.seq (.reg [.op (0, 0, false), .op (1, 0, false), .op (2, 2, false), .op (3, 0, false), .grp 3 true [(4, 0, false), (5, 0, false), (6, 2, false)] [9] 896, .op (7, 0, false), .op (8, 0, false)]) .leaf))
theorem I_spec_l06Bounded {a0 : Value} {w : World} {K : Value → World → Prop} (h : D_spec_l06Bounded a0 w K) : call P f_spec_l06Bounded [a0] w K :=
  call_of_vc mixed Tryz.func199 (c := codeOf Tryz.f199) (by kernel_rfl) (by kernel_rfl) (p := P_spec_l06Bounded) (by kernel_rfl) (by rw [Tryz.ntmps199]; simp) (by
    have e : D_spec_l06Bounded a0 w K = vc P P_spec_l06Bounded (codeOf Tryz.f199) (env0 [a0]) w (retX P Tryz.f199.results.toList K) := by kernel_rfl
    exact e ▸ h)

/-- spec.HalvesOf -/
def D_spec_HalvesOf (a0 : Value) (w : World) (K : Value → World → Prop) : Prop :=
  bx P 61 a0 w fun x1_1 w2 =>
  alc P 61 w2 fun x2_3 w4 =>
  alc P 61 w4 fun x3_5 w6 =>
  ld P 61 x1_1 w6 fun x6_7 =>
  call P f_spec_l06Is [x6_7] w6 fun x7_8 w9 =>
  una P .not x7_8 w9 fun x8_10 =>
  cnd x8_10
    (bld P 61 [] w9 fun x9_11 =>
    bld P 61 [] w9 fun x10_12 =>
    sto P 61 x2_3 x9_11 w9 fun w14 =>
    sto P 61 x3_5 x10_12 w14 fun w16 =>
    ldc P 61 x2_3 w16 fun r17 =>
    ldc P 61 x3_5 w16 fun r18 =>
    K (.tuple #[r17, r18, (.int .i64 1)]) w16)
    (ld P 61 x1_1 w9 fun x11_19 =>
    call P f_spec_l06Bounded [x11_19] w9 fun x12_20 w21 =>
    una P .not x12_20 w21 fun x13_22 =>
    cnd x13_22
      (bld P 61 [] w21 fun x14_23 =>
      bld P 61 [] w21 fun x15_24 =>
      sto P 61 x2_3 x14_23 w21 fun w26 =>
      sto P 61 x3_5 x15_24 w26 fun w28 =>
      ldc P 61 x2_3 w28 fun r29 =>
      ldc P 61 x3_5 w28 fun r30 =>
      K (.tuple #[r29, r30, (.int .i64 5)]) w28)
      (ld P 61 x1_1 w21 fun x16_31 =>
      call P f_spec_l06Middle [x16_31] w21 fun x17_32 w33 =>
      fda P 61 x1_1 0 w33 fun x19_34 =>
      ld P 35 x19_34 w33 fun x20_35 =>
      bin P .eql 35 false false x17_32 x20_35 w33 fun x21_36 =>
      ∃ J37 : Value → World → Prop, (∀ (x26_38 : Value) (junk40 : Env) (w39 : World), J37 x26_38 w39 →
        pick x21_36 (.bool true) x26_38 fun x27_41 =>
        cnd x27_41
          (bld P 61 [] w39 fun x28_42 =>
          bld P 61 [] w39 fun x29_43 =>
          sto P 61 x2_3 x28_42 w39 fun w45 =>
          sto P 61 x3_5 x29_43 w45 fun w47 =>
          ldc P 61 x2_3 w47 fun r48 =>
          ldc P 61 x3_5 w47 fun r49 =>
          K (.tuple #[r48, r49, (.int .i64 5)]) w47)
          (fda P 61 x1_1 0 w39 fun x30_50 =>
          ld P 35 x30_50 w39 fun x31_51 =>
          fda P 61 x1_1 1 w39 fun x35_52 =>
          ld P 35 x35_52 w39 fun x36_53 =>
          call P f_spec_l06Make [x31_51, x17_32] w39 fun x33_54 w55 =>
          Ext w39 w55 ∧ call P f_spec_l06Make [x17_32, x36_53] w55 fun x37_56 w57 =>
          sto P 61 x2_3 x33_54 w57 fun w59 =>
          sto P 61 x3_5 x37_56 w59 fun w61 =>
          ldc P 61 x2_3 w61 fun r62 =>
          ldc P 61 x3_5 w61 fun r63 =>
          K (.tuple #[r62, r63, (.int .i64 0)]) w61)) ∧
        grd x21_36 false
          (fda P 61 x1_1 1 w33 fun x24_64 =>
          ld P 35 x24_64 w33 fun x25_65 =>
          bin P .eql 35 false false x17_32 x25_65 w33 fun x26_66 =>
          J37 x26_66 w33)
          (J37 undef w33)))
def P_spec_HalvesOf : Plan := (.seq (.reg [.op (0, 2, false), .op (1, 2, false), .op (2, 2, false), .op (3, 0, false)]) (.seq (.seq (.reg [.op (0, 0, false), .op (1, 2, false), .op (2, 0, false)]) (.cond (.seq (.reg [.op (0, 0, false), .op (1, 0, false), .op (2, 2, false), .op (3, 2, false), .op (4, 0, false)]) .leaf) .leaf)) (.seq (.seq (.reg [.op (0, 0, false), .op (1, 2, false), .op (2, 0, false)]) (.cond (.seq (.reg [.op (0, 0, false), .op (1, 0, false), .op (2, 2, false), .op (3, 2, false), .op (4, 0, false)]) .leaf) .leaf)) (.seq (.reg [.op (0, 0, false), .op (1, 2, false), .op (2, 0, false)]) (.seq (.seq (.reg [.op (0, 0, false), .op (1, 0, false), .op (2, 0, false), .op (3, 0, false), .op (4, 0, false), .grp 4 false [(5, 0, false), (6, 0, false), (7, 0, false), (8, 0, false)] [26] 125829120, .op (9, 0, false)]) (.cond (.seq (.reg [.op (0, 0, false), .op (1, 0, false), .op (2, 2, false), .op (3, 2, false), .op (4, 0, false)]) .leaf) .leaf)) (.seq (.reg [.op (0, 0, false), .op (1, 0, false), .op (2, 0, false), .op (4, 0, false), .op (5, 0, false), .op (6, 0, false), .op (3, 2, true), .op (7, 2, false), .op (8, 2, false), .op (9, 2, false), .op (10, 0, false)]) .leaf))))))
theorem I_spec_HalvesOf {a0 : Value} {w : World} {K : Value → World → Prop} (h : D_spec_HalvesOf a0 w K) : call P f_spec_HalvesOf [a0] w K :=
  call_of_vc mixed Tryz.func200 (c := codeOf Tryz.f200) (by kernel_rfl) (by kernel_rfl) (p := P_spec_HalvesOf) (by kernel_rfl) (by rw [Tryz.ntmps200]; simp) (by
    have e : D_spec_HalvesOf a0 w K = vc P P_spec_HalvesOf (codeOf Tryz.f200) (env0 [a0]) w (retX P Tryz.f200.results.toList K) := by kernel_rfl
    exact e ▸ h)

/-- spec.l06Width -/
def D_spec_l06Width (a0 : Value) (w : World) (K : Value → World → Prop) : Prop :=
  bx P 61 a0 w fun x1_1 w2 =>
  fda P 61 x1_1 0 w2 fun x3_3 =>
  ld P 35 x3_3 w2 fun x4_4 =>
  call P f_spec_l01Finite [x4_4] w2 fun x5_5 w6 =>
  una P .not x5_5 w6 fun x6_7 =>
  ∃ J8 : Value → World → Prop, (∀ (x11_9 : Value) (junk11 : Env) (w10 : World), J8 x11_9 w10 →
    pick x6_7 (.bool true) x11_9 fun x12_12 =>
    cnd x12_12
      (call P f_spec_l01Huge [] w10 fun x13_13 w14 =>
      K x13_13 w14)
      (fda P 61 x1_1 1 w10 fun x14_15 =>
      ld P 35 x14_15 w10 fun x15_16 =>
      fda P 61 x1_1 0 w10 fun x17_17 =>
      ld P 35 x17_17 w10 fun x18_18 =>
      call P f_spec_l03Of [x15_16] w10 fun x16_19 w20 =>
      Ext w10 w20 ∧ call P f_spec_l03Of [x18_18] w20 fun x19_21 w22 =>
      call P f_spec_l03Sub [x16_19, x19_21] w22 fun x20_23 w24 =>
      call P f_spec_l06Up [x20_23] w24 fun x21_25 w26 =>
      call P f_spec_l06Zero [x21_25] w26 fun x22_27 w28 =>
      K x22_27 w28)) ∧
    grd x6_7 false
      (fda P 61 x1_1 1 w6 fun x8_29 =>
      ld P 35 x8_29 w6 fun x9_30 =>
      call P f_spec_l01Finite [x9_30] w6 fun x10_31 w32 =>
      una P .not x10_31 w32 fun x11_33 =>
      J8 x11_33 w32)
      (J8 undef w6)
def P_spec_l06Width : Plan := (.seq (.reg [.op (0, 2, false), .op (1, 0, false)]) (.seq (.seq (.reg [.op (0, 0, false), .op (1, 0, false), .op (2, 2, false), .op (3, 0, false), .op (4, 0, false), .grp 4 false [(5, 0, false), (6, 0, false), (7, 2, false), (8, 0, false)] [11] 3840, .op (9, 0, false)]) (.cond (.seq (.reg [.op (0, 2, false), .op (1, 0, false)]) .leaf) .leaf)) (.seq (.reg [.op (0, 0, false), .op (1, 0, false), .op (3, 0, false), .op (4, 0, false), .op (2, 2, true), .op (5, 2, false), .op (6, 2, false), .op (7, 2, false), .op (8, 2, false), .op (9, 0, false)]) .leaf)))
theorem I_spec_l06Width {a0 : Value} {w : World} {K : Value → World → Prop} (h : D_spec_l06Width a0 w K) : call P f_spec_l06Width [a0] w K :=
  call_of_vc mixed Tryz.func201 (c := codeOf Tryz.f201) (by kernel_rfl) (by kernel_rfl) (p := P_spec_l06Width) (by kernel_rfl) (by rw [Tryz.ntmps201]; simp) (by
    have e : D_spec_l06Width a0 w K = vc P P_spec_l06Width (codeOf Tryz.f201) (env0 [a0]) w (retX P Tryz.f201.results.toList K) := by kernel_rfl
    exact e ▸ h)

/-- spec.l06Make -/
def D_spec_l06Make (a0 a1 : Value) (w : World) (K : Value → World → Prop) : Prop :=
  alc P 61 w fun x4_1 w2 =>
  call P f_spec_l06Zero [a0] w2 fun x6_3 w4 =>
  call P f_spec_l06Zero [a1] w4 fun x8_5 w6 =>
  bld P 61 [(0, x6_3), (1, x8_5)] w6 fun x9_7 =>
  sto P 61 x4_1 x9_7 w6 fun w9 =>
  ldc P 61 x4_1 w9 fun r10 =>
  K r10 w9
def P_spec_l06Make : Plan := (.seq (.reg [.op (0, 2, false)]) (.seq (.reg [.op (0, 0, false), .op (1, 2, false), .op (2, 0, false), .op (3, 2, false), .op (4, 0, false), .op (5, 2, false)]) .leaf))
theorem I_spec_l06Make {a0 a1 : Value} {w : World} {K : Value → World → Prop} (h : D_spec_l06Make a0 a1 w K) : call P f_spec_l06Make [a0, a1] w K :=
  call_of_vc mixed Tryz.func217 (c := codeOf Tryz.f217) (by kernel_rfl) (by kernel_rfl) (p := P_spec_l06Make) (by kernel_rfl) (by rw [Tryz.ntmps217]; simp) (by
    have e : D_spec_l06Make a0 a1 w K = vc P P_spec_l06Make (codeOf Tryz.f217) (env0 [a0, a1]) w (retX P Tryz.f217.results.toList K) := by kernel_rfl
    exact e ▸ h)

/-- spec.l06Plain -/
def D_spec_l06Plain (a0 : Value) (w : World) (K : Value → World → Prop) : Prop :=
  call P f_spec_l01NaN [a0] w fun x4_1 w2 =>
  una P .not x4_1 w2 fun x5_3 =>
  ∃ J4 : Value → World → Prop, (∀ (x9_5 : Value) (junk7 : Env) (w6 : World), J4 x9_5 w6 →
    ∃ J8 : Value → World → Prop, (∀ (x12_9 : Value) (junk11 : Env) (w10 : World), J8 x12_9 w10 →
    ∃ J12 : Value → World → Prop, (∀ (x13_13 : Value) (junk15 : Env) (w14 : World), J12 x13_13 w14 →
    pick x5_3 x13_13 (.bool false) fun x14_16 =>
        K x14_16 w14) ∧
    grd x5_3 true
      (pick x9_5 (.bool true) x12_9 fun x13_17 =>
          J12 x13_17 w10)
      (J12 undef w10)) ∧
    grd x9_5 false
      (call P f_spec_l01Minus [a0] w6 fun x11_18 w19 =>
        una P .not x11_18 w19 fun x12_20 =>
        J8 x12_20 w19)
      (J8 undef w6)) ∧
    grd x5_3 true
      (bin P .neq 35 false true a0 (.float .f32 0) w2 fun x8_21 =>
      J4 x8_21 w2)
      (J4 undef w2)
def P_spec_l06Plain : Plan := (.seq (.reg [.op (0, 0, false)]) (.seq (.reg [.op (0, 0, false), .op (1, 2, false), .op (2, 0, false), .op (3, 0, false), .grp 3 true [(4, 0, false), (5, 0, false), (6, 0, false)] [9] 896, .grp 6 false [(7, 0, false), (8, 2, false), (9, 0, false)] [12] 7168, .grp 3 true [(10, 0, false)] [13] 8192, .op (11, 0, false), .op (12, 0, false)]) .leaf))
theorem I_spec_l06Plain {a0 : Value} {w : World} {K : Value → World → Prop} (h : D_spec_l06Plain a0 w K) : call P f_spec_l06Plain [a0] w K :=
  call_of_vc mixed Tryz.func264 (c := codeOf Tryz.f264) (by kernel_rfl) (by kernel_rfl) (p := P_spec_l06Plain) (by kernel_rfl) (by rw [Tryz.ntmps264]; simp) (by
    have e : D_spec_l06Plain a0 w K = vc P P_spec_l06Plain (codeOf Tryz.f264) (env0 [a0]) w (retX P Tryz.f264.results.toList K) := by kernel_rfl
    exact e ▸ h)

/-- spec.l06Middle -/
def D_spec_l06Middle (a0 : Value) (w : World) (K : Value → World → Prop) : Prop :=
  bx P 61 a0 w fun x1_1 w2 =>
  ∃ J3 : Value → World → Prop, (∀ (x3_6 : Value) (junk4 : Env) (w5 : World), J3 x3_6 w5 →
    fda P 28 x3_6 1 w5 fun x13_7 =>
    ld P 2 x13_7 w5 fun x14_8 =>
    bin P .sub 2 false true x14_8 (.int .i64 1) w5 fun x15_9 =>
    fda P 28 x3_6 1 w5 fun x16_10 =>
    sto P 2 x16_10 x15_9 w5 fun w12 =>
    fda P 28 x3_6 0 w12 fun x17_13 =>
    fda P 26 x17_13 0 w12 fun x18_14 =>
    ld P 2 x18_14 w12 fun x19_15 =>
    bin P .eql 2 false true x19_15 (.int .i64 0) w12 fun x20_16 =>
    cnd x20_16
      (K (.float .f32 0) w12)
      (ld P 28 x3_6 w12 fun x22_17 =>
      call P f_spec_l03Round [x22_17, (.int .i64 0)] w12 fun x23_18 w19 =>
      xtr P x23_18 0 w19 fun x24_20 =>
      xtr P x23_18 1 w19 fun x25_21 =>
      call P f_spec_l06Zero [x24_20] w19 fun x27_22 w23 =>
      K x27_22 w23)) ∧
    (fda P 61 x1_1 0 w2 fun x6_24 =>
    ld P 35 x6_24 w2 fun x7_25 =>
    fda P 61 x1_1 1 w2 fun x9_26 =>
    ld P 35 x9_26 w2 fun x10_27 =>
    (call P f_spec_l03Of [x7_25] w2 fun x8_28 w29 =>
      Ext w2 w29 ∧ (call P f_spec_l03Of [x10_27] w29 fun x11_30 w31 =>
        (call P f_spec_l03Add [x8_28, x11_30] w31 fun x12_32 w33 =>
          alc P 28 w33 fun x3_34 w35 =>
          Ext w33 w35 ∧ sto P 28 x3_34 x12_32 w35 fun w37 =>
          J3 x3_34 w37) ∧
          (alc P 28 w31 fun x3_38 w39 =>
          Ext w31 w39 ∧ call P f_spec_l03Add [x8_28, x11_30] w39 fun x12_40 w41 =>
          sto P 28 x3_38 x12_40 w41 fun w43 =>
          J3 x3_38 w43)) ∧
        (alc P 28 w29 fun x3_44 w45 =>
        Ext w29 w45 ∧ call P f_spec_l03Of [x10_27] w45 fun x11_46 w47 =>
        call P f_spec_l03Add [x8_28, x11_46] w47 fun x12_48 w49 =>
        sto P 28 x3_44 x12_48 w49 fun w51 =>
        J3 x3_44 w51)) ∧
      (alc P 28 w2 fun x3_52 w53 =>
      Ext w2 w53 ∧ call P f_spec_l03Of [x7_25] w53 fun x8_54 w55 =>
      Ext w53 w55 ∧ call P f_spec_l03Of [x10_27] w55 fun x11_56 w57 =>
      call P f_spec_l03Add [x8_54, x11_56] w57 fun x12_58 w59 =>
      sto P 28 x3_52 x12_58 w59 fun w61 =>
      J3 x3_52 w61))
def P_spec_l06Middle : Plan := (.seq (.reg [.op (0, 2, false), .op (1, 0, false)]) (.seq (.tree [3] 8136 (.op (0, 0, false) (.op (1, 0, false) (.op (3, 0, false) (.op (4, 0, false) (.fork (2, 2, true) (.fork (5, 2, false) (.fork (6, 2, false) (.fork (7, 2, true) (.fork (8, 2, false) .done .stop) .stop) (.fork (7, 2, true) (.fork (6, 2, false) (.fork (8, 2, false) .done .stop) .stop) .stop)) (.fork (7, 2, true) (.fork (5, 2, false) (.fork (6, 2, false) (.fork (8, 2, false) .done .stop) .stop) .stop) .stop)) (.fork (7, 2, true) (.fork (2, 2, true) (.fork (5, 2, false) (.fork (6, 2, false) (.fork (8, 2, false) .done .stop) .stop) .stop) .stop) .stop))))))) (.seq (.reg [.op (0, 0, false), .op (1, 0, false), .op (2, 0, false), .op (3, 0, false), .op (4, 2, false)]) (.seq (.seq (.reg [.op (0, 0, false), .op (1, 0, false), .op (2, 0, false), .op (3, 0, false)]) (.cond (.seq (.reg [.op (0, 0, false)]) .leaf) .leaf)) (.seq (.reg [.op (0, 0, false), .op (1, 2, false), .op (2, 0, false), .op (3, 0, false), .op (4, 0, false), .op (5, 0, false), .op (6, 0, false)]) (.seq (.reg [.op (0, 0, false), .op (1, 2, false), .op (2, 0, false)]) .leaf))))))
theorem I_spec_l06Middle {a0 : Value} {w : World} {K : Value → World → Prop} (h : D_spec_l06Middle a0 w K) : call P f_spec_l06Middle [a0] w K :=
  call_of_vc mixed Tryz.func265 (c := codeOf Tryz.f265) (by kernel_rfl) (by kernel_rfl) (p := P_spec_l06Middle) (by kernel_rfl) (by rw [Tryz.ntmps265]; simp) (by
    have e : D_spec_l06Middle a0 w K = vc P P_spec_l06Middle (codeOf Tryz.f265) (env0 [a0]) w (retX P Tryz.f265.results.toList K) := by kernel_rfl
    exact e ▸ h)

/-- spec.l06Zero -/
def D_spec_l06Zero (a0 : Value) (w : World) (K : Value → World → Prop) : Prop :=
  bin P .eql 35 false true a0 (.float .f32 0) w fun x4_1 =>
  cnd x4_1
    (K (.float .f32 0) w)
    (K a0 w)
def P_spec_l06Zero : Plan := (.seq (.reg [.op (0, 0, false)]) (.seq (.seq (.reg [.op (0, 0, false), .op (1, 0, false)]) (.cond (.seq (.reg [.op (0, 0, false)]) .leaf) .leaf)) (.seq (.reg [.op (0, 0, false), .op (1, 0, false)]) .leaf)))
theorem I_spec_l06Zero {a0 : Value} {w : World} {K : Value → World → Prop} (h : D_spec_l06Zero a0 w K) : call P f_spec_l06Zero [a0] w K :=
  call_of_vc mixed Tryz.func266 (c := codeOf Tryz.f266) (by kernel_rfl) (by kernel_rfl) (p := P_spec_l06Zero) (by kernel_rfl) (by rw [Tryz.ntmps266]; simp) (by
    have e : D_spec_l06Zero a0 w K = vc P P_spec_l06Zero (codeOf Tryz.f266) (env0 [a0]) w (retX P Tryz.f266.results.toList K) := by kernel_rfl
    exact e ▸ h)

end Go.Proofs.YtabgkpfcpncmhaaGreat

/- Written by a program (gen.py): what is left to show of each function's call. -/
set_option linter.unusedVariables false
set_option maxRecDepth 20000
namespace Go.Proofs.YtabgkpfcpncmhaaGreat
open Go Go.Vc

/-- impl.areIntervals -/
def D_impl_areIntervals (a0 : Value) (w : World) (K : Value → World → Prop) : Prop :=
  bl0 P .len #[50] 3 [a0] w fun x6_1 =>
  ∃ I2 : Nat → Value → World → Prop, (∃ m20, I2 m20 (.int .i64 0) w) ∧ ∀ (m5 : Nat) (x7_6 : Value) (junk3 : Env) (w4 : World), I2 m5 x7_6 w4 →
    bin P .lss 3 false false x7_6 x6_1 w4 fun x8_7 =>
    cnd x8_7
      (ixa P 50 a0 x7_6 w4 fun x9_8 =>
      ld P 61 x9_8 w4 fun x10_9 =>
      alc P 61 w4 fun x4_10 w11 =>
      sto P 61 x4_10 x10_9 w11 fun w13 =>
      ld P 61 x4_10 w13 fun x11_14 =>
      call P f_impl_IsInterval [x11_14] w13 fun x12_15 w16 =>
      una P .not x12_15 w16 fun x13_17 =>
      cnd x13_17
        (K (.bool false) w16)
        (bin P .add 3 false true x7_6 (.int .i64 1) w16 fun x14_18 =>
        ∃ m19, m19 < m5 ∧ I2 m19 x14_18 w16))
      (K (.bool true) w4)
def P_impl_areIntervals : Plan := (.seq (.reg [.op (0, 0, false)]) (.seq (.seq (.reg [.op (0, 0, false), .op (1, 0, false), .op (2, 0, false)]) (.blk (.loop [7] 32660 (.seq (.reg [.op (0, 0, false)]) (.seq (.cond .leaf .leaf) (.seq (.blk (.seq (.reg [.op (0, 0, false), .op (1, 0, false), .op (2, 2, false), .op (3, 2, false)]) (.seq (.reg [.op (0, 0, false), .op (1, 2, false), .op (2, 0, false)]) (.cond (.seq (.reg [.op (0, 0, false)]) .leaf) .leaf)))) (.reg [.op (0, 0, false), .op (1, 0, false)]))))))) (.seq (.reg [.op (0, 0, false)]) .leaf)))
theorem I_impl_areIntervals {a0 : Value} {w : World} {K : Value → World → Prop} (h : D_impl_areIntervals a0 w K) : call P f_impl_areIntervals [a0] w K :=
  call_of_vc mixed Tryz.func202 (c := codeOf Tryz.f202) (by kernel_rfl) (by kernel_rfl) (p := P_impl_areIntervals) (by kernel_rfl) (by rw [Tryz.ntmps202]; simp) (by
    have e : D_impl_areIntervals a0 w K = vc P P_impl_areIntervals (codeOf Tryz.f202) (env0 [a0]) w (retX P Tryz.f202.results.toList K) := by kernel_rfl
    exact e ▸ h)

/-- impl.endless -/
def D_impl_endless (a0 : Value) (w : World) (K : Value → World → Prop) : Prop :=
  bx P 61 a0 w fun x1_1 w2 =>
  fda P 61 x1_1 0 w2 fun x3_3 =>
  ld P 35 x3_3 w2 fun x4_4 =>
  call P f_impl_isInf [x4_4] w2 fun x5_5 w6 =>
  ∃ J7 : Value → World → Prop, (∀ (x9_8 : Value) (junk10 : Env) (w9 : World), J7 x9_8 w9 →
    pick x5_5 (.bool true) x9_8 fun x10_11 =>
    K x10_11 w9) ∧
    grd x5_5 false
      (fda P 61 x1_1 1 w6 fun x7_12 =>
      ld P 35 x7_12 w6 fun x8_13 =>
      call P f_impl_isInf [x8_13] w6 fun x9_14 w15 =>
      J7 x9_14 w15)
      (J7 undef w6)
def P_impl_endless : Plan := (.seq (.reg [.op (0, 2, false), .op (1, 0, false)]) (.seq (.reg [.op (0, 0, false), .op (1, 0, false), .op (2, 2, false), .op (3, 0, false), .grp 3 false [(4, 0, false), (5, 0, false), (6, 2, false)] [9] 896, .op (7, 0, false), .op (8, 0, false)]) .leaf))
theorem I_impl_endless {a0 : Value} {w : World} {K : Value → World → Prop} (h : D_impl_endless a0 w K) : call P f_impl_endless [a0] w K :=
  call_of_vc mixed Tryz.func203 (c := codeOf Tryz.f203) (by kernel_rfl) (by kernel_rfl) (p := P_impl_endless) (by kernel_rfl) (by rw [Tryz.ntmps203]; simp) (by
    have e : D_impl_endless a0 w K = vc P P_impl_endless (codeOf Tryz.f203) (env0 [a0]) w (retX P Tryz.f203.results.toList K) := by kernel_rfl
    exact e ▸ h)

/-- impl.halves -/
def D_impl_halves (a0 : Value) (w : World) (K : Value → World → Prop) : Prop :=
  bx P 61 a0 w fun x1_1 w2 =>
  alc P 61 w2 fun x2_3 w4 =>
  alc P 61 w4 fun x3_5 w6 =>
  ld P 61 x1_1 w6 fun x6_7 =>
  call P f_impl_endless [x6_7] w6 fun x7_8 w9 =>
  cnd x7_8
    (bld P 61 [] w9 fun x8_10 =>
    bld P 61 [] w9 fun x9_11 =>
    sto P 61 x2_3 x8_10 w9 fun w13 =>
    sto P 61 x3_5 x9_11 w13 fun w15 =>
    ldc P 61 x2_3 w15 fun r16 =>
    ldc P 61 x3_5 w15 fun r17 =>
    K (.tuple #[r16, r17, (.bool false)]) w15)
    (ld P 61 x1_1 w9 fun x10_18 =>
    call P f_impl_middle [x10_18] w9 fun x11_19 w20 =>
    fda P 61 x1_1 0 w20 fun x13_21 =>
    ld P 35 x13_21 w20 fun x14_22 =>
    bin P .eql 35 false false x11_19 x14_22 w20 fun x15_23 =>
    ∃ J24 : Value → World → Prop, (∀ (x20_25 : Value) (junk27 : Env) (w26 : World), J24 x20_25 w26 →
      pick x15_23 (.bool true) x20_25 fun x21_28 =>
      cnd x21_28
        (bld P 61 [] w26 fun x22_29 =>
        bld P 61 [] w26 fun x23_30 =>
        sto P 61 x2_3 x22_29 w26 fun w32 =>
        sto P 61 x3_5 x23_30 w32 fun w34 =>
        ldc P 61 x2_3 w34 fun r35 =>
        ldc P 61 x3_5 w34 fun r36 =>
        K (.tuple #[r35, r36, (.bool false)]) w34)
        (fda P 61 x1_1 0 w26 fun x24_37 =>
        ld P 35 x24_37 w26 fun x25_38 =>
        bld P 61 [(0, x25_38), (1, x11_19)] w26 fun x27_39 =>
        fda P 61 x1_1 1 w26 fun x29_40 =>
        ld P 35 x29_40 w26 fun x30_41 =>
        bld P 61 [(0, x11_19), (1, x30_41)] w26 fun x31_42 =>
        sto P 61 x2_3 x27_39 w26 fun w44 =>
        (fda P 61 x1_1 1 w44 fun z => z = x29_40) ∧ (ld P 35 x29_40 w44 fun z => z = x30_41) ∧ (bld P 61 [(0, x11_19), (1, x30_41)] w44 fun z => z = x31_42) ∧ sto P 61 x3_5 x31_42 w44 fun w46 =>
        ldc P 61 x2_3 w46 fun r47 =>
        ldc P 61 x3_5 w46 fun r48 =>
        K (.tuple #[r47, r48, (.bool true)]) w46)) ∧
      grd x15_23 false
        (fda P 61 x1_1 1 w20 fun x18_49 =>
        ld P 35 x18_49 w20 fun x19_50 =>
        bin P .eql 35 false false x11_19 x19_50 w20 fun x20_51 =>
        J24 x20_51 w20)
        (J24 undef w20))
def P_impl_halves : Plan := (.seq (.reg [.op (0, 2, false), .op (1, 2, false), .op (2, 2, false), .op (3, 0, false)]) (.seq (.seq (.reg [.op (0, 0, false), .op (1, 2, false)]) (.cond (.seq (.reg [.op (0, 0, false), .op (1, 0, false), .op (2, 2, false), .op (3, 2, false), .op (4, 0, false)]) .leaf) .leaf)) (.seq (.reg [.op (0, 0, false), .op (1, 2, false), .op (2, 0, false)]) (.seq (.seq (.reg [.op (0, 0, false), .op (1, 0, false), .op (2, 0, false), .op (3, 0, false), .op (4, 0, false), .grp 4 false [(5, 0, false), (6, 0, false), (7, 0, false), (8, 0, false)] [20] 1966080, .op (9, 0, false)]) (.cond (.seq (.reg [.op (0, 0, false), .op (1, 0, false), .op (2, 2, false), .op (3, 2, false), .op (4, 0, false)]) .leaf) .leaf)) (.seq (.reg [.op (0, 0, false), .op (1, 0, false), .op (2, 0, false), .op (3, 0, false), .op (4, 0, false), .op (5, 0, false), .op (6, 0, false), .op (7, 0, false), .op (8, 226, false), .op (9, 2, false), .op (10, 0, false)]) .leaf)))))
theorem I_impl_halves {a0 : Value} {w : World} {K : Value → World → Prop} (h : D_impl_halves a0 w K) : call P f_impl_halves [a0] w K :=
  call_of_vc mixed Tryz.func204 (c := codeOf Tryz.f204) (by kernel_rfl) (by kernel_rfl) (p := P_impl_halves) (by kernel_rfl) (by rw [Tryz.ntmps204]; simp) (by
    have e : D_impl_halves a0 w K = vc P P_impl_halves (codeOf Tryz.f204) (env0 [a0]) w (retX P Tryz.f204.results.toList K) := by kernel_rfl
    exact e ▸ h)

/-- impl.width -/
def D_impl_width (a0 : Value) (w : World) (K : Value → World → Prop) : Prop :=
  bx P 61 a0 w fun x1_1 w2 =>
  ld P 61 x1_1 w2 fun x5_3 =>
  call P f_impl_endless [x5_3] w2 fun x6_4 w5 =>
  cnd x6_4
    (call P f_impl_infinite [(.int .i64 1)] w5 fun x7_6 w7 =>
    K x7_6 w7)
    (fda P 61 x1_1 1 w5 fun x9_8 =>
    ld P 35 x9_8 w5 fun x10_9 =>
    fda P 61 x1_1 0 w5 fun x11_10 =>
    ld P 35 x11_10 w5 fun x12_11 =>
    una P .neg x12_11 w5 fun x13_12 =>
    call P f_impl_addIn [x10_9, x13_12, (.int .i64 2)] w5 fun x14_13 w14 =>
    xtr P x14_13 0 w14 fun x15_15 =>
    xtr P x14_13 1 w14 fun x16_16 =>
    call P f_impl_plain [x15_15] w14 fun x18_17 w18 =>
    K x18_17 w18)
def P_impl_width : Plan := (.seq (.reg [.op (0, 2, false), .op (1, 0, false)]) (.seq (.seq (.reg [.op (0, 0, false), .op (1, 2, false)]) (.cond (.seq (.reg [.op (0, 2, false), .op (1, 0, false)]) .leaf) .leaf)) (.seq (.reg [.op (0, 0, false), .op (1, 0, false), .op (2, 0, false), .op (3, 0, false), .op (4, 0, false), .op (5, 2, false), .op (6, 0, false), .op (7, 0, false), .op (8, 0, false), .op (9, 0, false), .op (10, 0, false)]) (.seq (.reg [.op (0, 0, false), .op (1, 2, false), .op (2, 0, false)]) .leaf))))
theorem I_impl_width {a0 : Value} {w : World} {K : Value → World → Prop} (h : D_impl_width a0 w K) : call P f_impl_width [a0] w K :=
  call_of_vc mixed Tryz.func205 (c := codeOf Tryz.f205) (by kernel_rfl) (by kernel_rfl) (p := P_impl_width) (by kernel_rfl) (by rw [Tryz.ntmps205]; simp) (by
    have e : D_impl_width a0 w K = vc P P_impl_width (codeOf Tryz.f205) (env0 [a0]) w (retX P Tryz.f205.results.toList K) := by kernel_rfl
    exact e ▸ h)

/-- impl.IsInterval -/
def D_impl_IsInterval (a0 : Value) (w : World) (K : Value → World → Prop) : Prop :=
  bx P 61 a0 w fun x1_1 w2 =>
  fda P 61 x1_1 0 w2 fun x4_3 =>
  ld P 35 x4_3 w2 fun x5_4 =>
  call P f_impl_isNaN [x5_4] w2 fun x6_5 w6 =>
  ∃ J7 : Value → World → Prop, (∀ (x10_8 : Value) (junk10 : Env) (w9 : World), J7 x10_8 w9 →
    pick x6_5 (.bool true) x10_8 fun x11_11 =>
    ∃ J12 : Value → World → Prop, (∀ (x17_13 : Value) (junk15 : Env) (w14 : World), J12 x17_13 w14 →
    pick x11_11 (.bool true) x17_13 fun x18_16 =>
      cnd x18_16
        (K (.bool false) w14)
        (fda P 61 x1_1 0 w14 fun x20_17 =>
        ld P 35 x20_17 w14 fun x21_18 =>
        call P f_impl_infinite [(.int .i64 1)] w14 fun x22_19 w20 =>
        Ext w14 w20 ∧ bin P .eql 35 false false x21_18 x22_19 w20 fun x23_21 =>
        ∃ J22 : Value → World → Prop, (∀ (x28_23 : Value) (junk25 : Env) (w24 : World), J22 x28_23 w24 →
          pick x23_21 (.bool true) x28_23 fun x29_26 =>
          cnd x29_26
            (K (.bool false) w24)
            (fda P 61 x1_1 0 w24 fun x30_27 =>
            ld P 35 x30_27 w24 fun x31_28 =>
            bin P .eql 35 false true x31_28 (.float .f32 0) w24 fun x32_29 =>
            ∃ J30 : Value → World → Prop, (∀ (x36_31 : Value) (junk33 : Env) (w32 : World), J30 x36_31 w32 →
              pick x32_29 x36_31 (.bool false) fun x37_34 =>
              una P .not x37_34 w32 fun x38_35 =>
              ∃ J36 : Value → World → Prop, (∀ (x43_37 : Value) (junk39 : Env) (w38 : World), J36 x43_37 w38 →
              ∃ J40 : Value → World → Prop, (∀ (x46_41 : Value) (junk43 : Env) (w42 : World), J40 x46_41 w42 →
              ∃ J44 : Value → World → Prop, (∀ (x48_45 : Value) (junk47 : Env) (w46 : World), J44 x48_45 w46 →
              pick x38_35 x48_45 (.bool false) fun x49_48 =>
                    K x49_48 w46) ∧
              grd x38_35 true
                (pick x43_37 x46_41 (.bool false) fun x47_49 =>
                      una P .not x47_49 w42 fun x48_50 =>
                      J44 x48_50 w42)
                (J44 undef w42)) ∧
              grd x43_37 true
                (fda P 61 x1_1 1 w38 fun x44_51 =>
                    ld P 35 x44_51 w38 fun x45_52 =>
                    call P f_impl_minus [x45_52] w38 fun x46_53 w54 =>
                    J40 x46_53 w54)
                (J40 undef w38)) ∧
              grd x38_35 true
                (fda P 61 x1_1 1 w32 fun x40_55 =>
                  ld P 35 x40_55 w32 fun x41_56 =>
                  bin P .eql 35 false true x41_56 (.float .f32 0) w32 fun x42_57 =>
                  J36 x42_57 w32)
                (J36 undef w32)) ∧
              grd x32_29 true
                (fda P 61 x1_1 0 w24 fun x34_58 =>
                ld P 35 x34_58 w24 fun x35_59 =>
                call P f_impl_minus [x35_59] w24 fun x36_60 w61 =>
                J30 x36_60 w61)
                (J30 undef w24))) ∧
          grd x23_21 false
            (fda P 61 x1_1 1 w20 fun x25_62 =>
            ld P 35 x25_62 w20 fun x26_63 =>
            call P f_impl_infinite [(.int .i64 (-1))] w20 fun x27_64 w65 =>
            Ext w20 w65 ∧ bin P .eql 35 false false x26_63 x27_64 w65 fun x28_66 =>
            J22 x28_66 w65)
            (J22 undef w20))) ∧
    grd x11_11 false
      (fda P 61 x1_1 0 w9 fun x13_67 =>
        ld P 35 x13_67 w9 fun x14_68 =>
        fda P 61 x1_1 1 w9 fun x15_69 =>
        ld P 35 x15_69 w9 fun x16_70 =>
        bin P .gtr 35 false false x14_68 x16_70 w9 fun x17_71 =>
        J12 x17_71 w9)
      (J12 undef w9)) ∧
    grd x6_5 false
      (fda P 61 x1_1 1 w6 fun x8_72 =>
      ld P 35 x8_72 w6 fun x9_73 =>
      call P f_impl_isNaN [x9_73] w6 fun x10_74 w75 =>
      J7 x10_74 w75)
      (J7 undef w6)
def P_impl_IsInterval : Plan := (.seq (.reg [.op (0, 2, false), .op (1, 0, false)]) (.seq (.blk (.seq (.reg [.op (0, 0, false), .op (1, 0, false), .op (2, 2, false), .op (3, 0, false), .grp 3 false [(4, 0, false), (5, 0, false), (6, 2, false)] [10] 1792, .op (7, 0, false), .op (8, 0, false), .grp 8 false [(9, 0, false), (10, 0, false), (11, 0, false), (12, 0, false), (13, 0, false)] [17] 253952, .op (14, 0, false), .op (15, 0, false)]) (.cond (.seq (.reg [.op (0, 0, false)]) .leaf) (.seq (.reg [.op (0, 0, false), .op (1, 0, false), .op (2, 2, true), .op (3, 0, false), .op (4, 0, false), .grp 4 false [(5, 0, false), (6, 0, false), (7, 2, true), (8, 0, false)] [28] 503316480, .op (9, 0, false), .op (10, 0, false)]) (.cond (.seq (.reg [.op (0, 0, false)]) .leaf) .leaf))))) (.seq (.reg [.op (0, 0, false), .op (1, 0, false), .op (2, 0, false), .op (3, 0, false), .grp 3 true [(4, 0, false), (5, 0, false), (6, 2, false)] [36] 120259084288, .op (7, 0, false), .op (8, 0, false), .op (9, 0, false), .grp 9 true [(10, 0, false), (11, 0, false), (12, 0, false), (13, 0, false)] [43] 16492674416640, .grp 13 true [(14, 0, false), (15, 0, false), (16, 2, false)] [46] 123145302310912, .grp 9 true [(17, 0, false), (18, 0, false)] [48] 422212465065984, .op (19, 0, false), .op (20, 0, false)]) .leaf)))
theorem I_impl_IsInterval {a0 : Value} {w : World} {K : Value → World → Prop} (h : D_impl_IsInterval a0 w K) : call P f_impl_IsInterval [a0] w K :=
  call_of_vc mixed Tryz.func267 (c := codeOf Tryz.f267) (by kernel_rfl) (by kernel_rfl) (p := P_impl_IsInterval) (by kernel_rfl) (by rw [Tryz.ntmps267]; simp) (by
    have e : D_impl_IsInterval a0 w K = vc P P_impl_IsInterval (codeOf Tryz.f267) (env0 [a0]) w (retX P Tryz.f267.results.toList K) := by kernel_rfl
    exact e ▸ h)

/-- impl.isInf -/
def D_impl_isInf (a0 : Value) (w : World) (K : Value → World → Prop) : Prop :=
  rcnv P 35 39 a0 w fun x4_1 =>
  call P f_math_IsInf [x4_1, (.int .i64 0)] w fun x5_2 w3 =>
  K x5_2 w3
def P_impl_isInf : Plan := (.seq (.reg [.op (0, 0, false)]) (.seq (.reg [.op (0, 0, false), .op (1, 1, false), .op (2, 2, false), .op (3, 0, false)]) .leaf))
theorem I_impl_isInf {a0 : Value} {w : World} {K : Value → World → Prop} (h : D_impl_isInf a0 w K) : call P f_impl_isInf [a0] w K :=
  call_of_vc mixed Tryz.func268 (c := codeOf Tryz.f268) (by kernel_rfl) (by kernel_rfl) (p := P_impl_isInf) (by kernel_rfl) (by rw [Tryz.ntmps268]; simp) (by
    have e : D_impl_isInf a0 w K = vc P P_impl_isInf (codeOf Tryz.f268) (env0 [a0]) w (retX P Tryz.f268.results.toList K) := by kernel_rfl
    exact e ▸ h)

/-- impl.middle -/
def D_impl_middle (a0 : Value) (w : World) (K : Value → World → Prop) : Prop :=
  bx P 61 a0 w fun x1_1 w2 =>
  fda P 61 x1_1 0 w2 fun x6_3 =>
  ld P 35 x6_3 w2 fun x7_4 =>
  fda P 61 x1_1 1 w2 fun x9_5 =>
  ld P 35 x9_5 w2 fun x10_6 =>
  call P f_impl_numOf [x7_4] w2 fun x8_7 w8 =>
  Ext w2 w8 ∧ call P f_impl_numOf [x10_6] w8 fun x11_9 w10 =>
  call P f_impl_num_add [x8_7, x11_9] w10 fun x12_11 w12 =>
  call P f_impl_num_scale [x12_11, (.int .i64 (-1))] w12 fun x13_13 w14 =>
  call P f_impl_num_round [x13_13, (.int .i64 0)] w14 fun x14_15 w16 =>
  xtr P x14_15 0 w16 fun x15_17 =>
  xtr P x14_15 1 w16 fun x16_18 =>
  call P f_impl_plain [x15_17] w16 fun x18_19 w20 =>
  K x18_19 w20
def P_impl_middle : Plan := (.seq (.reg [.op (0, 2, false), .op (1, 0, false)]) (.seq (.reg [.op (0, 0, false), .op (1, 0, false), .op (3, 0, false), .op (4, 0, false), .op (2, 2, true), .op (5, 2, false), .op (6, 2, false), .op (7, 2, false), .op (8, 2, false), .op (9, 0, false), .op (10, 0, false), .op (11, 0, false), .op (12, 0, false), .op (13, 0, false)]) (.seq (.reg [.op (0, 0, false), .op (1, 2, false), .op (2, 0, false)]) .leaf)))
theorem I_impl_middle {a0 : Value} {w : World} {K : Value → World → Prop} (h : D_impl_middle a0 w K) : call P f_impl_middle [a0] w K :=
  call_of_vc mixed Tryz.func269 (c := codeOf Tryz.f269) (by kernel_rfl) (by kernel_rfl) (p := P_impl_middle) (by kernel_rfl) (by rw [Tryz.ntmps269]; simp) (by
    have e : D_impl_middle a0 w K = vc P P_impl_middle (codeOf Tryz.f269) (env0 [a0]) w (retX P Tryz.f269.results.toList K) := by kernel_rfl
    exact e ▸ h)

end Go.Proofs.YtabgkpfcpncmhaaGreat

/- Written by a program (gen.py): what is left to show of each function's call. -/
set_option linter.unusedVariables false
set_option maxRecDepth 20000
namespace Go.Proofs.YtabgkpfcpncmhaaGreat
open Go Go.Vc

/-- impl.HalvesOfBox -/
def D_impl_HalvesOfBox (a0 : Value) (w : World) (K : Value → World → Prop) : Prop :=
  call P f_impl_sidesCode [a0] w fun x10_1 w2 =>
  bin P .neq 2 false true x10_1 (.int .i64 0) w2 fun x12_3 =>
  cnd x12_3
    (K (.tuple #[(.slice none 0 0), (.slice none 0 0), x10_1]) w2)
    (call P f_impl_halvesOf [a0] w2 fun x16_4 w5 =>
    xtr P x16_4 0 w5 fun x17_6 =>
    xtr P x16_4 1 w5 fun x18_7 =>
    xtr P x16_4 2 w5 fun x19_8 =>
    una P .not x19_8 w5 fun x21_9 =>
    cnd x21_9
      (K (.tuple #[(.slice none 0 0), (.slice none 0 0), (.int .i64 4)]) w5)
      (K (.tuple #[x17_6, x18_7, (.int .i64 0)]) w5))
def P_impl_HalvesOfBox : Plan := (.seq (.reg [.op (0, 0, false), .op (1, 0, false), .op (2, 0, false)]) (.seq (.seq (.reg [.op (0, 0, false), .op (1, 2, false), .op (2, 0, false)]) (.seq (.reg [.op (0, 0, false), .op (1, 0, false)]) (.cond (.seq (.reg [.op (0, 0, false), .op (1, 0, false), .op (2, 0, false), .op (3, 0, false)]) .leaf) .leaf))) (.seq (.reg [.op (0, 0, false), .op (1, 2, false), .op (2, 0, false), .op (3, 0, false), .op (4, 0, false), .op (5, 0, false), .op (6, 0, false), .op (7, 0, false), .op (8, 0, false)]) (.seq (.seq (.reg [.op (0, 0, false), .op (1, 0, false)]) (.cond (.seq (.reg [.op (0, 0, false), .op (1, 0, false), .op (2, 0, false)]) .leaf) .leaf)) (.seq (.reg [.op (0, 0, false), .op (1, 0, false), .op (2, 0, false), .op (3, 0, false), .op (4, 0, false)]) .leaf)))))
theorem I_impl_HalvesOfBox {a0 : Value} {w : World} {K : Value → World → Prop} (h : D_impl_HalvesOfBox a0 w K) : call P f_impl_HalvesOfBox [a0] w K :=
  call_of_vc mixed Tryz.func35 (c := codeOf Tryz.f35) (by kernel_rfl) (by kernel_rfl) (p := P_impl_HalvesOfBox) (by kernel_rfl) (by rw [Tryz.ntmps35]; simp) (by
    have e : D_impl_HalvesOfBox a0 w K = vc P P_impl_HalvesOfBox (codeOf Tryz.f35) (env0 [a0]) w (retX P Tryz.f35.results.toList K) := by kernel_rfl
    exact e ▸ h)

/-- impl.sidesCode -/
def D_impl_sidesCode (a0 : Value) (w : World) (K : Value → World → Prop) : Prop :=
  call P f_impl_areIntervals [a0] w fun x6_1 w2 =>
  una P .not x6_1 w2 fun x7_3 =>
  cnd x7_3
    (K (.int .i64 1) w2)
    (bl0 P .len #[50] 3 [a0] w2 fun x9_4 =>
    bin P .lss 3 false true x9_4 (.int .i64 1) w2 fun x10_5 =>
    ∃ J6 : Value → World → Prop, (∀ (x14_7 : Value) (junk9 : Env) (w8 : World), J6 x14_7 w8 →
      pick x10_5 (.bool true) x14_7 fun x15_10 =>
      cnd x15_10
        (K (.int .i64 2) w8)
        (bl0 P .len #[50] 3 [a0] w8 fun x17_11 =>
        ∃ I12 : Nat → Value → World → Prop, (∃ m29, I12 m29 (.int .i64 0) w8) ∧ ∀ (m15 : Nat) (x18_16 : Value) (junk13 : Env) (w14 : World), I12 m15 x18_16 w14 →
          bin P .lss 3 false false x18_16 x17_11 w14 fun x19_17 =>
          cnd x19_17
            (ixa P 50 a0 x18_16 w14 fun x20_18 =>
            ld P 61 x20_18 w14 fun x21_19 =>
            alc P 61 w14 fun x4_20 w21 =>
            sto P 61 x4_20 x21_19 w21 fun w23 =>
            ld P 61 x4_20 w23 fun x22_24 =>
            call P f_impl_endless [x22_24] w23 fun x23_25 w26 =>
            cnd x23_25
              (K (.int .i64 2) w26)
              (bin P .add 3 false true x18_16 (.int .i64 1) w26 fun x24_27 =>
              ∃ m28, m28 < m15 ∧ I12 m28 x24_27 w26))
            (K (.int .i64 0) w14))) ∧
      grd x10_5 false
        (bl0 P .len #[50] 3 [a0] w2 fun x13_30 =>
        bin P .gtr 3 false true x13_30 (.int .i64 3) w2 fun x14_31 =>
        J6 x14_31 w2)
        (J6 undef w2))
def P_impl_sidesCode : Plan := (.seq (.reg [.op (0, 0, false)]) (.seq (.seq (.reg [.op (0, 0, false), .op (1, 2, false), .op (2, 0, false)]) (.cond (.seq (.reg [.op (0, 0, false)]) .leaf) .leaf)) (.seq (.seq (.reg [.op (0, 0, false), .op (1, 0, false), .op (2, 0, false), .op (3, 0, false), .grp 3 false [(4, 0, false), (5, 0, false), (6, 0, false)] [14] 28672, .op (7, 0, false)]) (.cond (.seq (.reg [.op (0, 0, false)]) .leaf) .leaf)) (.seq (.seq (.reg [.op (0, 0, false), .op (1, 0, false), .op (2, 0, false)]) (.blk (.loop [18] 33292308 (.seq (.reg [.op (0, 0, false)]) (.seq (.cond .leaf .leaf) (.seq (.blk (.seq (.reg [.op (0, 0, false), .op (1, 0, false), .op (2, 2, false), .op (3, 2, false)]) (.seq (.reg [.op (0, 0, false), .op (1, 2, false)]) (.cond (.seq (.reg [.op (0, 0, false)]) .leaf) .leaf)))) (.reg [.op (0, 0, false), .op (1, 0, false)]))))))) (.seq (.reg [.op (0, 0, false)]) .leaf)))))
theorem I_impl_sidesCode {a0 : Value} {w : World} {K : Value → World → Prop} (h : D_impl_sidesCode a0 w K) : call P f_impl_sidesCode [a0] w K :=
  call_of_vc mixed Tryz.func115 (c := codeOf Tryz.f115) (by kernel_rfl) (by kernel_rfl) (p := P_impl_sidesCode) (by kernel_rfl) (by rw [Tryz.ntmps115]; simp) (by
    have e : D_impl_sidesCode a0 w K = vc P P_impl_sidesCode (codeOf Tryz.f115) (env0 [a0]) w (retX P Tryz.f115.results.toList K) := by kernel_rfl
    exact e ▸ h)

/-- impl.halvesOf -/
def D_impl_halvesOf (a0 : Value) (w : World) (K : Value → World → Prop) : Prop :=
  bl0 P .len #[50] 3 [a0] w fun x14_1 =>
  ∃ I2 : Nat → Value → Value → World → Prop, (∃ m78, I2 m78 (.int .i64 (-1)) (.int .i64 0) w) ∧ ∀ (m5 : Nat) (x5_6 : Value) (x15_7 : Value) (junk3 : Env) (w4 : World), I2 m5 x5_6 x15_7 w4 →
    bin P .lss 3 false false x15_7 x14_1 w4 fun x16_8 =>
    cnd x16_8
      (ixa P 50 a0 x15_7 w4 fun x18_9 =>
      ld P 61 x18_9 w4 fun x19_10 =>
      alc P 61 w4 fun x7_11 w12 =>
      sto P 61 x7_11 x19_10 w12 fun w14 =>
      ld P 61 x7_11 w14 fun x21_15 =>
      call P f_impl_halves [x21_15] w14 fun x22_16 w17 =>
      xtr P x22_16 0 w17 fun x23_18 =>
      xtr P x22_16 1 w17 fun x24_19 =>
      xtr P x22_16 2 w17 fun x25_20 =>
      alc P 61 w17 fun x8_21 w22 =>
      alc P 61 w22 fun x9_23 w24 =>
      sto P 61 x8_21 x23_18 w24 fun w26 =>
      sto P 61 x9_23 x24_19 w26 fun w28 =>
      ∃ J29 : Value → World → Prop, (∀ (x30_30 : Value) (junk32 : Env) (w31 : World), J29 x30_30 w31 →
        ∃ J33 : Value → World → Prop, (∀ (x38_34 : Value) (junk36 : Env) (w35 : World), J33 x38_34 w35 →
        ∃ J37 : Value → World → Prop, (∀ (x39_38 : Value) (junk40 : Env) (w39 : World), J37 x39_38 w39 →
        pick x25_20 x39_38 (.bool false) fun x40_41 =>
            cnd x40_41
              (bin P .add 3 false true x15_7 (.int .i64 1) w39 fun x42_42 =>
              ∃ m43, m43 < m5 ∧ I2 m43 x15_7 x42_42 w39)
              (bin P .add 3 false true x15_7 (.int .i64 1) w39 fun x42_44 =>
              ∃ m45, m45 < m5 ∧ I2 m45 x5_6 x42_44 w39)) ∧
        grd x25_20 true
          (pick x30_30 (.bool true) x38_34 fun x39_46 =>
              J37 x39_46 w35)
          (J37 undef w35)) ∧
        grd x30_30 false
          (ld P 61 x7_11 w31 fun x31_47 =>
            ixa P 50 a0 x5_6 w31 fun x35_48 =>
            ld P 61 x35_48 w31 fun x36_49 =>
            call P f_impl_width [x31_47] w31 fun x32_50 w51 =>
            Ext w31 w51 ∧ call P f_impl_width [x36_49] w51 fun x37_52 w53 =>
            bin P .gtr 35 false false x32_50 x37_52 w53 fun x38_54 =>
            J33 x38_54 w53)
          (J33 undef w31)) ∧
        grd x25_20 true
          (bin P .lss 3 false true x5_6 (.int .i64 0) w28 fun x29_55 =>
          J29 x29_55 w28)
          (J29 undef w28))
      (bin P .lss 3 false true x5_6 (.int .i64 0) w4 fun x44_56 =>
      cnd x44_56
        (K (.tuple #[(.slice none 0 0), (.slice none 0 0), (.bool false)]) w4)
        (bsl P 50 0 [] w4 fun x45_57 w58 =>
        bl2 P .append #[50, 50] 50 [x45_57, a0] w58 fun x47_59 w60 =>
        bsl P 50 0 [] w60 fun x48_61 w62 =>
        bl2 P .append #[50, 50] 50 [x48_61, a0] w62 fun x50_63 w64 =>
        ixa P 50 a0 x5_6 w64 fun x58_65 =>
        ld P 61 x58_65 w64 fun x59_66 =>
        call P f_impl_halves [x59_66] w64 fun x60_67 w68 =>
        xtr P x60_67 0 w68 fun x61_69 =>
        xtr P x60_67 1 w68 fun x62_70 =>
        xtr P x60_67 2 w68 fun x63_71 =>
        ixa P 50 x47_59 x5_6 w68 fun x64_72 =>
        sto P 61 x64_72 x61_69 w68 fun w74 =>
        ixa P 50 x50_63 x5_6 w74 fun x65_75 =>
        sto P 61 x65_75 x62_70 w74 fun w77 =>
        K (.tuple #[x47_59, x50_63, (.bool true)]) w77))
def P_impl_halvesOf : Plan := (.seq (.reg [.op (0, 0, false), .op (1, 0, false), .op (2, 0, false)]) (.seq (.reg [.op (0, 0, false)]) (.seq (.seq (.reg [.op (0, 0, false), .op (1, 0, false), .op (2, 0, false)]) (.blk (.loop [5, 15] 8796092991456 (.seq (.reg [.op (0, 0, false)]) (.seq (.cond .leaf .leaf) (.seq (.blk (.seq (.reg [.op (0, 0, false), .op (1, 0, false), .op (2, 0, false), .op (3, 2, false), .op (4, 0, false), .op (5, 2, false)]) (.seq (.reg [.op (0, 0, false), .op (1, 2, false), .op (2, 0, false), .op (3, 0, false), .op (4, 0, false), .op (5, 0, false), .op (6, 2, false), .op (7, 2, false), .op (8, 2, false), .op (9, 2, false), .op (10, 0, false)]) (.seq (.reg [.op (0, 0, false), .op (1, 0, false), .grp 1 true [(2, 0, false), (3, 0, false), (4, 0, false)] [30] 1879048192, .grp 4 false [(5, 0, false), (7, 0, false), (8, 0, false), (9, 0, false), (10, 0, false), (6, 2, true), (11, 2, false), (12, 0, false)] [38] 547608330240, .grp 1 true [(13, 0, false)] [39] 549755813888, .op (14, 0, false)]) (.cond (.reg [.op (0, 0, false), .op (1, 0, false)]) .leaf))))) (.reg [.op (0, 0, false), .op (1, 0, false)]))))))) (.seq (.seq (.reg [.op (0, 0, false), .op (1, 0, false)]) (.cond (.seq (.reg [.op (0, 0, false), .op (1, 0, false), .op (2, 0, false)]) .leaf) .leaf)) (.seq (.reg [.op (0, 2, false), .op (1, 0, false), .op (2, 2, false), .op (3, 2, false), .op (4, 0, false), .op (5, 2, false), .op (6, 0, false), .op (7, 0, false)]) (.seq (.reg [.op (0, 0, false), .op (1, 0, false), .op (2, 0, false), .op (3, 0, false), .op (4, 0, false), .op (5, 0, false), .op (6, 0, false), .op (7, 0, false), .op (8, 2, false), .op (9, 0, false), .op (10, 0, false), .op (11, 0, false), .op (12, 0, false), .op (13, 0, false), .op (14, 2, false), .op (15, 0, false), .op (16, 2, false)]) (.seq (.reg [.op (0, 0, false), .op (1, 0, false), .op (2, 0, false), .op (3, 0, false), .op (4, 0, false)]) .leaf)))))))
theorem I_impl_halvesOf {a0 : Value} {w : World} {K : Value → World → Prop} (h : D_impl_halvesOf a0 w K) : call P f_impl_halvesOf [a0] w K :=
  call_of_vc mixed Tryz.func116 (c := codeOf Tryz.f116) (by kernel_rfl) (by kernel_rfl) (p := P_impl_halvesOf) (by kernel_rfl) (by rw [Tryz.ntmps116]; simp) (by
    have e : D_impl_halvesOf a0 w K = vc P P_impl_halvesOf (codeOf Tryz.f116) (env0 [a0]) w (retX P Tryz.f116.results.toList K) := by kernel_rfl
    exact e ▸ h)

end Go.Proofs.YtabgkpfcpncmhaaGreat

/- Written by a program (gen.py): what is left to show of each function's call. -/
set_option linter.unusedVariables false
set_option maxRecDepth 20000
namespace Go.Proofs.YtabgkpfcpncmhaaGreat
open Go Go.Vc

/-- spec.HalvesOfBox -/
def D_spec_HalvesOfBox (a0 : Value) (w : World) (K : Value → World → Prop) : Prop :=
  call P f_spec_l11Box [a0] w fun x10_1 w2 =>
  bin P .neq 2 false true x10_1 (.int .i64 0) w2 fun x12_3 =>
  cnd x12_3
    (K (.tuple #[(.slice none 0 0), (.slice none 0 0), x10_1]) w2)
    (call P f_spec_l11Side [a0] w2 fun x15_4 w5 =>
    bin P .lss 3 false true x15_4 (.int .i64 0) w5 fun x17_6 =>
    cnd x17_6
      (K (.tuple #[(.slice none 0 0), (.slice none 0 0), (.int .i64 4)]) w5)
      (call P f_spec_l11Halves [a0, x15_4] w5 fun x21_7 w8 =>
      xtr P x21_7 0 w8 fun x22_9 =>
      xtr P x21_7 1 w8 fun x23_10 =>
      K (.tuple #[x22_9, x23_10, (.int .i64 0)]) w8))
def P_spec_HalvesOfBox : Plan := (.seq (.reg [.op (0, 0, false), .op (1, 0, false), .op (2, 0, false)]) (.seq (.seq (.reg [.op (0, 0, false), .op (1, 2, false), .op (2, 0, false)]) (.seq (.reg [.op (0, 0, false), .op (1, 0, false)]) (.cond (.seq (.reg [.op (0, 0, false), .op (1, 0, false), .op (2, 0, false), .op (3, 0, false)]) .leaf) .leaf))) (.seq (.reg [.op (0, 0, false), .op (1, 2, false), .op (2, 0, false)]) (.seq (.seq (.reg [.op (0, 0, false), .op (1, 0, false)]) (.cond (.seq (.reg [.op (0, 0, false), .op (1, 0, false), .op (2, 0, false)]) .leaf) .leaf)) (.seq (.reg [.op (0, 0, false), .op (1, 0, false), .op (2, 2, false), .op (3, 0, false), .op (4, 0, false), .op (5, 0, false), .op (6, 0, false), .op (7, 0, false)]) (.seq (.reg [.op (0, 0, false), .op (1, 0, false), .op (2, 0, false), .op (3, 0, false), .op (4, 0, false)]) .leaf))))))
theorem I_spec_HalvesOfBox {a0 : Value} {w : World} {K : Value → World → Prop} (h : D_spec_HalvesOfBox a0 w K) : call P f_spec_HalvesOfBox [a0] w K :=
  call_of_vc mixed Tryz.func33 (c := codeOf Tryz.f33) (by kernel_rfl) (by kernel_rfl) (p := P_spec_HalvesOfBox) (by kernel_rfl) (by rw [Tryz.ntmps33]; simp) (by
    have e : D_spec_HalvesOfBox a0 w K = vc P P_spec_HalvesOfBox (codeOf Tryz.f33) (env0 [a0]) w (retX P Tryz.f33.results.toList K) := by kernel_rfl
    exact e ▸ h)

/-- spec.l11Box -/
def D_spec_l11Box (a0 : Value) (w : World) (K : Value → World → Prop) : Prop :=
  ∃ I1 : Nat → Value → World → Prop, (∃ m39, I1 m39 (.int .i64 0) w) ∧ ∀ (m4 : Nat) (x3_5 : Value) (junk2 : Env) (w3 : World), I1 m4 x3_5 w3 →
    bl0 P .len #[50] 3 [a0] w3 fun x7_6 =>
    bin P .lss 3 false false x3_5 x7_6 w3 fun x8_7 =>
    cnd x8_7
      (ixa P 50 a0 x3_5 w3 fun x13_8 =>
      ld P 61 x13_8 w3 fun x14_9 =>
      call P f_spec_l06Is [x14_9] w3 fun x15_10 w11 =>
      una P .not x15_10 w11 fun x16_12 =>
      cnd x16_12
        (K (.int .i64 1) w11)
        (bin P .add 3 false true x3_5 (.int .i64 1) w11 fun x10_13 =>
        ∃ m14, m14 < m4 ∧ I1 m14 x10_13 w11))
      (∃ I15 : Nat → Value → World → Prop, (∃ m38, I15 m38 (.int .i64 0) w3) ∧ ∀ (m18 : Nat) (x4_19 : Value) (junk16 : Env) (w17 : World), I15 m18 x4_19 w17 →
        bl0 P .len #[50] 3 [a0] w17 fun x19_20 =>
        bin P .lss 3 false false x4_19 x19_20 w17 fun x20_21 =>
        cnd x20_21
          (ixa P 50 a0 x4_19 w17 fun x25_22 =>
          ld P 61 x25_22 w17 fun x26_23 =>
          call P f_spec_l06Bounded [x26_23] w17 fun x27_24 w25 =>
          una P .not x27_24 w25 fun x28_26 =>
          cnd x28_26
            (K (.int .i64 2) w25)
            (bin P .add 3 false true x4_19 (.int .i64 1) w25 fun x22_27 =>
            ∃ m28, m28 < m18 ∧ I15 m28 x22_27 w25))
          (bl0 P .len #[50] 3 [a0] w17 fun x30_29 =>
          bin P .lss 3 false true x30_29 (.int .i64 1) w17 fun x31_30 =>
          ∃ J31 : Value → World → Prop, (∀ (x35_32 : Value) (junk34 : Env) (w33 : World), J31 x35_32 w33 →
            pick x31_30 (.bool true) x35_32 fun x36_35 =>
            cnd x36_35
              (K (.int .i64 2) w33)
              (K (.int .i64 0) w33)) ∧
            grd x31_30 false
              (bl0 P .len #[50] 3 [a0] w17 fun x34_36 =>
              bin P .gtr 3 false true x34_36 (.int .i64 3) w17 fun x35_37 =>
              J31 x35_37 w17)
              (J31 undef w17)))
def P_spec_l11Box : Plan := (.seq (.reg [.op (0, 0, false)]) (.seq (.seq (.reg [.op (0, 0, false)]) (.blk (.loop [3] 131052 (.seq (.seq (.reg [.op (0, 0, false), .op (1, 0, false), .op (2, 0, false), .op (3, 0, false)]) (.cond .leaf .leaf)) (.seq (.blk (.seq (.reg [.op (0, 0, false), .op (1, 0, false), .op (2, 0, false), .op (3, 0, false), .op (4, 2, false), .op (5, 0, false)]) (.cond (.seq (.reg [.op (0, 0, false)]) .leaf) .leaf))) (.reg [.op (0, 0, false), .op (1, 0, false), .op (2, 0, false)])))))) (.seq (.seq (.reg [.op (0, 0, false)]) (.blk (.loop [4] 536739860 (.seq (.seq (.reg [.op (0, 0, false), .op (1, 0, false), .op (2, 0, false), .op (3, 0, false)]) (.cond .leaf .leaf)) (.seq (.blk (.seq (.reg [.op (0, 0, false), .op (1, 0, false), .op (2, 0, false), .op (3, 0, false), .op (4, 2, false), .op (5, 0, false)]) (.cond (.seq (.reg [.op (0, 0, false)]) .leaf) .leaf))) (.reg [.op (0, 0, false), .op (1, 0, false), .op (2, 0, false)])))))) (.seq (.seq (.reg [.op (0, 0, false), .op (1, 0, false), .op (2, 0, false), .op (3, 0, false), .grp 3 false [(4, 0, false), (5, 0, false), (6, 0, false)] [35] 60129542144, .op (7, 0, false)]) (.cond (.seq (.reg [.op (0, 0, false)]) .leaf) .leaf)) (.seq (.reg [.op (0, 0, false)]) .leaf)))))
theorem I_spec_l11Box {a0 : Value} {w : World} {K : Value → World → Prop} (h : D_spec_l11Box a0 w K) : call P f_spec_l11Box [a0] w K :=
  call_of_vc mixed Tryz.func111 (c := codeOf Tryz.f111) (by kernel_rfl) (by kernel_rfl) (p := P_spec_l11Box) (by kernel_rfl) (by rw [Tryz.ntmps111]; simp) (by
    have e : D_spec_l11Box a0 w K = vc P P_spec_l11Box (codeOf Tryz.f111) (env0 [a0]) w (retX P Tryz.f111.results.toList K) := by kernel_rfl
    exact e ▸ h)

/-- spec.l11Side -/
def D_spec_l11Side (a0 : Value) (w : World) (K : Value → World → Prop) : Prop :=
  ∃ I1 : Nat → Value → Value → World → Prop, (∃ m53, I1 m53 (.int .i64 (-1)) (.int .i64 0) w) ∧ ∀ (m4 : Nat) (x3_5 : Value) (x4_6 : Value) (junk2 : Env) (w3 : World), I1 m4 x3_5 x4_6 w3 →
    bl0 P .len #[50] 3 [a0] w3 fun x10_7 =>
    bin P .lss 3 false false x4_6 x10_7 w3 fun x11_8 =>
    cnd x11_8
      (ixa P 50 a0 x4_6 w3 fun x17_9 =>
      ld P 61 x17_9 w3 fun x18_10 =>
      call P f_spec_HalvesOf [x18_10] w3 fun x19_11 w12 =>
      xtr P x19_11 0 w12 fun x20_13 =>
      xtr P x19_11 1 w12 fun x21_14 =>
      xtr P x19_11 2 w12 fun x22_15 =>
      alc P 61 w12 fun x5_16 w17 =>
      alc P 61 w17 fun x6_18 w19 =>
      sto P 61 x5_16 x20_13 w19 fun w21 =>
      sto P 61 x6_18 x21_14 w21 fun w23 =>
      bin P .eql 2 false true x22_15 (.int .i64 0) w23 fun x24_24 =>
      ∃ J25 : Value → World → Prop, (∀ (x28_26 : Value) (junk28 : Env) (w27 : World), J25 x28_26 w27 →
        ∃ J29 : Value → World → Prop, (∀ (x39_30 : Value) (junk32 : Env) (w31 : World), J29 x39_30 w31 →
        ∃ J33 : Value → World → Prop, (∀ (x40_34 : Value) (junk36 : Env) (w35 : World), J33 x40_34 w35 →
        pick x24_24 x40_34 (.bool false) fun x41_37 =>
            cnd x41_37
              (bin P .add 3 false true x4_6 (.int .i64 1) w35 fun x13_38 =>
              ∃ m39, m39 < m4 ∧ I1 m39 x4_6 x13_38 w35)
              (bin P .add 3 false true x4_6 (.int .i64 1) w35 fun x13_40 =>
              ∃ m41, m41 < m4 ∧ I1 m41 x3_5 x13_40 w35)) ∧
        grd x24_24 true
          (pick x28_26 (.bool true) x39_30 fun x40_42 =>
              J33 x40_42 w31)
          (J33 undef w31)) ∧
        grd x28_26 false
          (ixa P 50 a0 x4_6 w27 fun x31_43 =>
            ld P 61 x31_43 w27 fun x32_44 =>
            ixa P 50 a0 x3_5 w27 fun x36_45 =>
            ld P 61 x36_45 w27 fun x37_46 =>
            call P f_spec_l06Width [x32_44] w27 fun x33_47 w48 =>
            Ext w27 w48 ∧ call P f_spec_l06Width [x37_46] w48 fun x38_49 w50 =>
            bin P .gtr 35 false false x33_47 x38_49 w50 fun x39_51 =>
            J29 x39_51 w50)
          (J29 undef w27)) ∧
        grd x24_24 true
          (bin P .lss 3 false true x3_5 (.int .i64 0) w23 fun x27_52 =>
          J25 x27_52 w23)
          (J25 undef w23))
      (K x3_5 w3)
def P_spec_l11Side : Plan := (.seq (.reg [.op (0, 0, false)]) (.seq (.reg [.op (0, 0, false)]) (.seq (.seq (.reg [.op (0, 0, false)]) (.blk (.loop [3, 4] 8796093022200 (.seq (.seq (.reg [.op (0, 0, false), .op (1, 0, false), .op (2, 0, false), .op (3, 0, false)]) (.cond .leaf .leaf)) (.seq (.blk (.seq (.reg [.op (0, 0, false), .op (1, 0, false), .op (2, 0, false), .op (3, 0, false), .op (4, 2, false), .op (5, 0, false), .op (6, 0, false), .op (7, 0, false), .op (8, 0, false), .op (9, 2, false), .op (10, 2, false), .op (11, 2, false), .op (12, 2, false), .op (13, 0, false)]) (.seq (.reg [.op (0, 0, false), .op (1, 0, false), .op (2, 0, false), .grp 2 true [(3, 0, false), (4, 0, false), (5, 0, false)] [28] 469762048, .grp 5 false [(6, 0, false), (7, 0, false), (8, 0, false), (9, 0, false), (11, 0, false), (12, 0, false), (13, 0, false), (14, 0, false), (10, 2, true), (15, 2, false), (16, 0, false)] [39] 1098974756864, .grp 2 true [(17, 0, false)] [40] 1099511627776, .op (18, 0, false)]) (.cond (.reg [.op (0, 0, false), .op (1, 0, false)]) .leaf)))) (.reg [.op (0, 0, false), .op (1, 0, false), .op (2, 0, false)])))))) (.seq (.reg [.op (0, 0, false), .op (1, 0, false)]) .leaf))))
theorem I_spec_l11Side {a0 : Value} {w : World} {K : Value → World → Prop} (h : D_spec_l11Side a0 w K) : call P f_spec_l11Side [a0] w K :=
  call_of_vc mixed Tryz.func112 (c := codeOf Tryz.f112) (by kernel_rfl) (by kernel_rfl) (p := P_spec_l11Side) (by kernel_rfl) (by rw [Tryz.ntmps112]; simp) (by
    have e : D_spec_l11Side a0 w K = vc P P_spec_l11Side (codeOf Tryz.f112) (env0 [a0]) w (retX P Tryz.f112.results.toList K) := by kernel_rfl
    exact e ▸ h)

/-- spec.l11Halves -/
def D_spec_l11Halves (a0 a1 : Value) (w : World) (K : Value → World → Prop) : Prop :=
  ixa P 50 a0 a1 w fun x14_1 =>
  ld P 61 x14_1 w fun x15_2 =>
  call P f_spec_HalvesOf [x15_2] w fun x16_3 w4 =>
  xtr P x16_3 0 w4 fun x17_5 =>
  xtr P x16_3 1 w4 fun x18_6 =>
  xtr P x16_3 2 w4 fun x19_7 =>
  alc P 61 w4 fun x6_8 w9 =>
  alc P 61 w9 fun x7_10 w11 =>
  sto P 61 x6_8 x17_5 w11 fun w13 =>
  sto P 61 x7_10 x18_6 w13 fun w15 =>
  bsl P 50 0 [] w15 fun x20_16 w17 =>
  bl2 P .append #[50, 50] 50 [x20_16, a0] w17 fun x22_18 w19 =>
  bsl P 50 0 [] w19 fun x23_20 w21 =>
  bl2 P .append #[50, 50] 50 [x23_20, a0] w21 fun x25_22 w23 =>
  ld P 61 x6_8 w23 fun x28_24 =>
  ixa P 50 x22_18 a1 w23 fun x29_25 =>
  sto P 61 x29_25 x28_24 w23 fun w27 =>
  ld P 61 x7_10 w27 fun x32_28 =>
  ixa P 50 x25_22 a1 w27 fun x33_29 =>
  sto P 61 x33_29 x32_28 w27 fun w31 =>
  K (.tuple #[x22_18, x25_22]) w31
def P_spec_l11Halves : Plan := (.seq (.reg [.op (0, 0, false), .op (1, 0, false)]) (.seq (.reg [.op (0, 0, false), .op (1, 0, false), .op (2, 0, false), .op (3, 0, false), .op (4, 2, false), .op (5, 0, false), .op (6, 0, false), .op (7, 0, false), .op (8, 0, false), .op (9, 2, false), .op (10, 2, false), .op (11, 2, false), .op (12, 2, false), .op (13, 0, false)]) (.seq (.reg [.op (0, 2, false), .op (1, 0, false), .op (2, 2, false), .op (3, 2, false), .op (4, 0, false), .op (5, 2, false), .op (6, 0, false), .op (7, 0, false)]) (.seq (.reg [.op (0, 0, false), .op (1, 0, false), .op (2, 0, false), .op (3, 0, false), .op (4, 2, false)]) (.seq (.reg [.op (0, 0, false), .op (1, 0, false), .op (2, 0, false), .op (3, 0, false), .op (4, 2, false)]) (.seq (.reg [.op (0, 0, false), .op (1, 0, false), .op (2, 0, false), .op (3, 0, false)]) .leaf))))))
theorem I_spec_l11Halves {a0 a1 : Value} {w : World} {K : Value → World → Prop} (h : D_spec_l11Halves a0 a1 w K) : call P f_spec_l11Halves [a0, a1] w K :=
  call_of_vc mixed Tryz.func113 (c := codeOf Tryz.f113) (by kernel_rfl) (by kernel_rfl) (p := P_spec_l11Halves) (by kernel_rfl) (by rw [Tryz.ntmps113]; simp) (by
    have e : D_spec_l11Halves a0 a1 w K = vc P P_spec_l11Halves (codeOf Tryz.f113) (env0 [a0, a1]) w (retX P Tryz.f113.results.toList K) := by kernel_rfl
    exact e ▸ h)

end Go.Proofs.YtabgkpfcpncmhaaGreat

/- Written by a program (gen.py): what is left to show of each function's call. -/
set_option linter.unusedVariables false
set_option maxRecDepth 20000
namespace Go.Proofs.YtabgkpfcpncmhaaGreat
open Go Go.Vc

end Go.Proofs.YtabgkpfcpncmhaaGreat

/- Written by a program (gen.py): what is left to show of each function's call. -/
set_option linter.unusedVariables false
set_option maxRecDepth 20000
namespace Go.Proofs.YtabgkpfcpncmhaaGreat
open Go Go.Vc

/-- laws.FnExactHalvesOfBox -/
def D_laws_FnExactHalvesOfBox (a0 : Value) (w : World) (K : Value → World → Prop) : Prop :=
  call P f_laws_szIntervalS [a0, (.int .i64 1048576)] w fun x19_1 w2 =>
  bin P .lss 3 false true x19_1 (.int .i64 0) w2 fun x21_3 =>
  cnd x21_3
    (K (.bool true) w2)
    (call P f_laws_toIntervalS [a0] w2 fun x24_4 w5 =>
    call P f_spec_HalvesOfBox [x24_4] w5 fun x25_6 w7 =>
    xtr P x25_6 0 w7 fun x26_8 =>
    xtr P x25_6 1 w7 fun x27_9 =>
    xtr P x25_6 2 w7 fun x28_10 =>
    call P f_laws_toIntervalS [a0] w7 fun x30_11 w12 =>
    call P f_impl_HalvesOfBox [x30_11] w12 fun x33_13 w14 =>
    xtr P x33_13 0 w14 fun x34_15 =>
    xtr P x33_13 1 w14 fun x35_16 =>
    xtr P x33_13 2 w14 fun x36_17 =>
    call P f_laws_eqIntervalS [x34_15, x26_8] w14 fun x39_18 w19 =>
    una P .not x39_18 w19 fun x40_20 =>
    ∃ J21 : Value → World → Prop, (∀ (x45_22 : Value) (junk24 : Env) (w23 : World), J21 x45_22 w23 →
      pick x40_20 (.bool true) x45_22 fun x46_25 =>
      ∃ J26 : Value → World → Prop, (∀ (x50_27 : Value) (junk29 : Env) (w28 : World), J26 x50_27 w28 →
      pick x46_25 (.bool true) x50_27 fun x51_30 =>
        cnd x51_30
          (K (.bool false) w28)
          (call P f_laws_toIntervalS [a0] w28 fun x54_31 w32 =>
          call P f_laws_eqIntervalS [x30_11, x54_31] w32 fun x55_33 w34 =>
          una P .not x55_33 w34 fun x56_35 =>
          cnd x56_35
            (K (.bool false) w34)
            (call P f_laws_markIntervalS [x30_11, (.int .i64 1)] w34 fun x59_36 w37 =>
            bin P .lss 3 false true x59_36 (.int .i64 0) w37 fun x61_38 =>
            ∃ J39 : Value → World → Prop, (∀ (x66_40 : Value) (junk42 : Env) (w41 : World), J39 x66_40 w41 →
              pick x61_38 (.bool true) x66_40 fun x67_43 =>
              ∃ J44 : Value → World → Prop, (∀ (x72_45 : Value) (junk47 : Env) (w46 : World), J44 x72_45 w46 →
              pick x67_43 (.bool true) x72_45 fun x73_48 =>
                ∃ J49 : Value → World → Prop, (∀ (x77_50 : Value) (junk52 : Env) (w51 : World), J49 x77_50 w51 →
              pick x73_48 (.bool true) x77_50 fun x78_53 =>
                  cnd x78_53
                    (K (.bool false) w51)
                    (call P f_laws_markIntervalS [x34_15, (.int .i64 1)] w51 fun x81_54 w55 =>
                    call P f_laws_markIntervalS [x35_16, x81_54] w55 fun x84_56 w57 =>
                    call P f_laws_heldIntervalS [x34_15, (.int .i64 1)] w57 fun x87_58 w59 =>
                    bin P .lss 3 false true x87_58 (.int .i64 0) w59 fun x89_60 =>
                    cnd x89_60
                      (K (.bool false) w59)
                      (call P f_laws_heldIntervalS [x35_16, x87_58] w59 fun x92_61 w62 =>
                      bin P .lss 3 false true x92_61 (.int .i64 0) w62 fun x94_63 =>
                      cnd x94_63
                        (K (.bool false) w62)
                        (bin P .neq 3 false false x92_61 x84_56 w62 fun x97_64 =>
                        cnd x97_64
                          (K (.bool false) w62)
                          (call P f_laws_toIntervalS [a0] w62 fun x100_65 w66 =>
                          call P f_impl_HalvesOfBox [x100_65] w66 fun x101_67 w68 =>
                          xtr P x101_67 0 w68 fun x102_69 =>
                          xtr P x101_67 1 w68 fun x103_70 =>
                          xtr P x101_67 2 w68 fun x104_71 =>
                          call P f_laws_eqIntervalS [x102_69, x26_8] w68 fun x107_72 w73 =>
                          una P .not x107_72 w73 fun x108_74 =>
                          ∃ J75 : Value → World → Prop, (∀ (x113_76 : Value) (junk78 : Env) (w77 : World), J75 x113_76 w77 →
                            pick x108_74 (.bool true) x113_76 fun x114_79 =>
                            ∃ J80 : Value → World → Prop, (∀ (x118_81 : Value) (junk83 : Env) (w82 : World), J80 x118_81 w82 →
                            pick x114_79 (.bool true) x118_81 fun x119_84 =>
                              cnd x119_84
                                (K (.bool false) w82)
                                (call P f_laws_heldIntervalS [x34_15, (.int .i64 1)] w82 fun x122_85 w86 =>
                                bin P .lss 3 false true x122_85 (.int .i64 0) w86 fun x124_87 =>
                                cnd x124_87
                                  (K (.bool false) w86)
                                  (call P f_laws_heldIntervalS [x35_16, x122_85] w86 fun x127_88 w89 =>
                                  bin P .lss 3 false true x127_88 (.int .i64 0) w89 fun x129_90 =>
                                  cnd x129_90
                                    (K (.bool false) w89)
                                    (bin P .neq 3 false false x127_88 x84_56 w89 fun x132_91 =>
                                    cnd x132_91
                                      (K (.bool false) w89)
                                      (K (.bool true) w89))))) ∧
                            grd x114_79 false
                              (bin P .neq 2 false false x104_71 x28_10 w77 fun x118_92 =>
                                J80 x118_92 w77)
                              (J80 undef w77)) ∧
                            grd x108_74 false
                              (call P f_laws_eqIntervalS [x103_70, x27_9] w73 fun x112_93 w94 =>
                              una P .not x112_93 w94 fun x113_95 =>
                              J75 x113_95 w94)
                              (J75 undef w73)))))) ∧
              grd x73_48 false
                (bin P .neq 2 false false x36_17 x28_10 w46 fun x77_96 =>
                    J49 x77_96 w46)
                (J49 undef w46)) ∧
              grd x67_43 false
                (call P f_laws_eqIntervalS [x35_16, x27_9] w41 fun x71_97 w98 =>
                  una P .not x71_97 w98 fun x72_99 =>
                  J44 x72_99 w98)
                (J44 undef w41)) ∧
              grd x61_38 false
                (call P f_laws_eqIntervalS [x34_15, x26_8] w37 fun x65_100 w101 =>
                una P .not x65_100 w101 fun x66_102 =>
                J39 x66_102 w101)
                (J39 undef w37)))) ∧
      grd x46_25 false
        (bin P .neq 2 false false x36_17 x28_10 w23 fun x50_103 =>
          J26 x50_103 w23)
        (J26 undef w23)) ∧
      grd x40_20 false
        (call P f_laws_eqIntervalS [x35_16, x27_9] w19 fun x44_104 w105 =>
        una P .not x44_104 w105 fun x45_106 =>
        J21 x45_106 w105)
        (J21 undef w19))
def P_laws_FnExactHalvesOfBox : Plan := (.seq (.reg [.op (0, 0, false)]) (.seq (.reg [.op (0, 0, false)]) (.seq (.reg [.op (0, 0, false), .op (1, 0, false), .op (2, 2, false), .op (3, 0, false)]) (.seq (.seq (.reg [.op (0, 0, false), .op (1, 0, false)]) (.cond (.seq (.reg [.op (0, 0, false)]) .leaf) .leaf)) (.seq (.reg [.op (0, 0, false), .op (1, 2, false), .op (2, 2, false), .op (3, 0, false), .op (4, 0, false), .op (5, 0, false), .op (6, 0, false), .op (7, 0, false), .op (8, 0, false), .op (9, 0, false)]) (.seq (.reg [.op (0, 0, false), .op (1, 2, false), .op (2, 0, false)]) (.seq (.reg [.op (0, 0, false), .op (1, 2, false), .op (2, 0, false), .op (3, 0, false), .op (4, 0, false), .op (5, 0, false), .op (6, 0, false), .op (7, 0, false), .op (8, 0, false)]) (.seq (.seq (.reg [.op (0, 0, false), .op (1, 0, false), .op (2, 2, false), .op (3, 0, false), .op (4, 0, false), .grp 4 false [(5, 0, false), (6, 0, false), (7, 2, false), (8, 0, false)] [45] 65970697666560, .op (9, 0, false), .op (10, 0, false), .grp 10 false [(11, 0, false), (12, 0, false), (13, 0, false)] [50] 1970324836974592, .op (14, 0, false)]) (.cond (.seq (.reg [.op (0, 0, false)]) .leaf) .leaf)) (.seq (.seq (.reg [.op (0, 0, false), .op (1, 0, false), .op (2, 2, false), .op (3, 2, false), .op (4, 0, false)]) (.cond (.seq (.reg [.op (0, 0, false)]) .leaf) .leaf)) (.seq (.reg [.op (0, 0, false)]) (.seq (.reg [.op (0, 0, false), .op (1, 0, false), .op (2, 2, false), .op (3, 0, false)]) (.seq (.seq (.reg [.op (0, 0, false), .op (1, 0, false), .op (2, 0, false), .grp 2 false [(3, 0, false), (4, 0, false), (5, 2, false), (6, 0, false)] [66] 138350580552821637120, .op (7, 0, false), .op (8, 0, false), .grp 8 false [(9, 0, false), (10, 0, false), (11, 2, false), (12, 0, false)] [72] 8854437155380584775680, .op (13, 0, false), .op (14, 0, false), .grp 14 false [(15, 0, false), (16, 0, false), (17, 0, false)] [77] 264452523040700131966976, .op (18, 0, false)]) (.cond (.seq (.reg [.op (0, 0, false)]) .leaf) .leaf)) (.seq (.reg [.op (0, 0, false)]) (.seq (.reg [.op (0, 0, false), .op (1, 0, false), .op (2, 2, false), .op (3, 0, false)]) (.seq (.reg [.op (0, 0, false), .op (1, 0, false), .op (2, 2, false), .op (3, 0, false)]) (.seq (.reg [.op (0, 0, false)]) (.seq (.reg [.op (0, 0, false), .op (1, 0, false), .op (2, 2, false), .op (3, 0, false)]) (.seq (.seq (.reg [.op (0, 0, false), .op (1, 0, false)]) (.cond (.seq (.reg [.op (0, 0, false)]) .leaf) .leaf)) (.seq (.reg [.op (0, 0, false), .op (1, 0, false), .op (2, 2, false), .op (3, 0, false)]) (.seq (.seq (.reg [.op (0, 0, false), .op (1, 0, false)]) (.cond (.seq (.reg [.op (0, 0, false)]) .leaf) .leaf)) (.seq (.seq (.reg [.op (0, 0, false), .op (1, 0, false), .op (2, 0, false)]) (.cond (.seq (.reg [.op (0, 0, false)]) .leaf) .leaf)) (.seq (.reg [.op (0, 0, false), .op (1, 2, false), .op (2, 2, false), .op (3, 0, false), .op (4, 0, false), .op (5, 0, false), .op (6, 0, false), .op (7, 0, false), .op (8, 0, false), .op (9, 0, false)]) (.seq (.seq (.reg [.op (0, 0, false), .op (1, 0, false), .op (2, 2, false), .op (3, 0, false), .op (4, 0, false), .grp 4 false [(5, 0, false), (6, 0, false), (7, 2, false), (8, 0, false)] [113] 19471113219505603606989361234575360, .op (9, 0, false), .op (10, 0, false), .grp 10 false [(11, 0, false), (12, 0, false), (13, 0, false)] [118] 581537248155900694395415588872650752, .op (14, 0, false)]) (.cond (.seq (.reg [.op (0, 0, false)]) .leaf) .leaf)) (.seq (.reg [.op (0, 0, false)]) (.seq (.reg [.op (0, 0, false), .op (1, 0, false), .op (2, 2, false), .op (3, 0, false)]) (.seq (.seq (.reg [.op (0, 0, false), .op (1, 0, false)]) (.cond (.seq (.reg [.op (0, 0, false)]) .leaf) .leaf)) (.seq (.reg [.op (0, 0, false), .op (1, 0, false), .op (2, 2, false), .op (3, 0, false)]) (.seq (.seq (.reg [.op (0, 0, false), .op (1, 0, false)]) (.cond (.seq (.reg [.op (0, 0, false)]) .leaf) .leaf)) (.seq (.seq (.reg [.op (0, 0, false), .op (1, 0, false), .op (2, 0, false)]) (.cond (.seq (.reg [.op (0, 0, false)]) .leaf) .leaf)) (.seq (.reg [.op (0, 0, false)]) .leaf))))))))))))))))))))))))))))))
theorem I_laws_FnExactHalvesOfBox {a0 : Value} {w : World} {K : Value → World → Prop} (h : D_laws_FnExactHalvesOfBox a0 w K) : call P f_laws_FnExactHalvesOfBox [a0] w K :=
  call_of_vc mixed Tryz.func6 (c := codeOf Tryz.f6) (by kernel_rfl) (by kernel_rfl) (p := P_laws_FnExactHalvesOfBox) (by kernel_rfl) (by rw [Tryz.ntmps6]; simp) (by
    have e : D_laws_FnExactHalvesOfBox a0 w K = vc P P_laws_FnExactHalvesOfBox (codeOf Tryz.f6) (env0 [a0]) w (retX P Tryz.f6.results.toList K) := by kernel_rfl
    exact e ▸ h)

end Go.Proofs.YtabgkpfcpncmhaaGreat

/- Contracts: floats, lists of floats, matrices that are only read. -/
set_option linter.unusedVariables false
namespace Go.Proofs.YtabgkpfcpncmhaaGreat
open Go Go.Vc

abbrev fl (b : Nat) : Value := .float .f32 b
def finB (b : Nat) : Bool := decide (Fin Ieee.single b)

/-- A slice of floats. -/
structure FS (w : World) (v : Value) (l : List Nat) : Prop where
  row : Row 1 w v l.length (l.map fl)
  lt : ∀ b ∈ l, b < 4294967296
theorem FS.ext {w w' : World} {v : Value} {l : List Nat} (h : FS w v l) (he : Ext w w') : FS w' v l := ⟨h.row.ext he, h.lt⟩
theorem FS.bound {w : World} {v : Value} {l : List Nat} (h : FS w v l) : l.length ≤ 9223372036854775807 := by have := h.row.bound; simp only [maxLen] at this; omega

variable {w : World} {K : Value → World → Prop}

theorem call_extern {g : FuncId} {fn : Func} {e : Array Value → Sem Value} (hf : P.funcs[g]? = some fn) (hn : (fn.name == "runtime.NumGoroutine") = false) (hb : fn.body = none) (h1 : Extern.findNext fn = none) (h2 : Extern.find fn = some e)
    {args : List Value} (H : SemA P (e args.toArray) w K) : call P g args w K := by
  intro c hc
  obtain ⟨v, c', hr, hk⟩ := H c hc
  refine ⟨.value v, c', ?_, hk⟩
  have hn' : ¬ fn.name = "runtime.NumGoroutine" := by simpa using hn
  simp [callFunc, program, Sem.run, hf, hn', hb, h1, h2, mark, hr]

theorem c_Float32bits {b : Nat} (H : K (.int .u32 b) w) : call P f_math_Float32bits [fl b] w K :=
  call_extern fun_math_Float32bits (by kernel_rfl) rfl (by kernel_rfl) (e := Extern.MathFloatBits.float32bits) (by kernel_rfl) (SemA_pure H)

theorem c_l01Finite {b : Nat} (H : K (.bool (finB b)) w) : call P f_spec_l01Finite [fl b] w K := by
  refine I_spec_l01Finite ?_
  unfold D_spec_l01Finite
  refine rbin_float (by simp) fun r hr => ?_
  simp only [bin_feql]
  have e : (FloatKind.f32.format.order r 0 == some .eq) = finB b := by
    unfold finB
    by_cases hf : Fin Ieee.single b
    · rw [decide_eq_true hf]
      have := FR_some hr (show floatBits .sub .f32 b b = some 0 from sub_self hf)
      subst this; rfl
    · rw [decide_eq_false hf]
      rcases hr with hr | hr
      · rw [show floatBits .sub .f32 b b = none from sub_self_none hs1 hf] at hr; cases hr
      · rw [show FloatKind.f32.format.order r 0 = none from order_nan_left hs1 0 hr.2.1]; rfl
  rw [e]; exact H

theorem get_map {α β : Type} {f : α → β} {l : List α} {i : Nat} (hi : i < l.length) : (l.map f)[i]? = some (f l[i]) := by simp [hi]

end Go.Proofs.YtabgkpfcpncmhaaGreat

/- Contracts: what is only read: vectors, matrices, sizes, sameness. -/
set_option linter.unusedVariables false
namespace Go.Proofs.YtabgkpfcpncmhaaGreat
open Go Go.Vc

variable {w : World} {K : Value → World → Prop}

/-- '&&' and '||' joined again. -/
theorem jn1 {v : Value} {want : Bool} {R : Value → World → Prop} {A : (Value → World → Prop) → Prop} {w : World} (h : grd v want (A R) (R undef w)) :
    ∃ J : Value → World → Prop, (∀ (x : Value) (junk : Env) (w1 : World), J x w1 → R x w1) ∧ grd v want (A J) (J undef w) := ⟨R, fun _ _ _ h => h, h⟩

def vecB (l : List Nat) : Bool := l.all finB && decide (1 ≤ l.length ∧ l.length ≤ 8)

/-! ### matrices -/
structure FSS (w : World) (v : Value) (m : List (List Nat)) : Prop where
  ex : ∃ vs : List Value, Row 1 w v m.length vs ∧ ∀ i (hi : i < m.length), ∃ x, vs[i]? = some x ∧ FS w x m[i]
theorem FSS.ext {w w' : World} {v : Value} {m : List (List Nat)} (h : FSS w v m) (he : Ext w w') : FSS w' v m := by
  obtain ⟨vs, h1, h2⟩ := h.ex
  exact ⟨vs, h1.ext he, fun i hi => let ⟨x, hx, hf⟩ := h2 i hi; ⟨x, hx, hf.ext he⟩⟩
theorem FSS.bound {w : World} {v : Value} {m : List (List Nat)} (h : FSS w v m) : m.length ≤ 9223372036854775807 := by
  obtain ⟨vs, h1, _⟩ := h.ex
  have := h1.bound; simp only [maxLen] at this; omega
theorem FSS.len {v : Value} {m : List (List Nat)} (h : FSS w v m) {ty : TypeId} {K : Value → Prop} : bl0 P .len #[t_s_s_float32] ty [v] w K = K (.int .i64 m.length) := by
  obtain ⟨vs, h1, _⟩ := h.ex
  exact h1.len u_s_s_float32
theorem FSS.at {v : Value} {m : List (List Nat)} (h : FSS w v m) {i : Nat} (hi : i < m.length) {K : Value → Prop} (H : ∀ x, FS w x m[i] → K x) : ixa P t_s_s_float32 v (.int .i64 (i : Int)) w (fun a => ld P t_s_float32 a w K) := by
  obtain ⟨vs, h1, h2⟩ := h.ex
  obtain ⟨x, hx, hf⟩ := h2 i hi
  exact h1.at1 hx u_s_s_float32 i_s_float32 u_s_float32 rfl (H x hf)

def matB (m : List (List Nat)) : Bool := m.all (fun r => decide (r.length = m.length) && r.all finB) && decide (1 ≤ m.length ∧ m.length ≤ 8)

/-! ### sizes -/
def total (m : List (List Nat)) : Nat := (m.map List.length).sum
theorem total_take {m : List (List Nat)} {i : Nat} (hi : i < m.length) : total (m.take (i + 1)) = total (m.take i) + m[i].length := by
  unfold total
  rw [List.take_succ_eq_append_getElem hi, List.map_append, List.sum_append]
  rfl

end Go.Proofs.YtabgkpfcpncmhaaGreat

/- Contracts: sameness of floats and lists of floats. -/
set_option linter.unusedVariables false
namespace Go.Proofs.YtabgkpfcpncmhaaGreat
open Go Go.Vc

variable {w : World} {K : Value → World → Prop}

theorem div_one_some {a : Nat} (h : ¬ NaN Ieee.double a) : ∃ r, floatBits .quo .f64 4607182418800017408 a = some r := by
  show ∃ r, Ieee.double.div 4607182418800017408 a = some r
  have h1 : Ieee.double.read 4607182418800017408 = .number false 4503599627370496 (-52) := by decide +kernel
  unfold Ieee.Format.div
  rw [h1]
  rcases fin_inf_nan Ieee.double a with h2 | h2 | h2
  · obtain ⟨m, e, hr⟩ := read_fin h2
    rw [hr]
    simp only [Ieee.Datum.quotient]
    by_cases hm : m = 0
    · rw [if_pos hm, if_neg (by decide)]; exact ⟨_, rfl⟩
    · rw [if_neg hm]; exact ⟨_, rfl⟩
  · rw [read_inf hd1 h2]; exact ⟨_, rfl⟩
  · exact absurd h2 h

/-- Two floats of the wide kind that are the same. -/
def Deq (a b : Nat) : Prop := (a = b ∧ ¬ NaN Ieee.double a) ∨ (NaN Ieee.double a ∧ NaN Ieee.double b)

theorem neq_self_nan {a : Nat} (h : NaN Ieee.double a) : (FloatKind.f64.format.order a a != some .eq) = true := by
  rw [show FloatKind.f64.format.order a a = none from order_nan_left hd1 a h]; rfl
theorem neq_self_not {a : Nat} (h : ¬ NaN Ieee.double a) : (FloatKind.f64.format.order a a != some .eq) = false := by
  rw [show FloatKind.f64.format.order a a = some .eq from order_self h hd1]; rfl

theorem c_sameFloat {a b : Nat} (h : Deq a b) (H : K (.bool true) w) : call P f_laws_sameFloat [.float .f64 a, .float .f64 b] w K := by
  refine I_laws_sameFloat ?_
  unfold D_laws_sameFloat
  rw [bin_fneq]
  rcases h with ⟨rfl, ha⟩ | ⟨ha, hb⟩
  · rw [neq_self_not ha]
    refine ⟨_, fun _ _ _ h => h, ?_⟩
    rw [grd_false_false, bin_fneq, neq_self_not ha, pick_bool, cond_false, cnd_false, bin_feql]
    refine ⟨_, fun _ _ _ h => h, ?_⟩
    refine grd_split (fun h1 => ?_) (fun h1 => ?_)
    · rw [bin_feql, pick_bool, h1, cond_true, cnd_true]
      obtain ⟨r, hr⟩ := div_one_some ha
      refine rbin_float (by simp) fun r1 h2 => ?_
      rw [bin_fgtr]
      refine rbin_float (by simp) fun r2 h3 => ?_
      rw [bin_fgtr, bin_beql _ _ _ _ _ _ u_bool, FR_some h2 hr, FR_some h3 hr]
      simpa using H
    · rw [h1, pick_bool]
      simp only [Bool.not_true, cond_false, cnd_false]
      rw [bin_feql, show FloatKind.f64.format.order a a = some .eq from order_self ha hd1]
      exact H
  · rw [neq_self_nan ha]
    refine ⟨_, fun _ _ _ h => h, ?_⟩
    rw [grd_true_false, pick_bool, cond_true, cnd_true, bin_fneq, neq_self_nan ha]
    refine ⟨_, fun _ _ _ h => h, ?_⟩
    rw [grd_true_true, bin_fneq, neq_self_nan hb, pick_bool, cond_true]
    exact H

theorem wid_deq {a b r q : Nat} (h : Feq a b) (h1 : Wid a r) (h2 : Wid b q) : Deq r q := by
  rcases h with rfl | ⟨ha, hb⟩
  · rcases h1 with ⟨n1, rfl⟩ | ⟨n1, m1⟩
    · rcases h2 with ⟨n2, rfl⟩ | ⟨n2, m2⟩
      · exact .inl ⟨rfl, wid_not_nan n1⟩
      · exact absurd n2 n1
    · rcases h2 with ⟨n2, rfl⟩ | ⟨n2, m2⟩
      · exact absurd n1 n2
      · exact .inr ⟨m1, m2⟩
  · rcases h1 with ⟨n1, rfl⟩ | ⟨n1, m1⟩
    · exact absurd ha n1
    · rcases h2 with ⟨n2, rfl⟩ | ⟨n2, m2⟩
      · exact absurd hb n2
      · exact .inr ⟨m1, m2⟩

/-- The same floats, one by one. -/
def Leq (a b : List Nat) : Prop := a.length = b.length ∧ ∀ i (h1 : i < a.length) (h2 : i < b.length), Feq a[i] b[i]
theorem Leq.refl (a : List Nat) : Leq a a := ⟨rfl, fun i h1 h2 => .inl rfl⟩

def LLeq (a b : List (List Nat)) : Prop := a.length = b.length ∧ ∀ i (h1 : i < a.length) (h2 : i < b.length), Leq a[i] b[i]
theorem LLeq.refl (a : List (List Nat)) : LLeq a a := ⟨rfl, fun i h1 h2 => Leq.refl _⟩

/-! ### copies of one's own -/
abbrev OS (w : World) (base : Nat) (v : Value) (l : List Nat) : Prop := w.ownsRow base t_float32 1 v l.length (l.map fl)
theorem OS.FS {base : Nat} {v : Value} {l : List Nat} (h : OS w base v l) (hb : ∀ b ∈ l, b < 4294967296) : FS w v l := ⟨owns_Row h, hb⟩

theorem replicate_set_take {α : Type} (l : List α) (z : α) (i : Nat) (hi : i < l.length) : (l.take i ++ List.replicate (l.length - i) z).set i l[i] = l.take (i + 1) ++ List.replicate (l.length - (i + 1)) z := by
  apply List.ext_getElem?
  intro j
  rw [List.getElem?_set]
  simp only [List.getElem?_append, List.length_take, List.getElem?_take, List.getElem?_replicate, List.length_append, List.length_replicate]
  by_cases h1 : i = j
  · subst h1
    simp [Nat.min_eq_left (Nat.le_of_lt hi), hi, show min (i + 1) l.length = i + 1 by omega]
    omega
  · rw [if_neg h1]
    by_cases h2 : j < i
    · simp [show j < min i l.length by omega, show j < min (i + 1) l.length by omega, h2, show j < i + 1 by omega]
    · simp [show ¬ j < min i l.length by omega, show ¬ j < min (i + 1) l.length by omega, show min i l.length = i by omega, show min (i + 1) l.length = i + 1 by omega]
      by_cases h3 : j - i < l.length - i
      · simp [h2, h3, show ¬ j < i + 1 by omega, show j - (i + 1) < l.length - (i + 1) by omega]
      · simp [h2, h3, show ¬ j < i + 1 by omega, show ¬ j - (i + 1) < l.length - (i + 1) by omega]

theorem oneCell_fl (b : Nat) : (fl b).oneCell' = true := rfl

end Go.Proofs.YtabgkpfcpncmhaaGreat

/- Contracts: matrices of one's own; marks. -/
set_option linter.unusedVariables false
namespace Go.Proofs.YtabgkpfcpncmhaaGreat
open Go Go.Vc

variable {w : World} {K : Value → World → Prop}

/-- A row behind the range stays. -/
theorem chg_owns {lo hi base : Nat} {a b : World} {e : TypeId} {s n : Nat} {v : Value} {xs : List Value} (h : Chg lo hi a b) (ho : a.ownsRow base e s v n xs) (hb : hi ≤ base) : b.ownsRow base e s v n xs := by
  refine ⟨ho.1, ?_⟩
  rcases ho.2 with h0 | ⟨g, cap, cur, hv, hbb, hg, hr⟩
  · exact .inl h0
  · refine .inr ⟨g, cap, cur, hv, hbb, ?_, hr⟩
    have hlt : g < a.heap.size := by
      rcases Nat.lt_or_ge g a.heap.size with h | h
      · exact h
      · rw [Array.getElem?_eq_none h] at hg; cases hg
    rw [h.block g hlt (.inr (by omega))]; exact hg

theorem owns_ne {b1 b2 : Nat} {e1 e2 : TypeId} {s1 s2 n1 n2 : Nat} {v1 v2 : Value} {xs ys : List Value} (h1 : w.ownsRow b1 e1 s1 v1 n1 xs) (h2 : w.ownsRow b2 e2 s2 v2 n2 ys) (he : e1 ≠ e2) : v1.ownBlock = none ∨ v1.ownBlock ≠ v2.ownBlock := by
  rcases h1.2 with ⟨rfl, _⟩ | ⟨g, cap, cur, rfl, _, hg, _⟩
  · exact .inl rfl
  · rcases h2.2 with ⟨rfl, _⟩ | ⟨g', cap', cur', rfl, _, hg', _⟩
    · exact .inr (by simp [Value.ownBlock])
    · refine .inr ?_
      simp only [Value.ownBlock, ne_eq, Option.some.injEq]
      rintro rfl
      rw [hg] at hg'
      simp only [Option.some.injEq, Obj.cells.injEq] at hg'
      exact he hg'.2.1

/-- A matrix of one's own: its blocks lie from lo to below hi, no two rows share one. -/
structure OM (w : World) (lo hi : Nat) (v : Value) (m : List (List Nat)) (vs : List Value) : Prop where
  outer : w.ownsRow lo t_s_float32 1 v m.length vs
  rows : ∀ (i : Nat) (hl : i < m.length), ∃ x : Value, vs[i]? = some x ∧ OS w lo x m[i] ∧ ∀ k, x.ownBlock = some k → k < hi
  apart : ∀ (i j : Nat) (x y : Value), i < j → vs[i]? = some x → vs[j]? = some y → x.ownBlock = none ∨ x.ownBlock ≠ y.ownBlock
  top : ∀ k, v.ownBlock = some k → k < hi
def bits (m : List (List Nat)) : Prop := ∀ r ∈ m, ∀ b ∈ r, b < 4294967296
theorem OM.FSS {lo hi : Nat} {v : Value} {m : List (List Nat)} {vs : List Value} (h : OM w lo hi v m vs) (hb : bits m) : FSS w v m :=
  ⟨vs, owns_Row h.outer, fun i hi => let ⟨x, hx, ho, _⟩ := h.rows i hi; ⟨x, hx, ho.FS (hb _ (List.getElem_mem hi))⟩⟩
theorem OM.ext {lo hi : Nat} {v : Value} {m : List (List Nat)} {vs : List Value} {w' : World} (h : OM w lo hi v m vs) (he : Ext w w') : OM w' lo hi v m vs :=
  ⟨owns_ext h.outer he, fun i hi => let ⟨x, hx, ho, hk⟩ := h.rows i hi; ⟨x, hx, owns_ext ho he, hk⟩, h.apart, h.top⟩
theorem OM.chg {lo hi lo' hi' : Nat} {v : Value} {m : List (List Nat)} {vs : List Value} {w' : World} (h : OM w lo hi v m vs) (hc : Chg lo' hi' w w') (hb : hi ≤ lo' ∨ hi' ≤ lo) : OM w' lo hi v m vs :=
  ⟨(OwnR.chg ⟨h.outer, h.top⟩ hc hb).own, fun i hi => let ⟨x, hx, ho, hk⟩ := h.rows i hi; ⟨x, hx, (OwnR.chg ⟨ho, hk⟩ hc hb).own, hk⟩, h.apart, h.top⟩

theorem oneCell_sl {base : Nat} {e : TypeId} {s n : Nat} {v : Value} {xs : List Value} (h : w.ownsRow base e s v n xs) : v.oneCell' = true := by
  rcases h.2 with ⟨rfl, _⟩ | ⟨g, cap, cur, rfl, _⟩ <;> rfl

/-! ### marks -/
def mk (k : Int) (n : Nat) : List Nat := (List.range n).map (fun j => floatOfInt .f32 (k + (j : Nat)))
@[simp] theorem mk_length (k : Int) (n : Nat) : (mk k n).length = n := by simp [mk]
theorem mk_get (k : Int) (n i : Nat) (h : i < (mk k n).length) : (mk k n)[i] = floatOfInt .f32 (k + (i : Nat)) := by simp [mk]
theorem mk_bits (k : Int) (n : Nat) : ∀ b ∈ mk k n, b < 4294967296 := by
  intro b hb
  simp only [mk, List.mem_map] at hb
  obtain ⟨j, _, rfl⟩ := hb
  exact floatOfInt_lt .f32 _
def mkM (k : Int) (m : List (List Nat)) : List (List Nat) := (List.range m.length).map (fun i => mk (k + total (m.take i)) (m.getD i []).length)
@[simp] theorem mkM_length (k : Int) (m : List (List Nat)) : (mkM k m).length = m.length := by simp [mkM]
theorem mkM_get (k : Int) (m : List (List Nat)) (i : Nat) (h : i < (mkM k m).length) (h' : i < m.length) : (mkM k m)[i] = mk (k + total (m.take i)) m[i].length := by simp [mkM, h']
theorem mkM_bits (k : Int) (m : List (List Nat)) : bits (mkM k m) := by
  intro r hr
  simp only [mkM, List.mem_map] at hr
  obtain ⟨j, _, rfl⟩ := hr
  exact mk_bits _ _

end Go.Proofs.YtabgkpfcpncmhaaGreat

/- Contracts: marks on a matrix; the law of IsMatrix but for the row. -/
set_option linter.unusedVariables false
namespace Go.Proofs.YtabgkpfcpncmhaaGreat
open Go Go.Vc

variable {w : World} {K : Value → World → Prop}

def mid (k : Int) (m : List (List Nat)) (i : Nat) : List (List Nat) := (List.range m.length).map (fun j => if j < i then mk (k + total (m.take j)) (m.getD j []).length else m.getD j [])
@[simp] theorem mid_length (k : Int) (m : List (List Nat)) (i : Nat) : (mid k m i).length = m.length := by simp [mid]
theorem mid_get (k : Int) (m : List (List Nat)) (i j : Nat) (h : j < (mid k m i).length) (h' : j < m.length) : (mid k m i)[j] = if j < i then mk (k + total (m.take j)) m[j].length else m[j] := by simp [mid, h']
theorem mid_zero (k : Int) (m : List (List Nat)) : mid k m 0 = m := by
  apply List.ext_getElem (by simp)
  intro i h1 h2
  rw [mid_get k m 0 i h1 h2, if_neg (by omega)]
theorem mid_full (k : Int) (m : List (List Nat)) : mid k m m.length = mkM k m := by
  apply List.ext_getElem (by simp)
  intro i h1 h2
  have h3 : i < m.length := by simpa using h1
  rw [mid_get k m _ i h1 h3, if_pos h3, mkM_get k m i h2 h3]

theorem total_take_le (m : List (List Nat)) (i : Nat) : total (m.take i) ≤ total m := by
  have : total m = total (m.take i) + total (m.drop i) := by
    unfold total
    rw [← List.sum_append, ← List.map_append, List.take_append_drop]
  omega

theorem len_le_total {m : List (List Nat)} {r : List Nat} (h : r ∈ m) : r.length ≤ total m := by
  unfold total
  induction m with
  | nil => cases h
  | cons a m ih =>
    simp only [List.map_cons, List.sum_cons]
    rcases List.mem_cons.1 h with rfl | h
    · omega
    · have := ih h; omega

end Go.Proofs.YtabgkpfcpncmhaaGreat

/- Contracts: the product of a matrix and a vector. -/
set_option linter.unusedVariables false
namespace Go.Proofs.YtabgkpfcpncmhaaGreat
open Go Go.Vc

variable {w : World} {K : Value → World → Prop}

theorem finB_iff {b : Nat} : finB b = true ↔ Fin Ieee.single b := by unfold finB; exact decide_eq_true_iff
theorem finB_not {b : Nat} : finB b = false ↔ ¬ Fin Ieee.single b := by unfold finB; exact decide_eq_false_iff_not

theorem FS.at {v : Value} {l : List Nat} (h : FS w v l) {i : Nat} (hi : i < l.length) {K : Value → Prop} (H : K (fl l[i])) : ixa P t_s_float32 v (.int .i64 (i : Int)) w (fun a => ld P t_float32 a w K) :=
  h.row.at1 (get_map hi) u_s_float32 i_float32 u_float32 rfl H

theorem oneCell_cells {v : Value} (h : v.oneCell' = true) : v.cells = #[v] := by cases v <;> first | rfl | (simp [Value.oneCell'] at h; done)

/-- 'append(xs, x)'. -/
theorem app1 {base : Nat} {t e : TypeId} {z : Value} {b n : Nat} {v x : Value} {xs : List Value} {KW : Value → World → Prop} (h : w.ownsRow base e 1 v n xs) (hx : x.oneCell' = true)
    (hu : P.underlying t = some (.slice e)) (ht : TI P e z 1 b) (hz : z.oneCell' = true) (hn : n + 1 ≤ maxLen) (hby : (n + 1) * b ≤ 140737488355328) (hbase : base ≤ w.heap.size)
    (H : ∀ v' w', w'.ownsRow base e 1 v' (n + 1) (xs ++ [x]) → w.grownBy w' v.ownBlock → KW v' w') : bsl P t 1 [(0, x)] w fun y w2 => bl2 P .append #[t, t] t [v, y] w2 KW := by
  refine bsl_one hu ht hx hz ?_
  have ho := owns_lit w [x] e (by simp [maxLen])
  have he := Ext_alloc w (.cells #[x] e)
  refine append_intro (owns_ext h he) (owns_Row ho) (by simpa using hx) hu ht (by rw [oneCell_cells hz]; rfl) (by decide) hn hby (Nat.le_trans hbase he.size) fun v' w' h1 h2 => ?_
  refine H v' w' h1 ⟨?_, ?_, ?_, ?_, fun k hk hne => ?_⟩
  · exact h2.os.trans (RowKit.Below.os he)
  · exact h2.tape.trans (RowKit.Below.tape he)
  · exact h2.output.trans (RowKit.Below.output he)
  · exact Nat.le_trans he.size h2.size
  · exact (h2.block k (Nat.lt_of_lt_of_le hk he.size) hne).trans (he.block k hk)

theorem appF {base : Nat} {v : Value} {b : Nat} {l : List Nat} {KW : Value → World → Prop} (h : OS w base v l) (hn : l.length < 1000000) (hbase : base ≤ w.heap.size)
    (H : ∀ v' w', OS w' base v' (l ++ [b]) → w.grownBy w' v.ownBlock → KW v' w') : bsl P t_s_float32 1 [(0, fl b)] w fun y w2 => bl2 P .append #[t_s_float32, t_s_float32] t_s_float32 [v, y] w2 KW := by
  refine app1 h (oneCell_fl b) u_s_float32 i_float32 rfl (by simp only [maxLen]; omega) (by omega) hbase fun v' w' h1 h2 => H v' w' ?_ h2
  show w'.ownsRow base t_float32 1 v' (l ++ [b]).length ((l ++ [b]).map fl)
  simpa using h1

theorem OS.below {B base : Nat} {v : Value} {l : List Nat} {w0 w' : World} (h : OS w base v l) (hb : RowKit.Below B w0 w) (hg : w.grownBy w' v.ownBlock) (hB : B ≤ w0.heap.size) (hbase : B ≤ base) : RowKit.Below B w0 w' :=
  hb.grown hg (Nat.le_trans hB hb.size) fun k hk => Nat.le_trans hbase (h.lt k hk).1

theorem OS.nil (w : World) (base : Nat) : OS w base (.slice none 0 0) [] := ⟨rfl, .inl ⟨rfl, rfl⟩⟩
theorem OS_lit0 (w : World) : OS (w.alloc (.cells #[] t_float32)) w.heap.size (.slice (some ⟨w.heap.size, 0, none⟩) 0 0) [] := owns_lit w [] t_float32

/-! ### what is computed -/
def dotF : List Nat → List Nat → Nat → Option Nat
  | n :: ns, x :: xs, s => if finB (opF .add s (opF .mul n x)) then dotF ns xs (opF .add s (opF .mul n x)) else none
  | _, _, s => some s
theorem dotF_step {r x : List Nat} {j s : Nat} (h1 : j < r.length) (h2 : j < x.length) : dotF (r.drop j) (x.drop j) s = if finB (opF .add s (opF .mul r[j] x[j])) then dotF (r.drop (j + 1)) (x.drop (j + 1)) (opF .add s (opF .mul r[j] x[j])) else none := by
  rw [List.drop_eq_getElem_cons h1, List.drop_eq_getElem_cons h2, dotF]
theorem dotF_end {r x : List Nat} {j s : Nat} (h1 : r.length ≤ j) : dotF (r.drop j) (x.drop j) s = some s := by
  rw [List.drop_eq_nil_of_le h1]; simp [dotF]
def timesF (x : List Nat) : List (List Nat) → List Nat → Option (List Nat)
  | [], out => some out
  | r :: rs, out => match dotF r x 0 with
    | none => none
    | some s => timesF x rs (out ++ [s])
theorem timesF_step {x : List Nat} {m : List (List Nat)} {i : Nat} {out : List Nat} (h : i < m.length) : timesF x (m.drop i) out = match dotF m[i] x 0 with
    | none => none
    | some s => timesF x (m.drop (i + 1)) (out ++ [s]) := by
  rw [List.drop_eq_getElem_cons h, timesF]
theorem dotF_fin : ∀ {r x : List Nat} {s q : Nat}, finB s = true → dotF r x s = some q → finB q = true
  | [], x, s, q, hs, h => by simp [dotF] at h; subst h; exact hs
  | n :: ns, [], s, q, hs, h => by simp [dotF] at h; subst h; exact hs
  | n :: ns, x :: xs, s, q, hs, h => by
    rw [dotF] at h
    split at h
    · rename_i hf; exact dotF_fin hf h
    · cases h
theorem dotF_lt : ∀ {r x : List Nat} {s q : Nat}, s < 4294967296 → dotF r x s = some q → q < 4294967296
  | [], x, s, q, hs, h => by simp [dotF] at h; subst h; exact hs
  | n :: ns, [], s, q, hs, h => by simp [dotF] at h; subst h; exact hs
  | n :: ns, x :: xs, s, q, hs, h => by
    rw [dotF] at h
    split at h
    · exact dotF_lt opF_lt h
    · cases h
theorem timesF_lt {x : List Nat} : ∀ {m : List (List Nat)} {out q : List Nat}, (∀ b ∈ out, b < 4294967296) → timesF x m out = some q → ∀ b ∈ q, b < 4294967296
  | [], out, q, ho, h => by simp [timesF] at h; subst h; exact ho
  | r :: rs, out, q, ho, h => by
    rw [timesF] at h
    cases hd : dotF r x 0 with
    | none => rw [hd] at h; cases h
    | some s =>
      rw [hd] at h
      refine timesF_lt (fun b hb => ?_) h
      rcases List.mem_append.1 hb with hb | hb
      · exact ho b hb
      · simp at hb; subst hb; exact dotF_lt (by decide) hd
theorem timesF_fin {x : List Nat} : ∀ {m : List (List Nat)} {out q : List Nat}, (out.all finB = true) → timesF x m out = some q → q.all finB = true
  | [], out, q, ho, h => by simp [timesF] at h; subst h; exact ho
  | r :: rs, out, q, ho, h => by
    rw [timesF] at h
    cases hd : dotF r x 0 with
    | none => rw [hd] at h; cases h
    | some s =>
      rw [hd] at h
      refine timesF_fin ?_ h
      rw [List.all_append, ho]
      simpa using dotF_fin (by decide) hd
theorem timesF_length {x : List Nat} : ∀ {m : List (List Nat)} {out q : List Nat}, timesF x m out = some q → q.length = out.length + m.length
  | [], out, q, h => by simp [timesF] at h; subst h; rfl
  | r :: rs, out, q, h => by
    rw [timesF] at h
    cases hd : dotF r x 0 with
    | none => rw [hd] at h; cases h
    | some s =>
      rw [hd] at h
      have := timesF_length h
      simp at this ⊢; omega

/-- One step of a sum of products: finite floats have a product that is no NaN; if it is infinite, the sum is not finite. -/
theorem step_prod {a b s p q : Nat} (ha : finB a = true) (hb : finB b = true) (hs : finB s = true) (hp : FR .mul .f32 a b p) (hq : FR .add .f32 s p q) : p = opF .mul a b ∧ ((finB p = true ∧ q = opF .add s (opF .mul a b)) ∨ (finB p = false ∧ finB q = false ∧ finB (opF .add s (opF .mul a b)) = false)) := by
  rw [finB_iff] at ha hb hs
  have hm := mul_fin (k := .f32) ha hb
  have e := FR_opF hp hm
  refine ⟨e, ?_⟩
  by_cases hf : Fin Ieee.single p
  · refine .inl ⟨finB_iff.2 hf, ?_⟩
    rw [← e]
    exact FR_opF hq (add_fin (k := .f32) hs hf)
  · refine .inr ⟨finB_not.2 hf, finB_not.2 (add_bad (k := .f32) hs hf hq), finB_not.2 ?_⟩
    rw [← e]
    have hn : ¬ NaN Ieee.single p := by rw [e]; exact opF_nan hm
    rcases fin_inf_nan Ieee.single p with h | h | h
    · exact absurd h hf
    · have hread := read_inf hs1 h
      obtain ⟨m, e', h1⟩ := read_fin hs
      have : floatBits .add .f32 s p = some (Ieee.single.write (.infinity (p / Ieee.single.signWeight % 2 == 1))) := by
        show Ieee.single.add s p = _
        unfold Ieee.Format.add; rw [h1, hread]; rfl
      unfold opF
      rw [this]
      exact not_fin_of_inf (write_inf _ _)
    · exact absurd h hn

/-! ### the program's and the reference's -/
structure MV (w : World) (a v : Value) (m : List (List Nat)) (x : List Nat) : Prop where
  fa : FSS w a m
  fv : FS w v x
  len : ∀ r ∈ m, r.length = x.length
  fm : ∀ r ∈ m, r.all finB = true
  fx : x.all finB = true
  small : m.length ≤ 8
theorem MV.ext {w' : World} {a v : Value} {m : List (List Nat)} {x : List Nat} (h : MV w a v m x) (he : Ext w w') : MV w' a v m x := ⟨h.fa.ext he, h.fv.ext he, h.len, h.fm, h.fx, h.small⟩

theorem all_get {l : List Nat} (h : l.all finB = true) {i : Nat} (hi : i < l.length) : finB l[i] = true := List.all_eq_true.1 h _ (List.getElem_mem hi)
theorem nat_succ (i : Nat) (h : i < 1000000) : IntKind.i64.wrap ((i : Int) + 1) = ((i + 1 : Nat) : Int) := by rw [wrap_i64 (by omega) (by omega)]; rfl

theorem FS_two {b1 b2 : Nat} (h1 : b1 < 4294967296) (h2 : b2 < 4294967296) (w : World) : FS (w.alloc (.cells #[fl b1, fl b2] t_float32)) (.slice (some ⟨w.heap.size, 0, none⟩) 2 2) [b1, b2] :=
  ⟨owns_Row (owns_lit w [fl b1, fl b2] t_float32 (by simp [maxLen])), by intro b hb; simp at hb; rcases hb with rfl | rfl <;> assumption⟩

theorem bslF2 {b1 b2 : Nat} {KW : Value → World → Prop} (h1 : b1 < 4294967296) (h2 : b2 < 4294967296) (H : ∀ v w', Ext w w' → FS w' v [b1, b2] → KW v w') : bsl P t_s_float32 2 [(0, fl b1), (1, fl b2)] w KW :=
  bsl_two u_s_float32 i_float32 rfl rfl rfl (H _ _ (Ext_alloc _ _) (FS_two h1 h2 w))

end Go.Proofs.YtabgkpfcpncmhaaGreat

/- Contracts: codes of systems; the product of a matrix and a vector, as the two packages hand it out; the law's own steps. -/
set_option linter.unusedVariables false
namespace Go.Proofs.YtabgkpfcpncmhaaGreat
open Go Go.Vc

variable {w : World} {K : Value → World → Prop}

def codeF (m : List (List Nat)) (L : List (List Nat)) : Int := if matB m && L.all vecB then (if L.all (fun l => decide (l.length = m.length)) then 0 else 2) else 1

/-- A literal of one row. -/
theorem FSS_lit1 {v : Value} {l : List Nat} (h : FS w v l) (ho : v.oneCell' = true) : FSS (w.alloc (.cells #[v] t_s_float32)) (.slice (some ⟨w.heap.size, 0, none⟩) 1 1) [l] :=
  ⟨[v], owns_Row (owns_lit w [v] t_s_float32 (by simp [maxLen])), fun i hi => by
    obtain rfl : i = 0 := by simpa using hi
    exact ⟨v, rfl, h.ext (Ext_alloc _ _)⟩⟩
theorem FS.one {v : Value} {l : List Nat} (h : FS w v l) : v.oneCell' = true := by
  obtain ⟨_, _, a, cap, rfl, _⟩ := h.row
  rfl

def tvF (m : List (List Nat)) (x : List Nat) : List Nat × Int :=
  if codeF m [x] = 0 then (match timesF x m [] with | none => ([], 3) | some q => (q, 0)) else ([], codeF m [x])

theorem code_zero {m : List (List Nat)} {L : List (List Nat)} (h : codeF m L = 0) : matB m = true ∧ (∀ l ∈ L, vecB l = true) ∧ ∀ l ∈ L, l.length = m.length := by
  unfold codeF at h
  split at h
  · rename_i h1
    split at h
    · rename_i h2
      simp only [Bool.and_eq_true] at h1
      refine ⟨h1.1, fun l hl => List.all_eq_true.1 h1.2 l hl, fun l hl => ?_⟩
      have := List.all_eq_true.1 h2 l hl
      simpa using this
    · omega
  · omega
theorem matB_parts {m : List (List Nat)} (h : matB m = true) : (∀ r ∈ m, r.length = m.length ∧ r.all finB = true) ∧ 1 ≤ m.length ∧ m.length ≤ 8 := by
  unfold matB at h
  simp only [Bool.and_eq_true, decide_eq_true_eq] at h
  refine ⟨fun r hr => ?_, h.2.1, h.2.2⟩
  have := List.all_eq_true.1 h.1 r hr
  simpa using this
theorem MV_of {a v : Value} {m : List (List Nat)} {x : List Nat} (ha : FSS w a m) (hv : FS w v x) (h : codeF m [x] = 0) : MV w a v m x := by
  obtain ⟨h1, h2, h3⟩ := code_zero h
  obtain ⟨h4, h5, h6⟩ := matB_parts h1
  have hx := h3 x (by simp)
  have hv' := h2 x (by simp)
  unfold vecB at hv'
  simp only [Bool.and_eq_true, decide_eq_true_eq] at hv'
  exact ⟨ha, hv, fun r hr => by rw [hx]; exact (h4 r hr).1, fun r hr => (h4 r hr).2, hv'.1, h6⟩

theorem tvF_bits (m : List (List Nat)) (x : List Nat) : ∀ b ∈ (tvF m x).1, b < 4294967296 := by
  unfold tvF
  split
  · cases h : timesF x m [] with
    | none => intro b hb; simp at hb
    | some q => exact timesF_lt (by simp) h
  · intro b hb; simp at hb
theorem tvF_small (m : List (List Nat)) (x : List Nat) : (tvF m x).1.length ≤ 8 := by
  unfold tvF
  split
  · rename_i h
    cases h1 : timesF x m [] with
    | none => simp
    | some q =>
      have := timesF_length h1
      have h2 := (matB_parts (code_zero h).1).2.2
      simp at this ⊢; omega
  · simp

end Go.Proofs.YtabgkpfcpncmhaaGreat

/- Contracts: matrices of one's own, row by row; matrices turned over. -/
set_option linter.unusedVariables false
namespace Go.Proofs.YtabgkpfcpncmhaaGreat
open Go Go.Vc

variable {w : World} {K : Value → World → Prop}

section
variable {lo hi : Nat} {v : Value} {m : List (List Nat)} {vs : List Value}

theorem OM.at (h : OM w lo hi v m vs) {i : Nat} (hi' : i < m.length) {K : Value → Prop} (H : ∀ r, vs[i]? = some r → OwnR w lo hi t_float32 1 r m[i].length (m[i].map fl) → K r) : ixa P t_s_s_float32 v (.int .i64 (i : Int)) w (fun a => ld P t_s_float32 a w K) := by
  obtain ⟨x, hx, ho, hk⟩ := h.rows i hi'
  exact (owns_Row h.outer).at1 hx u_s_s_float32 i_s_float32 u_s_float32 rfl (H x hx ⟨ho, hk⟩)
theorem OM.len (h : OM w lo hi v m vs) {ty : TypeId} {K : Value → Prop} : bl0 P .len #[t_s_s_float32] ty [v] w K = K (.int .i64 m.length) := (owns_Row h.outer).len u_s_s_float32
theorem OM.vlen (h : OM w lo hi v m vs) : vs.length = m.length := by have := h.outer.1; omega

/-- A row's own block changes. -/
theorem OM.row {w' : World} {i : Nat} {r : Value} {l : List Nat} (h : OM w lo hi v m vs) (hr : vs[i]? = some r) (hg : w.grownBy w' r.ownBlock) (ho : OS w' lo r l) : OM w' lo hi v (m.set i l) vs ∧ Chg lo hi w w' := by
  have hi' : i < m.length := by
    have := (List.getElem?_eq_some_iff.1 hr).1
    have := h.vlen; omega
  obtain ⟨x, hx, hox, hk⟩ := h.rows i hi'
  rw [hr] at hx; cases hx
  refine ⟨⟨?_, fun j hj => ?_, h.apart, h.top⟩, Chg.grown hg fun k hk' => ⟨(hox.lt k hk').1, hk k hk'⟩⟩
  · rw [List.length_set]
    exact h.outer.kept hg (owns_ne h.outer hox (by decide))
  · have hj' : j < m.length := by simpa using hj
    by_cases hji : j = i
    · subst hji
      refine ⟨r, hr, ?_, hk⟩
      rw [List.getElem_set_self]; exact ho
    · obtain ⟨r', hr', hor', hrk'⟩ := h.rows j hj'
      refine ⟨r', hr', ?_, hrk'⟩
      have hne : r'.ownBlock = none ∨ r'.ownBlock ≠ r.ownBlock := by
        rcases Nat.lt_or_ge j i with hlt | hge
        · exact h.apart j i r' r hlt hr' hr
        · rcases h.apart i j r r' (by omega) hr hr' with h | h
          · cases hb : r'.ownBlock with
            | none => exact .inl rfl
            | some q => exact .inr (by rw [h]; simp)
          · exact .inr fun e => h e.symm
      rw [List.getElem_set_ne (by omega)]
      exact hor'.kept hg hne

/-- 'm[i][j] = x', the row at hand. -/
theorem OM.put {i j : Nat} {r : Value} {x : Nat} {K : World → Prop} (h : OM w lo hi v m vs) (hr : vs[i]? = some r) (hi' : i < m.length) (hj : j < m[i].length) (H : ∀ w', OM w' lo hi v (m.set i (m[i].set j x)) vs → Chg lo hi w w' → K w') :
    ixa P t_s_float32 r (.int .i64 (j : Int)) w (fun a => sto P t_float32 a (fl x) w K) := by
  obtain ⟨r', hr', ho, hk⟩ := h.rows i hi'
  rw [hr] at hr'; cases hr'
  refine owns_set ho hj (oneCell_fl _) u_s_float32 i_float32 fun w' ho' hg => ?_
  have e : OS w' lo r (m[i].set j x) := by
    show w'.ownsRow lo t_float32 1 r (m[i].set j x).length ((m[i].set j x).map fl)
    rw [List.length_set, List.map_set]; exact ho'
  obtain ⟨q1, q2⟩ := h.row hr hg e
  exact H w' q1 q2

/-- 'append(m, row)', the row newer than all of m. -/
theorem OM.push {hi2 : Nat} {r : Value} {l : List Nat} {KW : Value → World → Prop} (h : OM w lo hi v m vs) (hr : OwnR w hi hi2 t_float32 1 r l.length (l.map fl)) (hlh : lo ≤ hi) (hn : m.length < 1000000) (hs : lo ≤ w.heap.size)
    (H : ∀ v' w', OM w' lo w'.heap.size v' (m ++ [l]) (vs ++ [r]) → w.grownBy w' v.ownBlock → KW v' w') : bsl P t_s_s_float32 1 [(0, r)] w fun y w2 => bl2 P .append #[t_s_s_float32, t_s_s_float32] t_s_s_float32 [v, y] w2 KW := by
  refine app1 h.outer (oneCell_sl hr.own) u_s_s_float32 i_s_float32 rfl (by simp only [maxLen]; omega) (by omega) hs fun v' w' h1 h2 => H v' w' ⟨?_, fun i hi' => ?_, fun i j x y hij hx hy => ?_, fun k hk => (h1.lt k hk).2⟩ h2
  · simpa using h1
  · by_cases he : i < m.length
    · obtain ⟨x, hx, ho, hk⟩ := h.rows i he
      have hv : i < vs.length := (List.getElem?_eq_some_iff.1 hx).1
      refine ⟨x, by rw [List.getElem?_append_left hv]; exact hx, ?_, fun k hkk => ?_⟩
      · rw [List.getElem_append_left he]
        exact ho.kept h2 (owns_ne ho h.outer (by decide))
      · have := (ho.lt k hkk).2
        have := h2.size
        omega
    · have hi'' : i = m.length := by simp at hi'; omega
      subst hi''
      refine ⟨r, by rw [← h.vlen]; simp, ?_, fun k hkk => ?_⟩
      · rw [List.getElem_append_right (Nat.le_refl _)]
        simp only [Nat.sub_self, List.getElem_cons_zero]
        exact owns_base (hr.own.kept h2 (owns_ne hr.own h.outer (by decide))) hlh
      · have := (hr.own.lt k hkk).2
        have := h2.size
        omega
  · by_cases he : j < vs.length
    · rw [List.getElem?_append_left he] at hy
      rw [List.getElem?_append_left (by omega)] at hx
      exact h.apart i j x y hij hx hy
    · have hjl := (List.getElem?_eq_some_iff.1 hy).1
      have : j = vs.length := by simp at hjl; omega
      subst this
      simp at hy; subst hy
      rw [List.getElem?_append_left hij] at hx
      have hvl := h.vlen
      obtain ⟨x', hx', ho', hk'⟩ := h.rows i (by omega)
      rw [hx] at hx'; cases hx'
      cases hob : x.ownBlock with
      | none => exact .inl rfl
      | some k =>
        refine .inr fun hne => ?_
        have h1 := hk' k hob
        have h2 := (hr.own.lt k hne.symm).1
        omega

theorem OM.lit0 (w : World) : OM (w.alloc (.cells #[] t_s_float32)) w.heap.size (w.alloc (.cells #[] t_s_float32)).heap.size (.slice (some ⟨w.heap.size, 0, none⟩) 0 0) [] [] :=
  ⟨owns_lit w [] t_s_float32, fun i hi => by simp at hi, fun i j x y _ hx => by simp at hx, fun k hk => ((owns_lit w [] t_s_float32).lt k hk).2⟩
theorem OM.nil (w : World) (lo hi : Nat) : OM w lo hi (.slice none 0 0) [] [] := ⟨⟨rfl, .inl ⟨rfl, rfl⟩⟩, fun i hi => by simp at hi, fun i j x y _ hx => by simp at hx, fun k hk => by cases hk⟩
theorem OM.mono {lo' hi' : Nat} (h : OM w lo hi v m vs) (h1 : lo' ≤ lo) (h2 : hi ≤ hi') : OM w lo' hi' v m vs :=
  ⟨owns_base h.outer h1, fun i hi => let ⟨x, hx, ho, hk⟩ := h.rows i hi; ⟨x, hx, owns_base ho h1, fun k hkk => Nat.lt_of_lt_of_le (hk k hkk) h2⟩, h.apart, fun k hk => Nat.lt_of_lt_of_le (h.top k hk) h2⟩
theorem OM.sized (h : OM w lo hi v m vs) : OM w lo w.heap.size v m vs :=
  ⟨h.outer, fun i hi => let ⟨x, hx, ho, hk⟩ := h.rows i hi; ⟨x, hx, ho, fun k hkk => (ho.lt k hkk).2⟩, h.apart, fun k hk => (h.outer.lt k hk).2⟩
end

/-! ### square tables -/
def tab (n : Nat) (f : Nat → Nat → Nat) : List (List Nat) := (List.range n).map fun i => (List.range n).map fun j => f i j
@[simp] theorem tab_length (n : Nat) (f : Nat → Nat → Nat) : (tab n f).length = n := by simp [tab]
theorem tab_row {n : Nat} {f : Nat → Nat → Nat} {i : Nat} (h : i < (tab n f).length) : (tab n f)[i] = (List.range n).map (f i) := by simp [tab]
theorem tab_get {n : Nat} {f : Nat → Nat → Nat} {i j : Nat} (h : i < (tab n f).length) (h' : j < (tab n f)[i].length) : (tab n f)[i][j] = f i j := by simp [tab]
theorem tab_row_length {n : Nat} {f : Nat → Nat → Nat} {i : Nat} (h : i < (tab n f).length) : (tab n f)[i].length = n := by simp [tab]
def upd (f : Nat → Nat → Nat) (i j x : Nat) : Nat → Nat → Nat := fun p q => if p = i ∧ q = j then x else f p q
theorem tab_set {n : Nat} {f : Nat → Nat → Nat} {i j x : Nat} (h : i < (tab n f).length) : (tab n f).set i ((tab n f)[i].set j x) = tab n (upd f i j x) := by
  apply List.ext_getElem (by simp)
  intro p h1 h2
  have hp : p < n := by simpa using h2
  by_cases he : p = i
  · subst he
    rw [List.getElem_set_self]
    apply List.ext_getElem (by simp [tab])
    intro q h3 h4
    have hq : q < n := by simpa [tab] using h4
    by_cases hqe : q = j
    · subst hqe
      rw [List.getElem_set_self, tab_get]
      simp [upd]
    · rw [List.getElem_set_ne (by omega), tab_get, tab_get]
      simp [upd, hqe]
  · rw [List.getElem_set_ne (by omega)]
    apply List.ext_getElem (by simp [tab])
    intro q h3 h4
    rw [tab_get, tab_get]
    simp [upd, he]
theorem tab_congr {n : Nat} {f g : Nat → Nat → Nat} (h : ∀ i j, i < n → j < n → f i j = g i j) : tab n f = tab n g := by
  apply List.ext_getElem (by simp)
  intro p h1 h2
  have hp : p < n := by simpa using h2
  apply List.ext_getElem (by simp [tab])
  intro q h3 h4
  have hq : q < n := by simpa [tab] using h4
  rw [tab_get, tab_get]; exact h p q hp hq
def cell (m : List (List Nat)) (i j : Nat) : Nat := (m.getD i []).getD j 0
theorem cell_get {m : List (List Nat)} {i j : Nat} (h : i < m.length) (h' : j < m[i].length) : cell m i j = m[i][j] := by simp [cell, h, h']
/-- A square matrix is the table of its cells. -/
def square (n : Nat) (m : List (List Nat)) : Prop := m.length = n ∧ ∀ r ∈ m, r.length = n
theorem square.row {n : Nat} {m : List (List Nat)} (h : square n m) {i : Nat} (hi : i < m.length) : m[i].length = n := h.2 _ (List.getElem_mem hi)
theorem square_tab (n : Nat) (f : Nat → Nat → Nat) : square n (tab n f) := ⟨by simp, fun r hr => by
  obtain ⟨i, hi, rfl⟩ := List.getElem_of_mem hr
  exact tab_row_length hi⟩
theorem tab_cell {n : Nat} {m : List (List Nat)} (h : square n m) : tab n (cell m) = m := by
  apply List.ext_getElem (by simp [h.1])
  intro p h1 h2
  apply List.ext_getElem (by rw [tab_row_length, h.row])
  intro q h3 h4
  rw [tab_get, cell_get h2 h4]

/-! ### turned over -/
def turnF (m : List (List Nat)) : List (List Nat) := tab m.length fun i j => cell m j i

theorem map_range_succ (n : Nat) (f : Nat → Nat) : (List.range n).map f ++ [f n] = (List.range (n + 1)).map f := by rw [List.range_succ]; simp

end Go.Proofs.YtabgkpfcpncmhaaGreat

/- Contracts: the product of two matrices. -/
set_option linter.unusedVariables false
namespace Go.Proofs.YtabgkpfcpncmhaaGreat
open Go Go.Vc

variable {w : World} {K : Value → World → Prop}

def colsF (a : List (List Nat)) : List (List Nat) → List (List Nat) → Option (List (List Nat))
  | [], out => some out
  | c :: cs, out => match timesF c a [] with
    | none => none
    | some q => colsF a cs (out ++ [q])
theorem colsF_step {a m : List (List Nat)} {i : Nat} {out : List (List Nat)} (h : i < m.length) : colsF a (m.drop i) out = match timesF m[i] a [] with
    | none => none
    | some q => colsF a (m.drop (i + 1)) (out ++ [q]) := by
  rw [List.drop_eq_getElem_cons h, colsF]
def tmF (a b : List (List Nat)) : List (List Nat) × Int :=
  if matB a && matB b then (if a.length = b.length then (match colsF a (turnF b) [] with | none => ([], 3) | some q => (turnF q, 0)) else ([], 2)) else ([], 1)

theorem cell_cases (m : List (List Nat)) (i j : Nat) : cell m i j = 0 ∨ ∃ (h : i < m.length) (h' : j < m[i].length), cell m i j = m[i][j] := by
  by_cases h : i < m.length
  · by_cases h' : j < m[i].length
    · exact .inr ⟨h, h', cell_get h h'⟩
    · left
      have e : m.getD i [] = m[i] := by simp [h]
      unfold cell
      rw [e, List.getD_eq_getElem?_getD, List.getElem?_eq_none (by omega)]; rfl
  · left
    have e : m.getD i [] = [] := by rw [List.getD_eq_getElem?_getD, List.getElem?_eq_none (by omega)]; rfl
    unfold cell
    rw [e]; rfl
theorem cell_fin {m : List (List Nat)} (hf : ∀ r ∈ m, r.all finB = true) (i j : Nat) : finB (cell m i j) = true := by
  rcases cell_cases m i j with h | ⟨h, h', e⟩
  · rw [h]; rfl
  · rw [e]; exact all_get (hf _ (List.getElem_mem h)) h'
theorem cell_lt {m : List (List Nat)} (hf : bits m) (i j : Nat) : cell m i j < 4294967296 := by
  rcases cell_cases m i j with h | ⟨h, h', e⟩
  · rw [h]; decide
  · rw [e]; exact hf _ (List.getElem_mem h) _ (List.getElem_mem h')
theorem turnF_fin {m : List (List Nat)} (hf : ∀ r ∈ m, r.all finB = true) : ∀ r ∈ turnF m, r.all finB = true := by
  intro r hr
  simp only [turnF, tab, List.mem_map] at hr
  obtain ⟨i, _, rfl⟩ := hr
  rw [List.all_eq_true]
  intro b hb
  simp only [List.mem_map] at hb
  obtain ⟨j, _, rfl⟩ := hb
  exact cell_fin hf _ _
theorem tab_bits {n : Nat} {f : Nat → Nat → Nat} (h : ∀ i j, f i j < 4294967296) : bits (tab n f) := by
  intro r hr b hb
  simp only [tab, List.mem_map] at hr
  obtain ⟨i, _, rfl⟩ := hr
  simp only [List.mem_map] at hb
  obtain ⟨j, _, rfl⟩ := hb
  exact h _ _
theorem turnF_bits {m : List (List Nat)} (hf : bits m) : bits (turnF m) := tab_bits fun i j => cell_lt hf j i
theorem turnF_row {m : List (List Nat)} : ∀ r ∈ turnF m, r.length = m.length := (square_tab _ _).2

/-- What colsF hands out: a list of columns, one for each. -/
theorem colsF_good {a : List (List Nat)} : ∀ {m out q : List (List Nat)}, (∀ r ∈ out, r.length = a.length) → bits out → colsF a m out = some q → q.length = out.length + m.length ∧ (∀ r ∈ q, r.length = a.length) ∧ bits q
  | [], out, q, h1, h2, h => by simp [colsF] at h; subst h; exact ⟨rfl, h1, h2⟩
  | c :: cs, out, q, h1, h2, h => by
    rw [colsF] at h
    cases hd : timesF c a [] with
    | none => rw [hd] at h; cases h
    | some s =>
      rw [hd] at h
      have hl := timesF_length hd
      have hb := timesF_lt (by simp) hd
      obtain ⟨p1, p2, p3⟩ := colsF_good (out := out ++ [s]) (fun r hr => by
        rcases List.mem_append.1 hr with hr | hr
        · exact h1 r hr
        · simp at hr; subst hr; simpa using hl) (fun r hr => by
        rcases List.mem_append.1 hr with hr | hr
        · exact h2 r hr
        · simp at hr; subst hr; exact hb) h
      refine ⟨?_, p2, p3⟩
      simp at p1 ⊢; omega

theorem tmF_bits (a b : List (List Nat)) : bits (tmF a b).1 := by
  unfold tmF
  split
  · split
    · cases h : colsF a (turnF b) [] with
      | none => intro r hr; simp at hr
      | some q => exact turnF_bits (colsF_good (by simp) (by intro r hr; simp at hr) h).2.2
    · intro r hr; simp at hr
  · intro r hr; simp at hr
theorem tmF_small (a b : List (List Nat)) : (tmF a b).1.length ≤ 8 ∧ ∀ r ∈ (tmF a b).1, r.length ≤ 8 := by
  unfold tmF
  split
  · rename_i hmb
    simp only [Bool.and_eq_true] at hmb
    have hb8 := (matB_parts hmb.2).2.2
    split
    · cases h : colsF a (turnF b) [] with
      | none => exact ⟨by simp, fun r hr => by simp at hr⟩
      | some q =>
        have hq := (colsF_good (by simp) (by intro r hr; simp at hr) h).1
        have hl : q.length ≤ 8 := by simp [turnF] at hq; omega
        refine ⟨by simpa [turnF] using hl, fun r hr => ?_⟩
        rw [turnF_row r hr]; exact hl
    · exact ⟨by simp, fun r hr => by simp at hr⟩
  · exact ⟨by simp, fun r hr => by simp at hr⟩

theorem MV_col {a v : Value} {m : List (List Nat)} {x : List Nat} (ha : FSS w a m) (hm : matB m = true) (hv : FS w v x) (hl : x.length = m.length) (hf : x.all finB = true) : MV w a v m x := by
  obtain ⟨h4, h5, h6⟩ := matB_parts hm
  exact ⟨ha, hv, fun r hr => by rw [hl]; exact (h4 r hr).1, fun r hr => (h4 r hr).2, hf, h6⟩

/-! ### the program's -/
theorem replicate_eq_range (n z : Nat) : List.replicate n z = (List.range n).map fun _ => z := by
  apply List.ext_getElem (by simp)
  intro i h1 h2; simp

/-- Some columns are filled in. -/
def filled (n : Nat) (cols : List (List Nat)) : List (List Nat) := tab n fun i j => cell cols j i
theorem cell_none {m : List (List Nat)} {i j : Nat} (h : m.length ≤ i) : cell m i j = 0 := by
  rcases cell_cases m i j with h1 | ⟨h1, _⟩
  · exact h1
  · omega
theorem cell_append {m : List (List Nat)} {l : List Nat} {i j : Nat} : cell (m ++ [l]) i j = if i = m.length then l.getD j 0 else cell m i j := by
  unfold cell
  by_cases h : i < m.length
  · rw [if_neg (by omega)]
    rw [List.getD_eq_getElem?_getD (l := m ++ [l]), List.getElem?_append_left h, ← List.getD_eq_getElem?_getD]
  · by_cases h2 : i = m.length
    · subst h2; rw [if_pos rfl]
      rw [List.getD_eq_getElem?_getD (l := m ++ [l]), List.getElem?_append_right (Nat.le_refl _)]; simp
    · rw [if_neg h2, List.getD_eq_getElem?_getD (l := m ++ [l]), List.getElem?_eq_none (by simp; omega), List.getD_eq_getElem?_getD (l := m), List.getElem?_eq_none (by omega)]

end Go.Proofs.YtabgkpfcpncmhaaGreat

/- One interface for the kinds of data that the laws copy, compare and mark: lists of floats, matrices. -/
set_option linter.unusedVariables false
namespace Go.Proofs.YtabgkpfcpncmhaaGreat
open Go Go.Vc

variable {w : World} {K : Value → World → Prop} {lo hi : Nat} {v : Value}

/-- A variable whose block is one of its own range. -/
structure BxR (w : World) (lo hi : Nat) (t : TypeId) (p : Value) (cs : List Value) : Prop where
  own : Bx w lo t p cs
  top : ∀ k, blk p = some k → k < hi
theorem BxR.ext {w' : World} {t : TypeId} {p : Value} {cs : List Value} (h : BxR w lo hi t p cs) (he : Ext w w') : BxR w' lo hi t p cs := ⟨h.own.ext he, h.top⟩
theorem BxR.chg {w' : World} {lo' hi' : Nat} {t : TypeId} {p : Value} {cs : List Value} (h : BxR w lo hi t p cs) (hc : Chg lo' hi' w w') (hd : hi ≤ lo' ∨ hi' ≤ lo) : BxR w' lo hi t p cs := by
  obtain ⟨⟨g, h1, h2, h3⟩, ht⟩ := h
  have ht' := ht
  subst h1
  have := ht g rfl
  exact ⟨⟨g, rfl, h2, by rw [hc.block g (heap_lt h3) (by omega)]; exact h3⟩, ht⟩
theorem BxR.of {t : TypeId} {p : Value} {cs : List Value} (h : Bx w lo t p cs) : BxR w lo w.heap.size t p cs := ⟨h, fun k hk => (h.blk_lt hk).2⟩
theorem BxR.grown {w' : World} {t : TypeId} {p : Value} {cs : List Value} (h : BxR w lo hi t p cs) (hg : w.grownBy w' (blk p)) : Chg lo hi w w' := Chg.grown hg fun k hk => ⟨(h.own.blk_lt hk).1, h.top k hk⟩

/-! ### lists of floats -/
abbrev A_Float32S := FS
abbrev I_Float32S := FS
def O_Float32S (w : World) (lo hi : Nat) (v : Value) (l : List Nat) : Prop := OwnR w lo hi t_float32 1 v l.length (l.map fl) ∧ ∀ b ∈ l, b < 4294967296
theorem O_Float32S.ext {l : List Nat} {w' : World} (h : O_Float32S w lo hi v l) (he : Ext w w') : O_Float32S w' lo hi v l := ⟨h.1.ext he, h.2⟩
theorem O_Float32S.chg {l : List Nat} {w' : World} {lo' hi' : Nat} (h : O_Float32S w lo hi v l) (hc : Chg lo' hi' w w') (hd : hi ≤ lo' ∨ hi' ≤ lo) : O_Float32S w' lo hi v l := ⟨h.1.chg hc hd, h.2⟩
theorem O_Float32S.I {l : List Nat} (h : O_Float32S w lo hi v l) : I_Float32S w v l := OS.FS h.1.own h.2
def sz_Float32S (l : List Nat) : Nat := l.length
def cnt_Float32S (l : List Nat) : Nat := l.length
def mk_Float32S (k : Int) (l : List Nat) : List Nat := mk k l.length
theorem cnt_sz_Float32S (l : List Nat) : cnt_Float32S l ≤ sz_Float32S l := Nat.le_refl _
theorem len_Float32S {l : List Nat} (h : A_Float32S w v l) {ty : TypeId} {K : Value → Prop} : bl0 P .len #[t_s_float32] ty [v] w K = K (.int .i64 (sz_Float32S l)) := h.row.len u_s_float32
/-! ### matrices -/
def A_Float32SS (w : World) (v : Value) (m : List (List Nat)) : Prop := FSS w v m ∧ bits m
abbrev I_Float32SS := A_Float32SS
theorem A_Float32SS.ext {m : List (List Nat)} {w' : World} (h : A_Float32SS w v m) (he : Ext w w') : A_Float32SS w' v m := ⟨h.1.ext he, h.2⟩
def O_Float32SS (w : World) (lo hi : Nat) (v : Value) (m : List (List Nat)) : Prop := (∃ vs, OM w lo hi v m vs) ∧ bits m
theorem O_Float32SS.ext {m : List (List Nat)} {w' : World} (h : O_Float32SS w lo hi v m) (he : Ext w w') : O_Float32SS w' lo hi v m := ⟨let ⟨vs, h⟩ := h.1; ⟨vs, h.ext he⟩, h.2⟩
theorem O_Float32SS.chg {m : List (List Nat)} {w' : World} {lo' hi' : Nat} (h : O_Float32SS w lo hi v m) (hc : Chg lo' hi' w w') (hd : hi ≤ lo' ∨ hi' ≤ lo) : O_Float32SS w' lo hi v m := ⟨let ⟨vs, h⟩ := h.1; ⟨vs, h.chg hc hd⟩, h.2⟩
theorem O_Float32SS.I {m : List (List Nat)} (h : O_Float32SS w lo hi v m) : I_Float32SS w v m := ⟨let ⟨_, h1⟩ := h.1; h1.FSS h.2, h.2⟩
def sz_Float32SS (m : List (List Nat)) : Nat := m.length + total m
def cnt_Float32SS (m : List (List Nat)) : Nat := total m
def mk_Float32SS (k : Int) (m : List (List Nat)) : List (List Nat) := mkM k m
theorem cnt_sz_Float32SS (m : List (List Nat)) : cnt_Float32SS m ≤ sz_Float32SS m := by unfold cnt_Float32SS sz_Float32SS; omega
end Go.Proofs.YtabgkpfcpncmhaaGreat

/- From a row's reading of its arguments to what the contracts ask. -/
set_option linter.unusedVariables false
namespace Go.Proofs.YtabgkpfcpncmhaaGreat
open Go Go.Vc
open Go.ChangeShapes Go.WideShapes Go.ChangeAt

section
variable {H : Type} {enc : TypeId × Value → H} {w : World} {base : Nat} {spare : Nat → Bool} {held : Bool} {fuel : Nat}

theorem trod_float {t : TypeId} {k : FloatKind} {cs : List Value} {x : DataW H × List MemPlace} (ht : P.underlying t = some (.float k)) (h : DataW.trod enc P w base spare held fuel t cs = some x) : ∃ b, cs = [.float k b] ∧ (Lit.float k b).wf = true := by
  cases fuel with
  | zero => simp [DataW.trod] at h
  | succ n =>
    unfold DataW.trod at h
    rw [ht] at h
    split at h <;> simp_all

theorem open_row {t e : TypeId} {v : Value} {x : DataW H × List MemPlace} (hu : P.underlying t = some (.slice e)) (hc : P.cellsOf e = 1) (h : DataW.trod enc P w base (fun _ => true) held fuel t [v] = some x) :
    ∃ (n : Nat) (vs : List Value), Row 1 w v n vs ∧ ∀ (i : Nat) (u : Value), vs[i]? = some u → ∃ m y, DataW.trod enc P w base (fun _ => true) held m e [u] = some y := by
  rcases Deep.open_slice1 hu hc h with ⟨hcs, _⟩ | ⟨a, len, cap, m, k, V, D, Pl, hcs, hb, hl, hm, hmm, _, hx⟩
  · obtain rfl : v = .slice none 0 0 := by simpa using hcs
    exact ⟨0, [], Row.nil 1 w, fun i u hu => by simp at hu⟩
  · obtain rfl : v = .slice (some a) len cap := by simpa using hcs
    simp only [if_true] at hmm
    subst hmm
    refine ⟨len, (List.range len).map V, ⟨by simp, by omega, some a, _, rfl, fun hn => ?_⟩, fun i u hu => ?_⟩
    · have h0 := (hx 0 (by omega)).1
      obtain ⟨b, o, sp⟩ := a
      have hsp : sp = none := by
        have := World.cell?_spot h0
        simpa [Addr.add] using this
      subst hsp
      refine ⟨b, o, rfl, fun j u hu => ?_⟩
      have hj : j < len := by
        have := (List.getElem?_eq_some_iff.1 hu).1
        simpa using this
      have := (hx j (by omega)).1
      rw [Addr.add_lit] at this
      rw [this]
      simp [hj] at hu
      rw [hu]
    · have hj : i < len := by
        have := (List.getElem?_eq_some_iff.1 hu).1
        simpa using this
      simp [hj] at hu
      subst hu
      exact ⟨k, _, (hx i (by omega)).2⟩

theorem cells_float32 : P.cellsOf t_float32 = 1 := by kernel_rfl
theorem cells_s_float32 : P.cellsOf t_s_float32 = 1 := by kernel_rfl

/-- From 'each is some f ..' to one list. -/
theorem list_of {α β : Type} {p : α → β → Prop} : ∀ {l : List α}, (∀ (i : Nat) (u : α), l[i]? = some u → ∃ b, p u b) → ∃ bs : List β, bs.length = l.length ∧ ∀ (i : Nat) (u : α), l[i]? = some u → ∃ b, bs[i]? = some b ∧ p u b
  | [], _ => ⟨[], rfl, fun i u h => by simp at h⟩
  | a :: l, h => by
    obtain ⟨b, hb⟩ := h 0 a rfl
    obtain ⟨bs, h1, h2⟩ := list_of (l := l) (fun i u hu => h (i + 1) u (by simpa using hu))
    refine ⟨b :: bs, by simp [h1], fun i u hu => ?_⟩
    cases i with
    | zero => simp at hu; subst hu; exact ⟨b, rfl, hb⟩
    | succ i => obtain ⟨c, hc1, hc2⟩ := h2 i u (by simpa using hu); exact ⟨c, by simpa using hc1, hc2⟩

theorem open_FS {v : Value} {x : DataW H × List MemPlace} (h : DataW.trod enc P w base (fun _ => true) held fuel t_s_float32 [v] = some x) : ∃ l, FS w v l := by
  obtain ⟨n, vs, hrow, hel⟩ := open_row u_s_float32 cells_float32 h
  obtain ⟨bs, h1, h2⟩ := list_of (p := fun u b => u = fl b ∧ b < 4294967296) (l := vs) (fun i u hu => by
    obtain ⟨m, y, hy⟩ := hel i u hu
    obtain ⟨b, hb, hw⟩ := trod_float u_float32 hy
    refine ⟨b, by simpa using hb, ?_⟩
    simpa [Lit.wf] using hw)
  have hn : bs.length = n := by have := hrow.1; omega
  have hmap : vs = bs.map fl := by
    apply List.ext_getElem?
    intro i
    cases hi : vs[i]? with
    | none =>
      rw [List.getElem?_eq_none_iff] at hi
      exact (List.getElem?_eq_none_iff.2 (by simp; omega)).symm
    | some u =>
      obtain ⟨b, hb, rfl, _⟩ := h2 i u hi
      simp [hb]
  refine ⟨bs, ?_, fun b hb => ?_⟩
  · rw [hn, ← hmap]; exact hrow
  · obtain ⟨i, hi, rfl⟩ := List.getElem_of_mem hb
    have hi' : i < vs.length := by omega
    obtain ⟨b', hb', _, hlt⟩ := h2 i vs[i] (by simp [hi'])
    rw [List.getElem?_eq_getElem hi] at hb'
    cases hb'; exact hlt

theorem open_FSS {v : Value} {x : DataW H × List MemPlace} (h : DataW.trod enc P w base (fun _ => true) held fuel t_s_s_float32 [v] = some x) : ∃ m, FSS w v m ∧ bits m := by
  obtain ⟨n, vs, hrow, hel⟩ := open_row u_s_s_float32 cells_s_float32 h
  obtain ⟨bs, h1, h2⟩ := list_of (p := fun u l => FS w u l) (l := vs) (fun i u hu => by
    obtain ⟨m, y, hy⟩ := hel i u hu
    exact open_FS hy)
  have hn : bs.length = n := by have := hrow.1; omega
  refine ⟨bs, ⟨vs, by rw [hn]; exact hrow, fun i hi => ?_⟩, fun r hr => ?_⟩
  · have hi' : i < vs.length := by omega
    obtain ⟨l, hl, hf⟩ := h2 i vs[i] (by simp [hi'])
    rw [List.getElem?_eq_getElem hi] at hl
    cases hl
    exact ⟨_, by simp [hi'], hf⟩
  · obtain ⟨i, hi, rfl⟩ := List.getElem_of_mem hr
    have hi' : i < vs.length := by omega
    obtain ⟨l, hl, hf⟩ := h2 i vs[i] (by simp [hi'])
    rw [List.getElem?_eq_getElem hi] at hl
    cases hl
    exact hf.lt
end

theorem FS.N {w : World} {v : Value} {l : List Nat} (h : FS w v l) : FS (N w) v l := ⟨h.row, h.lt⟩
theorem FSS.N {w : World} {v : Value} {m : List (List Nat)} (h : FSS w v m) : FSS (Vc.N w) v m := by
  obtain ⟨vs, h1, h2⟩ := h.ex
  exact ⟨vs, h1, fun i hi => let ⟨x, hx, hf⟩ := h2 i hi; ⟨x, hx, hf.N⟩⟩
theorem open_Float32S {H : Type} {enc : TypeId × Value → H} {w : World} {base : Nat} {held : Bool} {fuel : Nat} {v : Value} {x : DataW H × List MemPlace} (h : DataW.trod enc P w base (fun _ => true) held fuel t_s_float32 [v] = some x) : ∃ l, A_Float32S w v l := open_FS h
theorem open_Float32SS {H : Type} {enc : TypeId × Value → H} {w : World} {base : Nat} {held : Bool} {fuel : Nat} {v : Value} {x : DataW H × List MemPlace} (h : DataW.trod enc P w base (fun _ => true) held fuel t_s_s_float32 [v] = some x) : ∃ l, A_Float32SS w v l := open_FSS h
theorem A_Float32SS.N {w : World} {v : Value} {m : List (List Nat)} (h : A_Float32SS w v m) : A_Float32SS (Vc.N w) v m := ⟨h.1.N, h.2⟩
theorem below_N {w c : World} (h : Ext (Vc.N w) (Vc.N c)) : RowKit.Below w.heap.size w c := by
  have h1 := RowKit.Below.os h
  have h2 := RowKit.Below.tape h
  have h3 := RowKit.Below.output h
  have h4 := Ext.size h
  have h5 := Ext.block h
  exact ⟨h1, h2, h3, h4, h5⟩

theorem own : ownKnob P.godebug = none := by kernel_rfl
theorem laidOut : laidOutB P = true := by kernel_rfl

/-- A call that is known to end well, as the row wants it. -/
theorem calls_of {f : FuncId} {fn : Func} {args : List Value} {w : World} {K : Value → World → Prop} (hf : P.funcs[f]? = some fn) (hn : (fn.name == "runtime.NumGoroutine") = false) (hb : fn.body.isSome = true) (h : call P f args (N w) K) :
    Calls P f args.toArray w (fun e w' => ∃ v, e = .returned v ∧ K v (N w')) := by
  obtain ⟨n, c', hr, hk⟩ := h w rfl
  have hn' : ¬ fn.name = "runtime.NumGoroutine" := by simpa using hn
  cases hbb : fn.body with
  | none => rw [hbb] at hb; cases hb
  | some c =>
    have : (callFunc f args.toArray).run P w = .ok (.enter f args.toArray) w := by simp [callFunc, program, Sem.run, hf, hn', hbb]
    rw [this] at hr
    cases hr
    exact hk w rfl

end Go.Proofs.YtabgkpfcpncmhaaGreat

/- Contracts: magnitudes in digits of 32 bits. -/
set_option linter.unusedVariables false
namespace Go.Proofs.YtabgkpfcpncmhaaGreat
open Go Go.Vc

variable {w : World} {K : Value → World → Prop}


/-- Digits of a natural number, read; of one's own. -/
def Mg (w : World) (v : Value) (n : Nat) : Prop := ∃ l, IR .u32 w v l ∧ Norm 4294967296 l ∧ val 4294967296 l = n ∧ Ty w v.ownBlock t_uint32
def MgO (w : World) (base : Nat) (v : Value) (n : Nat) : Prop := ∃ l, OD .u32 t_uint32 w base v l ∧ Norm 4294967296 l ∧ val 4294967296 l = n
theorem Ty_ext {w w' : World} {k : Option Nat} {e : TypeId} (h : Ty w k e) (he : Ext w w') : Ty w' k e := fun b hb => let ⟨c, f, hc⟩ := h b hb; ⟨c, f, by rw [he.block b (heap_lt hc)]; exact hc⟩
theorem Ty_none (w : World) (e : TypeId) : Ty w none e := fun b hb => by cases hb
theorem MgO.Mg {base n : Nat} {v : Value} (h : MgO w base v n) : Mg w v n := let ⟨l, h1, h2, h3⟩ := h; ⟨l, h1.IR, h2, h3, Ty.owns h1⟩
theorem Mg.ext {w' : World} {n : Nat} {v : Value} (h : Mg w v n) (he : Ext w w') : Mg w' v n := let ⟨l, h1, h2, h3, h4⟩ := h; ⟨l, h1.ext he, h2, h3, Ty_ext h4 he⟩
theorem Mg.nil (w : World) : Mg w (.slice none 0 0) 0 := ⟨[], IR.nil _ _, Norm.nil _, rfl, Ty_none _ _⟩
theorem MgO.nil (w : World) (base : Nat) : MgO w base (.slice none 0 0) 0 := ⟨[], OD.nil _ _ _ _, Norm.nil _, rfl⟩
theorem MgO.ext {w' : World} {base n : Nat} {v : Value} (h : MgO w base v n) (he : Ext w w') : MgO w' base v n := let ⟨l, h1, h2, h3⟩ := h; ⟨l, owns_ext h1 he, h2, h3⟩
theorem MgO.low {base base' n : Nat} {v : Value} (h : MgO w base v n) (hb : base' ≤ base) : MgO w base' v n := let ⟨l, h1, h2, h3⟩ := h; ⟨l, owns_base h1 hb, h2, h3⟩

theorem dig_len {l : List Nat} (h : Norm 4294967296 l) (hb : bl (val 4294967296 l) ≤ 1099511627776) : l.length ≤ 34359738369 := by
  have := (Norm.len_le (s := 32) (by decide) h).1
  have e : val (2 ^ 32) l = val 4294967296 l := rfl
  rw [e] at this
  omega

/-! ### arithmetic of words -/
theorem w_u32 (x : Nat) : IntKind.u32.wrap (x : Int) = ((x % 4294967296 : Nat) : Int) := by simp [IntKind.wrap, IntKind.bits, IntKind.signed]
theorem w_u64 (x : Nat) : IntKind.u64.wrap (x : Int) = ((x % 18446744073709551616 : Nat) : Int) := by simp [IntKind.wrap, IntKind.bits, IntKind.signed]
theorem w_u64' {x : Nat} (h : x < 18446744073709551616) : IntKind.u64.wrap (x : Int) = (x : Int) := by rw [w_u64, Nat.mod_eq_of_lt h]
section
variable {t : TypeId} {cx cy : Bool} {k yk : IntKind} {a b s : Nat} {c : Int} {K : Value → Prop}
theorem bin_shrN (hs : s ≤ k.bits) (hc : c = (s : Int) := by rfl) : bin P .shr t cx cy (.int k (a : Int)) (.int yk c) w K = K (.int k ((a / 2 ^ s : Nat) : Int)) := by
  subst hc
  rw [bin_shr _ _ _ _ _ _ _ _ (by omega)]
  congr 2
  have e : min ((s : Int).toNat) k.bits = s := by rw [Int.toNat_natCast]; omega
  rw [e, Int.fdiv_eq_ediv_of_nonneg _ (Int.pow_nonneg (by decide))]
  simp
theorem bin_addN (h : a + b < 18446744073709551616) : bin P .add t cx cy (.int .u64 (a : Int)) (.int .u64 (b : Int)) w K = K (.int .u64 ((a + b : Nat) : Int)) := by
  rw [bin_add, show (a : Int) + b = ((a + b : Nat) : Int) by omega, w_u64' h]
theorem bin_mulN (h : a * b < 18446744073709551616) : bin P .mul t cx cy (.int .u64 (a : Int)) (.int .u64 (b : Int)) w K = K (.int .u64 ((a * b : Nat) : Int)) := by
  rw [bin_mul, show (a : Int) * b = ((a * b : Nat) : Int) by simp, w_u64' h]
theorem bin_addI (h : a + b ≤ 9223372036854775807) : bin P .add t cx cy (.int .i64 (a : Int)) (.int .i64 (b : Int)) w K = K (.int .i64 ((a + b : Nat) : Int)) := by
  rw [bin_add, show (a : Int) + b = ((a + b : Nat) : Int) by omega, wrap_i64 (by omega) (by omega)]
theorem bin_addI1 (h : a + b ≤ 9223372036854775807) (hc : c = (b : Int) := by rfl) : bin P .add t cx cy (.int .i64 (a : Int)) (.int .i64 c) w K = K (.int .i64 ((a + b : Nat) : Int)) := by
  subst hc; exact bin_addI h
theorem bin_subI1 (h : b ≤ a) (ha : a ≤ 9223372036854775807) (hc : c = (b : Int) := by rfl) : bin P .sub t cx cy (.int .i64 (a : Int)) (.int .i64 c) w K = K (.int .i64 ((a - b : Nat) : Int)) := by
  subst hc
  rw [bin_sub, show (a : Int) - b = ((a - b : Nat) : Int) by omega, wrap_i64 (by omega) (by omega)]
theorem cnv_32_64 : cnv P t_uint32 t_uint64 (.int .u32 (a : Int)) w K = K (.int .u64 ((a % 18446744073709551616 : Nat) : Int)) := by
  rw [cnv_int_int u_uint32 u_uint64, w_u64]
theorem cnv_32_64' (h : a < 4294967296) : cnv P t_uint32 t_uint64 (.int .u32 (a : Int)) w K = K (.int .u64 (a : Int)) := by
  rw [cnv_32_64, Nat.mod_eq_of_lt (by omega)]
theorem cnv_64_32 : cnv P t_uint64 t_uint32 (.int .u64 (a : Int)) w K = K (.int .u32 ((a % 4294967296 : Nat) : Int)) := by
  rw [cnv_int_int u_uint64 u_uint32, w_u32]
end

/-! ### cutting zeros -/
theorem trim_snoc_zero : ∀ l : List Nat, trim (l ++ [0]) = trim l
  | [] => by simp [trim]
  | d :: l => by rw [List.cons_append, trim, trim, trim_snoc_zero l]
theorem trim_last {l : List Nat} (h : l.getLast? ≠ some 0) : trim l = l := by
  induction l with
  | nil => rfl
  | cons d l ih =>
    rw [trim]
    cases l with
    | nil =>
      have : d ≠ 0 := by simpa using h
      rw [if_neg (fun q => this q.1)]; rfl
    | cons e l =>
      have h' : (e :: l).getLast? ≠ some 0 := by simpa using h
      rw [ih h', if_neg (fun q => by simp at q)]

theorem c_magTrim {v : Value} {l : List Nat} (h : IR .u32 w v l)
    (H : ∀ v', IR .u32 w v' (trim l) → (∀ base, OD .u32 t_uint32 w base v l → OD .u32 t_uint32 w base v' (trim l)) → (v'.ownBlock = none ∨ v'.ownBlock = v.ownBlock) → K v' w) : call P f_impl_magTrim [v] w K := by
  refine I_impl_magTrim ?_
  unfold D_impl_magTrim
  have hb := h.bound
  refine ⟨fun m x w' => w' = w ∧ m ≤ l.length ∧ IR .u32 w x (l.take m) ∧ (∀ base, OD .u32 t_uint32 w base v l → OD .u32 t_uint32 w base x (l.take m)) ∧ trim (l.take m) = trim l ∧ (x.ownBlock = none ∨ x.ownBlock = v.ownBlock),
    ⟨l.length, rfl, Nat.le_refl _, by rw [List.take_length]; exact h, fun base ho => by rw [List.take_length]; exact ho, by rw [List.take_length], .inr rfl⟩, ?_⟩
  rintro m x junk w' ⟨rfl, hm, hx, ho, ht, hbk⟩
  have hl : (l.take m).length = m := by rw [List.length_take]; omega
  rw [hx.row.len u_s_uint32, bin_gtr, hl]
  refine ⟨_, fun _ _ _ h => h, ?_⟩
  have fin : (l.take m).getLast? ≠ some 0 → K x w' := fun hz => by
    rw [trim_last hz] at ht
    exact H x (by rw [← ht]; exact hx) (fun base hq => by rw [← ht]; exact ho base hq) hbk
  refine grd_split (fun h1 => ?_) (fun h1 => ?_)
  · simp only [decide_eq_true_eq] at h1
    have hm0 : 0 < m := by omega
    rw [hx.row.len u_s_uint32, hl, bin_subI1 (b := 1) (by omega) (by omega)]
    have hi : m - 1 < (l.take m).length := by omega
    refine hx.at hi u_s_uint32 i_uint32 u_uint32 ?_
    rw [bin_eql, pick_bool]
    have hlast : (l.take m).getLast? = some (l.take m)[m - 1] := by
      rw [List.getLast?_eq_getElem?, hl]; exact List.getElem?_eq_getElem hi
    have htk : l.take m = l.take (m - 1) ++ [(l.take m)[m - 1]] := by
      have := List.take_succ_eq_append_getElem (l := l) (i := m - 1) (by omega)
      rw [show m - 1 + 1 = m by omega] at this
      rw [List.getElem_take]; exact this
    rw [decide_eq_true h1, cond_true]
    refine cnd_dec (fun hz => ?_) (fun hz => ?_)
    · have hz' : (l.take m)[m - 1] = 0 := by simpa using hz
      rw [hz'] at htk
      rw [hx.row.len u_s_uint32, hl, bin_subI1 (b := 1) (by omega) (by omega)]
      refine Row.sli_h hx.row hx.cap u_s_uint32 i_uint32 (by omega) fun v' r1 r2 r3 r4 => ?_
      have htt : (l.take m).take (m - 1) = l.take (m - 1) := by rw [List.take_take]; congr 1; omega
      have hl' : (l.take (m - 1)).length = m - 1 := by rw [List.length_take]; omega
      rw [← List.map_take, htt] at r1 r3
      refine ⟨m - 1, by omega, rfl, by omega, ⟨by rw [hl']; exact r1, r2⟩, fun base hq => ?_, ?_, ?_⟩
      · have := r3 base (ho base hq)
        unfold OD; rw [hl']; exact this
      · rw [← ht, htk, trim_snoc_zero]
      · rcases r4 with rfl | r4
        · exact .inl rfl
        · rw [r4]; exact hbk
    · exact fin (by rw [hlast]; simpa using hz)
  · rw [h1, Bool.not_true, pick_bool]
    simp only [Bool.not_true, decide_eq_false_iff_not] at h1
    have hm0 : m = 0 := by omega
    subst hm0
    exact fin (by simp)

theorem Norm_trim {l : List Nat} (h : Dig 4294967296 l) : Norm 4294967296 (trim l) := Norm.trim h
/-- What has been made, trimmed. -/
theorem c_trimO {base : Nat} {v : Value} {l : List Nat} (h : OD .u32 t_uint32 w base v l) (hd : Dig 4294967296 l) (H : ∀ v', MgO w base v' (val 4294967296 l) → K v' w) : call P f_impl_magTrim [v] w K :=
  c_magTrim h.IR fun v' h1 h2 _ => H v' ⟨trim l, h2 base h, Norm.trim hd, val_trim _ _⟩

/-! ### comparing -/
def cmpN (a b : Nat) : Int := if a < b then -1 else if b < a then 1 else 0
theorem c_isNaN_int {v : Value} {a : Int} (H : K (.bool false) w) : call P f_cmp_isNaN_int [.int .i64 a] w K := by
  refine I_cmp_isNaN_int ?_
  unfold D_cmp_isNaN_int
  rw [bin_neq]; simpa using H
theorem c_isNaN_u32 {v : Value} {a : Int} (H : K (.bool false) w) : call P f_cmp_isNaN_uint32 [.int .u32 a] w K := by
  refine I_cmp_isNaN_uint32 ?_
  unfold D_cmp_isNaN_uint32
  rw [bin_neq]; simpa using H
theorem c_Compare_int {a b : Nat} (H : K (.int .i64 (cmpN a b)) w) : call P f_cmp_Compare_int [.int .i64 (a : Int), .int .i64 (b : Int)] w K := by
  refine I_cmp_Compare_int ?_
  unfold D_cmp_Compare_int
  refine c_isNaN_int (v := undef) (c_isNaN_int (v := undef) ?_)
  rw [cnd_false, cnd_false, bin_lss]
  unfold cmpN at H
  refine cnd_dec (fun h => ?_) (fun h => ?_)
  · rw [if_pos (by omega)] at H; exact H
  · rw [if_neg (by omega)] at H
    rw [bin_gtr]
    refine cnd_dec (fun h => ?_) (fun h => ?_)
    · rw [if_pos (by omega)] at H; exact H
    · rw [if_neg (by omega)] at H; exact H
theorem c_Compare_u32 {a b : Nat} (H : K (.int .i64 (cmpN a b)) w) : call P f_cmp_Compare_uint32 [.int .u32 (a : Int), .int .u32 (b : Int)] w K := by
  refine I_cmp_Compare_uint32 ?_
  unfold D_cmp_Compare_uint32
  refine c_isNaN_u32 (v := undef) (c_isNaN_u32 (v := undef) ?_)
  rw [cnd_false, cnd_false, bin_lss]
  unfold cmpN at H
  refine cnd_dec (fun h => ?_) (fun h => ?_)
  · rw [if_pos (by omega)] at H; exact H
  · rw [if_neg (by omega)] at H
    rw [bin_gtr]
    refine cnd_dec (fun h => ?_) (fun h => ?_)
    · rw [if_pos (by omega)] at H; exact H
    · rw [if_neg (by omega)] at H; exact H
theorem cmpN_len {b : Nat} {l r : List Nat} (hl : Norm b l) (hr : Norm b r) (h : l.length ≠ r.length) : cmpN (val b l) (val b r) = cmpN l.length r.length := by
  unfold cmpN
  rcases Nat.lt_or_gt_of_ne h with h | h
  · rw [if_pos h, if_pos (val_lt_len hl.1 hr h)]
  · have := val_lt_len hr.1 hl h
    rw [if_neg (show ¬ val b l < val b r by omega), if_pos this, if_neg (show ¬ l.length < r.length by omega), if_pos h]
theorem cmpN_dig {b : Nat} {l r : List Nat} {i : Nat} (hl : Dig b l) (hr : Dig b r) (hlen : l.length = r.length) (hi : i < l.length) (hd : l.drop (i + 1) = r.drop (i + 1)) (h : l[i] ≠ r[i]'(by omega)) : cmpN (val b l) (val b r) = cmpN l[i] (r[i]'(by omega)) := by
  unfold cmpN
  rcases Nat.lt_or_gt_of_ne h with h | h
  · rw [if_pos h, if_pos (val_cmp hl hlen hi hd h)]
  · have := val_cmp hr hlen.symm (by omega) hd.symm h
    rw [if_neg (show ¬ val b l < val b r by omega), if_pos this, if_neg (show ¬ l[i] < r[i] by omega), if_pos h]
theorem c_magCmp {u v : Value} {a b : Nat} (ha : Mg w u a) (hb : Mg w v b) (H : K (.int .i64 (cmpN a b)) w) : call P f_impl_magCmp [u, v] w K := by
  obtain ⟨l, h1, n1, rfl, _⟩ := ha
  obtain ⟨r, h2, n2, rfl, _⟩ := hb
  refine I_impl_magCmp ?_
  unfold D_impl_magCmp
  have b1 := h1.bound
  have b2 := h2.bound
  rw [h1.row.len u_s_uint32, h2.row.len u_s_uint32, bin_neq]
  refine cnd_dec (fun h => ?_) (fun h => ?_)
  · rw [h1.row.len u_s_uint32, h2.row.len u_s_uint32]
    rw [cmpN_len n1 n2 (by omega)] at H
    exact c_Compare_int H
  · have hlen : l.length = r.length := by omega
    rw [h1.row.len u_s_uint32, bin_sub, wrap_i64 (by omega) (by omega)]
    refine ⟨fun m x w' => w' = w ∧ x = .int .i64 ((m : Int) - 1) ∧ m ≤ l.length ∧ l.drop m = r.drop m, ⟨l.length, rfl, rfl, Nat.le_refl _, by rw [List.drop_length, hlen, List.drop_length]⟩, ?_⟩
    rintro m x junk w' ⟨rfl, rfl, hm, hd⟩
    rw [bin_geq]
    refine cnd_dec (fun hge => ?_) (fun hlt => ?_)
    · have hm0 : 0 < m := by omega
      rw [show (m : Int) - 1 = ((m - 1 : Nat) : Int) by omega]
      refine h1.at (i := m - 1) (by omega) u_s_uint32 i_uint32 u_uint32 ?_
      refine h2.at (i := m - 1) (by omega) u_s_uint32 i_uint32 u_uint32 ?_
      rw [bin_neq]
      refine cnd_dec (fun hne => ?_) (fun heq => ?_)
      · refine h1.at (i := m - 1) (by omega) u_s_uint32 i_uint32 u_uint32 ?_
        refine h2.at (i := m - 1) (by omega) u_s_uint32 i_uint32 u_uint32 ?_
        rw [cmpN_dig (i := m - 1) n1.1 n2.1 hlen (by omega) (by rw [show m - 1 + 1 = m by omega]; exact hd) (by omega)] at H
        exact c_Compare_u32 H
      · rw [bin_sub, wrap_i64 (by omega) (by omega)]
        refine ⟨m - 1, by omega, rfl, by congr 1, by omega, ?_⟩
        rw [List.drop_eq_getElem_cons (by omega : m - 1 < l.length), List.drop_eq_getElem_cons (by omega : m - 1 < r.length), show m - 1 + 1 = m by omega, hd]
        congr 1; omega
    · have hm0 : m = 0 := by omega
      subst hm0
      have : l = r := by simpa using hd
      subst this
      unfold cmpN at H
      rw [if_neg (by omega), if_neg (by omega)] at H
      exact H
end Go.Proofs.YtabgkpfcpncmhaaGreat

/- Contracts: sums, differences, products and shifts of magnitudes. -/
set_option linter.unusedVariables false
namespace Go.Proofs.YtabgkpfcpncmhaaGreat
open Go Go.Vc

variable {w : World} {K : Value → World → Prop}

theorem val_take_succD (b : Nat) (l : List Nat) (i : Nat) : val b (l.take (i + 1)) = val b (l.take i) + b ^ i * l.getD i 0 := by
  by_cases h : i < l.length
  · rw [val_take_succ b h, List.getD_eq_getElem?_getD]; simp [h]
  · rw [List.take_of_length_le (by omega), List.take_of_length_le (by omega), List.getD_eq_getElem?_getD]; simp [show l.length ≤ i by omega]
theorem take_set {l : List Nat} {i x : Nat} (h : i < l.length) : (l.set i x).take (i + 1) = l.take i ++ [x] := by
  rw [List.take_succ_eq_append_getElem (by simpa using h)]
  simp [List.take_set_of_le]
theorem val_set_take (b : Nat) {l : List Nat} {i x : Nat} (h : i < l.length) : val b ((l.set i x).take (i + 1)) = val b (l.take i) + b ^ i * x := by
  rw [take_set h, val_snoc, List.length_take, Nat.min_eq_left (by omega)]
theorem Dig_set {b : Nat} {l : List Nat} {i x : Nat} (h : Dig b l) (hx : x < b) : Dig b (l.set i x) := fun d hd => by
  rcases List.mem_or_eq_of_mem_set hd with h1 | h1
  · exact h d h1
  · omega
theorem Dig_rep (b n : Nat) (hb : 0 < b) : Dig b (List.replicate n 0) := fun d hd => by rw [List.mem_replicate] at hd; omega
theorem Dig_get {b : Nat} {l : List Nat} (h : Dig b l) {i : Nat} (hi : i < l.length) : l[i] < b := h _ (List.getElem_mem hi)
theorem getD_get {l : List Nat} {i : Nat} (hi : i < l.length) : l.getD i 0 = l[i] := by rw [List.getD_eq_getElem?_getD]; simp [hi]

theorem len_eq_of {b : Nat} {l r : List Nat} (hl : Norm b l) (hr : Norm b r) (h : val b l = val b r) : l = r := val_inj hl hr h
theorem len_mono {b : Nat} {l r : List Nat} (hl : Norm b l) (hr : Norm b r) (h : val b r ≤ val b l) : r.length ≤ l.length := by
  rw [← Nat.not_lt]
  intro hc
  have := val_lt_len hl.1 hr hc
  omega

theorem pB (i : Nat) : (4294967296 : Nat) ^ (i + 1) = 4294967296 ^ i * 4294967296 := Nat.pow_succ ..
theorem step_add {V L R p c a b s : Nat} (hv : V + c * p = L + R) (hs : s = c + a + b) : V + p * (s % 4294967296) + s / 4294967296 * (p * 4294967296) = L + p * a + (R + p * b) := by
  have h := Nat.div_add_mod s 4294967296
  have h2 : p * (4294967296 * (s / 4294967296) + s % 4294967296) = p * (c + a + b) := by rw [h, hs]
  grind
theorem step_sub32 {V L R p c a b s s0 s1 : Nat} (hv : V + R = L + c * p) (hs : s = c + b) (hk : s0 + s = a + s1 * 4294967296) : V + p * s0 + (R + p * b) = L + p * a + s1 * (p * 4294967296) := by
  have h2 : p * (s0 + s) = p * (a + s1 * 4294967296) := by rw [hk]
  rw [hs] at h2
  grind
/-- One's own row, changed: the rest stays. -/
theorem own_step {k : IntKind} {e : TypeId} {w w1 w2 : World} {v : Value} {l : List Nat} (he : Ext w w1) (ho : OD k e w1 w.heap.size v l) (hg : w1.grownBy w2 v.ownBlock) : Ext w w2 :=
  ext_of_grown he (fun g hg' => (ho.lt g hg').1) hg

theorem c_magAdd {u v : Value} {a b : Nat} (ha : Mg w u a) (hb : Mg w v b) (ba : bl a ≤ 1099511627776) (bb : bl b ≤ 1099511627776)
    (H : ∀ v' w', Ext w w' → MgO w' w.heap.size v' (a + b) → K v' w') : call P f_impl_magAdd [u, v] w K := by
  have main : ∀ {u v : Value} {l r : List Nat}, IR .u32 w u l → IR .u32 w v r → Dig 4294967296 l → Dig 4294967296 r → r.length ≤ l.length → l.length ≤ 34359738369 → (∀ v' w', Ext w w' → MgO w' w.heap.size v' (val 4294967296 l + val 4294967296 r) → K v' w') →
      (bl0 P .len #[t_s_uint32] t_int [u] w fun x17_6 =>
      bin P .add t_int false true x17_6 (.int .i64 1) w fun x18_7 =>
      mks P t_s_uint32 x18_7 x18_7 w fun x19_8 w9 =>
      bl0 P .len #[t_s_uint32] t_int [u] w9 fun x21_10 =>
      ∃ I11 : Nat → Value → Value → World → Prop, (∃ m46, I11 m46 (.int .u64 0) (.int .i64 0) w9) ∧ ∀ (m14 : Nat) (x6_15 : Value) (x22_16 : Value) (junk12 : Env) (w13 : World), I11 m14 x6_15 x22_16 w13 →
        bin P .lss t_int false false x22_16 x21_10 w13 fun x23_17 =>
        cnd x23_17
          (ixa P t_s_uint32 u x22_16 w13 fun x25_18 =>
          ld P t_uint32 x25_18 w13 fun x26_19 =>
          cnv P t_uint32 t_uint64 x26_19 w13 fun x29_20 =>
          bin P .add t_uint64 false false x6_15 x29_20 w13 fun x30_21 =>
          ∃ J22 : Value → World → Prop, (∀ (x6_25 : Value) (junk23 : Env) (w24 : World), J22 x6_25 w24 →
            cnv P t_uint64 t_uint32 x6_25 w24 fun x45_26 =>
            ixa P t_s_uint32 x19_8 x22_16 w24 fun x46_27 =>
            sto P t_uint32 x46_27 x45_26 w24 fun w29 =>
            bin P .shr t_uint64 false true x6_25 (.int .u64 32) w29 fun x48_30 =>
            bin P .add t_int false true x22_16 (.int .i64 1) w29 fun x49_31 =>
            ∃ m32, m32 < m14 ∧ I11 m32 x48_30 x49_31 w29) ∧
            (bl0 P .len #[t_s_uint32] t_int [v] w13 fun x33_33 =>
            bin P .lss t_int false false x22_16 x33_33 w13 fun x34_34 =>
            cnd x34_34
              (ixa P t_s_uint32 v x22_16 w13 fun x38_35 =>
              ld P t_uint32 x38_35 w13 fun x39_36 =>
              cnv P t_uint32 t_uint64 x39_36 w13 fun x40_37 =>
              bin P .add t_uint64 false false x30_21 x40_37 w13 fun x41_38 =>
              J22 x41_38 w13)
              (J22 x30_21 w13)))
          (bl0 P .len #[t_s_uint32] t_int [u] w13 fun x52_39 =>
          cnv P t_uint64 t_uint32 x6_15 w13 fun x54_40 =>
          ixa P t_s_uint32 x19_8 x52_39 w13 fun x55_41 =>
          sto P t_uint32 x55_41 x54_40 w13 fun w43 =>
          call P f_impl_magTrim [x19_8] w43 fun x57_44 w45 =>
          K x57_44 w45)) := by
    intro u v l r h1 h2 d1 d2 hlr hlen H
    rw [h1.row.len u_s_uint32, bin_addI1 (b := 1) (by omega)]
    refine OD.make u_s_uint32 i_uint32 (by omega) (by simp only [maxLen]; omega) fun w1 o ho he => ?_
    rw [(h1.ext he).row.len u_s_uint32]
    refine ⟨fun m x y w' => ∃ (i c : Nat) (q : List Nat), m + i = l.length ∧ x = .int .u64 (c : Int) ∧ y = .int .i64 (i : Int) ∧ Ext w w' ∧ OD .u32 t_uint32 w' w.heap.size o q ∧ q.length = l.length + 1 ∧ Dig 4294967296 q ∧ c ≤ 1 ∧
      val 4294967296 (q.take i) + c * 4294967296 ^ i = val 4294967296 (l.take i) + val 4294967296 (r.take i), ⟨l.length, 0, 0, _, rfl, rfl, rfl, he, ho, by simp, Dig_rep _ _ (by decide), by omega, by simp [val]⟩, ?_⟩
    rintro m x y junk w2 ⟨i, c, q, hm, rfl, rfl, e2, oq, hq, dq, hc, hv⟩
    rw [bin_lss]
    refine cnd_dec (fun hlt => ?_) (fun hge => ?_)
    · have hi : i < l.length := by omega
      refine (h1.ext e2).at hi u_s_uint32 i_uint32 u_uint32 ?_
      have g1 := Dig_get d1 hi
      rw [cnv_32_64' g1, bin_addN (by omega)]
      refine ⟨fun x w' => w' = w2 ∧ ∃ s : Nat, x = .int .u64 (s : Int) ∧ s = c + l[i] + r.getD i 0 ∧ r.getD i 0 < 4294967296, ?_, ?_⟩
      · rintro x junk w3 ⟨rfl, s, rfl, hs, hr⟩
        rw [cnv_64_32]
        refine OD.set oq (by omega) u_s_uint32 i_uint32 fun w4 oq' hg => ?_
        rw [bin_shrN (s := 32) (by decide), bin_addI1 (b := 1) (by omega)]
        refine ⟨m - 1, by omega, i + 1, s / 2 ^ 32, _, by omega, rfl, rfl, own_step e2 oq hg, oq', by simpa using hq, Dig_set dq (Nat.mod_lt _ (by decide)), by omega, ?_⟩
        rw [val_set_take _ (by omega), val_take_succD, val_take_succD, getD_get hi, pB]
        exact step_add hv hs
      · rw [(h2.ext e2).row.len u_s_uint32, bin_lss]
        refine cnd_dec (fun h => ?_) (fun h => ?_)
        · have hi2 : i < r.length := by omega
          refine (h2.ext e2).at hi2 u_s_uint32 i_uint32 u_uint32 ?_
          have g2 := Dig_get d2 hi2
          rw [cnv_32_64' g2, bin_addN (by omega)]
          exact ⟨rfl, _, rfl, by rw [getD_get hi2], by rw [getD_get hi2]; exact g2⟩
        · have : r.getD i 0 = 0 := by rw [List.getD_eq_getElem?_getD]; simp [show r.length ≤ i by omega]
          exact ⟨rfl, _, rfl, by omega, by omega⟩
    · have hi : i = l.length := by omega
      subst hi
      rw [(h1.ext e2).row.len u_s_uint32, cnv_64_32]
      refine OD.set oq (by omega) u_s_uint32 i_uint32 fun w4 oq' hg => ?_
      have hcm : c % 4294967296 = c := Nat.mod_eq_of_lt (by omega)
      rw [hcm] at oq'
      refine c_trimO oq' (Dig_set dq (by omega)) fun v' hv' => ?_
      have e : val 4294967296 (q.set l.length c) = val 4294967296 l + val 4294967296 r := by
        have h3 := val_set_take 4294967296 (l := q) (i := l.length) (x := c) (by omega)
        rw [List.take_of_length_le (by rw [List.length_set]; omega)] at h3
        rw [List.take_of_length_le (by omega : l.length ≤ l.length), List.take_of_length_le (by omega : r.length ≤ l.length)] at hv
        rw [h3, ← hv, Nat.mul_comm]
      rw [e] at hv'
      exact H _ _ (own_step e2 oq hg) hv'
  obtain ⟨l, h1, n1, rfl, _⟩ := ha
  obtain ⟨r, h2, n2, rfl, _⟩ := hb
  have l1 := dig_len n1 ba
  have l2 := dig_len n2 bb
  refine I_impl_magAdd ?_
  unfold D_impl_magAdd
  refine ⟨_, fun _ _ _ _ h => h, ?_⟩
  rw [h1.row.len u_s_uint32, h2.row.len u_s_uint32, bin_lss]
  refine cnd_dec (fun h => ?_) (fun h => ?_)
  · exact main h2 h1 n2.1 n1.1 (by omega) l2 (by rw [Nat.add_comm]; exact H)
  · exact main h1 h2 n1.1 n2.1 (by omega) l1 H

theorem wrap_u64_neg {x : Nat} (h0 : 0 < x) (h : x < 18446744073709551616) : IntKind.u64.wrap (-(x : Int)) = ((18446744073709551616 - x : Nat) : Int) := by
  simp [IntKind.wrap, IntKind.bits, IntKind.signed]; omega
theorem bin_subN {t : TypeId} {cx cy : Bool} {a b : Nat} {K : Value → Prop} (ha : a < 18446744073709551616) (hb : b < 18446744073709551616) : bin P .sub t cx cy (.int .u64 (a : Int)) (.int .u64 (b : Int)) w K = K (.int .u64 (((a + 18446744073709551616 - b) % 18446744073709551616 : Nat) : Int)) := by
  rw [bin_sub]
  congr 2
  by_cases h : b ≤ a
  · rw [show (a : Int) - b = ((a - b : Nat) : Int) by omega, w_u64' (by omega)]; omega
  · rw [show (a : Int) - b = -((b - a : Nat) : Int) by omega, wrap_u64_neg (by omega) (by omega)]; omega

theorem c_magSub {u v : Value} {a b : Nat} (ha : Mg w u a) (hb : Mg w v b) (hle : b ≤ a) (ba : bl a ≤ 1099511627776)
    (H : ∀ v' w', Ext w w' → MgO w' w.heap.size v' (a - b) → K v' w') : call P f_impl_magSub [u, v] w K := by
  obtain ⟨l, h1, n1, rfl, _⟩ := ha
  obtain ⟨r, h2, n2, rfl, _⟩ := hb
  have l1 := dig_len n1 ba
  have hlr := len_mono n1 n2 hle
  have d1 := n1.1
  have d2 := n2.1
  refine I_impl_magSub ?_
  unfold D_impl_magSub
  rw [h1.row.len u_s_uint32]
  refine OD.make u_s_uint32 i_uint32 (by omega) (by simp only [maxLen]; omega) fun w1 o ho he => ?_
  rw [(h1.ext he).row.len u_s_uint32]
  refine ⟨fun m x y w' => ∃ (i c : Nat) (q : List Nat), m + i = l.length ∧ x = .int .u64 (c : Int) ∧ y = .int .i64 (i : Int) ∧ Ext w w' ∧ OD .u32 t_uint32 w' w.heap.size o q ∧ q.length = l.length ∧ Dig 4294967296 q ∧ c ≤ 1 ∧
    val 4294967296 (q.take i) + val 4294967296 (r.take i) = val 4294967296 (l.take i) + c * 4294967296 ^ i, ⟨l.length, 0, 0, _, rfl, rfl, rfl, he, ho, by simp, Dig_rep _ _ (by decide), by omega, by simp [val]⟩, ?_⟩
  rintro m x y junk w2 ⟨i, c, q, hm, rfl, rfl, e2, oq, hq, dq, hc, hv⟩
  rw [bin_lss]
  refine cnd_dec (fun hlt => ?_) (fun hge => ?_)
  · have hi : i < l.length := by omega
    refine (h1.ext e2).at hi u_s_uint32 i_uint32 u_uint32 ?_
    have g1 := Dig_get d1 hi
    refine ⟨fun x w' => w' = w2 ∧ ∃ s : Nat, x = .int .u64 (s : Int) ∧ s = c + r.getD i 0 ∧ r.getD i 0 < 4294967296, ?_, ?_⟩
    · rintro x junk w3 ⟨rfl, s, rfl, hs, hr⟩
      rw [cnv_32_64' g1, bin_subN (by omega) (by omega), cnv_64_32]
      refine OD.set oq (by omega) u_s_uint32 i_uint32 fun w4 oq' hg => ?_
      rw [bin_shrN (s := 63) (by decide), bin_addI1 (b := 1) (by omega)]
      have key : (l[i] + 18446744073709551616 - s) % 18446744073709551616 % 4294967296 + s = l[i] + (l[i] + 18446744073709551616 - s) % 18446744073709551616 / 2 ^ 63 * 4294967296 ∧ (l[i] + 18446744073709551616 - s) % 18446744073709551616 / 2 ^ 63 ≤ 1 := by
        simp only [show (2 : Nat) ^ 63 = 9223372036854775808 from rfl]
        omega
      obtain ⟨k1, k2⟩ := key
      refine ⟨m - 1, by omega, i + 1, _, _, by omega, rfl, rfl, own_step e2 oq hg, oq', by simpa using hq, Dig_set dq (Nat.mod_lt _ (by decide)), k2, ?_⟩
      rw [val_set_take _ (by omega), val_take_succD, val_take_succD, getD_get hi, pB]
      exact step_sub32 hv hs k1
    · rw [(h2.ext e2).row.len u_s_uint32, bin_lss]
      refine cnd_dec (fun h => ?_) (fun h => ?_)
      · have hi2 : i < r.length := by omega
        refine (h2.ext e2).at hi2 u_s_uint32 i_uint32 u_uint32 ?_
        have g2 := Dig_get d2 hi2
        rw [cnv_32_64' g2, bin_addN (by omega)]
        exact ⟨rfl, _, rfl, by rw [getD_get hi2], by rw [getD_get hi2]; exact g2⟩
      · have : r.getD i 0 = 0 := by rw [List.getD_eq_getElem?_getD]; simp [show r.length ≤ i by omega]
        exact ⟨rfl, _, rfl, by omega, by omega⟩
  · have hi : i = l.length := by omega
    subst hi
    rw [List.take_of_length_le (by omega : l.length ≤ l.length), List.take_of_length_le (by omega : r.length ≤ l.length), List.take_of_length_le (by omega : q.length ≤ l.length)] at hv
    have hc0 : c = 0 := by
      have h3 := val_lt dq
      rw [hq] at h3
      rcases Nat.eq_zero_or_pos c with h | h
      · exact h
      · have : 1 * 4294967296 ^ l.length ≤ c * 4294967296 ^ l.length := Nat.mul_le_mul_right _ h
        omega
    subst hc0
    refine c_trimO oq dq fun v' hv' => ?_
    have e : val 4294967296 q = val 4294967296 l - val 4294967296 r := by omega
    rw [e] at hv'
    exact H _ _ e2 hv'

/-! ### copies -/
theorem bin_snil {t e : TypeId} {cx cy : Bool} {a : Option Addr} {n c : Nat} {K : Value → Prop} (hu : P.underlying t = some (.slice e)) : bin P .eql t cx cy (.slice a n c) (.slice none 0 0) w K = K (.bool a.isNone) := by
  refine bin_of (by unfold eqg eqGuard; rfl) ?_
  show rv P (do pure (Value.bool (← Op.equal t _ _))) w = _
  rw [rv_bind']
  have : rv P (Op.equal t (.slice a n c) (.slice none 0 0)) w = some a.isNone := by
    show rv P (Op.equalIn (9999 + 1) t _ _) w = _
    rw [Op.equalIn, rv_bind', rv_underlying hu]
    cases a <;> rfl
  rw [this]; rfl
theorem c_Clone {v : Value} {n : Nat} (h : Mg w v n) (hn : bl n ≤ 1099511627776) (H : ∀ v' w', Ext w w' → MgO w' w.heap.size v' n → K v' w') : call P f_slices_Clone_uint32_uint32 [v] w K := by
  obtain ⟨l, h1, n1, rfl, _⟩ := h
  have l1 := dig_len n1 hn
  refine I_slices_Clone_uint32_uint32 ?_
  unfold D_slices_Clone_uint32_uint32
  have hrow := h1.row
  obtain ⟨_, _, a, cap, rfl, hcell⟩ := hrow
  rw [bin_snil u_s_uint32]
  cases a with
  | none =>
    have hl0 : l.length = 0 := by
      refine Classical.byContradiction fun hne => ?_
      obtain ⟨_, _, h, _⟩ := hcell hne
      cases h
    obtain rfl : l = [] := List.eq_nil_of_length_eq_zero hl0
    exact cnd_yes rfl (H _ _ (Ext.refl _) (MgO.nil _ _))
  | some a =>
    refine cnd_no rfl ?_
    refine bsl_nil u_s_uint32 i_uint32 ?_
    have he := Ext_alloc w (.cells #[] t_uint32)
    have hz : (w.alloc (.cells #[] t_uint32)).ownsRow w.heap.size t_uint32 1 (.slice (some ⟨w.heap.size, 0, none⟩) 0 0) 0 [] := owns_lit w [] t_uint32
    generalize w.alloc (.cells #[] t_uint32) = w1 at he hz ⊢
    by_cases hl0 : l.length = 0
    · obtain rfl : l = [] := List.eq_nil_of_length_eq_zero hl0
      refine append_intro hz (h1.ext he).row (by simp) u_s_uint32 i_uint32 rfl (by decide) (Nat.zero_le _) (by decide) he.size fun v' w2 ho hg => ?_
      exact H _ _ (ext_of_grown he (fun g hq => (hz.lt g hq).1) hg) ⟨[], ho, n1, rfl⟩
    · refine append_fresh (h1.ext he).row (by simp [Value.oneCell']) u_s_uint32 i_uint32 rfl (by decide) (by omega) (by omega) fun v' w2 ho he2 => ?_
      exact H _ _ (he.trans he2) ⟨l, owns_base ho he.size, n1, rfl⟩

/-! ### products -/
theorem val_set_all (b : Nat) {l : List Nat} {i x : Nat} (h : i < l.length) : val b (l.set i x) + b ^ i * l[i] = val b l + b ^ i * x := by
  have h1 := val_split b l (i := i) (by omega)
  have h2 := val_split b (l.set i x) (i := i) (by simp; omega)
  rw [List.take_set_of_le (by omega)] at h2
  have h3 : (l.set i x).drop i = x :: l.drop (i + 1) := by
    rw [List.drop_eq_getElem_cons (by simpa using h), List.getElem_set_self, List.drop_set_of_lt (by omega)]
  have h4 : l.drop i = l[i] :: l.drop (i + 1) := List.drop_eq_getElem_cons h
  rw [h3] at h2
  rw [h4] at h1
  simp only [val] at h1 h2
  grind
theorem mul_step {V V' Q L p pi pk c x y o s : Nat} (hp : p = pi * pk) (hv : V + c * p = Q + x * L * pi) (hs : s = c + (x * y + o)) (hq : V' + p * o = V + p * (s % 4294967296)) :
    V' + s / 4294967296 * (p * 4294967296) = Q + x * (L + pk * y) * pi := by
  have h := Nat.div_add_mod s 4294967296
  have h2 : p * (4294967296 * (s / 4294967296) + s % 4294967296) = p * (c + (x * y + o)) := by rw [h, hs]
  subst hp
  grind
theorem mul_last {V V' A x y p pi pk c : Nat} (hp : p = pi * pk) (hv : V + c * p = A * y + x * y * pi) (hq : V' + p * 0 = V + p * c) : V' = (A + pi * x) * y := by
  subst hp
  grind
theorem mul_word {x y : Nat} (hx : x < 4294967296) (hy : y < 4294967296) : x * y ≤ 18446744065119617025 := by
  have : x * y ≤ 4294967295 * 4294967295 := Nat.mul_le_mul (by omega) (by omega)
  omega
theorem getD_set {l : List Nat} {i j x : Nat} (h : i < l.length) : (l.set i x).getD j 0 = if i = j then x else l.getD j 0 := by
  simp only [List.getD_eq_getElem?_getD, List.getElem?_set]
  by_cases e : i = j
  · subst e; simp [h]
  · simp [e]

end Go.Proofs.YtabgkpfcpncmhaaGreat

/- Contracts: shifts and lengths of magnitudes. -/
set_option linter.unusedVariables false
namespace Go.Proofs.YtabgkpfcpncmhaaGreat
open Go Go.Vc

variable {w : World} {K : Value → World → Prop}

/-! ### words -/
section
variable {t : TypeId} {cx cy : Bool} {k yk : IntKind} {a b s : Nat} {c : Int} {K : Value → Prop}
theorem kmin_le (k : IntKind) : k.min ≤ 0 := by cases k <;> decide
theorem wrap_nat {k : IntKind} {x : Nat} (h : (x : Int) ≤ k.max) : k.wrap (x : Int) = (x : Int) := wrap_of (Int.le_trans (kmin_le k) (Int.natCast_nonneg _)) h
theorem bin_quoN (h : (a : Int) ≤ k.max) (hb : b ≠ 0) (hc : c = (b : Int) := by rfl) : bin P .quo t cx cy (.int k (a : Int)) (.int k c) w K = K (.int k ((a / b : Nat) : Int)) := by
  subst hc
  rw [bin_quo _ _ _ _ _ _ _ (by omega)]
  have e : Int.tdiv (a : Int) (b : Int) = ((a / b : Nat) : Int) := by rw [Int.ofNat_tdiv]
  rw [e, wrap_nat (Int.le_trans (by
    have := Nat.div_le_self a b
    omega) h)]
theorem bin_remN (hb : b ≠ 0) (hc : c = (b : Int) := by rfl) : bin P .rem t cx cy (.int k (a : Int)) (.int k c) w K = K (.int k ((a % b : Nat) : Int)) := by
  subst hc
  rw [bin_rem _ _ _ _ _ _ _ (by omega)]
  have e : Int.tmod (a : Int) (b : Int) = ((a % b : Nat) : Int) := by rw [Int.ofNat_tmod]
  rw [e]
theorem bin_shlN (hs : s ≤ k.bits) (h : ((a * 2 ^ s : Nat) : Int) ≤ k.max) (hc : c = (s : Int) := by rfl) : bin P .shl t cx cy (.int k (a : Int)) (.int yk c) w K = K (.int k ((a * 2 ^ s : Nat) : Int)) := by
  subst hc
  rw [bin_shl _ _ _ _ _ _ _ _ (by omega)]
  have e : min ((s : Int).toNat) k.bits = s := by rw [Int.toNat_natCast]; omega
  rw [e]
  have : (a : Int) * 2 ^ s = ((a * 2 ^ s : Nat) : Int) := by simp
  rw [this, wrap_nat h]
theorem toNat_word {n a : Nat} (h : a < 2 ^ n) : (BitVec.ofInt n (a : Int)).toNat = a := by
  rw [BitVec.ofInt_natCast, BitVec.toNat_ofNat, Nat.mod_eq_of_lt h]
theorem bin_orN (ha : a < 2 ^ k.bits) (hb : b < 2 ^ k.bits) (hk : k.signed = false) (hc : c = (b : Int) := by rfl) : bin P .or t cx cy (.int k (a : Int)) (.int k c) w K = K (.int k ((a ||| b : Nat) : Int)) := by
  subst hc
  rw [bin_or, BitVec.toNat_or, toNat_word ha, toNat_word hb]
  have h := Nat.or_lt_two_pow ha hb
  rw [wrap_nat]
  cases k <;> simp [IntKind.signed] at hk <;> simp [IntKind.max, IntKind.signed, IntKind.bits] at h ⊢ <;> omega
theorem bin_andN (ha : a < 2 ^ k.bits) (hb : b < 2 ^ k.bits) (hk : k.signed = false) (hc : c = (b : Int) := by rfl) : bin P .and t cx cy (.int k (a : Int)) (.int k c) w K = K (.int k ((a &&& b : Nat) : Int)) := by
  subst hc
  rw [bin_and, BitVec.toNat_and, toNat_word ha, toNat_word hb]
  have h : a &&& b ≤ a := Nat.and_le_left
  rw [wrap_nat]
  cases k <;> simp [IntKind.signed] at hk <;> simp [IntKind.max, IntKind.signed, IntKind.bits] at ha ⊢ <;> omega
theorem max_u64 : IntKind.u64.max = 18446744073709551615 := rfl
theorem max_u32 : IntKind.u32.max = 4294967295 := rfl
theorem max_i64 : IntKind.i64.max = 9223372036854775807 := rfl
theorem cnv_uint_int (h : a ≤ 9223372036854775807) : cnv P t_uint t_int (.int .u64 (a : Int)) w K = K (.int .i64 (a : Int)) := by
  rw [cnv_int_int u_uint u_int, wrap_i64 (by omega) (by omega)]
theorem cnv_int_uint (h : a ≤ 9223372036854775807) : cnv P t_int t_uint (.int .i64 (a : Int)) w K = K (.int .u64 (a : Int)) := by
  rw [cnv_int_int u_int u_uint, w_u64' (by omega)]
end

/-! ### to the left -/
theorem left_or {d s old : Nat} (hs : s < 32) (hd : d < 4294967296) (ho : old < 2 ^ s) : old ||| (d * 2 ^ s % 4294967296) = old + d * 2 ^ s % 4294967296 := by
  have e : d * 2 ^ s % 4294967296 = 2 ^ s * (d % 2 ^ (32 - s)) := by
    have h32 : (4294967296 : Nat) = 2 ^ s * 2 ^ (32 - s) := by rw [← Nat.pow_add, show s + (32 - s) = 32 by omega]
    rw [h32, Nat.mul_comm d, Nat.mul_mod_mul_left]
  rw [e, Nat.or_comm, ← Nat.two_pow_add_eq_or_of_lt ho, Nat.add_comm]
theorem left_step {V V1 V2 T x p q2 old wd f d p0 : Nat} (hV : V = T * f) (h1 : V1 + p * old = V + p * (old + wd % 4294967296)) (h2 : V2 + p * 4294967296 * 0 = V1 + p * 4294967296 * (wd / 4294967296)) (hp : p * wd = p0 * d * f) : V2 = (T + p0 * d) * f := by
  have h := Nat.div_add_mod wd 4294967296
  have h3 : p * (4294967296 * (wd / 4294967296) + wd % 4294967296) = p0 * d * f := by rw [h, hp]
  subst hV
  grind

theorem c_magLeft {u : Value} {a n : Nat} (ha : Mg w u a) (ba : bl a ≤ 1099511627776) (bn : n ≤ 1099511627776)
    (H : ∀ v' w', Ext w w' → MgO w' w.heap.size v' (a * 2 ^ n) → K v' w') : call P f_impl_magLeft [u, .int .u64 (n : Int)] w K := by
  obtain ⟨l, h1, n1, rfl, _⟩ := ha
  have l1 := dig_len n1 ba
  have d1 := n1.1
  refine I_impl_magLeft ?_
  unfold D_impl_magLeft
  rw [h1.row.len u_s_uint32, bin_eql]
  refine cnd_dec (fun h0 => ?_) (fun h0 => ?_)
  · obtain rfl : l = [] := List.eq_nil_of_length_eq_zero (by omega)
    have := H _ _ (Ext.refl _) (by
      have := MgO.nil w w.heap.size
      simpa [val] using this)
    exact this
  · rw [bin_quoN (b := 32) (by rw [max_u64]; omega) (by decide), cnv_uint_int (by omega), h1.row.len u_s_uint32, bin_addI (by omega), bin_addI1 (b := 1) (by omega)]
    refine OD.make u_s_uint32 i_uint32 (by omega) (by simp only [maxLen]; omega) fun w1 o ho he => ?_
    rw [(h1.ext he).row.len u_s_uint32]
    refine ⟨fun m y w' => ∃ (i : Nat) (q : List Nat), m + i = l.length ∧ y = .int .i64 (i : Int) ∧ Ext w w' ∧ OD .u32 t_uint32 w' w.heap.size o q ∧ q.length = n / 32 + l.length + 1 ∧ Dig 4294967296 q ∧ (∀ j, n / 32 + i < j → q.getD j 0 = 0) ∧ q.getD (n / 32 + i) 0 < 2 ^ (n % 32) ∧
      val 4294967296 q = val 4294967296 (l.take i) * 2 ^ n, ⟨l.length, 0, _, rfl, rfl, he, ho, by simp, Dig_rep _ _ (by decide), fun j _ => by simp [List.getElem?_replicate]; split <;> rfl, by
        have : (List.replicate (n / 32 + l.length + 1) 0).getD (n / 32 + 0) 0 = 0 := by simp [List.getElem?_replicate]; split <;> rfl
        rw [this]; exact Nat.two_pow_pos _, by simp [val, val_replicate]⟩, ?_⟩
    rintro m y junk w2 ⟨i, q, hm, rfl, e2, oq, hq, dq, hz, hold, hv⟩
    rw [bin_lss]
    refine cnd_dec (fun hlt => ?_) (fun hge => ?_)
    · have hi : i < l.length := by omega
      refine (h1.ext e2).at hi u_s_uint32 i_uint32 u_uint32 ?_
      have g1 := Dig_get d1 hi
      have hs : n % 32 < 32 := Nat.mod_lt _ (by decide)
      have hps : 2 ^ (n % 32) ≤ 2147483648 := by
        have := Nat.pow_le_pow_right (n := 2) (by decide) (show n % 32 ≤ 31 by omega)
        exact this
      have hwd : l[i] * 2 ^ (n % 32) ≤ 4294967295 * 2147483648 := Nat.mul_le_mul (by omega) hps
      have hi1 : n / 32 + i < q.length := by omega
      have hi2 : n / 32 + i + 1 < q.length := by omega
      rw [cnv_32_64' g1, bin_remN (b := 32) (by decide), bin_shlN (s := n % 32) (by simp only [IntKind.bits]; omega) (by rw [max_u64]; omega)]
      rw [bin_quoN (b := 32) (by rw [max_u64]; omega) (by decide), cnv_uint_int (by omega), bin_addI (by omega)]
      refine oq.IR.at hi1 u_s_uint32 i_uint32 u_uint32 ?_
      have g3 := Dig_get dq hi1
      rw [cnv_64_32, bin_orN (by simpa [IntKind.bits] using g3) (by have := Nat.mod_lt (l[i] * 2 ^ (n % 32)) (show 0 < 4294967296 by decide); simpa [IntKind.bits] using this) rfl]
      rw [getD_get hi1] at hold
      rw [left_or hs g1 hold]
      refine OD.set oq hi1 u_s_uint32 i_uint32 fun w3 oq3 hg3 => ?_
      have e3 := own_step e2 oq hg3
      rw [bin_quoN (b := 32) (by rw [max_u64]; omega) (by decide), cnv_uint_int (by omega), bin_addI (by omega), bin_addI1 (b := 1) (by omega), bin_shrN (s := 32) (by decide), cnv_64_32]
      refine OD.set oq3 (by simpa using hi2) u_s_uint32 i_uint32 fun w4 oq4 hg4 => ?_
      rw [bin_addI1 (b := 1) (by omega)]
      have hhi : l[i] * 2 ^ (n % 32) / 2 ^ 32 < 2 ^ (n % 32) := by
        rw [Nat.div_lt_iff_lt_mul (Nat.two_pow_pos _), Nat.mul_comm]
        exact Nat.mul_lt_mul_of_pos_left g1 (Nat.two_pow_pos _)
      have hmod : l[i] * 2 ^ (n % 32) / 2 ^ 32 % 4294967296 = l[i] * 2 ^ (n % 32) / 2 ^ 32 := Nat.mod_eq_of_lt (by omega)
      rw [hmod] at oq4
      have hlo : q[n / 32 + i] + l[i] * 2 ^ (n % 32) % 4294967296 < 4294967296 := by
        rw [← left_or hs g1 hold]
        exact Nat.or_lt_two_pow (n := 32) g3 (Nat.mod_lt _ (by decide))
      refine ⟨m - 1, by omega, i + 1, _, by omega, rfl, own_step e3 oq3 hg4, oq4, by simpa using hq, Dig_set (Dig_set dq hlo) (by omega), fun j hj => ?_, ?_, ?_⟩
      · rw [getD_set (by simpa using hi2), if_neg (by omega), getD_set hi1, if_neg (by omega)]
        exact hz j (by omega)
      · rw [show n / 32 + (i + 1) = n / 32 + i + 1 from rfl, getD_set (by simpa using hi2), if_pos rfl]; exact hhi
      · rw [val_take_succD, getD_get hi]
        have a1 := val_set_all 4294967296 (l := q) (x := q[n / 32 + i] + l[i] * 2 ^ (n % 32) % 4294967296) hi1
        have hi2' : n / 32 + i + 1 < (q.set (n / 32 + i) (q[n / 32 + i] + l[i] * 2 ^ (n % 32) % 4294967296)).length := by simpa using hi2
        have a2 := val_set_all 4294967296 (x := l[i] * 2 ^ (n % 32) / 2 ^ 32) hi2'
        have hz0 : (q.set (n / 32 + i) (q[n / 32 + i] + l[i] * 2 ^ (n % 32) % 4294967296))[n / 32 + i + 1] = 0 := by
          have := hz (n / 32 + i + 1) (by omega)
          rw [getD_get hi2] at this
          rw [List.getElem_set_ne (by omega)]; exact this
        rw [hz0, pB] at a2
        refine left_step (x := 0) (q2 := 0) hv a1 a2 ?_
        have hn : 2 ^ n = 4294967296 ^ (n / 32) * 2 ^ (n % 32) := by
          conv => lhs; rw [← Nat.div_add_mod n 32, Nat.pow_add, Nat.pow_mul]
        rw [hn, Nat.pow_add]
        grind
    · have hi : i = l.length := by omega
      subst hi
      rw [List.take_of_length_le (Nat.le_refl _)] at hv
      refine c_trimO oq dq fun v' hv' => ?_
      rw [hv] at hv'
      exact H _ _ e2 hv'

/-! ### to the right -/
theorem right_or {d x : Nat} (hd : d < 4294967296) : d ||| x * 4294967296 = d + x * 4294967296 := by
  have := Nat.two_pow_add_eq_or_of_lt (i := 32) hd x
  rw [Nat.or_comm, Nat.mul_comm x, show (4294967296 : Nat) = 2 ^ 32 from rfl, ← this, Nat.add_comm]
theorem right_dig {l : List Nat} {i s : Nat} (hd : Dig 4294967296 l) (hi : i < l.length) (hs : s < 32) :
    val 4294967296 l / 2 ^ s / 4294967296 ^ i % 4294967296 = (l[i] + l.getD (i + 1) 0 * 4294967296) / 2 ^ s % 4294967296 := by
  have h1 : val 4294967296 l / 2 ^ s / 4294967296 ^ i = val 4294967296 l / 4294967296 ^ i / 2 ^ s := by
    rw [Nat.div_div_eq_div_mul, Nat.div_div_eq_div_mul, Nat.mul_comm]
  have h2 : val 4294967296 l / 4294967296 ^ i = val 4294967296 (l.drop i) := by
    have hp : 0 < 4294967296 ^ i := Nat.pow_pos (by decide)
    rw [val_split _ l (Nat.le_of_lt hi), Nat.add_mul_div_left _ _ hp, Nat.div_eq_of_lt, Nat.zero_add]
    have := val_lt (hd.take i)
    rw [List.length_take, Nat.min_eq_left (by omega)] at this
    exact this
  have h3 : ∃ X, val 4294967296 (l.drop i) = l[i] + l.getD (i + 1) 0 * 4294967296 + 18446744073709551616 * X := by
    rw [List.drop_eq_getElem_cons hi, val]
    by_cases h : i + 1 < l.length
    · rw [List.drop_eq_getElem_cons h, val, getD_get h]
      exact ⟨val 4294967296 (l.drop (i + 1 + 1)), by grind⟩
    · rw [List.drop_eq_nil_of_le (by omega), val]
      have : l.getD (i + 1) 0 = 0 := by rw [List.getD_eq_getElem?_getD]; simp [show l.length ≤ i + 1 by omega]
      exact ⟨0, by rw [this]⟩
  obtain ⟨X, hX⟩ := h3
  rw [h1, h2, hX]
  have h4 : 18446744073709551616 * X = 2 ^ s * (4294967296 * (2 ^ (32 - s) * X)) := by
    have : (4294967296 : Nat) = 2 ^ s * 2 ^ (32 - s) := by rw [← Nat.pow_add, show s + (32 - s) = 32 by omega]
    have h5 : (18446744073709551616 : Nat) = 4294967296 * (2 ^ s * 2 ^ (32 - s)) := by rw [← this]
    rw [h5]; grind
  rw [h4, Nat.add_mul_div_left _ _ (Nat.two_pow_pos _), Nat.add_mul_mod_self_left]

theorem c_magRight {u : Value} {a n : Nat} (ha : Mg w u a) (ba : bl a ≤ 1099511627776) (bn : n ≤ 9223372036854775807)
    (H : ∀ v' w', Ext w w' → MgO w' w.heap.size v' (a / 2 ^ n) → K v' w') : call P f_impl_magRight [u, .int .u64 (n : Int)] w K := by
  obtain ⟨l, h1, n1, rfl, _⟩ := ha
  have l1 := dig_len n1 ba
  have d1 := n1.1
  have hn : 2 ^ n = 4294967296 ^ (n / 32) * 2 ^ (n % 32) := by
    conv => lhs; rw [← Nat.div_add_mod n 32, Nat.pow_add, Nat.pow_mul]
  refine I_impl_magRight ?_
  unfold D_impl_magRight
  rw [h1.row.len u_s_uint32, cnv_int_uint (by omega), bin_quoN (b := 32) (by rw [max_u64]; omega) (by decide), bin_leq]
  refine cnd_dec (fun h0 => ?_) (fun h0 => ?_)
  · have e : val 4294967296 l / 2 ^ n = 0 := by
      refine Nat.div_eq_of_lt (Nat.lt_of_lt_of_le (val_lt d1) ?_)
      rw [hn]
      refine Nat.le_trans (Nat.pow_le_pow_right (by decide) (by omega : l.length ≤ n / 32)) (Nat.le_mul_of_pos_right _ (Nat.two_pow_pos _))
    rw [e] at H
    exact H _ _ (Ext.refl _) (MgO.nil _ _)
  · have hle : n / 32 < l.length := by omega
    rw [bin_quoN (b := 32) (by rw [max_u64]; omega) (by decide)]
    refine Row.sli_l h1.row h1.cap u_s_uint32 i_uint32 (by omega) fun v' r1 r2 => ?_
    have hl' : (l.drop (n / 32)).length = l.length - n / 32 := List.length_drop
    have hm : IR .u32 w v' (l.drop (n / 32)) := ⟨by rw [hl', List.map_drop]; exact r1, r2⟩
    have hdiv : val 4294967296 l / 2 ^ n = val 4294967296 (l.drop (n / 32)) / 2 ^ (n % 32) := by
      rw [hn, ← Nat.div_div_eq_div_mul]
      congr 1
      have hp : 0 < 4294967296 ^ (n / 32) := Nat.pow_pos (by decide)
      conv => lhs; rw [val_split _ l (Nat.le_of_lt hle)]
      rw [Nat.add_mul_div_left _ _ hp, Nat.div_eq_of_lt, Nat.zero_add]
      have := val_lt (d1.take (n / 32))
      rw [List.length_take, Nat.min_eq_left (by omega)] at this
      exact this
    have dm : Dig 4294967296 (l.drop (n / 32)) := d1.drop _
    rw [hdiv] at H
    generalize l.drop (n / 32) = r at *
    have hs : n % 32 < 32 := Nat.mod_lt _ (by decide)
    rw [hm.row.len u_s_uint32]
    refine OD.make u_s_uint32 i_uint32 (by omega) (by simp only [maxLen]; omega) fun w1 o ho he => ?_
    rw [(hm.ext he).row.len u_s_uint32]
    refine ⟨fun m y w' => ∃ (i : Nat) (q : List Nat), m + i = r.length ∧ y = .int .i64 (i : Int) ∧ Ext w w' ∧ OD .u32 t_uint32 w' w.heap.size o q ∧ q.length = r.length ∧ Dig 4294967296 q ∧
      val 4294967296 (q.take i) = val 4294967296 r / 2 ^ (n % 32) % 4294967296 ^ i, ⟨r.length, 0, _, rfl, rfl, he, ho, by simp, Dig_rep _ _ (by decide), by simp [val, Nat.mod_one]⟩, ?_⟩
    rintro m y junk w2 ⟨i, q, hmi, rfl, e2, oq, hq, dq, hv⟩
    rw [bin_lss]
    refine cnd_dec (fun hlt => ?_) (fun hge => ?_)
    · have hi : i < r.length := by omega
      refine (hm.ext e2).at hi u_s_uint32 i_uint32 u_uint32 ?_
      have g1 := Dig_get dm hi
      rw [cnv_32_64' g1]
      refine ⟨fun x w' => w' = w2 ∧ x = .int .u64 ((r[i] + r.getD (i + 1) 0 * 4294967296 : Nat) : Int) ∧ r.getD (i + 1) 0 < 4294967296, ?_, ?_⟩
      · rintro x junk w3 ⟨rfl, rfl, hx⟩
        rw [bin_remN (b := 32) (by decide), bin_shrN (s := n % 32) (by simp only [IntKind.bits]; omega), cnv_64_32]
        refine OD.set oq (by omega) u_s_uint32 i_uint32 fun w4 oq4 hg => ?_
        rw [bin_addI1 (b := 1) (by omega)]
        refine ⟨m - 1, by omega, i + 1, _, by omega, rfl, own_step e2 oq hg, oq4, by simpa using hq, Dig_set dq (Nat.mod_lt _ (by decide)), ?_⟩
        rw [val_set_take _ (by omega), hv, ← right_dig dm hi hs, Nat.mod_pow_succ]
      · rw [bin_addI1 (b := 1) (by omega), (hm.ext e2).row.len u_s_uint32, bin_lss]
        refine cnd_dec (fun h => ?_) (fun h => ?_)
        · have hi2 : i + 1 < r.length := by omega
          have g2 := Dig_get dm hi2
          rw [bin_addI1 (b := 1) (by omega)]
          refine (hm.ext e2).at hi2 u_s_uint32 i_uint32 u_uint32 ?_
          rw [cnv_32_64' g2, bin_shlN (s := 32) (by decide) (by rw [max_u64]; simp only [show (2 : Nat) ^ 32 = 4294967296 from rfl]; omega)]
          rw [show (2 : Nat) ^ 32 = 4294967296 from rfl]
          rw [bin_orN (b := r[i + 1] * 4294967296) (by simp only [IntKind.bits]; omega) (by simp only [IntKind.bits]; omega) rfl, right_or g1, getD_get hi2]
          exact ⟨rfl, rfl, g2⟩
        · have : r.getD (i + 1) 0 = 0 := by rw [List.getD_eq_getElem?_getD]; simp [show r.length ≤ i + 1 by omega]
          rw [this]
          exact ⟨rfl, by simp, by decide⟩
    · have hi : i = r.length := by omega
      subst hi
      rw [List.take_of_length_le (by omega), Nat.mod_eq_of_lt (Nat.lt_of_le_of_lt (Nat.div_le_self _ _) (val_lt dm))] at hv
      refine c_trimO oq dq fun v' hv' => ?_
      rw [hv] at hv'
      exact H _ _ e2 hv'

/-! ### lengths -/
theorem bl_top {k low top : Nat} (hl : low < 2 ^ k) (ht : top ≠ 0) : bl (low + 2 ^ k * top) = k + bl top := by
  have h1 := two_bl_le ht
  have h2 := lt_two_bl top
  have h3 := bl_pos ht
  have := bl_eq (n := low + 2 ^ k * top) (k := k + (bl top - 1)) (by
    rw [Nat.pow_add]
    have := Nat.mul_le_mul_left (2 ^ k) h1
    omega) (by
    rw [show k + (bl top - 1) + 1 = k + bl top by omega, Nat.pow_add]
    have h4 : 2 ^ k * (top + 1) ≤ 2 ^ k * 2 ^ bl top := Nat.mul_le_mul_left _ h2
    rw [Nat.mul_add] at h4
    omega)
  omega
theorem bl_val {l : List Nat} (h : Norm 4294967296 l) (hl : 0 < l.length) : bl (val 4294967296 l) = 32 * (l.length - 1) + bl (l[l.length - 1]) ∧ l[l.length - 1] ≠ 0 := by
  have hz : l[l.length - 1] ≠ 0 := by
    intro hz
    have := h.2
    rw [List.getLast?_eq_getElem?, List.getElem?_eq_getElem (by omega), hz] at this
    exact this rfl
  refine ⟨?_, hz⟩
  have h1 := val_split 4294967296 l (i := l.length - 1) (by omega)
  rw [List.drop_eq_getElem_cons (by omega), List.drop_eq_nil_of_le (by omega)] at h1
  simp only [val, Nat.mul_zero, Nat.add_zero] at h1
  have h2 := val_lt (h.1.take (l.length - 1))
  rw [List.length_take, Nat.min_eq_left (by omega)] at h2
  have hp : (4294967296 : Nat) ^ (l.length - 1) = 2 ^ (32 * (l.length - 1)) := by rw [Nat.pow_mul]
  rw [hp] at h1 h2
  rw [h1, bl_top h2 hz]

theorem c_magBits {u : Value} {a : Nat} (ha : Mg w u a) (ba : bl a ≤ 1099511627776) (H : K (.int .i64 (bl a : Nat)) w) : call P f_impl_magBits [u] w K := by
  obtain ⟨l, h1, n1, rfl, _⟩ := ha
  have l1 := dig_len n1 ba
  refine I_impl_magBits ?_
  unfold D_impl_magBits
  rw [h1.row.len u_s_uint32, bin_eql]
  refine cnd_dec (fun h0 => ?_) (fun h0 => ?_)
  · obtain rfl : l = [] := List.eq_nil_of_length_eq_zero (by omega)
    exact H
  · have hl : 0 < l.length := by omega
    obtain ⟨e1, e2⟩ := bl_val n1 hl
    rw [h1.row.len u_s_uint32, bin_subI1 (b := 1) (by omega) (by omega), bin_mul, wrap_i64 (by omega) (by omega), h1.row.len u_s_uint32, bin_subI1 (b := 1) (by omega) (by omega)]
    refine h1.at (by omega) u_s_uint32 i_uint32 u_uint32 ?_
    have g1 := Dig_get n1.1 (show l.length - 1 < l.length by omega)
    refine ⟨fun m x y w' => w' = w ∧ ∃ d c : Nat, x = .int .i64 (c : Int) ∧ y = .int .u32 (d : Int) ∧ m = bl d ∧ c + bl d = bl (val 4294967296 l), ⟨bl l[l.length - 1], rfl, l[l.length - 1], 32 * (l.length - 1), by congr 1, rfl, rfl, by omega⟩, ?_⟩
    rintro m x y junk w' ⟨rfl, d, c, rfl, rfl, rfl, hc⟩
    rw [bin_gtr]
    refine cnd_dec (fun hd => ?_) (fun hd => ?_)
    · rw [bin_addI1 (b := 1) (by omega), bin_shrN (s := 1) (by decide)]
      have hb := bl_shr d 1
      have hp := bl_pos (n := d) (by omega)
      exact ⟨_, by rw [hb]; omega, rfl, _, _, rfl, rfl, rfl, by rw [hb]; omega⟩
    · have : d = 0 := by omega
      subst this
      rw [bl_zero] at hc
      rw [← hc] at H
      exact H
end Go.Proofs.YtabgkpfcpncmhaaGreat

/- Contracts: the program's whole numbers. -/
set_option linter.unusedVariables false
namespace Go.Proofs.YtabgkpfcpncmhaaGreat
open Go Go.Vc

variable {w : World} {K : Value → World → Prop}

def isSl : Value → Prop
  | .slice _ _ _ => True
  | _ => False
/-- A whole number, read; a variable for one, of one's own. -/
def IntR (w : World) (p : Value) (m : Int) : Prop := ∃ s, Bx w 0 t_impl_integer p [.bool (decide (m < 0)), s] ∧ Mg w s m.natAbs
def ZO (w : World) (base : Nat) (z : Value) : Prop := ∃ b s, Bx w base t_impl_integer z [.bool b, s] ∧ isSl s
theorem IntR.ext {w' : World} {p : Value} {m : Int} (h : IntR w p m) (he : Ext w w') : IntR w' p m := let ⟨s, h1, h2⟩ := h; ⟨s, h1.ext he, h2.ext he⟩
theorem ZO.ext {w' : World} {base : Nat} {z : Value} (h : ZO w base z) (he : Ext w w') : ZO w' base z := let ⟨b, s, h1, h2⟩ := h; ⟨b, s, h1.ext he, h2⟩
theorem ZO.low {base base' : Nat} {z : Value} (h : ZO w base z) (hb : base' ≤ base) : ZO w base' z := let ⟨b, s, h1, h2⟩ := h; ⟨b, s, h1.low hb, h2⟩
theorem Mg.isSl {v : Value} {n : Nat} (h : Mg w v n) : isSl v := by
  obtain ⟨l, h1, _⟩ := h
  obtain ⟨_, _, a, cap, rfl, _⟩ := h1.row
  trivial
theorem isSl.one {v : Value} (h : isSl v) : v.oneCell' = true := by
  unfold isSl at h
  split at h
  · rfl
  · exact h.elim
theorem nch_bx {base : Nat} {t : TypeId} {p : Value} {cs : List Value} {K : Value → Prop} (h : Bx w base t p cs) : nch p K = K p := by
  obtain ⟨g, rfl, _⟩ := h
  rfl
/-- A row of digits lies apart from a variable for a whole number. -/
theorem IR_kept {k : IntKind} {w' : World} {v z : Value} {l : List Nat} {base : Nat} (h : IR k w v l) (hz : ZO w base z) (hg : w.grownBy w' (blk z)) : IR k w' v l := by
  obtain ⟨b, s, ⟨g, rfl, _, hb⟩, hs⟩ := hz
  refine ⟨?_, h.cap⟩
  obtain ⟨r1, r2, a, cap, rfl, r3⟩ := h.row
  refine ⟨r1, r2, a, cap, rfl, fun hn => ?_⟩
  obtain ⟨bb, o, rfl, q⟩ := r3 hn
  refine ⟨bb, o, rfl, fun j u hu => ?_⟩
  have hq := q j u hu
  have hne : bb ≠ g := by
    rintro rfl
    obtain ⟨d, hd⟩ : ∃ d : Nat, u = iv k d := by
      rw [List.getElem?_map] at hu
      cases hl : l[j]? with
      | none => rw [hl] at hu; cases hu
      | some d => rw [hl] at hu; cases hu; exact ⟨d, rfl⟩
    subst hd
    unfold World.cell? at hq
    simp only [hb] at hq
    have : [Value.bool b, s][o + j]? = some (iv k d) := by simpa using hq
    match o + j, this with
    | 0, h => simp at h
    | 1, h => simp at h; subst h; exact hs
    | _ + 2, h => simp at h
  have hlt : bb < w.heap.size := by
    unfold World.cell? at hq
    rcases Nat.lt_or_ge bb w.heap.size with h | h
    · exact h
    · rw [Array.getElem?_eq_none h] at hq; simp at hq
  unfold World.cell? at hq ⊢
  rw [hg.block bb hlt (by simp [blk]; omega)]
  exact hq
theorem Mg.kept_box {w' : World} {v z : Value} {n : Nat} {base : Nat} (h : Mg w v n) (hz : ZO w base z) (hg : w.grownBy w' (blk z)) : Mg w' v n :=
  let ⟨l, h1, h2, h3, h4⟩ := h; ⟨l, IR_kept h1 hz hg, h2, h3, by
    obtain ⟨b, s, hb, _⟩ := hz
    intro k hk
    obtain ⟨c, f, hc⟩ := h4 k hk
    have hne : some k ≠ blk z := by
      intro e
      obtain ⟨c', f', hc'⟩ := Ty.box hb k e.symm
      rw [hc] at hc'
      simp only [Option.some.injEq, Obj.cells.injEq] at hc'
      exact absurd hc'.2.1 (by decide)
    exact ⟨c, f, by rw [hg.block k (heap_lt hc) hne]; exact hc⟩⟩
theorem IntR.kept {w' : World} {x z : Value} {m : Int} {base : Nat} (h : IntR w x m) (hz : ZO w base z) (hg : w.grownBy w' (blk z)) (hne : x ≠ z) : IntR w' x m := by
  obtain ⟨s, h1, h2⟩ := h
  refine ⟨s, h1.kept hg ?_, h2.kept_box hz hg⟩
  obtain ⟨b, s', ⟨g, rfl, _⟩, _⟩ := hz
  obtain ⟨g', rfl, _⟩ := h1
  right
  simp [blk] at hne ⊢
  omega
/-- A change of blocks of another type. -/
theorem IR.kept_at {k : IntKind} {w' : World} {v : Value} {l : List Nat} {row : Option Nat} (h : IR k w v l) (hg : w.grownBy w' row) (hne : v.ownBlock = none ∨ v.ownBlock ≠ row) : IR k w' v l := by
  refine ⟨?_, h.cap⟩
  obtain ⟨r1, r2, a, cap, rfl, r3⟩ := h.row
  refine ⟨r1, r2, a, cap, rfl, fun hn => ?_⟩
  obtain ⟨bb, o, rfl, q⟩ := r3 hn
  refine ⟨bb, o, rfl, fun j u hu => ?_⟩
  have hq := q j u hu
  have hlt : bb < w.heap.size := by
    unfold World.cell? at hq
    rcases Nat.lt_or_ge bb w.heap.size with h | h
    · exact h
    · rw [Array.getElem?_eq_none h] at hq; simp at hq
  unfold World.cell? at hq ⊢
  rw [hg.block bb hlt (by
    rcases hne with h | h
    · simp [Value.ownBlock] at h
    · simpa [Value.ownBlock] using h)]
  exact hq
theorem Ty_kept {w' : World} {k row : Option Nat} {e e' : TypeId} (h : Ty w k e) (hg : w.grownBy w' row) (ht : Ty w row e') (hne : e ≠ e') : Ty w' k e := fun b hb => by
  obtain ⟨c, f, hc⟩ := h b hb
  refine ⟨c, f, ?_⟩
  rw [hg.block b (heap_lt hc) (fun e1 => by
    obtain ⟨c', f', hc'⟩ := ht b e1.symm
    rw [hc] at hc'
    simp only [Option.some.injEq, Obj.cells.injEq] at hc'
    exact hne hc'.2.1)]
  exact hc
theorem Mg.kt {w' : World} {v : Value} {n : Nat} {row : Option Nat} {e' : TypeId} (h : Mg w v n) (hg : w.grownBy w' row) (ht : Ty w row e') (hne : t_uint32 ≠ e') : Mg w' v n :=
  let ⟨l, h1, h2, h3, h4⟩ := h; ⟨l, IR.kept_at h1 hg (h4.apart ht hne), h2, h3, Ty_kept h4 hg ht hne⟩
theorem IntR.kt {w' : World} {p : Value} {m : Int} {row : Option Nat} {e' : TypeId} (h : IntR w p m) (hg : w.grownBy w' row) (ht : Ty w row e') (h1 : t_uint32 ≠ e') (h2 : t_impl_integer ≠ e') : IntR w' p m :=
  let ⟨s, a, b⟩ := h; ⟨s, keep_box a hg ht h2, b.kt hg ht h1⟩
theorem ZO.kt {w' : World} {base : Nat} {p : Value} {row : Option Nat} {e' : TypeId} (h : ZO w base p) (hg : w.grownBy w' row) (ht : Ty w row e') (h2 : t_impl_integer ≠ e') : ZO w' base p :=
  let ⟨b, s, a, c⟩ := h; ⟨b, s, keep_box a hg ht h2, c⟩
theorem ZO.ty {base : Nat} {p : Value} (h : ZO w base p) : Ty w (blk p) t_impl_integer := let ⟨_, _, a, _⟩ := h; Ty.box a
theorem ZO.blk_ge {base : Nat} {z : Value} (h : ZO w base z) {k : Nat} (hk : blk z = some k) : base ≤ k := by
  obtain ⟨b, s, h1, _⟩ := h
  exact (h1.blk_lt hk).1
/-- A fresh variable. -/
theorem alc_Z {KW : Value → World → Prop} (H : ∀ p w', ZO w' w.heap.size p → IntR w' p 0 → Ext w w' → KW p w') : alc P t_impl_integer w KW :=
  alc_bx i_impl_integer fun p w' hb he _ => H p w' ⟨false, .slice none 0 0, hb, trivial⟩ ⟨.slice none 0 0, hb.low (Nat.zero_le _), Mg.nil _⟩ he

section
variable {p : Value} {m : Int} {K : Value → Prop}
/-- Its sign; its digits. -/
theorem IntR.neg {base : Nat} {s : Value} {b : Bool} (h : Bx w base t_impl_integer p [.bool b, s]) (H : K (.bool b)) : fda P t_impl_integer p 0 w (fun a => ld P t_bool a w K) :=
  h.fld (off := 0) rfl u_impl_integer rfl i_bool u_bool rfl H
theorem IntR.mag {base : Nat} {s : Value} {b : Bool} (h : Bx w base t_impl_integer p [.bool b, s]) (H : K s) : fda P t_impl_integer p 1 w (fun a => ld P t_s_uint32 a w K) :=
  h.fld (off := 1) rfl u_impl_integer rfl i_s_uint32 u_s_uint32 rfl H
end

def sgnI (neg : Bool) (n : Nat) : Int := if neg then -(n : Int) else n
theorem sgnI_abs (neg : Bool) (n : Nat) : (sgnI neg n).natAbs = n := by unfold sgnI; split <;> simp
theorem sgnI_neg (neg : Bool) (n : Nat) : decide (sgnI neg n < 0) = (neg && decide (0 < n)) := by
  unfold sgnI
  cases neg
  · simp
  · simp

theorem c_put {z s : Value} {neg : Bool} {l : List Nat} {base : Nat} (hz : ZO w base z) (hs : IR .u32 w s l) (hty : Ty w s.ownBlock t_uint32) (hd : Dig 4294967296 l)
    (H : ∀ w', ZO w' base z → IntR w' z (sgnI neg (val 4294967296 l)) → w.grownBy w' (blk z) → K z w') : call P f_impl_integer_put [z, .bool neg, s] w K := by
  refine I_impl_integer_put ?_
  unfold D_impl_integer_put
  refine c_magTrim hs fun s' hs' _ hbk => ?_
  obtain ⟨b, s0, hb, hs0⟩ := hz
  have hz : ZO w base z := ⟨b, s0, hb, hs0⟩
  rw [nch_bx hb]
  have hM : Mg w s' (val 4294967296 l) := ⟨_, hs', Norm.trim hd, val_trim _ _, by
    rcases hbk with e | e
    · rw [e]; exact Ty_none _ _
    · rw [e]; exact hty⟩
  refine hb.fput (off := 1) (by simp) u_impl_integer rfl i_s_uint32 hM.isSl.one fun w1 hb1 g1 => ?_
  have hM1 := hM.kept_box hz g1
  have hs1 := IR_kept hs' hz g1
  have hb1 : Bx w1 base t_impl_integer z [.bool b, s'] := hb1
  refine ⟨fun x w' => w' = w1 ∧ (x = .bool (decide (0 < val 4294967296 l)) ∨ neg = false), ?_, ?_⟩
  · rintro x junk w' ⟨rfl, hx⟩
    have hp : ∃ y, y = (neg && decide (0 < val 4294967296 l)) ∧ pick (.bool neg) x (.bool false) = fun K => K (.bool y) := by
      refine ⟨_, rfl, ?_⟩
      funext K
      rw [pick_bool]
      rcases hx with rfl | rfl
      · cases neg <;> simp
      · simp
    obtain ⟨y, hy, hp⟩ := hp
    rw [hp]
    show nch z _
    rw [nch_bx hb1]
    refine hb1.fput (off := 0) (by simp) u_impl_integer rfl i_bool rfl fun w2 hb2 g2 => ?_
    have hb2 : Bx w2 base t_impl_integer z [.bool y, s'] := hb2
    have hz1 : ZO w' base z := ⟨b, s', hb1, hM.isSl⟩
    refine H w2 ⟨y, s', hb2, hM.isSl⟩ ⟨s', ?_, ?_⟩ (grown_trans g1 g2)
    · rw [sgnI_neg, ← hy]
      exact hb2.low (Nat.zero_le _)
    · rw [sgnI_abs]
      exact hM1.kept_box hz1 g2
  · refine grd_split (fun hn => ?_) (fun hn => ?_)
    · rw [nch_bx hb1]
      refine IntR.mag hb1 ?_
      rw [hs1.row.len u_s_uint32, bin_gtr]
      refine ⟨rfl, .inl ?_⟩
      congr 1
      rw [decide_eq_decide]
      have h1 := (Norm.trim hd).eq_nil (by decide)
      rw [val_trim] at h1
      have h2 : (trim l).length = 0 ↔ val 4294967296 l = 0 := List.length_eq_zero_iff.trans h1
      omega
    · exact ⟨rfl, .inr (by simpa using hn)⟩

/-- 'put', with digits of one's own. -/
theorem c_putM {z s : Value} {neg : Bool} {n : Nat} {base : Nat} (hz : ZO w base z) (hs : Mg w s n)
    (H : ∀ w', ZO w' base z → IntR w' z (sgnI neg n) → w.grownBy w' (blk z) → K z w') : call P f_impl_integer_put [z, .bool neg, s] w K := by
  obtain ⟨l, h1, h2, rfl, h4⟩ := hs
  exact c_put hz h1 h4 h2.1 H

theorem grown_ext {a b c : World} {row : Option Nat} (he : Ext a b) (hg : b.grownBy c row) : a.grownBy c row := ext_grown he hg

/-! ### what is read -/
theorem c_Sign {p : Value} {m : Int} (h : IntR w p m) (H : K (.int .i64 m.sign) w) : call P f_impl_integer_Sign [p] w K := by
  obtain ⟨s, hb, hm⟩ := h
  refine I_impl_integer_Sign ?_
  unfold D_impl_integer_Sign
  rw [nch_bx hb]
  refine IntR.neg hb ?_
  refine cnd_dec (fun hn => ?_) (fun hn => ?_)
  · rw [Int.sign_eq_neg_one_of_neg hn] at H; exact H
  · rw [nch_bx hb]
    refine IntR.mag hb ?_
    obtain ⟨l, h1, h2, h3, _⟩ := hm
    rw [h1.row.len u_s_uint32, bin_gtr]
    have e := h2.eq_nil (by decide)
    rw [h3] at e
    have e2 : l.length = 0 ↔ m.natAbs = 0 := List.length_eq_zero_iff.trans e
    refine cnd_dec (fun hp => ?_) (fun hp => ?_)
    · have : 0 < m := by omega
      rw [Int.sign_eq_one_of_pos this] at H; exact H
    · have : m = 0 := by omega
      subst this; exact H
theorem c_BitLen {p : Value} {m : Int} (h : IntR w p m) (hb : bl m.natAbs ≤ 1099511627776) (H : K (.int .i64 (bl m.natAbs : Nat)) w) : call P f_impl_integer_BitLen [p] w K := by
  obtain ⟨s, hx, hm⟩ := h
  refine I_impl_integer_BitLen ?_
  unfold D_impl_integer_BitLen
  rw [nch_bx hx]
  exact IntR.mag hx (c_magBits hm hb H)
def cmpI (a b : Int) : Int := if a < b then -1 else if b < a then 1 else 0
theorem c_Cmp {p q : Value} {a b : Int} (h1 : IntR w p a) (h2 : IntR w q b) (H : K (.int .i64 (cmpI a b)) w) : call P f_impl_integer_Cmp [p, q] w K := by
  obtain ⟨s, b1, m1⟩ := h1
  obtain ⟨t, b2, m2⟩ := h2
  refine I_impl_integer_Cmp ?_
  unfold D_impl_integer_Cmp
  rw [nch_bx b1]
  refine IntR.neg b1 ?_
  refine ⟨fun x w' => w' = w ∧ (a < 0 → x = .bool (decide (b < 0))), ?_, ?_⟩
  · rintro x junk w' ⟨rfl, hx⟩
    rw [pick_bool]
    by_cases ha : a < 0
    · rw [hx ha, decide_eq_true ha, cond_true]
      refine cnd_dec (fun hb => ?_) (fun hb => ?_)
      · rw [nch_bx b2]
        refine IntR.mag b2 ?_
        rw [nch_bx b1]
        refine IntR.mag b1 ?_
        refine c_magCmp m2 m1 ?_
        have : cmpN b.natAbs a.natAbs = cmpI a b := by unfold cmpN cmpI; split <;> split <;> (try split) <;> (try split) <;> omega
        rw [this]; exact H
      · rw [nch_bx b1]
        refine IntR.neg b1 ?_
        refine cnd_yes (decide_eq_true ha) ?_
        have : cmpI a b = -1 := by unfold cmpI; rw [if_pos (by omega)]
        rw [this] at H; exact H
    · rw [decide_eq_false ha, cond_false, cnd_false, nch_bx b1]
      refine IntR.neg b1 ?_
      refine cnd_no (decide_eq_false ha) ?_
      rw [nch_bx b2]
      refine IntR.neg b2 ?_
      refine cnd_dec (fun hb => ?_) (fun hb => ?_)
      · have : cmpI a b = 1 := by unfold cmpI; rw [if_neg (by omega), if_pos (by omega)]
        rw [this] at H; exact H
      · rw [nch_bx b1]
        refine IntR.mag b1 ?_
        rw [nch_bx b2]
        refine IntR.mag b2 ?_
        refine c_magCmp m1 m2 ?_
        have : cmpN a.natAbs b.natAbs = cmpI a b := by unfold cmpN cmpI; split <;> split <;> (try split) <;> (try split) <;> omega
        rw [this]; exact H
  · refine grd_split (fun hn => ?_) (fun hn => ?_)
    · rw [nch_bx b2]
      exact IntR.neg b2 ⟨rfl, fun _ => rfl⟩
    · exact ⟨rfl, fun ha => by rw [decide_eq_true ha] at hn; cases hn⟩

/-! ### what is made -/
section
variable {z x y : Value} {a b : Int} {base : Nat}
theorem c_Abs (hz : ZO w base z) (hx : IntR w x a) (ba : bl a.natAbs ≤ 1099511627776) (H : ∀ w', ZO w' base z → IntR w' z a.natAbs → w.grownBy w' (blk z) → K z w') : call P f_impl_integer_Abs [z, x] w K := by
  obtain ⟨s, hb, hm⟩ := hx
  refine I_impl_integer_Abs ?_
  unfold D_impl_integer_Abs
  rw [nch_bx hb]
  refine IntR.mag hb ?_
  refine c_Clone hm ba fun v w1 e1 h1 => ?_
  exact c_putM (hz.ext e1) h1.Mg fun w2 z2 i2 g2 => H w2 z2 i2 (grown_ext e1 g2)
theorem c_plus {s : Value} {neg : Bool} {n : Nat} (hz : ZO w base z) (hx : IntR w x a) (hs : Mg w s n) (ba : bl a.natAbs ≤ 1099511627776) (bb : bl n ≤ 1099511627776)
    (hn : n = 0 → True) (H : ∀ w', ZO w' base z → IntR w' z (a + sgnI neg n) → w.grownBy w' (blk z) → K z w') : call P f_impl_integer_plus [z, x, .bool neg, s] w K := by
  obtain ⟨s1, hb, hm⟩ := hx
  refine I_impl_integer_plus ?_
  unfold D_impl_integer_plus
  rw [nch_bx hb]
  refine IntR.neg hb ?_
  rw [bin_beql _ _ _ _ _ _ u_bool]
  refine cnd_split (fun h => ?_) (fun h => ?_)
  · have h : decide (a < 0) = neg := by simpa using h
    rw [nch_bx hb]
    refine IntR.mag hb ?_
    refine c_magAdd hm hs ba bb fun v w1 e1 h1 => ?_
    refine c_putM (hz.ext e1) h1.Mg fun w2 z2 i2 g2 => H w2 z2 ?_ (grown_ext e1 g2)
    have : sgnI neg (a.natAbs + n) = a + sgnI neg n := by unfold sgnI; subst h; by_cases h : a < 0 <;> simp [h] <;> omega
    rw [this] at i2; exact i2
  · have h : (decide (a < 0)) = !neg := by
      cases neg <;> by_cases ha : a < 0 <;> simp [ha] at h ⊢
    rw [nch_bx hb]
    refine IntR.mag hb ?_
    refine c_magCmp hm hs ?_
    rw [bin_geq]
    refine cnd_dec (fun hc => ?_) (fun hc => ?_)
    · have hle : n ≤ a.natAbs := by unfold cmpN at hc; split at hc <;> (try split at hc) <;> omega
      rw [nch_bx hb]
      refine IntR.neg hb ?_
      rw [nch_bx hb]
      refine IntR.mag hb ?_
      refine c_magSub hm hs hle ba fun v w1 e1 h1 => ?_
      refine ⟨e1, c_putM (hz.ext e1) h1.Mg fun w2 z2 i2 g2 => H w2 z2 ?_ (grown_ext e1 g2)⟩
      have : sgnI (decide (a < 0)) (a.natAbs - n) = a + sgnI neg n := by unfold sgnI; rw [h]; cases neg <;> simp at h ⊢ <;> omega
      rw [this] at i2; exact i2
    · have hle : a.natAbs ≤ n := by unfold cmpN at hc; split at hc <;> (try split at hc) <;> omega
      rw [nch_bx hb]
      refine IntR.mag hb ?_
      refine c_magSub hs hm hle bb fun v w1 e1 h1 => ?_
      refine c_putM (hz.ext e1) h1.Mg fun w2 z2 i2 g2 => H w2 z2 ?_ (grown_ext e1 g2)
      have : sgnI neg (n - a.natAbs) = a + sgnI neg n := by unfold sgnI; cases neg <;> simp at h ⊢ <;> omega
      rw [this] at i2; exact i2
theorem c_Add (hz : ZO w base z) (hx : IntR w x a) (hy : IntR w y b) (ba : bl a.natAbs ≤ 1099511627776) (bb : bl b.natAbs ≤ 1099511627776)
    (H : ∀ w', ZO w' base z → IntR w' z (a + b) → w.grownBy w' (blk z) → K z w') : call P f_impl_integer_Add [z, x, y] w K := by
  obtain ⟨s, hb, hm⟩ := hy
  refine I_impl_integer_Add ?_
  unfold D_impl_integer_Add
  rw [nch_bx hb]
  refine IntR.neg hb ?_
  rw [nch_bx hb]
  refine IntR.mag hb ?_
  refine c_plus hz hx hm ba bb (fun _ => trivial) fun w2 z2 i2 g2 => H w2 z2 ?_ g2
  have : sgnI (decide (b < 0)) b.natAbs = b := by unfold sgnI; by_cases h : b < 0 <;> simp [h] <;> omega
  rw [this] at i2; exact i2
theorem c_Sub (hz : ZO w base z) (hx : IntR w x a) (hy : IntR w y b) (ba : bl a.natAbs ≤ 1099511627776) (bb : bl b.natAbs ≤ 1099511627776)
    (H : ∀ w', ZO w' base z → IntR w' z (a - b) → w.grownBy w' (blk z) → K z w') : call P f_impl_integer_Sub [z, x, y] w K := by
  obtain ⟨s, hb, hm⟩ := hy
  refine I_impl_integer_Sub ?_
  unfold D_impl_integer_Sub
  rw [nch_bx hb]
  refine IntR.neg hb ?_
  rw [una_not, nch_bx hb]
  refine IntR.mag hb ?_
  refine c_plus hz hx hm ba bb (fun _ => trivial) fun w2 z2 i2 g2 => H w2 z2 ?_ g2
  have : a + sgnI (!decide (b < 0)) b.natAbs = a - b := by unfold sgnI; by_cases h : b < 0 <;> simp [h] <;> omega
  rw [this] at i2; exact i2
theorem c_Lsh {n : Nat} (hz : ZO w base z) (hx : IntR w x a) (ba : bl a.natAbs ≤ 1099511627776) (bn : n ≤ 1099511627776)
    (H : ∀ w', ZO w' base z → IntR w' z (a * 2 ^ n) → w.grownBy w' (blk z) → K z w') : call P f_impl_integer_Lsh [z, x, .int .u64 (n : Int)] w K := by
  obtain ⟨s, hb, hm⟩ := hx
  refine I_impl_integer_Lsh ?_
  unfold D_impl_integer_Lsh
  rw [nch_bx hb]
  refine IntR.neg hb ?_
  rw [nch_bx hb]
  refine IntR.mag hb ?_
  refine c_magLeft hm ba bn fun v w1 e1 h1 => ?_
  refine ⟨e1, c_putM (hz.ext e1) h1.Mg fun w2 z2 i2 g2 => H w2 z2 ?_ (grown_ext e1 g2)⟩
  have : sgnI (decide (a < 0)) (a.natAbs * 2 ^ n) = a * 2 ^ n := by
    unfold sgnI
    by_cases h : a < 0
    · simp only [h, decide_true, if_true, Int.natCast_mul, Int.natCast_pow]
      have : (a.natAbs : Int) = -a := by omega
      rw [this, Int.neg_mul, Int.neg_neg]; rfl
    · simp only [h, decide_false, Bool.false_eq_true, if_false, Int.natCast_mul, Int.natCast_pow]
      have : (a.natAbs : Int) = a := by omega
      rw [this]; rfl
  rw [this] at i2; exact i2
theorem neg_div {a p : Int} (h : a < 0) (hp : 0 < p) : -((-a - 1) / p + 1) = a / p := by
  have h1 := Int.mul_ediv_add_emod (-a - 1) p
  have h2 := Int.emod_nonneg (-a - 1) (Int.ne_of_gt hp)
  have h3 := Int.emod_lt_of_pos (-a - 1) hp
  generalize (-a - 1) / p = d at *
  generalize (-a - 1) % p = r at *
  have h4 : a = (p - r - 1) + p * (-(d + 1)) := by grind
  rw [h4, Int.add_mul_ediv_left _ _ (Int.ne_of_gt hp), Int.ediv_eq_zero_of_lt (by omega) (by omega)]
  omega
theorem one_u32 : (IR .u32 w (.slice none 0 0) []) := IR.nil _ _
theorem bsl_u32 {d : Nat} {KW : Value → World → Prop} (hd : d < 4294967296) (h0 : d ≠ 0) (H : ∀ v w', Ext w w' → Mg w' v d → KW v w') : bsl P t_s_uint32 1 [(0, .int .u32 (d : Int))] w KW := by
  refine bsl_one u_s_uint32 i_uint32 rfl rfl ?_
  have he := Ext_alloc w (.cells #[.int .u32 (d : Int)] t_uint32)
  have ho : OD .u32 t_uint32 (w.alloc (.cells #[.int .u32 (d : Int)] t_uint32)) w.heap.size (.slice (some ⟨w.heap.size, 0, none⟩) 1 1) [d] := owns_lit w [.int .u32 (d : Int)] t_uint32 (by simp [maxLen])
  exact H _ _ he ⟨[d], ho.IR, ⟨fun x hx => by simp at hx; omega, by simpa using h0⟩, by simp [val], Ty.owns ho⟩
theorem c_Rsh {n : Nat} (hz : ZO w base z) (hx : IntR w x a) (ba : bl a.natAbs ≤ 1099511627775) (bn : n ≤ 9223372036854775807)
    (H : ∀ w', ZO w' base z → IntR w' z (a / 2 ^ n) → w.grownBy w' (blk z) → K z w') : call P f_impl_integer_Rsh [z, x, .int .u64 (n : Int)] w K := by
  obtain ⟨s, hb, hm⟩ := hx
  refine I_impl_integer_Rsh ?_
  unfold D_impl_integer_Rsh
  have hpc : ((2 ^ n : Nat) : Int) = (2 : Int) ^ n := by simp
  rw [nch_bx hb]
  refine IntR.neg hb ?_
  rw [una_not]
  refine cnd_split (fun h => ?_) (fun h => ?_)
  · have h : ¬ a < 0 := by simpa using h
    rw [nch_bx hb]
    refine IntR.mag hb ?_
    refine c_magRight hm (by omega) bn fun v w1 e1 h1 => ?_
    refine c_putM (hz.ext e1) h1.Mg fun w2 z2 i2 g2 => H w2 z2 ?_ (grown_ext e1 g2)
    have : sgnI false (a.natAbs / 2 ^ n) = a / 2 ^ n := by
      show ((a.natAbs / 2 ^ n : Nat) : Int) = _
      rw [Int.natCast_ediv, hpc, show (a.natAbs : Int) = a by omega]
    rw [this] at i2; exact i2
  · have h : a < 0 := by simpa using h
    rw [nch_bx hb]
    refine IntR.mag hb ?_
    refine bsl_u32 (d := 1) (by decide) (by decide) fun v1 w1 e1 m1 => ?_
    refine c_magSub (hm.ext e1) m1 (by omega) (by omega) fun v2 w2 e2 m2 => ?_
    have hs := bl_sub_le a.natAbs 1
    refine c_magRight m2.Mg (by omega) bn fun v3 w3 e3 m3 => ?_
    refine bsl_u32 (d := 1) (by decide) (by decide) fun v4 w4 e4 m4 => ?_
    have hs2 := bl_shr (a.natAbs - 1) n
    refine c_magAdd (m3.Mg.ext e4) m4 (by omega) (by rw [bl_one]; decide) fun v5 w5 e5 m5 => ?_
    have E := e1.trans (e2.trans (e3.trans (e4.trans e5)))
    refine c_putM (hz.ext E) m5.Mg fun w6 z6 i6 g6 => H w6 z6 ?_ (grown_ext E g6)
    have : sgnI true ((a.natAbs - 1) / 2 ^ n + 1) = a / 2 ^ n := by
      have hp : (0 : Int) < 2 ^ n := Int.pow_pos (by decide)
      show -((((a.natAbs - 1) / 2 ^ n + 1 : Nat)) : Int) = _
      rw [Int.natCast_add, Int.natCast_ediv, hpc]
      have h2 : ((a.natAbs - 1 : Nat) : Int) = -a - 1 := by omega
      rw [h2]
      exact neg_div (by omega) hp
    rw [this] at i6; exact i6
end
end Go.Proofs.YtabgkpfcpncmhaaGreat

/- Contracts: whole numbers out of words, their bits, their lowest digits. -/
set_option linter.unusedVariables false
namespace Go.Proofs.YtabgkpfcpncmhaaGreat
open Go Go.Vc

variable {w : World} {K : Value → World → Prop}

/-! ### numbers of 64 bits -/
theorem c_SetInt64 {z : Value} {n : Int} {base : Nat} (hz : ZO w base z) (h1 : -9223372036854775808 ≤ n) (h2 : n ≤ 9223372036854775807)
    (H : ∀ w', ZO w' base z → IntR w' z n → w.grownBy w' (blk z) → K z w') : call P f_impl_integer_SetInt64 [z, .int .i64 n] w K := by
  refine I_impl_integer_SetInt64 ?_
  unfold D_impl_integer_SetInt64
  rw [cnv_int_int u_int64 u_uint64]
  refine ⟨fun x w' => w' = w ∧ x = .int .u64 (n.natAbs : Int), ?_, ?_⟩
  · rintro x junk w' ⟨rfl, rfl⟩
    rw [bin_lss, cnv_64_32, bin_shrN (s := 32) (by decide), cnv_64_32]
    rw [show (2 : Nat) ^ 32 = 4294967296 from rfl]
    have hm : n.natAbs / 4294967296 % 4294967296 = n.natAbs / 4294967296 := Nat.mod_eq_of_lt (by omega)
    rw [hm]
    refine bsl_two u_s_uint32 i_uint32 rfl rfl rfl ?_
    have he := Ext_alloc w' (.cells #[.int .u32 ((n.natAbs % 4294967296 : Nat) : Int), .int .u32 ((n.natAbs / 4294967296 : Nat) : Int)] t_uint32)
    have ho : OD .u32 t_uint32 (w'.alloc (.cells #[.int .u32 ((n.natAbs % 4294967296 : Nat) : Int), .int .u32 ((n.natAbs / 4294967296 : Nat) : Int)] t_uint32)) w'.heap.size (.slice (some ⟨w'.heap.size, 0, none⟩) 2 2) [n.natAbs % 4294967296, n.natAbs / 4294967296] :=
      owns_lit w' [.int .u32 ((n.natAbs % 4294967296 : Nat) : Int), .int .u32 ((n.natAbs / 4294967296 : Nat) : Int)] t_uint32 (by simp [maxLen])
    have hd : Dig 4294967296 [n.natAbs % 4294967296, n.natAbs / 4294967296] := fun d hd => by
      simp only [List.mem_cons, List.not_mem_nil, or_false] at hd
      rcases hd with rfl | rfl
      · exact Nat.mod_lt _ (by decide)
      · omega
    refine c_put (hz.ext he) ho.IR (Ty.owns ho) hd fun w2 z2 i2 g2 => H w2 z2 ?_ (grown_ext he g2)
    have e : val 4294967296 [n.natAbs % 4294967296, n.natAbs / 4294967296] = n.natAbs := by
      simp only [val]
      have := Nat.div_add_mod n.natAbs 4294967296
      omega
    rw [e] at i2
    have : sgnI (decide (n < 0)) n.natAbs = n := by unfold sgnI; by_cases h : n < 0 <;> simp [h] <;> omega
    rw [this] at i2; exact i2
  · rw [bin_lss]
    have hw : IntKind.u64.wrap n = if n < 0 then n + 18446744073709551616 else n := by
      simp [IntKind.wrap, IntKind.bits, IntKind.signed]; split <;> omega
    refine cnd_dec (fun h => ?_) (fun h => ?_)
    · rw [una_neg_int, hw, if_pos h]
      refine ⟨rfl, ?_⟩
      congr 1
      have : IntKind.u64.wrap (0 - (n + 18446744073709551616)) = (-n) % 18446744073709551616 := by
        simp [IntKind.wrap, IntKind.bits, IntKind.signed]; omega
      rw [this]; omega
    · rw [hw, if_neg h]
      exact ⟨rfl, by congr 1; omega⟩
theorem c_newInt {n : Int} (h1 : -9223372036854775808 ≤ n) (h2 : n ≤ 9223372036854775807)
    (H : ∀ p w', Ext w w' → ZO w' w.heap.size p → IntR w' p n → K p w') : call P f_impl_newInt [.int .i64 n] w K := by
  refine I_impl_newInt ?_
  unfold D_impl_newInt
  refine alc_Z fun p w1 z1 _ e1 => ?_
  exact c_SetInt64 z1 h1 h2 fun w2 z2 i2 g2 => H p w2 (ext_of_grown e1 (fun g hg => z1.blk_ge hg) g2) z2 i2

/-! ### lowest digits -/
theorem bl0_min_i64 {ats : Array TypeId} {ty : TypeId} {k : IntKind} {a b : Int} {K : Value → Prop} : bl0 P .min ats ty [.int k a, .int k b] w K = K (.int k (min a b)) := by
  unfold bl0
  have : rv P (builtin .min ats ty #[] [.int k a, .int k b].toArray) w = some (.value (.int k (min a b))) := by
    have e : min a b = if b < a then b else a := by split <;> omega
    rw [e]
    simp [builtin, Builtin.min_, Builtin.min2]
  rw [this]
  simp [valK]
theorem bl0_max_i64 {ats : Array TypeId} {ty : TypeId} {k : IntKind} {a b : Int} {K : Value → Prop} : bl0 P .max ats ty [.int k a, .int k b] w K = K (.int k (max a b)) := by
  unfold bl0
  have : rv P (builtin .max ats ty #[] [.int k a, .int k b].toArray) w = some (.value (.int k (max a b))) := by
    have e : max a b = if a < b then b else a := by split <;> omega
    rw [e]
    simp [builtin, Builtin.max_, Builtin.max2]
  rw [this]
  simp [valK]
theorem c_low {p : Value} {m : Int} (h : IntR w p m) (hm : m.natAbs < 18446744073709551616) (H : K (.int .u64 (m.natAbs : Int)) w) : call P f_impl_integer_low [p] w K := by
  obtain ⟨s, hb, l, h1, h2, h3, _⟩ := h
  have b1 := h1.bound
  refine I_impl_integer_low ?_
  unfold D_impl_integer_low
  rw [nch_bx hb]
  refine IntR.mag hb ?_
  rw [h1.row.len u_s_uint32]
  have hlen : l.length ≤ 2 := by
    refine Nat.le_of_not_lt fun hc => ?_
    have := h2.ge (by rintro rfl; simp at hc)
    have h4 : (4294967296 : Nat) ^ 2 ≤ 4294967296 ^ (l.length - 1) := Nat.pow_le_pow_right (by decide) (by omega)
    have h5 : (4294967296 : Nat) ^ 2 = 18446744073709551616 := by decide
    omega
  have hmin : bl0 P .min #[t_int, t_int] t_int [.int .i64 (l.length : Int), .int .i64 2] w = fun K => K (.int .i64 (l.length : Int)) := by
    funext K
    rw [bl0_min_i64]
    congr 2; omega
  rw [hmin]
  show bin P .sub t_int false true (.int .i64 (l.length : Int)) (.int .i64 1) w _
  rw [bin_sub, wrap_i64 (by omega) (by omega)]
  refine ⟨fun g x y w' => w' = w ∧ ∃ u : Nat, x = .int .u64 (u : Int) ∧ y = .int .i64 ((g : Int) - 1) ∧ g ≤ l.length ∧ u = val 4294967296 (l.drop g), ⟨l.length, rfl, 0, rfl, rfl, Nat.le_refl _, by simp [val]⟩, ?_⟩
  rintro g x y junk w' ⟨rfl, u, rfl, rfl, hg, hu⟩
  rw [bin_geq]
  refine cnd_dec (fun hge => ?_) (fun hlt => ?_)
  · have hg0 : 0 < g := by omega
    have hi : g - 1 < l.length := by omega
    have g1 := Dig_get h2.1 hi
    have hul : u < 4294967296 := by
      have := val_lt (h2.1.drop g)
      rw [List.length_drop, ← hu] at this
      have h4 : (4294967296 : Nat) ^ (l.length - g) ≤ 4294967296 ^ 1 := Nat.pow_le_pow_right (by decide) (by omega)
      omega
    rw [bin_shlN (s := 32) (by decide) (by rw [max_u64, show (2 : Nat) ^ 32 = 4294967296 from rfl]; omega), show (2 : Nat) ^ 32 = 4294967296 from rfl]
    rw [nch_bx hb]
    refine IntR.mag hb ?_
    rw [show (g : Int) - 1 = ((g - 1 : Nat) : Int) by omega]
    refine h1.at hi u_s_uint32 i_uint32 u_uint32 ?_
    rw [cnv_32_64' g1, bin_orN (b := l[g - 1]) (by simp only [IntKind.bits]; omega) (by simp only [IntKind.bits]; omega) rfl, Nat.or_comm, right_or g1]
    rw [bin_sub, wrap_i64 (by omega) (by omega)]
    refine ⟨g - 1, by omega, rfl, _, rfl, by congr 1, by omega, ?_⟩
    rw [List.drop_eq_getElem_cons hi, val, show g - 1 + 1 = g by omega, ← hu, Nat.mul_comm]
  · have : g = 0 := by omega
    subst this
    rw [List.drop_zero, h3] at hu
    subst hu
    exact H
theorem c_Int64 {p : Value} {m : Int} (h : IntR w p m) (hm : m.natAbs < 9223372036854775808) (H : K (.int .i64 m) w) : call P f_impl_integer_Int64 [p] w K := by
  have h0 := h
  obtain ⟨s, hb, l, h1, h2, h3, _⟩ := h
  refine I_impl_integer_Int64 ?_
  unfold D_impl_integer_Int64
  rw [nch_bx hb]
  refine IntR.neg hb ?_
  refine cnd_dec (fun hn => ?_) (fun hn => ?_)
  · refine c_low h0 (by omega) ?_
    rw [cnv_int_int u_uint64 u_int64, wrap_i64 (by omega) (by omega), una_neg_int, wrap_i64 (by omega) (by omega)]
    rw [show (0 : Int) - (m.natAbs : Int) = m by omega]
    exact H
  · refine c_low h0 (by omega) ?_
    rw [cnv_int_int u_uint64 u_int64, wrap_i64 (by omega) (by omega)]
    rw [show (m.natAbs : Int) = m by omega]
    exact H

/-! ### bits -/
theorem bit_val {l : List Nat} (hd : Dig 4294967296 l) (i : Nat) : val 4294967296 l / 2 ^ i % 2 = l.getD (i / 32) 0 / 2 ^ (i % 32) % 2 := by
  have hn : 2 ^ i = 4294967296 ^ (i / 32) * 2 ^ (i % 32) := by
    conv => lhs; rw [← Nat.div_add_mod i 32, Nat.pow_add, Nat.pow_mul]
  have hs : i % 32 < 32 := Nat.mod_lt _ (by decide)
  rw [hn, ← Nat.div_div_eq_div_mul]
  by_cases h : i / 32 < l.length
  · have hp : 0 < 4294967296 ^ (i / 32) := Nat.pow_pos (by decide)
    have h1 : val 4294967296 l / 4294967296 ^ (i / 32) = val 4294967296 (l.drop (i / 32)) := by
      rw [val_split _ l (Nat.le_of_lt h), Nat.add_mul_div_left _ _ hp, Nat.div_eq_of_lt, Nat.zero_add]
      have := val_lt (hd.take (i / 32))
      rw [List.length_take, Nat.min_eq_left (by omega)] at this
      exact this
    rw [h1, List.drop_eq_getElem_cons h, val, getD_get h]
    have h2 : (4294967296 : Nat) = 2 ^ (i % 32) * (2 * 2 ^ (31 - i % 32)) := by
      rw [← Nat.pow_succ', ← Nat.pow_add, show i % 32 + (31 - i % 32).succ = 32 by omega]
    have h3 : ∀ X, 4294967296 * X = 2 ^ (i % 32) * (2 * (2 ^ (31 - i % 32) * X)) := fun X => by
      conv => lhs; rw [h2]
      grind
    rw [h3, Nat.add_mul_div_left _ _ (Nat.two_pow_pos _), Nat.add_mul_mod_self_left]
  · have h1 : val 4294967296 l / 4294967296 ^ (i / 32) = 0 :=
      Nat.div_eq_of_lt (Nat.lt_of_lt_of_le (val_lt hd) (Nat.pow_le_pow_right (by decide) (by omega)))
    have h2 : l.getD (i / 32) 0 = 0 := by rw [List.getD_eq_getElem?_getD]; simp [show l.length ≤ i / 32 by omega]
    rw [h1, h2]
theorem c_Bit {p : Value} {m : Int} {i : Nat} (h : IntR w p m) (hi : i ≤ 9223372036854775807) (H : K (.int .u64 ((m.natAbs / 2 ^ i % 2 : Nat) : Int)) w) : call P f_impl_integer_Bit [p, .int .i64 (i : Int)] w K := by
  obtain ⟨s, hb, l, h1, h2, h3, _⟩ := h
  have hv := bit_val h2.1 i
  rw [h3] at hv
  rw [hv] at H
  refine I_impl_integer_Bit ?_
  unfold D_impl_integer_Bit
  rw [bin_quoN (b := 32) (by rw [max_i64]; omega) (by decide), nch_bx hb]
  refine IntR.mag hb ?_
  rw [h1.row.len u_s_uint32, bin_geq]
  refine cnd_dec (fun hge => ?_) (fun hlt => ?_)
  · have h2 : l.getD (i / 32) 0 = 0 := by rw [List.getD_eq_getElem?_getD]; simp [show l.length ≤ i / 32 by omega]
    rw [h2] at H
    simpa using H
  · have hlt : i / 32 < l.length := by omega
    rw [nch_bx hb]
    refine IntR.mag hb ?_
    rw [bin_quoN (b := 32) (by rw [max_i64]; omega) (by decide)]
    refine h1.at hlt u_s_uint32 i_uint32 u_uint32 ?_
    have g1 := Dig_get h2.1 hlt
    rw [bin_remN (b := 32) (by decide), bin_shrN (s := i % 32) (by simp only [IntKind.bits]; omega)]
    have hq : l[i / 32] / 2 ^ (i % 32) < 2 ^ IntKind.u32.bits := Nat.lt_of_le_of_lt (Nat.div_le_self _ _) g1
    rw [bin_andN (b := 1) hq (by decide) rfl, Nat.and_one_is_mod, cnv_int_int u_uint32 u_uint, w_u64' (by omega)]
    rw [getD_get hlt] at H
    exact H

/-- How many of the lowest bits are 0. -/
def IsTz (n k : Nat) : Prop := if n = 0 then k = 0 else n % 2 ^ k = 0 ∧ n / 2 ^ k % 2 = 1
end Go.Proofs.YtabgkpfcpncmhaaGreat
