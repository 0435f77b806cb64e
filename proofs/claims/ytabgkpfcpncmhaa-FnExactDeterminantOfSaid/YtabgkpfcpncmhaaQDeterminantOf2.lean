import Derived.Test.YtabgkpfcpncmhaaVcK
import Derived.Test.YtabgkpfcpncmhaaVcI
import Derived.ProofKit
import Derived.OpenShut
import Derived.ChangeOld
import Derived.Deep.Slices
import Derived.Test.YtabgkpfcpncmhaaU1
import Derived.Test.YtabgkpfcpncmhaaVcL
import Derived.Test.YtabgkpfcpncmhaaQDeterminantOf1
set_option linter.unusedSimpArgs false
set_option linter.unusedVariables false
/- Written by a program (gen.py): what is left to show of each function's call. -/
set_option linter.unusedVariables false
set_option maxRecDepth 20000
namespace Go.Proofs.Ytabgkpfcpncmhaa
open Go Go.Vc

/-- spec.l02Of -/
def D_spec_l02Of (a0 : Value) (w : World) (K : Value → World → Prop) : Prop :=
  alc P 26 w fun x2_1 w2 =>
  bsl P 24 0 [] w2 fun x6_3 w4 =>
  ∃ J5 : Value → World → Prop, (∀ (x3_8 : Value) (junk6 : Env) (w7 : World), J5 x3_8 w7 →
    ∃ I9 : Nat → Value → Value → World → Prop, (∃ m34, I9 m34 a0 x6_3 w7) ∧ ∀ (m12 : Nat) (x0_13 : Value) (x4_14 : Value) (junk10 : Env) (w11 : World), I9 m12 x0_13 x4_14 w11 →
      bin P .neq 2 false true x0_13 (.int .i64 0) w11 fun x10_15 =>
      cnd x10_15
        (bin P .rem 2 false true x0_13 (.int .i64 16777216) w11 fun x12_16 =>
        ∃ J17 : Value → World → Prop, (∀ (x5_20 : Value) (junk18 : Env) (w19 : World), J17 x5_20 w19 →
          bsl P 24 1 [(0, x5_20)] w19 fun x19_21 w22 =>
          bl2 P .append #[24, 24] 24 [x4_14, x19_21] w22 fun x20_23 w24 =>
          bin P .quo 2 false true x0_13 (.int .i64 16777216) w24 fun x22_25 =>
          ∃ m26, m26 < m12 ∧ I9 m26 x22_25 x20_23 w24) ∧
          (bin P .lss 2 false true x12_16 (.int .i64 0) w11 fun x14_27 =>
          cnd x14_27
            (una P .neg x12_16 w11 fun x16_28 =>
            J17 x16_28 w11)
            (J17 x12_16 w11)))
        (call P f_spec_l02Make [x3_8, x4_14] w11 fun x25_29 w30 =>
        sto P 26 x2_1 x25_29 w30 fun w32 =>
        ldc P 26 x2_1 w32 fun r33 =>
        K r33 w32)) ∧
    (bin P .lss 2 false true a0 (.int .i64 0) w4 fun x8_35 =>
    cnd x8_35
      (J5 (.int .i64 (-1)) w4)
      (J5 (.int .i64 1) w4))
def P_spec_l02Of : Plan := (.seq (.reg [.op (0, 2, false)]) (.seq (.reg [.op (0, 2, false), .op (1, 0, false), .op (2, 0, false)]) (.cut [3] 392 (.seq (.reg [.op (0, 0, false), .op (1, 0, false)]) (.cond (.reg [.op (0, 0, false)]) .leaf)) (.seq (.blk (.loop [0, 4] 8388145 (.seq (.seq (.reg [.op (0, 0, false), .op (1, 0, false)]) (.cond .leaf .leaf)) (.blk (.seq (.reg [.op (0, 0, false), .op (1, 0, false), .op (2, 0, false)]) (.cut [5] 122912 (.seq (.reg [.op (0, 0, false), .op (1, 0, false)]) (.cond (.reg [.op (0, 0, false), .op (1, 0, false), .op (2, 0, false)]) .leaf)) (.seq (.reg [.op (0, 0, false), .op (1, 0, false), .op (2, 2, false), .op (3, 2, false), .op (4, 0, false)]) (.reg [.op (0, 0, false), .op (1, 0, false), .op (2, 0, false)])))))))) (.seq (.reg [.op (0, 0, false), .op (1, 0, false), .op (2, 2, false), .op (3, 2, false)]) .leaf)))))
theorem I_spec_l02Of {a0 : Value} {w : World} {K : Value → World → Prop} (h : D_spec_l02Of a0 w K) : call P f_spec_l02Of [a0] w K :=
  call_of_vc mixed Try.func29 (c := codeOf Try.f29) (by kernel_rfl) (by kernel_rfl) (p := P_spec_l02Of) (by kernel_rfl) (by rw [Try.ntmps29]; simp) (by
    have e : D_spec_l02Of a0 w K = vc P P_spec_l02Of (codeOf Try.f29) (env0 [a0]) w (retX P Try.f29.results.toList K) := by kernel_rfl
    exact e ▸ h)

/-- spec.l02Is -/
def D_spec_l02Is (a0 : Value) (w : World) (K : Value → World → Prop) : Prop :=
  bx P 26 a0 w fun x1_1 w2 =>
  fda P 26 x1_1 1 w2 fun x5_3 =>
  ld P 24 x5_3 w2 fun x6_4 =>
  bl0 P .len #[24] 3 [x6_4] w2 fun x7_5 =>
  ∃ I6 : Nat → Value → World → Prop, (∃ m57, I6 m57 (.int .i64 0) w2) ∧ ∀ (m9 : Nat) (x4_10 : Value) (junk7 : Env) (w8 : World), I6 m9 x4_10 w8 →
    bin P .lss 3 false false x4_10 x7_5 w8 fun x10_11 =>
    cnd x10_11
      (fda P 26 x1_1 1 w8 fun x13_12 =>
      ld P 24 x13_12 w8 fun x14_13 =>
      ixa P 24 x14_13 x4_10 w8 fun x16_14 =>
      ld P 2 x16_14 w8 fun x17_15 =>
      call P f_spec_l01In [x17_15, (.int .i64 0), (.int .i64 16777215)] w8 fun x18_16 w17 =>
      una P .not x18_16 w17 fun x19_18 =>
      cnd x19_18
        (K (.bool false) w17)
        (bin P .add 3 false true x4_10 (.int .i64 1) w17 fun x12_19 =>
        ∃ m20, m20 < m9 ∧ I6 m20 x12_19 w17))
      (bin P .eql 3 false true x7_5 (.int .i64 0) w8 fun x21_21 =>
      cnd x21_21
        (fda P 26 x1_1 0 w8 fun x22_22 =>
        ld P 2 x22_22 w8 fun x23_23 =>
        bin P .eql 2 false true x23_23 (.int .i64 0) w8 fun x24_24 =>
        K x24_24 w8)
        (bin P .leq 3 false true x7_5 (.int .i64 100) w8 fun x26_25 =>
        ∃ J26 : Value → World → Prop, (∀ (x34_27 : Value) (junk29 : Env) (w28 : World), J26 x34_27 w28 →
          pick x26_25 x34_27 (.bool false) fun x35_30 =>
          ∃ J31 : Value → World → Prop, (∀ (x40_32 : Value) (junk34 : Env) (w33 : World), J31 x40_32 w33 →
          ∃ J35 : Value → World → Prop, (∀ (x43_36 : Value) (junk38 : Env) (w37 : World), J35 x43_36 w37 →
          ∃ J39 : Value → World → Prop, (∀ (x44_40 : Value) (junk42 : Env) (w41 : World), J39 x44_40 w41 →
          pick x35_30 x44_40 (.bool false) fun x45_43 =>
                K x45_43 w41) ∧
          grd x35_30 true
            (pick x40_32 (.bool true) x43_36 fun x44_44 =>
                  J39 x44_44 w37)
            (J39 undef w37)) ∧
          grd x40_32 false
            (fda P 26 x1_1 0 w33 fun x41_45 =>
                ld P 2 x41_45 w33 fun x42_46 =>
                bin P .eql 2 false true x42_46 (.int .i64 (-1)) w33 fun x43_47 =>
                J35 x43_47 w33)
            (J35 undef w33)) ∧
          grd x35_30 true
            (fda P 26 x1_1 0 w28 fun x37_48 =>
              ld P 2 x37_48 w28 fun x38_49 =>
              bin P .eql 2 false true x38_49 (.int .i64 1) w28 fun x39_50 =>
              J31 x39_50 w28)
            (J31 undef w28)) ∧
          grd x26_25 true
            (fda P 26 x1_1 1 w8 fun x28_51 =>
            ld P 24 x28_51 w8 fun x29_52 =>
            bin P .sub 3 false true x7_5 (.int .i64 1) w8 fun x31_53 =>
            ixa P 24 x29_52 x31_53 w8 fun x32_54 =>
            ld P 2 x32_54 w8 fun x33_55 =>
            bin P .neq 2 false true x33_55 (.int .i64 0) w8 fun x34_56 =>
            J26 x34_56 w8)
            (J26 undef w8)))
def P_spec_l02Is : Plan := (.seq (.reg [.op (0, 2, false), .op (1, 0, false)]) (.seq (.reg [.op (0, 0, false), .op (1, 0, false), .op (2, 0, false), .op (3, 0, false)]) (.seq (.seq (.reg [.op (0, 0, false)]) (.blk (.loop [4] 1048340 (.seq (.seq (.reg [.op (0, 0, false), .op (1, 0, false), .op (2, 0, false)]) (.cond .leaf .leaf)) (.seq (.blk (.seq (.reg [.op (0, 0, false), .op (1, 0, false), .op (2, 0, false), .op (3, 0, false), .op (4, 0, false), .op (5, 2, false), .op (6, 0, false)]) (.cond (.seq (.reg [.op (0, 0, false)]) .leaf) .leaf))) (.reg [.op (0, 0, false), .op (1, 0, false), .op (2, 0, false)])))))) (.seq (.seq (.reg [.op (0, 0, false), .op (1, 0, false)]) (.cond (.seq (.reg [.op (0, 0, false), .op (1, 0, false), .op (2, 0, false), .op (3, 0, false)]) .leaf) .leaf)) (.seq (.reg [.op (0, 0, false), .op (1, 0, false), .op (2, 0, false), .grp 2 true [(3, 0, false), (4, 0, false), (5, 0, false), (6, 0, false), (7, 0, false), (8, 0, false), (9, 0, false)] [34] 34091302912, .op (10, 0, false), .op (11, 0, false), .grp 11 true [(12, 0, false), (13, 0, false), (14, 0, false), (15, 0, false)] [40] 2061584302080, .grp 15 false [(16, 0, false), (17, 0, false), (18, 0, false)] [43] 15393162788864, .grp 11 true [(19, 0, false)] [44] 17592186044416, .op (20, 0, false), .op (21, 0, false)]) .leaf)))))
theorem I_spec_l02Is {a0 : Value} {w : World} {K : Value → World → Prop} (h : D_spec_l02Is a0 w K) : call P f_spec_l02Is [a0] w K :=
  call_of_vc mixed Try.func51 (c := codeOf Try.f51) (by kernel_rfl) (by kernel_rfl) (p := P_spec_l02Is) (by kernel_rfl) (by rw [Try.ntmps51]; simp) (by
    have e : D_spec_l02Is a0 w K = vc P P_spec_l02Is (codeOf Try.f51) (env0 [a0]) w (retX P Try.f51.results.toList K) := by kernel_rfl
    exact e ▸ h)

/-- spec.l02Twos -/
def D_spec_l02Twos (a0 : Value) (w : World) (K : Value → World → Prop) : Prop :=
  bx P 26 a0 w fun x1_1 w2 =>
  ∃ I3 : Nat → Value → World → Prop, (∃ m14, I3 m14 (.int .i64 0) w2) ∧ ∀ (m6 : Nat) (x3_7 : Value) (junk4 : Env) (w5 : World), I3 m6 x3_7 w5 →
    ld P 26 x1_1 w5 fun x4_8 =>
    call P f_spec_l02Bit [x4_8, x3_7] w5 fun x6_9 w10 =>
    bin P .eql 2 false true x6_9 (.int .i64 0) w10 fun x7_11 =>
    cnd x7_11
      (bin P .add 2 false true x3_7 (.int .i64 1) w10 fun x9_12 =>
      ∃ m13, m13 < m6 ∧ I3 m13 x9_12 w10)
      (K x3_7 w10)
def P_spec_l02Twos : Plan := (.seq (.reg [.op (0, 2, false), .op (1, 0, false)]) (.seq (.reg [.op (0, 0, false)]) (.seq (.blk (.loop [3] 1016 (.seq (.seq (.reg [.op (0, 0, false), .op (1, 0, false), .op (2, 2, false), .op (3, 0, false)]) (.cond .leaf .leaf)) (.blk (.reg [.op (0, 0, false), .op (1, 0, false), .op (2, 0, false)]))))) (.seq (.reg [.op (0, 0, false), .op (1, 0, false)]) .leaf))))
theorem I_spec_l02Twos {a0 : Value} {w : World} {K : Value → World → Prop} (h : D_spec_l02Twos a0 w K) : call P f_spec_l02Twos [a0] w K :=
  call_of_vc mixed Try.func53 (c := codeOf Try.f53) (by kernel_rfl) (by kernel_rfl) (p := P_spec_l02Twos) (by kernel_rfl) (by rw [Try.ntmps53]; simp) (by
    have e : D_spec_l02Twos a0 w K = vc P P_spec_l02Twos (codeOf Try.f53) (env0 [a0]) w (retX P Try.f53.results.toList K) := by kernel_rfl
    exact e ▸ h)

/-- spec.l02Cut -/
def D_spec_l02Cut (a0 a1 : Value) (w : World) (K : Value → World → Prop) : Prop :=
  bx P 26 a0 w fun x2_1 w2 =>
  alc P 26 w2 fun x4_3 w4 =>
  bsl P 24 0 [] w4 fun x8_5 w6 =>
  bin P .quo 2 false true a1 (.int .i64 24) w6 fun x10_7 =>
  ∃ I8 : Nat → Value → Value → World → Prop, (∃ m60, I8 m60 x8_5 x10_7 w6) ∧ ∀ (m11 : Nat) (x5_12 : Value) (x6_13 : Value) (junk9 : Env) (w10 : World), I8 m11 x5_12 x6_13 w10 →
    fda P 26 x2_1 1 w10 fun x12_14 =>
    ld P 24 x12_14 w10 fun x13_15 =>
    bl0 P .len #[24] 3 [x13_15] w10 fun x14_16 =>
    bin P .lss 2 false false x6_13 x14_16 w10 fun x15_17 =>
    cnd x15_17
      (fda P 26 x2_1 1 w10 fun x18_18 =>
      ld P 24 x18_18 w10 fun x19_19 =>
      ixa P 24 x19_19 x6_13 w10 fun x21_20 =>
      ld P 2 x21_20 w10 fun x22_21 =>
      bin P .rem 2 false true a1 (.int .i64 24) w10 fun x24_22 =>
      cnv P 2 97 x24_22 w10 fun x25_23 =>
      bin P .shr 2 false false x22_21 x25_23 w10 fun x26_24 =>
      bin P .add 2 false true x6_13 (.int .i64 1) w10 fun x28_25 =>
      fda P 26 x2_1 1 w10 fun x29_26 =>
      ld P 24 x29_26 w10 fun x30_27 =>
      bl0 P .len #[24] 3 [x30_27] w10 fun x31_28 =>
      bin P .lss 2 false false x28_25 x31_28 w10 fun x32_29 =>
      cnd x32_29
        (fda P 26 x2_1 1 w10 fun x34_30 =>
        ld P 24 x34_30 w10 fun x35_31 =>
        bin P .add 2 false true x6_13 (.int .i64 1) w10 fun x37_32 =>
        ixa P 24 x35_31 x37_32 w10 fun x38_33 =>
        ld P 2 x38_33 w10 fun x39_34 =>
        bin P .rem 2 false true a1 (.int .i64 24) w10 fun x41_35 =>
        bin P .sub 2 true false (.int .i64 24) x41_35 w10 fun x42_36 =>
        cnv P 2 97 x42_36 w10 fun x43_37 =>
        bin P .shl 2 false false x39_34 x43_37 w10 fun x44_38 =>
        bin P .add 2 false false x26_24 x44_38 w10 fun x45_39 =>
        bin P .rem 2 false true x45_39 (.int .i64 16777216) w10 fun x46_40 =>
        bsl P 24 1 [(0, x46_40)] w10 fun x49_41 w42 =>
        bl2 P .append #[24, 24] 24 [x5_12, x49_41] w42 fun x50_43 w44 =>
        bin P .add 2 false true x6_13 (.int .i64 1) w44 fun x17_45 =>
        ∃ m46, m46 < m11 ∧ I8 m46 x50_43 x17_45 w44)
        (bsl P 24 1 [(0, x26_24)] w10 fun x49_47 w48 =>
        bl2 P .append #[24, 24] 24 [x5_12, x49_47] w48 fun x50_49 w50 =>
        bin P .add 2 false true x6_13 (.int .i64 1) w50 fun x17_51 =>
        ∃ m52, m52 < m11 ∧ I8 m52 x50_49 x17_51 w50))
      (fda P 26 x2_1 0 w10 fun x51_53 =>
      ld P 2 x51_53 w10 fun x52_54 =>
      call P f_spec_l02Make [x52_54, x5_12] w10 fun x54_55 w56 =>
      sto P 26 x4_3 x54_55 w56 fun w58 =>
      ldc P 26 x4_3 w58 fun r59 =>
      K r59 w58)
def P_spec_l02Cut : Plan := (.seq (.reg [.op (0, 2, false), .op (1, 2, false)]) (.seq (.reg [.op (0, 2, false), .op (1, 0, false)]) (.seq (.seq (.reg [.op (0, 0, false), .op (1, 0, false), .op (2, 0, false)]) (.blk (.loop [5, 6] 2251799813683424 (.seq (.seq (.reg [.op (0, 0, false), .op (1, 0, false), .op (2, 0, false), .op (3, 0, false), .op (4, 0, false)]) (.cond .leaf .leaf)) (.seq (.blk (.seq (.reg [.op (0, 0, false), .op (1, 0, false), .op (2, 0, false), .op (3, 0, false), .op (4, 0, false), .op (5, 0, false), .op (6, 0, false), .op (7, 0, false), .op (8, 0, false), .op (9, 0, false)]) (.seq (.seq (.reg [.op (0, 0, false), .op (1, 0, false), .op (2, 0, false), .op (3, 0, false), .op (4, 0, false), .op (5, 0, false)]) (.cond (.reg [.op (0, 0, false), .op (1, 0, false), .op (2, 0, false), .op (3, 0, false), .op (4, 0, false), .op (5, 0, false), .op (6, 0, false), .op (7, 0, false), .op (8, 0, false), .op (9, 0, false), .op (10, 0, false), .op (11, 0, false), .op (12, 0, false), .op (13, 0, false), .op (14, 0, false)]) .leaf)) (.reg [.op (0, 0, false), .op (1, 0, false), .op (2, 2, false), .op (3, 2, false), .op (4, 0, false)])))) (.reg [.op (0, 0, false), .op (1, 0, false), .op (2, 0, false)])))))) (.seq (.reg [.op (0, 0, false), .op (1, 0, false), .op (2, 0, false), .op (3, 2, false), .op (4, 2, false)]) .leaf))))
theorem I_spec_l02Cut {a0 a1 : Value} {w : World} {K : Value → World → Prop} (h : D_spec_l02Cut a0 a1 w K) : call P f_spec_l02Cut [a0, a1] w K :=
  call_of_vc mixed Try.func54 (c := codeOf Try.f54) (by kernel_rfl) (by kernel_rfl) (p := P_spec_l02Cut) (by kernel_rfl) (by rw [Try.ntmps54]; simp) (by
    have e : D_spec_l02Cut a0 a1 w K = vc P P_spec_l02Cut (codeOf Try.f54) (env0 [a0, a1]) w (retX P Try.f54.results.toList K) := by kernel_rfl
    exact e ▸ h)

/-- spec.l02Make -/
def D_spec_l02Make (a0 a1 : Value) (w : World) (K : Value → World → Prop) : Prop :=
  alc P 26 w fun x4_1 w2 =>
  bl0 P .len #[24] 3 [a1] w2 fun x7_3 =>
  ∃ I4 : Nat → Value → World → Prop, (∃ m33, I4 m33 x7_3 w2) ∧ ∀ (m7 : Nat) (x5_8 : Value) (junk5 : Env) (w6 : World), I4 m7 x5_8 w6 →
    bin P .gtr 3 false true x5_8 (.int .i64 0) w6 fun x9_9 =>
    ∃ J10 : Value → World → Prop, (∀ (x16_11 : Value) (junk13 : Env) (w12 : World), J10 x16_11 w12 →
      pick x9_9 x16_11 (.bool false) fun x17_14 =>
      cnd x17_14
        (bin P .sub 3 false true x5_8 (.int .i64 1) w12 fun x19_15 =>
        ∃ m16, m16 < m7 ∧ I4 m16 x19_15 w12)
        (bin P .eql 3 false true x5_8 (.int .i64 0) w12 fun x21_17 =>
        cnd x21_17
          (bld P 26 [] w12 fun x22_18 =>
          sto P 26 x4_1 x22_18 w12 fun w20 =>
          ldc P 26 x4_1 w20 fun r21 =>
          K r21 w20)
          (sli P 24 a1 none (some x5_8) none w12 fun x26_22 =>
          call P f_spec_l01Own [x26_22] w12 fun x27_23 w24 =>
          bld P 26 [(0, a0), (1, x27_23)] w24 fun x28_25 =>
          sto P 26 x4_1 x28_25 w24 fun w27 =>
          ldc P 26 x4_1 w27 fun r28 =>
          K r28 w27))) ∧
      grd x9_9 true
        (bin P .sub 3 false true x5_8 (.int .i64 1) w6 fun x13_29 =>
        ixa P 24 a1 x13_29 w6 fun x14_30 =>
        ld P 2 x14_30 w6 fun x15_31 =>
        bin P .eql 2 false true x15_31 (.int .i64 0) w6 fun x16_32 =>
        J10 x16_32 w6)
        (J10 undef w6)
def P_spec_l02Make : Plan := (.seq (.reg [.op (0, 2, false)]) (.seq (.reg [.op (0, 0, false), .op (1, 0, false), .op (2, 0, false)]) (.seq (.blk (.loop [5] 1048352 (.seq (.seq (.reg [.op (0, 0, false), .op (1, 0, false), .op (2, 0, false), .grp 2 true [(3, 0, false), (4, 0, false), (5, 0, false), (6, 0, false), (7, 0, false), (8, 0, false)] [16] 129024, .op (9, 0, false)]) (.cond .leaf .leaf)) (.blk (.reg [.op (0, 0, false), .op (1, 0, false), .op (2, 0, false)]))))) (.seq (.seq (.reg [.op (0, 0, false), .op (1, 0, false)]) (.cond (.seq (.reg [.op (0, 0, false), .op (1, 2, false)]) .leaf) .leaf)) (.seq (.reg [.op (0, 0, false), .op (1, 0, false), .op (2, 0, false), .op (3, 0, false), .op (4, 2, false), .op (5, 0, false), .op (6, 2, false)]) .leaf)))))
theorem I_spec_l02Make {a0 a1 : Value} {w : World} {K : Value → World → Prop} (h : D_spec_l02Make a0 a1 w K) : call P f_spec_l02Make [a0, a1] w K :=
  call_of_vc mixed Try.func55 (c := codeOf Try.f55) (by kernel_rfl) (by kernel_rfl) (p := P_spec_l02Make) (by kernel_rfl) (by rw [Try.ntmps55]; simp) (by
    have e : D_spec_l02Make a0 a1 w K = vc P P_spec_l02Make (codeOf Try.f55) (env0 [a0, a1]) w (retX P Try.f55.results.toList K) := by kernel_rfl
    exact e ▸ h)

/-- spec.l02Mul -/
def D_spec_l02Mul (a0 a1 : Value) (w : World) (K : Value → World → Prop) : Prop :=
  bx P 26 a0 w fun x2_1 w2 =>
  bx P 26 a1 w2 fun x3_3 w4 =>
  alc P 26 w4 fun x4_5 w6 =>
  fda P 26 x2_1 1 w6 fun x9_7 =>
  ld P 24 x9_7 w6 fun x10_8 =>
  bl0 P .len #[24] 3 [x10_8] w6 fun x11_9 =>
  fda P 26 x3_3 1 w6 fun x12_10 =>
  ld P 24 x12_10 w6 fun x13_11 =>
  bl0 P .len #[24] 3 [x13_11] w6 fun x14_12 =>
  bin P .add 3 false false x11_9 x14_12 w6 fun x15_13 =>
  bin P .add 3 false true x15_13 (.int .i64 1) w6 fun x16_14 =>
  mks P 24 x16_14 x16_14 w6 fun x17_15 w16 =>
  ∃ I17 : Nat → Value → World → Prop, (∃ m78, I17 m78 (.int .i64 0) w16) ∧ ∀ (m20 : Nat) (x6_21 : Value) (junk18 : Env) (w19 : World), I17 m20 x6_21 w19 →
    fda P 26 x2_1 1 w19 fun x19_22 =>
    ld P 24 x19_22 w19 fun x20_23 =>
    bl0 P .len #[24] 3 [x20_23] w19 fun x21_24 =>
    bin P .lss 3 false false x6_21 x21_24 w19 fun x22_25 =>
    cnd x22_25
      (∃ I26 : Nat → Value → Value → World → Prop, (∃ m67, I26 m67 (.int .i64 0) (.int .i64 0) w19) ∧ ∀ (m29 : Nat) (x7_30 : Value) (x8_31 : Value) (junk27 : Env) (w28 : World), I26 m29 x7_30 x8_31 w28 →
        fda P 26 x3_3 1 w28 fun x26_32 =>
        ld P 24 x26_32 w28 fun x27_33 =>
        bl0 P .len #[24] 3 [x27_33] w28 fun x28_34 =>
        bin P .lss 3 false false x8_31 x28_34 w28 fun x29_35 =>
        cnd x29_35
          (bin P .add 3 false false x6_21 x8_31 w28 fun x36_36 =>
          ixa P 24 x17_15 x36_36 w28 fun x37_37 =>
          ld P 2 x37_37 w28 fun x38_38 =>
          bin P .add 2 false false x7_30 x38_38 w28 fun x39_39 =>
          fda P 26 x2_1 1 w28 fun x40_40 =>
          ld P 24 x40_40 w28 fun x41_41 =>
          ixa P 24 x41_41 x6_21 w28 fun x43_42 =>
          ld P 2 x43_42 w28 fun x44_43 =>
          fda P 26 x3_3 1 w28 fun x45_44 =>
          ld P 24 x45_44 w28 fun x46_45 =>
          ixa P 24 x46_45 x8_31 w28 fun x48_46 =>
          ld P 2 x48_46 w28 fun x49_47 =>
          bin P .mul 2 false false x44_43 x49_47 w28 fun x50_48 =>
          bin P .add 2 false false x39_39 x50_48 w28 fun x51_49 =>
          bin P .add 3 false false x6_21 x8_31 w28 fun x55_50 =>
          bin P .rem 2 false true x51_49 (.int .i64 16777216) w28 fun x57_51 =>
          ixa P 24 x17_15 x55_50 w28 fun x58_52 =>
          sto P 2 x58_52 x57_51 w28 fun w54 =>
          bin P .quo 2 false true x51_49 (.int .i64 16777216) w54 fun x60_55 =>
          bin P .add 3 false true x8_31 (.int .i64 1) w54 fun x31_56 =>
          ∃ m57, m57 < m29 ∧ I26 m57 x60_55 x31_56 w54)
          (fda P 26 x3_3 1 w28 fun x63_58 =>
          ld P 24 x63_58 w28 fun x64_59 =>
          bl0 P .len #[24] 3 [x64_59] w28 fun x65_60 =>
          bin P .add 3 false false x6_21 x65_60 w28 fun x66_61 =>
          ixa P 24 x17_15 x66_61 w28 fun x68_62 =>
          sto P 2 x68_62 x7_30 w28 fun w64 =>
          bin P .add 3 false true x6_21 (.int .i64 1) w64 fun x24_65 =>
          ∃ m66, m66 < m20 ∧ I17 m66 x24_65 w64))
      (fda P 26 x2_1 0 w19 fun x69_68 =>
      ld P 2 x69_68 w19 fun x70_69 =>
      fda P 26 x3_3 0 w19 fun x71_70 =>
      ld P 2 x71_70 w19 fun x72_71 =>
      bin P .mul 2 false false x70_69 x72_71 w19 fun x73_72 =>
      call P f_spec_l02Make [x73_72, x17_15] w19 fun x75_73 w74 =>
      sto P 26 x4_5 x75_73 w74 fun w76 =>
      ldc P 26 x4_5 w76 fun r77 =>
      K r77 w76)
def P_spec_l02Mul : Plan := (.seq (.reg [.op (0, 2, false), .op (1, 2, false), .op (2, 2, false)]) (.seq (.reg [.op (0, 0, false), .op (1, 0, false), .op (2, 0, false), .op (3, 0, false), .op (4, 0, false), .op (5, 0, false), .op (6, 0, false), .op (7, 0, false), .op (8, 2, false), .op (9, 0, false)]) (.seq (.seq (.reg [.op (0, 0, false)]) (.blk (.loop [6] 590295810358705390016 (.seq (.seq (.reg [.op (0, 0, false), .op (1, 0, false), .op (2, 0, false), .op (3, 0, false), .op (4, 0, false)]) (.cond .leaf .leaf)) (.seq (.blk (.seq (.reg [.op (0, 0, false)]) (.seq (.seq (.reg [.op (0, 0, false)]) (.blk (.loop [7, 8] 2305843009180139904 (.seq (.seq (.reg [.op (0, 0, false), .op (1, 0, false), .op (2, 0, false), .op (3, 0, false), .op (4, 0, false)]) (.cond .leaf .leaf)) (.seq (.blk (.seq (.reg [.op (0, 0, false), .op (1, 0, false), .op (2, 0, false), .op (3, 0, false), .op (4, 0, false), .op (5, 0, false), .op (6, 0, false), .op (7, 0, false), .op (8, 0, false), .op (9, 0, false), .op (10, 0, false), .op (11, 0, false), .op (12, 0, false), .op (13, 0, false), .op (14, 0, false), .op (15, 0, false), .op (16, 0, false), .op (17, 0, false), .op (18, 0, false), .op (19, 0, false), .op (20, 0, false)]) (.seq (.reg [.op (0, 0, false), .op (1, 0, false), .op (2, 0, false), .op (3, 0, false), .op (4, 0, false), .op (5, 0, false), .op (6, 0, false), .op (7, 2, false)]) (.reg [.op (0, 0, false), .op (1, 0, false), .op (2, 0, false)])))) (.reg [.op (0, 0, false), .op (1, 0, false), .op (2, 0, false)])))))) (.reg [.op (0, 0, false), .op (1, 0, false), .op (2, 0, false), .op (3, 0, false), .op (4, 0, false), .op (5, 0, false), .op (6, 0, false), .op (7, 0, false), .op (8, 2, false)])))) (.reg [.op (0, 0, false), .op (1, 0, false), .op (2, 0, false)])))))) (.seq (.reg [.op (0, 0, false), .op (1, 0, false), .op (2, 0, false), .op (3, 0, false), .op (4, 0, false), .op (5, 0, false), .op (6, 2, false), .op (7, 2, false)]) .leaf))))
theorem I_spec_l02Mul {a0 a1 : Value} {w : World} {K : Value → World → Prop} (h : D_spec_l02Mul a0 a1 w K) : call P f_spec_l02Mul [a0, a1] w K :=
  call_of_vc mixed Try.func56 (c := codeOf Try.f56) (by kernel_rfl) (by kernel_rfl) (p := P_spec_l02Mul) (by kernel_rfl) (by rw [Try.ntmps56]; simp) (by
    have e : D_spec_l02Mul a0 a1 w K = vc P P_spec_l02Mul (codeOf Try.f56) (env0 [a0, a1]) w (retX P Try.f56.results.toList K) := by kernel_rfl
    exact e ▸ h)

/-- spec.l02Neg -/
def D_spec_l02Neg (a0 : Value) (w : World) (K : Value → World → Prop) : Prop :=
  bx P 26 a0 w fun x1_1 w2 =>
  alc P 26 w2 fun x2_3 w4 =>
  fda P 26 x1_1 0 w4 fun x3_5 =>
  ld P 2 x3_5 w4 fun x4_6 =>
  una P .neg x4_6 w4 fun x5_7 =>
  fda P 26 x1_1 1 w4 fun x6_8 =>
  ld P 24 x6_8 w4 fun x7_9 =>
  call P f_spec_l02Make [x5_7, x7_9] w4 fun x8_10 w11 =>
  sto P 26 x2_3 x8_10 w11 fun w13 =>
  ldc P 26 x2_3 w13 fun r14 =>
  K r14 w13
def P_spec_l02Neg : Plan := (.seq (.reg [.op (0, 2, false), .op (1, 2, false)]) (.seq (.reg [.op (0, 0, false), .op (1, 0, false), .op (2, 0, false), .op (3, 0, false), .op (4, 0, false), .op (5, 2, false), .op (6, 2, false)]) .leaf))
theorem I_spec_l02Neg {a0 : Value} {w : World} {K : Value → World → Prop} (h : D_spec_l02Neg a0 w K) : call P f_spec_l02Neg [a0] w K :=
  call_of_vc mixed Try.func58 (c := codeOf Try.f58) (by kernel_rfl) (by kernel_rfl) (p := P_spec_l02Neg) (by kernel_rfl) (by rw [Try.ntmps58]; simp) (by
    have e : D_spec_l02Neg a0 w K = vc P P_spec_l02Neg (codeOf Try.f58) (env0 [a0]) w (retX P Try.f58.results.toList K) := by kernel_rfl
    exact e ▸ h)

/-- spec.l02Add -/
def D_spec_l02Add (a0 a1 : Value) (w : World) (K : Value → World → Prop) : Prop :=
  bx P 26 a0 w fun x2_1 w2 =>
  bx P 26 a1 w2 fun x3_3 w4 =>
  alc P 26 w4 fun x4_5 w6 =>
  fda P 26 x2_1 0 w6 fun x6_7 =>
  ld P 2 x6_7 w6 fun x7_8 =>
  bin P .eql 2 false true x7_8 (.int .i64 0) w6 fun x8_9 =>
  cnd x8_9
    (fda P 26 x3_3 0 w6 fun x9_10 =>
    ld P 2 x9_10 w6 fun x10_11 =>
    fda P 26 x3_3 1 w6 fun x11_12 =>
    ld P 24 x11_12 w6 fun x12_13 =>
    call P f_spec_l02Make [x10_11, x12_13] w6 fun x13_14 w15 =>
    sto P 26 x4_5 x13_14 w15 fun w17 =>
    ldc P 26 x4_5 w17 fun r18 =>
    K r18 w17)
    (fda P 26 x3_3 0 w6 fun x15_19 =>
    ld P 2 x15_19 w6 fun x16_20 =>
    bin P .eql 2 false true x16_20 (.int .i64 0) w6 fun x17_21 =>
    cnd x17_21
      (fda P 26 x2_1 0 w6 fun x18_22 =>
      ld P 2 x18_22 w6 fun x19_23 =>
      fda P 26 x2_1 1 w6 fun x20_24 =>
      ld P 24 x20_24 w6 fun x21_25 =>
      call P f_spec_l02Make [x19_23, x21_25] w6 fun x22_26 w27 =>
      sto P 26 x4_5 x22_26 w27 fun w29 =>
      ldc P 26 x4_5 w29 fun r30 =>
      K r30 w29)
      (fda P 26 x2_1 0 w6 fun x24_31 =>
      ld P 2 x24_31 w6 fun x25_32 =>
      fda P 26 x3_3 0 w6 fun x26_33 =>
      ld P 2 x26_33 w6 fun x27_34 =>
      bin P .eql 2 false false x25_32 x27_34 w6 fun x28_35 =>
      cnd x28_35
        (fda P 26 x2_1 0 w6 fun x29_36 =>
        ld P 2 x29_36 w6 fun x30_37 =>
        fda P 26 x2_1 1 w6 fun x31_38 =>
        ld P 24 x31_38 w6 fun x32_39 =>
        fda P 26 x3_3 1 w6 fun x33_40 =>
        ld P 24 x33_40 w6 fun x34_41 =>
        call P f_spec_l02Plus [x32_39, x34_41] w6 fun x35_42 w43 =>
        Ext w6 w43 ∧ call P f_spec_l02Make [x30_37, x35_42] w43 fun x36_44 w45 =>
        sto P 26 x4_5 x36_44 w45 fun w47 =>
        ldc P 26 x4_5 w47 fun r48 =>
        K r48 w47)
        (fda P 26 x2_1 1 w6 fun x38_49 =>
        ld P 24 x38_49 w6 fun x39_50 =>
        fda P 26 x3_3 1 w6 fun x40_51 =>
        ld P 24 x40_51 w6 fun x41_52 =>
        call P f_spec_l02CompareLimbs [x39_50, x41_52] w6 fun x42_53 w54 =>
        bin P .geq 2 false true x42_53 (.int .i64 0) w54 fun x43_55 =>
        cnd x43_55
          (fda P 26 x2_1 0 w54 fun x44_56 =>
          ld P 2 x44_56 w54 fun x45_57 =>
          fda P 26 x2_1 1 w54 fun x46_58 =>
          ld P 24 x46_58 w54 fun x47_59 =>
          fda P 26 x3_3 1 w54 fun x48_60 =>
          ld P 24 x48_60 w54 fun x49_61 =>
          call P f_spec_l02Minus [x47_59, x49_61] w54 fun x50_62 w63 =>
          Ext w54 w63 ∧ call P f_spec_l02Make [x45_57, x50_62] w63 fun x51_64 w65 =>
          sto P 26 x4_5 x51_64 w65 fun w67 =>
          ldc P 26 x4_5 w67 fun r68 =>
          K r68 w67)
          (fda P 26 x3_3 0 w54 fun x52_69 =>
          ld P 2 x52_69 w54 fun x53_70 =>
          fda P 26 x3_3 1 w54 fun x54_71 =>
          ld P 24 x54_71 w54 fun x55_72 =>
          fda P 26 x2_1 1 w54 fun x56_73 =>
          ld P 24 x56_73 w54 fun x57_74 =>
          call P f_spec_l02Minus [x55_72, x57_74] w54 fun x58_75 w76 =>
          Ext w54 w76 ∧ call P f_spec_l02Make [x53_70, x58_75] w76 fun x59_77 w78 =>
          sto P 26 x4_5 x59_77 w78 fun w80 =>
          ldc P 26 x4_5 w80 fun r81 =>
          K r81 w80))))
def P_spec_l02Add : Plan := (.seq (.reg [.op (0, 2, false), .op (1, 2, false), .op (2, 2, false)]) (.seq (.blk (.seq (.reg [.op (0, 0, false), .op (1, 0, false), .op (2, 0, false), .op (3, 0, false)]) (.cond (.seq (.reg [.op (0, 0, false), .op (1, 0, false), .op (2, 0, false), .op (3, 0, false), .op (4, 2, false), .op (5, 2, false)]) .leaf) (.seq (.reg [.op (0, 0, false), .op (1, 0, false), .op (2, 0, false), .op (3, 0, false)]) (.cond (.seq (.reg [.op (0, 0, false), .op (1, 0, false), .op (2, 0, false), .op (3, 0, false), .op (4, 2, false), .op (5, 2, false)]) .leaf) (.seq (.reg [.op (0, 0, false), .op (1, 0, false), .op (2, 0, false), .op (3, 0, false), .op (4, 0, false), .op (5, 0, false)]) (.cond (.seq (.reg [.op (0, 0, false), .op (1, 0, false), .op (2, 0, false), .op (3, 0, false), .op (4, 0, false), .op (5, 0, false), .op (6, 2, true), .op (7, 2, false), .op (8, 2, false)]) .leaf) (.seq (.reg [.op (0, 0, false), .op (1, 0, false), .op (2, 0, false), .op (3, 0, false), .op (4, 2, false), .op (5, 0, false), .op (6, 0, false)]) (.cond (.seq (.reg [.op (0, 0, false), .op (1, 0, false), .op (2, 0, false), .op (3, 0, false), .op (4, 0, false), .op (5, 0, false), .op (6, 2, true), .op (7, 2, false), .op (8, 2, false)]) .leaf) .leaf))))))))) (.seq (.reg [.op (0, 0, false), .op (1, 0, false), .op (2, 0, false), .op (3, 0, false), .op (4, 0, false), .op (5, 0, false), .op (6, 2, true), .op (7, 2, false), .op (8, 2, false)]) .leaf)))
theorem I_spec_l02Add {a0 a1 : Value} {w : World} {K : Value → World → Prop} (h : D_spec_l02Add a0 a1 w K) : call P f_spec_l02Add [a0, a1] w K :=
  call_of_vc mixed Try.func59 (c := codeOf Try.f59) (by kernel_rfl) (by kernel_rfl) (p := P_spec_l02Add) (by kernel_rfl) (by rw [Try.ntmps59]; simp) (by
    have e : D_spec_l02Add a0 a1 w K = vc P P_spec_l02Add (codeOf Try.f59) (env0 [a0, a1]) w (retX P Try.f59.results.toList K) := by kernel_rfl
    exact e ▸ h)

/-- spec.l02Left -/
def D_spec_l02Left (a0 a1 : Value) (w : World) (K : Value → World → Prop) : Prop :=
  bx P 26 a0 w fun x2_1 w2 =>
  alc P 26 w2 fun x4_3 w4 =>
  bin P .quo 2 false true a1 (.int .i64 24) w4 fun x9_5 =>
  mks P 24 x9_5 x9_5 w4 fun x10_6 w7 =>
  ∃ I8 : Nat → Value → Value → Value → World → Prop, (∃ m46, I8 m46 x10_6 (.int .i64 0) (.int .i64 0) w7) ∧ ∀ (m11 : Nat) (x5_12 : Value) (x6_13 : Value) (x7_14 : Value) (junk9 : Env) (w10 : World), I8 m11 x5_12 x6_13 x7_14 w10 →
    fda P 26 x2_1 1 w10 fun x12_15 =>
    ld P 24 x12_15 w10 fun x13_16 =>
    bl0 P .len #[24] 3 [x13_16] w10 fun x14_17 =>
    bin P .lss 3 false false x7_14 x14_17 w10 fun x15_18 =>
    cnd x15_18
      (fda P 26 x2_1 1 w10 fun x19_19 =>
      ld P 24 x19_19 w10 fun x20_20 =>
      ixa P 24 x20_20 x7_14 w10 fun x22_21 =>
      ld P 2 x22_21 w10 fun x23_22 =>
      bin P .rem 2 false true a1 (.int .i64 24) w10 fun x25_23 =>
      cnv P 2 97 x25_23 w10 fun x26_24 =>
      bin P .shl 2 false false x23_22 x26_24 w10 fun x27_25 =>
      bin P .add 2 false false x6_13 x27_25 w10 fun x28_26 =>
      bin P .rem 2 false true x28_26 (.int .i64 16777216) w10 fun x31_27 =>
      bsl P 24 1 [(0, x31_27)] w10 fun x32_28 w29 =>
      bl2 P .append #[24, 24] 24 [x5_12, x32_28] w29 fun x33_30 w31 =>
      bin P .quo 2 false true x28_26 (.int .i64 16777216) w31 fun x35_32 =>
      bin P .add 3 false true x7_14 (.int .i64 1) w31 fun x17_33 =>
      ∃ m34, m34 < m11 ∧ I8 m34 x33_30 x35_32 x17_33 w31)
      (fda P 26 x2_1 0 w10 fun x36_35 =>
      ld P 2 x36_35 w10 fun x37_36 =>
      bsl P 24 1 [(0, x6_13)] w10 fun x40_37 w38 =>
      Ext w10 w38 ∧ bl2 P .append #[24, 24] 24 [x5_12, x40_37] w38 fun x41_39 w40 =>
      (fda P 26 x2_1 0 w40 fun z => z = x36_35) ∧ (ld P 2 x36_35 w40 fun z => z = x37_36) ∧ call P f_spec_l02Make [x37_36, x41_39] w40 fun x42_41 w42 =>
      sto P 26 x4_3 x42_41 w42 fun w44 =>
      ldc P 26 x4_3 w44 fun r45 =>
      K r45 w44)
def P_spec_l02Left : Plan := (.seq (.reg [.op (0, 2, false), .op (1, 2, false)]) (.seq (.reg [.op (0, 0, false), .op (1, 0, false), .op (2, 2, false), .op (3, 0, false)]) (.seq (.reg [.op (0, 0, false)]) (.seq (.seq (.reg [.op (0, 0, false)]) (.blk (.loop [5, 6, 7] 68719474912 (.seq (.seq (.reg [.op (0, 0, false), .op (1, 0, false), .op (2, 0, false), .op (3, 0, false), .op (4, 0, false)]) (.cond .leaf .leaf)) (.seq (.blk (.seq (.reg [.op (0, 0, false), .op (1, 0, false), .op (2, 0, false), .op (3, 0, false), .op (4, 0, false), .op (5, 0, false), .op (6, 0, false), .op (7, 0, false), .op (8, 0, false), .op (9, 0, false), .op (10, 0, false), .op (11, 0, false)]) (.seq (.reg [.op (0, 0, false), .op (1, 0, false), .op (2, 0, false), .op (3, 2, false), .op (4, 2, false), .op (5, 0, false)]) (.reg [.op (0, 0, false), .op (1, 0, false), .op (2, 0, false)])))) (.reg [.op (0, 0, false), .op (1, 0, false), .op (2, 0, false)])))))) (.seq (.reg [.op (0, 0, false), .op (1, 0, false), .op (2, 0, false), .op (3, 0, false), .op (4, 2, true), .op (5, 5, false), .op (6, 2, false), .op (7, 2, false)]) .leaf)))))
theorem I_spec_l02Left {a0 a1 : Value} {w : World} {K : Value → World → Prop} (h : D_spec_l02Left a0 a1 w K) : call P f_spec_l02Left [a0, a1] w K :=
  call_of_vc mixed Try.func60 (c := codeOf Try.f60) (by kernel_rfl) (by kernel_rfl) (p := P_spec_l02Left) (by kernel_rfl) (by rw [Try.ntmps60]; simp) (by
    have e : D_spec_l02Left a0 a1 w K = vc P P_spec_l02Left (codeOf Try.f60) (env0 [a0, a1]) w (retX P Try.f60.results.toList K) := by kernel_rfl
    exact e ▸ h)

/-- spec.l02Bit -/
def D_spec_l02Bit (a0 a1 : Value) (w : World) (K : Value → World → Prop) : Prop :=
  bx P 26 a0 w fun x2_1 w2 =>
  bin P .quo 2 false true a1 (.int .i64 24) w2 fun x6_3 =>
  fda P 26 x2_1 1 w2 fun x7_4 =>
  ld P 24 x7_4 w2 fun x8_5 =>
  bl0 P .len #[24] 3 [x8_5] w2 fun x9_6 =>
  bin P .geq 2 false false x6_3 x9_6 w2 fun x10_7 =>
  cnd x10_7
    (K (.int .i64 0) w2)
    (fda P 26 x2_1 1 w2 fun x11_8 =>
    ld P 24 x11_8 w2 fun x12_9 =>
    bin P .quo 2 false true a1 (.int .i64 24) w2 fun x14_10 =>
    ixa P 24 x12_9 x14_10 w2 fun x15_11 =>
    ld P 2 x15_11 w2 fun x16_12 =>
    bin P .rem 2 false true a1 (.int .i64 24) w2 fun x18_13 =>
    cnv P 2 97 x18_13 w2 fun x19_14 =>
    bin P .shr 2 false false x16_12 x19_14 w2 fun x20_15 =>
    bin P .and 2 false true x20_15 (.int .i64 1) w2 fun x21_16 =>
    K x21_16 w2)
def P_spec_l02Bit : Plan := (.seq (.reg [.op (0, 2, false), .op (1, 0, false)]) (.seq (.seq (.reg [.op (0, 0, false), .op (1, 0, false), .op (2, 0, false), .op (3, 0, false), .op (4, 0, false), .op (5, 0, false)]) (.cond (.seq (.reg [.op (0, 0, false)]) .leaf) .leaf)) (.seq (.reg [.op (0, 0, false), .op (1, 0, false), .op (2, 0, false), .op (3, 0, false), .op (4, 0, false), .op (5, 0, false), .op (6, 0, false), .op (7, 0, false), .op (8, 0, false), .op (9, 0, false), .op (10, 0, false), .op (11, 0, false)]) .leaf)))
theorem I_spec_l02Bit {a0 a1 : Value} {w : World} {K : Value → World → Prop} (h : D_spec_l02Bit a0 a1 w K) : call P f_spec_l02Bit [a0, a1] w K :=
  call_of_vc mixed Try.func77 (c := codeOf Try.f77) (by kernel_rfl) (by kernel_rfl) (p := P_spec_l02Bit) (by kernel_rfl) (by rw [Try.ntmps77]; simp) (by
    have e : D_spec_l02Bit a0 a1 w K = vc P P_spec_l02Bit (codeOf Try.f77) (env0 [a0, a1]) w (retX P Try.f77.results.toList K) := by kernel_rfl
    exact e ▸ h)

/-- spec.l02Plus -/
def D_spec_l02Plus (a0 a1 : Value) (w : World) (K : Value → World → Prop) : Prop :=
  bsl P 24 0 [] w fun x8_1 w2 =>
  ∃ I3 : Nat → Value → Value → Value → World → Prop, (∃ m51, I3 m51 x8_1 (.int .i64 0) (.int .i64 0) w2) ∧ ∀ (m6 : Nat) (x5_7 : Value) (x6_8 : Value) (x7_9 : Value) (junk4 : Env) (w5 : World), I3 m6 x5_7 x6_8 x7_9 w5 →
    bl0 P .len #[24] 3 [a0] w5 fun x11_10 =>
    bin P .lss 3 false false x7_9 x11_10 w5 fun x12_11 =>
    ∃ J12 : Value → World → Prop, (∀ (x17_13 : Value) (junk15 : Env) (w14 : World), J12 x17_13 w14 →
      pick x12_11 (.bool true) x17_13 fun x18_16 =>
      ∃ J17 : Value → World → Prop, (∀ (x21_18 : Value) (junk20 : Env) (w19 : World), J17 x21_18 w19 →
      pick x18_16 (.bool true) x21_18 fun x22_21 =>
        cnd x22_21
          (∃ J22 : Value → World → Prop, (∀ (x6_25 : Value) (junk23 : Env) (w24 : World), J22 x6_25 w24 →
            ∃ J26 : Value → World → Prop, (∀ (x6_29 : Value) (junk27 : Env) (w28 : World), J26 x6_29 w28 →
              bin P .rem 2 false true x6_29 (.int .i64 16777216) w28 fun x47_30 =>
              bsl P 24 1 [(0, x47_30)] w28 fun x48_31 w32 =>
              bl2 P .append #[24, 24] 24 [x5_7, x48_31] w32 fun x49_33 w34 =>
              bin P .quo 2 false true x6_29 (.int .i64 16777216) w34 fun x51_35 =>
              bin P .add 3 false true x7_9 (.int .i64 1) w34 fun x24_36 =>
              ∃ m37, m37 < m6 ∧ I3 m37 x49_33 x51_35 x24_36 w34) ∧
              (bl0 P .len #[24] 3 [a1] w24 fun x37_38 =>
              bin P .lss 3 false false x7_9 x37_38 w24 fun x38_39 =>
              cnd x38_39
                (ixa P 24 a1 x7_9 w24 fun x42_40 =>
                ld P 2 x42_40 w24 fun x43_41 =>
                bin P .add 2 false false x6_25 x43_41 w24 fun x44_42 =>
                J26 x44_42 w24)
                (J26 x6_25 w24))) ∧
            (bl0 P .len #[24] 3 [a0] w19 fun x27_43 =>
            bin P .lss 3 false false x7_9 x27_43 w19 fun x28_44 =>
            cnd x28_44
              (ixa P 24 a0 x7_9 w19 fun x32_45 =>
              ld P 2 x32_45 w19 fun x33_46 =>
              bin P .add 2 false false x6_8 x33_46 w19 fun x34_47 =>
              J22 x34_47 w19)
              (J22 x6_8 w19)))
          (K x5_7 w19)) ∧
      grd x18_16 false
        (bin P .gtr 2 false true x6_8 (.int .i64 0) w14 fun x21_48 =>
          J17 x21_48 w14)
        (J17 undef w14)) ∧
      grd x12_11 false
        (bl0 P .len #[24] 3 [a1] w5 fun x16_49 =>
        bin P .lss 3 false false x7_9 x16_49 w5 fun x17_50 =>
        J12 x17_50 w5)
        (J12 undef w5)
def P_spec_l02Plus : Plan := (.seq (.reg [.op (0, 0, false)]) (.seq (.reg [.op (0, 2, false), .op (1, 0, false), .op (2, 0, false)]) (.seq (.seq (.reg [.op (0, 0, false)]) (.blk (.loop [5, 6, 7] 4503599627370208 (.seq (.seq (.reg [.op (0, 0, false), .op (1, 0, false), .op (2, 0, false), .op (3, 0, false), .op (4, 0, false), .grp 4 false [(5, 0, false), (6, 0, false), (7, 0, false), (8, 0, false)] [17] 245760, .op (9, 0, false), .op (10, 0, false), .grp 10 false [(11, 0, false), (12, 0, false)] [21] 3145728, .op (13, 0, false)]) (.cond .leaf .leaf)) (.seq (.blk (.cut [6] 34326184000 (.seq (.reg [.op (0, 0, false), .op (1, 0, false), .op (2, 0, false), .op (3, 0, false)]) (.cond (.reg [.op (0, 0, false), .op (1, 0, false), .op (2, 0, false), .op (3, 0, false), .op (4, 0, false), .op (5, 0, false), .op (6, 0, false)]) .leaf)) (.cut [6] 35150012350528 (.seq (.reg [.op (0, 0, false), .op (1, 0, false), .op (2, 0, false), .op (3, 0, false)]) (.cond (.reg [.op (0, 0, false), .op (1, 0, false), .op (2, 0, false), .op (3, 0, false), .op (4, 0, false), .op (5, 0, false), .op (6, 0, false)]) .leaf)) (.seq (.reg [.op (0, 0, false), .op (1, 0, false), .op (2, 0, false), .op (3, 2, false), .op (4, 2, false), .op (5, 0, false)]) (.reg [.op (0, 0, false), .op (1, 0, false), .op (2, 0, false)]))))) (.reg [.op (0, 0, false), .op (1, 0, false), .op (2, 0, false)])))))) (.seq (.reg [.op (0, 0, false), .op (1, 0, false)]) .leaf))))
theorem I_spec_l02Plus {a0 a1 : Value} {w : World} {K : Value → World → Prop} (h : D_spec_l02Plus a0 a1 w K) : call P f_spec_l02Plus [a0, a1] w K :=
  call_of_vc mixed Try.func81 (c := codeOf Try.f81) (by kernel_rfl) (by kernel_rfl) (p := P_spec_l02Plus) (by kernel_rfl) (by rw [Try.ntmps81]; simp) (by
    have e : D_spec_l02Plus a0 a1 w K = vc P P_spec_l02Plus (codeOf Try.f81) (env0 [a0, a1]) w (retX P Try.f81.results.toList K) := by kernel_rfl
    exact e ▸ h)

/-- spec.l02CompareLimbs -/
def D_spec_l02CompareLimbs (a0 a1 : Value) (w : World) (K : Value → World → Prop) : Prop :=
  bl0 P .len #[24] 3 [a0] w fun x7_1 =>
  bl0 P .len #[24] 3 [a1] w fun x9_2 =>
  bin P .neq 3 false false x7_1 x9_2 w fun x10_3 =>
  cnd x10_3
    (bl0 P .len #[24] 3 [a0] w fun x12_4 =>
    bl0 P .len #[24] 3 [a1] w fun x14_5 =>
    bin P .lss 3 false false x12_4 x14_5 w fun x15_6 =>
    cnd x15_6
      (K (.int .i64 (-1)) w)
      (K (.int .i64 1) w))
    (bl0 P .len #[24] 3 [a0] w fun x17_7 =>
    bin P .sub 3 false true x17_7 (.int .i64 1) w fun x18_8 =>
    ∃ I9 : Nat → Value → World → Prop, (∃ m27, I9 m27 x18_8 w) ∧ ∀ (m12 : Nat) (x5_13 : Value) (junk10 : Env) (w11 : World), I9 m12 x5_13 w11 →
      bin P .geq 3 false true x5_13 (.int .i64 0) w11 fun x20_14 =>
      cnd x20_14
        (ixa P 24 a0 x5_13 w11 fun x25_15 =>
        ld P 2 x25_15 w11 fun x26_16 =>
        ixa P 24 a1 x5_13 w11 fun x29_17 =>
        ld P 2 x29_17 w11 fun x30_18 =>
        bin P .neq 2 false false x26_16 x30_18 w11 fun x31_19 =>
        cnd x31_19
          (ixa P 24 a0 x5_13 w11 fun x34_20 =>
          ld P 2 x34_20 w11 fun x35_21 =>
          ixa P 24 a1 x5_13 w11 fun x38_22 =>
          ld P 2 x38_22 w11 fun x39_23 =>
          bin P .lss 2 false false x35_21 x39_23 w11 fun x40_24 =>
          cnd x40_24
            (K (.int .i64 (-1)) w11)
            (K (.int .i64 1) w11))
          (bin P .sub 3 false true x5_13 (.int .i64 1) w11 fun x22_25 =>
          ∃ m26, m26 < m12 ∧ I9 m26 x22_25 w11))
        (K (.int .i64 0) w11))
def P_spec_l02CompareLimbs : Plan := (.seq (.reg [.op (0, 0, false)]) (.seq (.seq (.reg [.op (0, 0, false), .op (1, 0, false), .op (2, 0, false), .op (3, 0, false), .op (4, 0, false)]) (.cond (.seq (.seq (.reg [.op (0, 0, false), .op (1, 0, false), .op (2, 0, false), .op (3, 0, false), .op (4, 0, false)]) (.cond (.seq (.reg [.op (0, 0, false)]) .leaf) .leaf)) (.seq (.reg [.op (0, 0, false)]) .leaf)) .leaf)) (.seq (.seq (.reg [.op (0, 0, false), .op (1, 0, false), .op (2, 0, false), .op (3, 0, false)]) (.blk (.loop [5] 2199022731312 (.seq (.seq (.reg [.op (0, 0, false), .op (1, 0, false)]) (.cond .leaf .leaf)) (.seq (.blk (.seq (.reg [.op (0, 0, false), .op (1, 0, false), .op (2, 0, false), .op (3, 0, false), .op (4, 0, false), .op (5, 0, false), .op (6, 0, false), .op (7, 0, false), .op (8, 0, false)]) (.cond (.seq (.seq (.reg [.op (0, 0, false), .op (1, 0, false), .op (2, 0, false), .op (3, 0, false), .op (4, 0, false), .op (5, 0, false), .op (6, 0, false), .op (7, 0, false), .op (8, 0, false)]) (.cond (.seq (.reg [.op (0, 0, false)]) .leaf) .leaf)) (.seq (.reg [.op (0, 0, false)]) .leaf)) .leaf))) (.reg [.op (0, 0, false), .op (1, 0, false), .op (2, 0, false)])))))) (.seq (.reg [.op (0, 0, false)]) .leaf))))
theorem I_spec_l02CompareLimbs {a0 a1 : Value} {w : World} {K : Value → World → Prop} (h : D_spec_l02CompareLimbs a0 a1 w K) : call P f_spec_l02CompareLimbs [a0, a1] w K :=
  call_of_vc mixed Try.func82 (c := codeOf Try.f82) (by kernel_rfl) (by kernel_rfl) (p := P_spec_l02CompareLimbs) (by kernel_rfl) (by rw [Try.ntmps82]; simp) (by
    have e : D_spec_l02CompareLimbs a0 a1 w K = vc P P_spec_l02CompareLimbs (codeOf Try.f82) (env0 [a0, a1]) w (retX P Try.f82.results.toList K) := by kernel_rfl
    exact e ▸ h)

/-- spec.l02Minus -/
def D_spec_l02Minus (a0 a1 : Value) (w : World) (K : Value → World → Prop) : Prop :=
  bsl P 24 0 [] w fun x9_1 w2 =>
  ∃ I3 : Nat → Value → Value → Value → World → Prop, (∃ m38, I3 m38 x9_1 (.int .i64 0) (.int .i64 0) w2) ∧ ∀ (m6 : Nat) (x5_7 : Value) (x6_8 : Value) (x7_9 : Value) (junk4 : Env) (w5 : World), I3 m6 x5_7 x6_8 x7_9 w5 →
    bl0 P .len #[24] 3 [a0] w5 fun x12_10 =>
    bin P .lss 3 false false x7_9 x12_10 w5 fun x13_11 =>
    cnd x13_11
      (ixa P 24 a0 x7_9 w5 fun x18_12 =>
      ld P 2 x18_12 w5 fun x19_13 =>
      bin P .sub 2 false false x19_13 x6_8 w5 fun x21_14 =>
      ∃ J15 : Value → World → Prop, (∀ (x8_18 : Value) (junk16 : Env) (w17 : World), J15 x8_18 w17 →
        bin P .lss 2 false true x8_18 (.int .i64 0) w17 fun x33_19 =>
        cnd x33_19
          (bin P .add 2 false true x8_18 (.int .i64 16777216) w17 fun x35_20 =>
          bsl P 24 1 [(0, x35_20)] w17 fun x38_21 w22 =>
          bl2 P .append #[24, 24] 24 [x5_7, x38_21] w22 fun x39_23 w24 =>
          bin P .add 3 false true x7_9 (.int .i64 1) w24 fun x15_25 =>
          ∃ m26, m26 < m6 ∧ I3 m26 x39_23 (.int .i64 1) x15_25 w24)
          (bsl P 24 1 [(0, x8_18)] w17 fun x38_27 w28 =>
          bl2 P .append #[24, 24] 24 [x5_7, x38_27] w28 fun x39_29 w30 =>
          bin P .add 3 false true x7_9 (.int .i64 1) w30 fun x15_31 =>
          ∃ m32, m32 < m6 ∧ I3 m32 x39_29 (.int .i64 0) x15_31 w30)) ∧
        (bl0 P .len #[24] 3 [a1] w5 fun x24_33 =>
        bin P .lss 3 false false x7_9 x24_33 w5 fun x25_34 =>
        cnd x25_34
          (ixa P 24 a1 x7_9 w5 fun x29_35 =>
          ld P 2 x29_35 w5 fun x30_36 =>
          bin P .sub 2 false false x21_14 x30_36 w5 fun x31_37 =>
          J15 x31_37 w5)
          (J15 x21_14 w5)))
      (K x5_7 w5)
def P_spec_l02Minus : Plan := (.seq (.reg [.op (0, 0, false)]) (.seq (.reg [.op (0, 2, false), .op (1, 0, false), .op (2, 0, false)]) (.seq (.seq (.reg [.op (0, 0, false)]) (.blk (.loop [5, 6, 7] 1099511627232 (.seq (.seq (.reg [.op (0, 0, false), .op (1, 0, false), .op (2, 0, false), .op (3, 0, false)]) (.cond .leaf .leaf)) (.seq (.blk (.seq (.reg [.op (0, 0, false), .op (1, 0, false), .op (2, 0, false), .op (3, 0, false), .op (4, 0, false), .op (5, 0, false), .op (6, 0, false)]) (.cut [8] 4290773248 (.seq (.reg [.op (0, 0, false), .op (1, 0, false), .op (2, 0, false), .op (3, 0, false)]) (.cond (.reg [.op (0, 0, false), .op (1, 0, false), .op (2, 0, false), .op (3, 0, false), .op (4, 0, false), .op (5, 0, false), .op (6, 0, false)]) .leaf)) (.seq (.reg [.op (0, 0, false)]) (.seq (.seq (.reg [.op (0, 0, false), .op (1, 0, false)]) (.cond (.seq (.reg [.op (0, 0, false), .op (1, 0, false), .op (2, 0, false)]) (.reg [.op (0, 0, false)])) .leaf)) (.reg [.op (0, 0, false), .op (1, 0, false), .op (2, 2, false), .op (3, 2, false), .op (4, 0, false)])))))) (.reg [.op (0, 0, false), .op (1, 0, false), .op (2, 0, false)])))))) (.seq (.reg [.op (0, 0, false), .op (1, 0, false)]) .leaf))))
theorem I_spec_l02Minus {a0 a1 : Value} {w : World} {K : Value → World → Prop} (h : D_spec_l02Minus a0 a1 w K) : call P f_spec_l02Minus [a0, a1] w K :=
  call_of_vc mixed Try.func83 (c := codeOf Try.f83) (by kernel_rfl) (by kernel_rfl) (p := P_spec_l02Minus) (by kernel_rfl) (by rw [Try.ntmps83]; simp) (by
    have e : D_spec_l02Minus a0 a1 w K = vc P P_spec_l02Minus (codeOf Try.f83) (env0 [a0, a1]) w (retX P Try.f83.results.toList K) := by kernel_rfl
    exact e ▸ h)

end Go.Proofs.Ytabgkpfcpncmhaa

/- Written by a program (gen.py): what is left to show of each function's call. -/
set_option linter.unusedVariables false
set_option maxRecDepth 20000
namespace Go.Proofs.Ytabgkpfcpncmhaa
open Go Go.Vc

/-- (impl.num).dyadic -/
def D_impl_num_dyadic (a0 : Value) (w : World) (K : Value → World → Prop) : Prop :=
  bx P 43 a0 w fun x1_1 w2 =>
  alc P 28 w2 fun x2_3 w4 =>
  ld P 43 x1_1 w4 fun x6_5 =>
  call P f_impl_num_odd [x6_5] w4 fun x7_6 w7 =>
  sto P 43 x1_1 x7_6 w7 fun w9 =>
  fda P 43 x1_1 0 w9 fun x9_10 =>
  ld P 41 x9_10 w9 fun x10_11 =>
  call P f_impl_fromBig [x10_11] w9 fun x11_12 w13 =>
  xtr P x11_12 0 w13 fun x12_14 =>
  xtr P x11_12 1 w13 fun x13_15 =>
  alc P 26 w13 fun x4_16 w17 =>
  sto P 26 x4_16 x12_14 w17 fun w19 =>
  una P .not x13_15 w19 fun x15_20 =>
  ∃ J21 : Value → World → Prop, (∀ (x19_22 : Value) (junk24 : Env) (w23 : World), J21 x19_22 w23 →
    pick x15_20 (.bool true) x19_22 fun x20_25 =>
    ∃ J26 : Value → World → Prop, (∀ (x24_27 : Value) (junk29 : Env) (w28 : World), J26 x24_27 w28 →
    pick x20_25 (.bool true) x24_27 fun x25_30 =>
      cnd x25_30
        (bld P 28 [] w28 fun x26_31 =>
        sto P 28 x2_3 x26_31 w28 fun w33 =>
        ldc P 28 x2_3 w33 fun r34 =>
        K (.tuple #[r34, (.int .i64 3)]) w33)
        (ld P 26 x4_16 w28 fun x27_35 =>
        fda P 43 x1_1 1 w28 fun x28_36 =>
        ld P 3 x28_36 w28 fun x29_37 =>
        bld P 28 [(0, x27_35), (1, x29_37)] w28 fun x30_38 =>
        sto P 28 x2_3 x30_38 w28 fun w40 =>
        ldc P 28 x2_3 w40 fun r41 =>
        K (.tuple #[r41, (.int .i64 0)]) w40)) ∧
    grd x20_25 false
      (fda P 43 x1_1 1 w23 fun x22_42 =>
        ld P 3 x22_42 w23 fun x23_43 =>
        bin P .gtr 3 false true x23_43 (.int .i64 3000) w23 fun x24_44 =>
        J26 x24_44 w23)
      (J26 undef w23)) ∧
    grd x15_20 false
      (fda P 43 x1_1 1 w19 fun x17_45 =>
      ld P 3 x17_45 w19 fun x18_46 =>
      bin P .lss 3 false true x18_46 (.int .i64 (-3000)) w19 fun x19_47 =>
      J21 x19_47 w19)
      (J21 undef w19)
def P_impl_num_dyadic : Plan := (.seq (.reg [.op (0, 2, false), .op (1, 2, false), .op (2, 0, false)]) (.seq (.reg [.op (0, 0, false), .op (1, 2, false), .op (2, 2, false)]) (.seq (.reg [.op (0, 0, false), .op (1, 0, false), .op (2, 2, false), .op (3, 0, false), .op (4, 0, false), .op (5, 0, false), .op (6, 2, false), .op (7, 2, false), .op (8, 0, false)]) (.seq (.seq (.reg [.op (0, 0, false), .op (1, 0, false), .op (2, 0, false), .grp 2 false [(3, 0, false), (4, 0, false), (5, 0, false)] [19] 917504, .op (6, 0, false), .op (7, 0, false), .grp 7 false [(8, 0, false), (9, 0, false), (10, 0, false)] [24] 29360128, .op (11, 0, false)]) (.cond (.seq (.reg [.op (0, 0, false), .op (1, 2, false), .op (2, 0, false)]) .leaf) .leaf)) (.seq (.reg [.op (0, 0, false), .op (1, 0, false), .op (2, 0, false), .op (3, 0, false), .op (4, 2, false), .op (5, 0, false)]) .leaf)))))
theorem I_impl_num_dyadic {a0 : Value} {w : World} {K : Value → World → Prop} (h : D_impl_num_dyadic a0 w K) : call P f_impl_num_dyadic [a0] w K :=
  call_of_vc mixed Try.func20 (c := codeOf Try.f20) (by kernel_rfl) (by kernel_rfl) (p := P_impl_num_dyadic) (by kernel_rfl) (by rw [Try.ntmps20]; simp) (by
    have e : D_impl_num_dyadic a0 w K = vc P P_impl_num_dyadic (codeOf Try.f20) (env0 [a0]) w (retX P Try.f20.results.toList K) := by kernel_rfl
    exact e ▸ h)

/-- impl.numOf -/
def D_impl_numOf (a0 : Value) (w : World) (K : Value → World → Prop) : Prop :=
  alc P 43 w fun x2_1 w2 =>
  call P f_impl_parts [a0] w2 fun x7_3 w4 =>
  xtr P x7_3 0 w4 fun x8_5 =>
  xtr P x7_3 1 w4 fun x9_6 =>
  call P f_impl_newInt [x8_5] w4 fun x11_7 w8 =>
  bld P 43 [(0, x11_7), (1, x9_6)] w8 fun x13_9 =>
  sto P 43 x2_1 x13_9 w8 fun w11 =>
  ldc P 43 x2_1 w11 fun r12 =>
  K r12 w11
def P_impl_numOf : Plan := (.seq (.reg [.op (0, 2, false)]) (.seq (.reg [.op (0, 0, false), .op (1, 2, false), .op (2, 0, false), .op (3, 0, false), .op (4, 0, false), .op (5, 0, false), .op (6, 0, false)]) (.seq (.reg [.op (0, 0, false), .op (1, 2, false), .op (2, 0, false), .op (3, 0, false), .op (4, 2, false)]) .leaf)))
theorem I_impl_numOf {a0 : Value} {w : World} {K : Value → World → Prop} (h : D_impl_numOf a0 w K) : call P f_impl_numOf [a0] w K :=
  call_of_vc mixed Try.func35 (c := codeOf Try.f35) (by kernel_rfl) (by kernel_rfl) (p := P_impl_numOf) (by kernel_rfl) (by rw [Try.ntmps35]; simp) (by
    have e : D_impl_numOf a0 w K = vc P P_impl_numOf (codeOf Try.f35) (env0 [a0]) w (retX P Try.f35.results.toList K) := by kernel_rfl
    exact e ▸ h)

/-- (impl.num).at -/
def D_impl_num_at (a0 a1 : Value) (w : World) (K : Value → World → Prop) : Prop :=
  bx P 43 a0 w fun x2_1 w2 =>
  alc P 69 w2 fun x5_3 w4 =>
  fda P 43 x2_1 0 w4 fun x6_5 =>
  ld P 41 x6_5 w4 fun x7_6 =>
  fda P 43 x2_1 1 w4 fun x8_7 =>
  ld P 3 x8_7 w4 fun x9_8 =>
  bin P .sub 3 false false x9_8 a1 w4 fun x11_9 =>
  cnv P 3 54 x11_9 w4 fun x12_10 =>
  call P f_impl_integer_Lsh [x5_3, x7_6, x12_10] w4 fun x13_11 w12 =>
  K x13_11 w12
def P_impl_num_at : Plan := (.seq (.reg [.op (0, 2, false), .op (1, 0, false)]) (.seq (.reg [.op (0, 2, false), .op (1, 0, false), .op (2, 0, false), .op (3, 0, false), .op (4, 0, false), .op (5, 0, false), .op (6, 0, false), .op (7, 0, false), .op (8, 2, false), .op (9, 0, false)]) .leaf))
theorem I_impl_num_at {a0 a1 : Value} {w : World} {K : Value → World → Prop} (h : D_impl_num_at a0 a1 w K) : call P f_impl_num_at [a0, a1] w K :=
  call_of_vc mixed Try.func36 (c := codeOf Try.f36) (by kernel_rfl) (by kernel_rfl) (p := P_impl_num_at) (by kernel_rfl) (by rw [Try.ntmps36]; simp) (by
    have e : D_impl_num_at a0 a1 w K = vc P P_impl_num_at (codeOf Try.f36) (env0 [a0, a1]) w (retX P Try.f36.results.toList K) := by kernel_rfl
    exact e ▸ h)

/-- impl.zero -/
def D_impl_zero (w : World) (K : Value → World → Prop) : Prop :=
  alc P 43 w fun x0_1 w2 =>
  alc P 69 w2 fun x1_3 w4 =>
  bld P 43 [(0, x1_3)] w4 fun x2_5 =>
  sto P 43 x0_1 x2_5 w4 fun w7 =>
  ldc P 43 x0_1 w7 fun r8 =>
  K r8 w7
def P_impl_zero : Plan := (.seq (.reg [.op (0, 2, false)]) (.seq (.reg [.op (0, 2, false), .op (1, 0, false), .op (2, 2, false)]) .leaf))
theorem I_impl_zero {w : World} {K : Value → World → Prop} (h : D_impl_zero  w K) : call P f_impl_zero [] w K :=
  call_of_vc mixed Try.func39 (c := codeOf Try.f39) (by kernel_rfl) (by kernel_rfl) (p := P_impl_zero) (by kernel_rfl) (by rw [Try.ntmps39]; simp) (by
    have e : D_impl_zero  w K = vc P P_impl_zero (codeOf Try.f39) (env0 []) w (retX P Try.f39.results.toList K) := by kernel_rfl
    exact e ▸ h)

/-- (impl.num).neg -/
def D_impl_num_neg (a0 : Value) (w : World) (K : Value → World → Prop) : Prop :=
  bx P 43 a0 w fun x1_1 w2 =>
  alc P 43 w2 fun x2_3 w4 =>
  fda P 43 x1_1 0 w4 fun x4_5 =>
  ld P 41 x4_5 w4 fun x5_6 =>
  fda P 43 x1_1 1 w4 fun x7_7 =>
  ld P 3 x7_7 w4 fun x8_8 =>
  alc P 69 w4 fun x3_9 w10 =>
  Ext w4 w10 ∧ call P f_impl_integer_Neg [x3_9, x5_6] w10 fun x6_11 w12 =>
  (fda P 43 x1_1 1 w12 fun z => z = x7_7) ∧ (ld P 3 x7_7 w12 fun z => z = x8_8) ∧ bld P 43 [(0, x6_11), (1, x8_8)] w12 fun x9_13 =>
  sto P 43 x2_3 x9_13 w12 fun w15 =>
  ldc P 43 x2_3 w15 fun r16 =>
  K r16 w15
def P_impl_num_neg : Plan := (.seq (.reg [.op (0, 2, false), .op (1, 2, false)]) (.seq (.reg [.op (1, 0, false), .op (2, 0, false), .op (4, 0, false), .op (5, 0, false), .op (0, 2, true), .op (3, 50, false), .op (6, 0, false), .op (7, 2, false)]) .leaf))
theorem I_impl_num_neg {a0 : Value} {w : World} {K : Value → World → Prop} (h : D_impl_num_neg a0 w K) : call P f_impl_num_neg [a0] w K :=
  call_of_vc mixed Try.func43 (c := codeOf Try.f43) (by kernel_rfl) (by kernel_rfl) (p := P_impl_num_neg) (by kernel_rfl) (by rw [Try.ntmps43]; simp) (by
    have e : D_impl_num_neg a0 w K = vc P P_impl_num_neg (codeOf Try.f43) (env0 [a0]) w (retX P Try.f43.results.toList K) := by kernel_rfl
    exact e ▸ h)

/-- (impl.num).odd -/
def D_impl_num_odd (a0 : Value) (w : World) (K : Value → World → Prop) : Prop :=
  bx P 43 a0 w fun x1_1 w2 =>
  alc P 43 w2 fun x2_3 w4 =>
  ld P 43 x1_1 w4 fun x4_5 =>
  call P f_impl_num_sign [x4_5] w4 fun x5_6 w7 =>
  bin P .eql 3 false true x5_6 (.int .i64 0) w7 fun x6_8 =>
  cnd x6_8
    (call P f_impl_zero [] w7 fun x7_9 w10 =>
    sto P 43 x2_3 x7_9 w10 fun w12 =>
    ldc P 43 x2_3 w12 fun r13 =>
    K r13 w12)
    (fda P 43 x1_1 0 w7 fun x8_14 =>
    ld P 41 x8_14 w7 fun x9_15 =>
    call P f_impl_integer_TrailingZeroBits [x9_15] w7 fun x10_16 w17 =>
    fda P 43 x1_1 0 w17 fun x12_18 =>
    ld P 41 x12_18 w17 fun x13_19 =>
    fda P 43 x1_1 1 w17 fun x16_20 =>
    ld P 3 x16_20 w17 fun x17_21 =>
    cnv P 54 3 x10_16 w17 fun x19_22 =>
    bin P .add 3 false false x17_21 x19_22 w17 fun x20_23 =>
    alc P 69 w17 fun x11_24 w25 =>
    Ext w17 w25 ∧ call P f_impl_integer_Rsh [x11_24, x13_19, x10_16] w25 fun x15_26 w27 =>
    (fda P 43 x1_1 1 w27 fun z => z = x16_20) ∧ (ld P 3 x16_20 w27 fun z => z = x17_21) ∧ (cnv P 54 3 x10_16 w27 fun z => z = x19_22) ∧ (bin P .add 3 false false x17_21 x19_22 w27 fun z => z = x20_23) ∧ bld P 43 [(0, x15_26), (1, x20_23)] w27 fun x21_28 =>
    sto P 43 x2_3 x21_28 w27 fun w30 =>
    ldc P 43 x2_3 w30 fun r31 =>
    K r31 w30)
def P_impl_num_odd : Plan := (.seq (.reg [.op (0, 2, false), .op (1, 2, false)]) (.seq (.seq (.reg [.op (0, 0, false), .op (1, 2, false), .op (2, 0, false)]) (.cond (.seq (.reg [.op (0, 2, false), .op (1, 2, false)]) .leaf) .leaf)) (.seq (.reg [.op (0, 0, false), .op (1, 0, false), .op (2, 2, false), .op (3, 0, false)]) (.seq (.reg [.op (1, 0, false), .op (2, 0, false), .op (3, 0, false), .op (5, 0, false), .op (6, 0, false), .op (7, 0, false), .op (8, 0, false), .op (9, 0, false), .op (0, 2, true), .op (4, 866, false), .op (10, 0, false), .op (11, 2, false)]) .leaf))))
theorem I_impl_num_odd {a0 : Value} {w : World} {K : Value → World → Prop} (h : D_impl_num_odd a0 w K) : call P f_impl_num_odd [a0] w K :=
  call_of_vc mixed Try.func44 (c := codeOf Try.f44) (by kernel_rfl) (by kernel_rfl) (p := P_impl_num_odd) (by kernel_rfl) (by rw [Try.ntmps44]; simp) (by
    have e : D_impl_num_odd a0 w K = vc P P_impl_num_odd (codeOf Try.f44) (env0 [a0]) w (retX P Try.f44.results.toList K) := by kernel_rfl
    exact e ▸ h)

/-- (impl.num).sign -/
def D_impl_num_sign (a0 : Value) (w : World) (K : Value → World → Prop) : Prop :=
  bx P 43 a0 w fun x1_1 w2 =>
  fda P 43 x1_1 0 w2 fun x3_3 =>
  ld P 41 x3_3 w2 fun x4_4 =>
  call P f_impl_integer_Sign [x4_4] w2 fun x5_5 w6 =>
  K x5_5 w6
def P_impl_num_sign : Plan := (.seq (.reg [.op (0, 2, false), .op (1, 0, false)]) (.seq (.reg [.op (0, 0, false), .op (1, 0, false), .op (2, 2, false), .op (3, 0, false)]) .leaf))
theorem I_impl_num_sign {a0 : Value} {w : World} {K : Value → World → Prop} (h : D_impl_num_sign a0 w K) : call P f_impl_num_sign [a0] w K :=
  call_of_vc mixed Try.func70 (c := codeOf Try.f70) (by kernel_rfl) (by kernel_rfl) (p := P_impl_num_sign) (by kernel_rfl) (by rw [Try.ntmps70]; simp) (by
    have e : D_impl_num_sign a0 w K = vc P P_impl_num_sign (codeOf Try.f70) (env0 [a0]) w (retX P Try.f70.results.toList K) := by kernel_rfl
    exact e ▸ h)

end Go.Proofs.Ytabgkpfcpncmhaa

/- Written by a program (gen.py): what is left to show of each function's call. -/
set_option linter.unusedVariables false
set_option maxRecDepth 20000
namespace Go.Proofs.Ytabgkpfcpncmhaa
open Go Go.Vc

/-- spec.l03Fit -/
def D_spec_l03Fit (a0 : Value) (w : World) (K : Value → World → Prop) : Prop :=
  bx P 28 a0 w fun x1_1 w2 =>
  alc P 28 w2 fun x2_3 w4 =>
  ld P 28 x1_1 w4 fun x4_5 =>
  call P f_spec_l03Is [x4_5] w4 fun x5_6 w7 =>
  una P .not x5_6 w7 fun x6_8 =>
  cnd x6_8
    (bld P 28 [] w7 fun x7_9 =>
    sto P 28 x2_3 x7_9 w7 fun w11 =>
    ldc P 28 x2_3 w11 fun r12 =>
    K (.tuple #[r12, (.int .i64 3)]) w11)
    (ld P 28 x1_1 w7 fun x8_13 =>
    sto P 28 x2_3 x8_13 w7 fun w15 =>
    ldc P 28 x2_3 w15 fun r16 =>
    K (.tuple #[r16, (.int .i64 0)]) w15)
def P_spec_l03Fit : Plan := (.seq (.reg [.op (0, 2, false), .op (1, 2, false), .op (2, 0, false)]) (.seq (.seq (.reg [.op (0, 0, false), .op (1, 2, false), .op (2, 0, false)]) (.cond (.seq (.reg [.op (0, 0, false), .op (1, 2, false), .op (2, 0, false)]) .leaf) .leaf)) (.seq (.reg [.op (0, 0, false), .op (1, 2, false), .op (2, 0, false)]) .leaf)))
theorem I_spec_l03Fit {a0 : Value} {w : World} {K : Value → World → Prop} (h : D_spec_l03Fit a0 w K) : call P f_spec_l03Fit [a0] w K :=
  call_of_vc mixed Try.func15 (c := codeOf Try.f15) (by kernel_rfl) (by kernel_rfl) (p := P_spec_l03Fit) (by kernel_rfl) (by rw [Try.ntmps15]; simp) (by
    have e : D_spec_l03Fit a0 w K = vc P P_spec_l03Fit (codeOf Try.f15) (env0 [a0]) w (retX P Try.f15.results.toList K) := by kernel_rfl
    exact e ▸ h)

/-- spec.l03Is -/
def D_spec_l03Is (a0 : Value) (w : World) (K : Value → World → Prop) : Prop :=
  bx P 28 a0 w fun x1_1 w2 =>
  fda P 28 x1_1 0 w2 fun x3_3 =>
  ld P 26 x3_3 w2 fun x4_4 =>
  call P f_spec_l02Is [x4_4] w2 fun x5_5 w6 =>
  una P .not x5_5 w6 fun x6_7 =>
  ∃ J8 : Value → World → Prop, (∀ (x11_9 : Value) (junk11 : Env) (w10 : World), J8 x11_9 w10 →
    pick x6_7 (.bool true) x11_9 fun x12_12 =>
    cnd x12_12
      (K (.bool false) w10)
      (fda P 28 x1_1 0 w10 fun x13_13 =>
      fda P 26 x13_13 0 w10 fun x14_14 =>
      ld P 2 x14_14 w10 fun x15_15 =>
      bin P .eql 2 false true x15_15 (.int .i64 0) w10 fun x16_16 =>
      cnd x16_16
        (fda P 28 x1_1 1 w10 fun x17_17 =>
        ld P 2 x17_17 w10 fun x18_18 =>
        bin P .eql 2 false true x18_18 (.int .i64 0) w10 fun x19_19 =>
        K x19_19 w10)
        (fda P 28 x1_1 0 w10 fun x20_20 =>
        fda P 26 x20_20 1 w10 fun x21_21 =>
        ld P 24 x21_21 w10 fun x22_22 =>
        ixa P 24 x22_22 (.int .i64 0) w10 fun x23_23 =>
        ld P 2 x23_23 w10 fun x24_24 =>
        bin P .rem 2 false true x24_24 (.int .i64 2) w10 fun x25_25 =>
        bin P .eql 2 false true x25_25 (.int .i64 1) w10 fun x26_26 =>
        K x26_26 w10))) ∧
    grd x6_7 false
      (fda P 28 x1_1 1 w6 fun x8_27 =>
      ld P 2 x8_27 w6 fun x9_28 =>
      call P f_spec_l01In [x9_28, (.int .i64 (-3000)), (.int .i64 3000)] w6 fun x10_29 w30 =>
      una P .not x10_29 w30 fun x11_31 =>
      J8 x11_31 w30)
      (J8 undef w6)
def P_spec_l03Is : Plan := (.seq (.reg [.op (0, 2, false), .op (1, 0, false)]) (.seq (.seq (.reg [.op (0, 0, false), .op (1, 0, false), .op (2, 2, false), .op (3, 0, false), .op (4, 0, false), .grp 4 false [(5, 0, false), (6, 0, false), (7, 2, false), (8, 0, false)] [11] 3840, .op (9, 0, false)]) (.cond (.seq (.reg [.op (0, 0, false)]) .leaf) .leaf)) (.seq (.seq (.reg [.op (0, 0, false), .op (1, 0, false), .op (2, 0, false), .op (3, 0, false)]) (.cond (.seq (.reg [.op (0, 0, false), .op (1, 0, false), .op (2, 0, false), .op (3, 0, false)]) .leaf) .leaf)) (.seq (.reg [.op (0, 0, false), .op (1, 0, false), .op (2, 0, false), .op (3, 0, false), .op (4, 0, false), .op (5, 0, false), .op (6, 0, false), .op (7, 0, false)]) .leaf))))
theorem I_spec_l03Is {a0 : Value} {w : World} {K : Value → World → Prop} (h : D_spec_l03Is a0 w K) : call P f_spec_l03Is [a0] w K :=
  call_of_vc mixed Try.func27 (c := codeOf Try.f27) (by kernel_rfl) (by kernel_rfl) (p := P_spec_l03Is) (by kernel_rfl) (by rw [Try.ntmps27]; simp) (by
    have e : D_spec_l03Is a0 w K = vc P P_spec_l03Is (codeOf Try.f27) (env0 [a0]) w (retX P Try.f27.results.toList K) := by kernel_rfl
    exact e ▸ h)

/-- spec.l03Make -/
def D_spec_l03Make (a0 a1 : Value) (w : World) (K : Value → World → Prop) : Prop :=
  bx P 26 a0 w fun x2_1 w2 =>
  alc P 28 w2 fun x4_3 w4 =>
  fda P 26 x2_1 0 w4 fun x6_5 =>
  ld P 2 x6_5 w4 fun x7_6 =>
  bin P .eql 2 false true x7_6 (.int .i64 0) w4 fun x8_7 =>
  cnd x8_7
    (bld P 28 [] w4 fun x9_8 =>
    sto P 28 x4_3 x9_8 w4 fun w10 =>
    ldc P 28 x4_3 w10 fun r11 =>
    K r11 w10)
    (ld P 26 x2_1 w4 fun x10_12 =>
    call P f_spec_l02Twos [x10_12] w4 fun x11_13 w14 =>
    ld P 26 x2_1 w14 fun x12_15 =>
    call P f_spec_l02Cut [x12_15, x11_13] w14 fun x14_16 w17 =>
    bin P .add 2 false false a1 x11_13 w17 fun x17_18 =>
    bld P 28 [(0, x14_16), (1, x17_18)] w17 fun x18_19 =>
    sto P 28 x4_3 x18_19 w17 fun w21 =>
    ldc P 28 x4_3 w21 fun r22 =>
    K r22 w21)
def P_spec_l03Make : Plan := (.seq (.reg [.op (0, 2, false), .op (1, 2, false)]) (.seq (.seq (.reg [.op (0, 0, false), .op (1, 0, false), .op (2, 0, false)]) (.cond (.seq (.reg [.op (0, 0, false), .op (1, 2, false)]) .leaf) .leaf)) (.seq (.reg [.op (0, 0, false), .op (1, 2, false), .op (2, 0, false)]) (.seq (.reg [.op (0, 0, false), .op (1, 0, false), .op (2, 2, false), .op (3, 0, false), .op (4, 0, false), .op (5, 0, false), .op (6, 0, false), .op (7, 2, false)]) .leaf))))
theorem I_spec_l03Make {a0 a1 : Value} {w : World} {K : Value → World → Prop} (h : D_spec_l03Make a0 a1 w K) : call P f_spec_l03Make [a0, a1] w K :=
  call_of_vc mixed Try.func28 (c := codeOf Try.f28) (by kernel_rfl) (by kernel_rfl) (p := P_spec_l03Make) (by kernel_rfl) (by rw [Try.ntmps28]; simp) (by
    have e : D_spec_l03Make a0 a1 w K = vc P P_spec_l03Make (codeOf Try.f28) (env0 [a0, a1]) w (retX P Try.f28.results.toList K) := by kernel_rfl
    exact e ▸ h)

/-- spec.l03Mul -/
def D_spec_l03Mul (a0 a1 : Value) (w : World) (K : Value → World → Prop) : Prop :=
  bx P 28 a0 w fun x2_1 w2 =>
  bx P 28 a1 w2 fun x3_3 w4 =>
  alc P 28 w4 fun x4_5 w6 =>
  fda P 28 x2_1 0 w6 fun x5_7 =>
  ld P 26 x5_7 w6 fun x6_8 =>
  fda P 28 x3_3 0 w6 fun x7_9 =>
  ld P 26 x7_9 w6 fun x8_10 =>
  fda P 28 x2_1 1 w6 fun x10_11 =>
  ld P 2 x10_11 w6 fun x11_12 =>
  fda P 28 x3_3 1 w6 fun x12_13 =>
  ld P 2 x12_13 w6 fun x13_14 =>
  bin P .add 2 false false x11_12 x13_14 w6 fun x14_15 =>
  call P f_spec_l02Mul [x6_8, x8_10] w6 fun x9_16 w17 =>
  Ext w6 w17 ∧ call P f_spec_l03Make [x9_16, x14_15] w17 fun x15_18 w19 =>
  sto P 28 x4_5 x15_18 w19 fun w21 =>
  ldc P 28 x4_5 w21 fun r22 =>
  K r22 w21
def P_spec_l03Mul : Plan := (.seq (.reg [.op (0, 2, false), .op (1, 2, false), .op (2, 2, false)]) (.seq (.reg [.op (0, 0, false), .op (1, 0, false), .op (2, 0, false), .op (3, 0, false), .op (5, 0, false), .op (6, 0, false), .op (7, 0, false), .op (8, 0, false), .op (9, 0, false), .op (4, 2, true), .op (10, 2, false), .op (11, 2, false)]) .leaf))
theorem I_spec_l03Mul {a0 a1 : Value} {w : World} {K : Value → World → Prop} (h : D_spec_l03Mul a0 a1 w K) : call P f_spec_l03Mul [a0, a1] w K :=
  call_of_vc mixed Try.func30 (c := codeOf Try.f30) (by kernel_rfl) (by kernel_rfl) (p := P_spec_l03Mul) (by kernel_rfl) (by rw [Try.ntmps30]; simp) (by
    have e : D_spec_l03Mul a0 a1 w K = vc P P_spec_l03Mul (codeOf Try.f30) (env0 [a0, a1]) w (retX P Try.f30.results.toList K) := by kernel_rfl
    exact e ▸ h)

/-- spec.l03Of -/
def D_spec_l03Of (a0 : Value) (w : World) (K : Value → World → Prop) : Prop :=
  alc P 28 w fun x2_1 w2 =>
  call P f_spec_l01Parts [a0] w2 fun x7_3 w4 =>
  xtr P x7_3 0 w4 fun x8_5 =>
  xtr P x7_3 1 w4 fun x9_6 =>
  bin P .lss 57 false true a0 (.float .f32 0) w4 fun x11_7 =>
  cnd x11_7
    (una P .neg x8_5 w4 fun x13_8 =>
    call P f_spec_l02Of [x13_8] w4 fun x15_9 w10 =>
    call P f_spec_l03Make [x15_9, x9_6] w10 fun x17_11 w12 =>
    sto P 28 x2_1 x17_11 w12 fun w14 =>
    ldc P 28 x2_1 w14 fun r15 =>
    K r15 w14)
    (call P f_spec_l02Of [x8_5] w4 fun x15_16 w17 =>
    call P f_spec_l03Make [x15_16, x9_6] w17 fun x17_18 w19 =>
    sto P 28 x2_1 x17_18 w19 fun w21 =>
    ldc P 28 x2_1 w21 fun r22 =>
    K r22 w21)
def P_spec_l03Of : Plan := (.seq (.reg [.op (0, 2, false)]) (.seq (.reg [.op (0, 0, false), .op (1, 2, false), .op (2, 0, false), .op (3, 0, false), .op (4, 0, false), .op (5, 0, false), .op (6, 0, false)]) (.seq (.seq (.reg [.op (0, 0, false), .op (1, 0, false)]) (.cond (.reg [.op (0, 0, false), .op (1, 0, false), .op (2, 0, false)]) .leaf)) (.seq (.reg [.op (0, 0, false), .op (1, 2, false), .op (2, 0, false), .op (3, 2, false), .op (4, 2, false)]) .leaf))))
theorem I_spec_l03Of {a0 : Value} {w : World} {K : Value → World → Prop} (h : D_spec_l03Of a0 w K) : call P f_spec_l03Of [a0] w K :=
  call_of_vc mixed Try.func31 (c := codeOf Try.f31) (by kernel_rfl) (by kernel_rfl) (p := P_spec_l03Of) (by kernel_rfl) (by rw [Try.ntmps31]; simp) (by
    have e : D_spec_l03Of a0 w K = vc P P_spec_l03Of (codeOf Try.f31) (env0 [a0]) w (retX P Try.f31.results.toList K) := by kernel_rfl
    exact e ▸ h)

/-- spec.l03Neg -/
def D_spec_l03Neg (a0 : Value) (w : World) (K : Value → World → Prop) : Prop :=
  bx P 28 a0 w fun x1_1 w2 =>
  alc P 28 w2 fun x2_3 w4 =>
  fda P 28 x1_1 0 w4 fun x3_5 =>
  ld P 26 x3_5 w4 fun x4_6 =>
  fda P 28 x1_1 1 w4 fun x6_7 =>
  ld P 2 x6_7 w4 fun x7_8 =>
  call P f_spec_l02Neg [x4_6] w4 fun x5_9 w10 =>
  Ext w4 w10 ∧ bld P 28 [(0, x5_9), (1, x7_8)] w10 fun x8_11 =>
  sto P 28 x2_3 x8_11 w10 fun w13 =>
  ldc P 28 x2_3 w13 fun r14 =>
  K r14 w13
def P_spec_l03Neg : Plan := (.seq (.reg [.op (0, 2, false), .op (1, 2, false)]) (.seq (.reg [.op (0, 0, false), .op (1, 0, false), .op (3, 0, false), .op (4, 0, false), .op (2, 2, true), .op (5, 0, false), .op (6, 2, false)]) .leaf))
theorem I_spec_l03Neg {a0 : Value} {w : World} {K : Value → World → Prop} (h : D_spec_l03Neg a0 w K) : call P f_spec_l03Neg [a0] w K :=
  call_of_vc mixed Try.func32 (c := codeOf Try.f32) (by kernel_rfl) (by kernel_rfl) (p := P_spec_l03Neg) (by kernel_rfl) (by rw [Try.ntmps32]; simp) (by
    have e : D_spec_l03Neg a0 w K = vc P P_spec_l03Neg (codeOf Try.f32) (env0 [a0]) w (retX P Try.f32.results.toList K) := by kernel_rfl
    exact e ▸ h)

/-- spec.l03Add -/
def D_spec_l03Add (a0 a1 : Value) (w : World) (K : Value → World → Prop) : Prop :=
  bx P 28 a0 w fun x2_1 w2 =>
  bx P 28 a1 w2 fun x3_3 w4 =>
  alc P 28 w4 fun x4_5 w6 =>
  fda P 28 x2_1 0 w6 fun x6_7 =>
  fda P 26 x6_7 0 w6 fun x7_8 =>
  ld P 2 x7_8 w6 fun x8_9 =>
  bin P .eql 2 false true x8_9 (.int .i64 0) w6 fun x9_10 =>
  cnd x9_10
    (fda P 28 x3_3 0 w6 fun x10_11 =>
    ld P 26 x10_11 w6 fun x11_12 =>
    fda P 28 x3_3 1 w6 fun x12_13 =>
    ld P 2 x12_13 w6 fun x13_14 =>
    call P f_spec_l03Make [x11_12, x13_14] w6 fun x14_15 w16 =>
    sto P 28 x4_5 x14_15 w16 fun w18 =>
    ldc P 28 x4_5 w18 fun r19 =>
    K r19 w18)
    (fda P 28 x3_3 0 w6 fun x15_20 =>
    fda P 26 x15_20 0 w6 fun x16_21 =>
    ld P 2 x16_21 w6 fun x17_22 =>
    bin P .eql 2 false true x17_22 (.int .i64 0) w6 fun x18_23 =>
    cnd x18_23
      (fda P 28 x2_1 0 w6 fun x19_24 =>
      ld P 26 x19_24 w6 fun x20_25 =>
      fda P 28 x2_1 1 w6 fun x21_26 =>
      ld P 2 x21_26 w6 fun x22_27 =>
      call P f_spec_l03Make [x20_25, x22_27] w6 fun x23_28 w29 =>
      sto P 28 x4_5 x23_28 w29 fun w31 =>
      ldc P 28 x4_5 w31 fun r32 =>
      K r32 w31)
      (fda P 28 x2_1 1 w6 fun x24_33 =>
      ld P 2 x24_33 w6 fun x25_34 =>
      fda P 28 x3_3 1 w6 fun x26_35 =>
      ld P 2 x26_35 w6 fun x27_36 =>
      bl0 P .min #[2, 2] 2 [x25_34, x27_36] w6 fun x28_37 =>
      fda P 28 x2_1 0 w6 fun x29_38 =>
      ld P 26 x29_38 w6 fun x30_39 =>
      fda P 28 x2_1 1 w6 fun x31_40 =>
      ld P 2 x31_40 w6 fun x32_41 =>
      bin P .sub 2 false false x32_41 x28_37 w6 fun x34_42 =>
      fda P 28 x3_3 0 w6 fun x36_43 =>
      ld P 26 x36_43 w6 fun x37_44 =>
      fda P 28 x3_3 1 w6 fun x38_45 =>
      ld P 2 x38_45 w6 fun x39_46 =>
      bin P .sub 2 false false x39_46 x28_37 w6 fun x41_47 =>
      call P f_spec_l02Left [x30_39, x34_42] w6 fun x35_48 w49 =>
      Ext w6 w49 ∧ call P f_spec_l02Left [x37_44, x41_47] w49 fun x42_50 w51 =>
      call P f_spec_l02Add [x35_48, x42_50] w51 fun x43_52 w53 =>
      call P f_spec_l03Make [x43_52, x28_37] w53 fun x45_54 w55 =>
      sto P 28 x4_5 x45_54 w55 fun w57 =>
      ldc P 28 x4_5 w57 fun r58 =>
      K r58 w57))
def P_spec_l03Add : Plan := (.seq (.reg [.op (0, 2, false), .op (1, 2, false), .op (2, 2, false)]) (.seq (.seq (.reg [.op (0, 0, false), .op (1, 0, false), .op (2, 0, false), .op (3, 0, false)]) (.cond (.seq (.reg [.op (0, 0, false), .op (1, 0, false), .op (2, 0, false), .op (3, 0, false), .op (4, 2, false), .op (5, 2, false)]) .leaf) .leaf)) (.seq (.seq (.reg [.op (0, 0, false), .op (1, 0, false), .op (2, 0, false), .op (3, 0, false)]) (.cond (.seq (.reg [.op (0, 0, false), .op (1, 0, false), .op (2, 0, false), .op (3, 0, false), .op (4, 2, false), .op (5, 2, false)]) .leaf) .leaf)) (.seq (.reg [.op (0, 0, false), .op (1, 0, false), .op (2, 0, false), .op (3, 0, false), .op (4, 0, false), .op (5, 0, false)]) (.seq (.reg [.op (0, 0, false), .op (1, 0, false), .op (2, 0, false), .op (3, 0, false), .op (4, 0, false), .op (5, 0, false), .op (7, 0, false), .op (8, 0, false), .op (9, 0, false), .op (10, 0, false), .op (11, 0, false), .op (12, 0, false), .op (15, 0, false), .op (6, 2, true), .op (13, 2, false), .op (14, 2, false), .op (16, 2, false), .op (17, 2, false)]) .leaf)))))
theorem I_spec_l03Add {a0 a1 : Value} {w : World} {K : Value → World → Prop} (h : D_spec_l03Add a0 a1 w K) : call P f_spec_l03Add [a0, a1] w K :=
  call_of_vc mixed Try.func33 (c := codeOf Try.f33) (by kernel_rfl) (by kernel_rfl) (p := P_spec_l03Add) (by kernel_rfl) (by rw [Try.ntmps33]; simp) (by
    have e : D_spec_l03Add a0 a1 w K = vc P P_spec_l03Add (codeOf Try.f33) (env0 [a0, a1]) w (retX P Try.f33.results.toList K) := by kernel_rfl
    exact e ▸ h)

end Go.Proofs.Ytabgkpfcpncmhaa

/- Written by a program (gen.py): what is left to show of each function's call. -/
set_option linter.unusedVariables false
set_option maxRecDepth 20000
namespace Go.Proofs.Ytabgkpfcpncmhaa
open Go Go.Vc

/-- laws.FnExactDeterminantOf -/
def D_laws_FnExactDeterminantOf (a0 : Value) (w : World) (K : Value → World → Prop) : Prop :=
  call P f_laws_szFloat32SS [a0, (.int .i64 1048576)] w fun x16_1 w2 =>
  bin P .lss 3 false true x16_1 (.int .i64 0) w2 fun x18_3 =>
  cnd x18_3
    (K (.bool true) w2)
    (call P f_laws_toFloat32SS [a0] w2 fun x21_4 w5 =>
    call P f_spec_DeterminantOf [x21_4] w5 fun x22_6 w7 =>
    xtr P x22_6 0 w7 fun x23_8 =>
    xtr P x22_6 1 w7 fun x24_9 =>
    alc P 28 w7 fun x4_10 w11 =>
    sto P 28 x4_10 x23_8 w11 fun w13 =>
    call P f_laws_toFloat32SS [a0] w13 fun x26_14 w15 =>
    call P f_impl_DeterminantOf [x26_14] w15 fun x29_16 w17 =>
    xtr P x29_16 0 w17 fun x30_18 =>
    xtr P x29_16 1 w17 fun x31_19 =>
    alc P 28 w17 fun x7_20 w21 =>
    sto P 28 x7_20 x30_18 w21 fun w23 =>
    ld P 28 x7_20 w23 fun x32_24 =>
    ld P 28 x4_10 w23 fun x33_25 =>
    call P f_laws_eqDyadic [x32_24, x33_25] w23 fun x34_26 w27 =>
    una P .not x34_26 w27 fun x35_28 =>
    ∃ J29 : Value → World → Prop, (∀ (x39_30 : Value) (junk32 : Env) (w31 : World), J29 x39_30 w31 →
      pick x35_28 (.bool true) x39_30 fun x40_33 =>
      cnd x40_33
        (K (.bool false) w31)
        (call P f_laws_toFloat32SS [a0] w31 fun x43_34 w35 =>
        call P f_laws_eqFloat32SS [x26_14, x43_34] w35 fun x44_36 w37 =>
        una P .not x44_36 w37 fun x45_38 =>
        cnd x45_38
          (K (.bool false) w37)
          (call P f_laws_markFloat32SS [x26_14, (.int .i64 1)] w37 fun x48_39 w40 =>
          bin P .lss 3 false true x48_39 (.int .i64 0) w40 fun x50_41 =>
          ∃ J42 : Value → World → Prop, (∀ (x55_43 : Value) (junk45 : Env) (w44 : World), J42 x55_43 w44 →
            pick x50_41 (.bool true) x55_43 fun x56_46 =>
            ∃ J47 : Value → World → Prop, (∀ (x60_48 : Value) (junk50 : Env) (w49 : World), J47 x60_48 w49 →
            pick x56_46 (.bool true) x60_48 fun x61_51 =>
              cnd x61_51
                (K (.bool false) w49)
                (ld P 28 x7_20 w49 fun x62_52 =>
                call P f_laws_markDyadic [x62_52, (.int .i64 1)] w49 fun x64_53 w54 =>
                ld P 28 x7_20 w54 fun x65_55 =>
                call P f_laws_heldDyadic [x65_55, (.int .i64 1)] w54 fun x67_56 w57 =>
                bin P .lss 3 false true x67_56 (.int .i64 0) w57 fun x69_58 =>
                cnd x69_58
                  (K (.bool false) w57)
                  (bin P .neq 3 false false x67_56 x64_53 w57 fun x72_59 =>
                  cnd x72_59
                    (K (.bool false) w57)
                    (call P f_laws_toFloat32SS [a0] w57 fun x75_60 w61 =>
                    call P f_impl_DeterminantOf [x75_60] w61 fun x76_62 w63 =>
                    xtr P x76_62 0 w63 fun x77_64 =>
                    xtr P x76_62 1 w63 fun x78_65 =>
                    alc P 28 w63 fun x12_66 w67 =>
                    sto P 28 x12_66 x77_64 w67 fun w69 =>
                    ld P 28 x12_66 w69 fun x79_70 =>
                    ld P 28 x4_10 w69 fun x80_71 =>
                    call P f_laws_eqDyadic [x79_70, x80_71] w69 fun x81_72 w73 =>
                    una P .not x81_72 w73 fun x82_74 =>
                    ∃ J75 : Value → World → Prop, (∀ (x86_76 : Value) (junk78 : Env) (w77 : World), J75 x86_76 w77 →
                      pick x82_74 (.bool true) x86_76 fun x87_79 =>
                      cnd x87_79
                        (K (.bool false) w77)
                        (ld P 28 x7_20 w77 fun x88_80 =>
                        call P f_laws_heldDyadic [x88_80, (.int .i64 1)] w77 fun x90_81 w82 =>
                        bin P .lss 3 false true x90_81 (.int .i64 0) w82 fun x92_83 =>
                        cnd x92_83
                          (K (.bool false) w82)
                          (bin P .neq 3 false false x90_81 x64_53 w82 fun x95_84 =>
                          cnd x95_84
                            (K (.bool false) w82)
                            (K (.bool true) w82)))) ∧
                      grd x82_74 false
                        (bin P .neq 2 false false x78_65 x24_9 w73 fun x86_85 =>
                        J75 x86_85 w73)
                        (J75 undef w73))))) ∧
            grd x56_46 false
              (bin P .neq 2 false false x31_19 x24_9 w44 fun x60_86 =>
                J47 x60_86 w44)
              (J47 undef w44)) ∧
            grd x50_41 false
              (ld P 28 x7_20 w40 fun x52_87 =>
              ld P 28 x4_10 w40 fun x53_88 =>
              call P f_laws_eqDyadic [x52_87, x53_88] w40 fun x54_89 w90 =>
              una P .not x54_89 w90 fun x55_91 =>
              J42 x55_91 w90)
              (J42 undef w40)))) ∧
      grd x35_28 false
        (bin P .neq 2 false false x31_19 x24_9 w27 fun x39_92 =>
        J29 x39_92 w27)
        (J29 undef w27))
def P_laws_FnExactDeterminantOf : Plan := (.seq (.reg [.op (0, 0, false)]) (.seq (.reg [.op (0, 0, false)]) (.seq (.reg [.op (0, 0, false), .op (1, 0, false), .op (2, 2, false), .op (3, 0, false)]) (.seq (.seq (.reg [.op (0, 0, false), .op (1, 0, false)]) (.cond (.seq (.reg [.op (0, 0, false)]) .leaf) .leaf)) (.seq (.reg [.op (0, 0, false), .op (1, 2, false), .op (2, 2, false), .op (3, 0, false), .op (4, 0, false), .op (5, 0, false), .op (6, 2, false), .op (7, 2, false), .op (8, 0, false)]) (.seq (.reg [.op (0, 0, false), .op (1, 2, false), .op (2, 0, false)]) (.seq (.reg [.op (0, 0, false), .op (1, 2, false), .op (2, 0, false), .op (3, 0, false), .op (4, 0, false), .op (5, 2, false), .op (6, 2, false), .op (7, 0, false)]) (.seq (.seq (.reg [.op (0, 0, false), .op (1, 0, false), .op (2, 2, false), .op (3, 0, false), .op (4, 0, false), .grp 4 false [(5, 0, false), (6, 0, false), (7, 0, false)] [39] 962072674304, .op (8, 0, false)]) (.cond (.seq (.reg [.op (0, 0, false)]) .leaf) .leaf)) (.seq (.seq (.reg [.op (0, 0, false), .op (1, 0, false), .op (2, 2, false), .op (3, 2, false), .op (4, 0, false)]) (.cond (.seq (.reg [.op (0, 0, false)]) .leaf) .leaf)) (.seq (.reg [.op (0, 0, false)]) (.seq (.reg [.op (0, 0, false), .op (1, 0, false), .op (2, 2, false), .op (3, 0, false)]) (.seq (.seq (.reg [.op (0, 0, false), .op (1, 0, false), .op (2, 0, false), .grp 2 false [(3, 0, false), (4, 0, false), (5, 2, false), (6, 0, false)] [55] 67553994410557440, .op (7, 0, false), .op (8, 0, false), .grp 8 false [(9, 0, false), (10, 0, false), (11, 0, false)] [60] 2017612633061982208, .op (12, 0, false)]) (.cond (.seq (.reg [.op (0, 0, false)]) .leaf) .leaf)) (.seq (.reg [.op (0, 0, false)]) (.seq (.reg [.op (0, 0, false), .op (1, 0, false), .op (2, 2, false), .op (3, 0, false)]) (.seq (.reg [.op (0, 0, false)]) (.seq (.reg [.op (0, 0, false), .op (1, 0, false), .op (2, 2, false), .op (3, 0, false)]) (.seq (.seq (.reg [.op (0, 0, false), .op (1, 0, false)]) (.cond (.seq (.reg [.op (0, 0, false)]) .leaf) .leaf)) (.seq (.seq (.reg [.op (0, 0, false), .op (1, 0, false), .op (2, 0, false)]) (.cond (.seq (.reg [.op (0, 0, false)]) .leaf) .leaf)) (.seq (.reg [.op (0, 0, false), .op (1, 2, false), .op (2, 2, false), .op (3, 0, false), .op (4, 0, false), .op (5, 0, false), .op (6, 2, false), .op (7, 2, false), .op (8, 0, false)]) (.seq (.seq (.reg [.op (0, 0, false), .op (1, 0, false), .op (2, 2, false), .op (3, 0, false), .op (4, 0, false), .grp 4 false [(5, 0, false), (6, 0, false), (7, 0, false)] [86] 135399691796838467567091712, .op (8, 0, false)]) (.cond (.seq (.reg [.op (0, 0, false)]) .leaf) .leaf)) (.seq (.reg [.op (0, 0, false)]) (.seq (.reg [.op (0, 0, false), .op (1, 0, false), .op (2, 2, false), .op (3, 0, false)]) (.seq (.seq (.reg [.op (0, 0, false), .op (1, 0, false)]) (.cond (.seq (.reg [.op (0, 0, false)]) .leaf) .leaf)) (.seq (.seq (.reg [.op (0, 0, false), .op (1, 0, false), .op (2, 0, false)]) (.cond (.seq (.reg [.op (0, 0, false)]) .leaf) .leaf)) (.seq (.reg [.op (0, 0, false)]) .leaf)))))))))))))))))))))))))
theorem I_laws_FnExactDeterminantOf {a0 : Value} {w : World} {K : Value → World → Prop} (h : D_laws_FnExactDeterminantOf a0 w K) : call P f_laws_FnExactDeterminantOf [a0] w K :=
  call_of_vc mixed Try.func3 (c := codeOf Try.f3) (by kernel_rfl) (by kernel_rfl) (p := P_laws_FnExactDeterminantOf) (by kernel_rfl) (by rw [Try.ntmps3]; simp) (by
    have e : D_laws_FnExactDeterminantOf a0 w K = vc P P_laws_FnExactDeterminantOf (codeOf Try.f3) (env0 [a0]) w (retX P Try.f3.results.toList K) := by kernel_rfl
    exact e ▸ h)

end Go.Proofs.Ytabgkpfcpncmhaa

/- Contracts: floats, lists of floats, matrices that are only read. -/
set_option linter.unusedVariables false
namespace Go.Proofs.Ytabgkpfcpncmhaa
open Go Go.Vc

abbrev fl (b : Nat) : Value := .float .f32 b
def finB (b : Nat) : Bool := decide (Fin Ieee.single b)

/-- A slice of floats. -/
structure FS (w : World) (v : Value) (l : List Nat) : Prop where
  row : Row 1 w v l.length (l.map fl)
  lt : ∀ b ∈ l, b < 4294967296
theorem FS.ext {w w' : World} {v : Value} {l : List Nat} (h : FS w v l) (he : Ext w w') : FS w' v l := ⟨h.row.ext he, h.lt⟩
theorem FS.bound {w : World} {v : Value} {l : List Nat} (h : FS w v l) : l.length ≤ 9223372036854775807 := by have := h.row.bound; simp only [maxLen] at this; omega

variable {w : World} {K : Value → World → Prop}

theorem call_extern {g : FuncId} {fn : Func} {e : Array Value → Sem Value} (hf : P.funcs[g]? = some fn) (hn : (fn.name == "runtime.NumGoroutine") = false) (hb : fn.body = none) (h1 : Extern.findNext fn = none) (h2 : Extern.find fn = some e)
    {args : List Value} (H : SemA P (e args.toArray) w K) : call P g args w K := by
  intro c hc
  obtain ⟨v, c', hr, hk⟩ := H c hc
  refine ⟨.value v, c', ?_, hk⟩
  have hn' : ¬ fn.name = "runtime.NumGoroutine" := by simpa using hn
  simp [callFunc, program, Sem.run, hf, hn', hb, h1, h2, mark, hr]

theorem c_Float32bits {b : Nat} (H : K (.int .u32 b) w) : call P f_math_Float32bits [fl b] w K :=
  call_extern fun_math_Float32bits (by kernel_rfl) rfl (by kernel_rfl) (e := Extern.MathFloatBits.float32bits) (by kernel_rfl) (SemA_pure H)

theorem c_isFinite {b : Nat} (hb : b < 4294967296) (H : K (.bool (finB b)) w) : call P f_impl_isFinite [fl b] w K := by
  refine I_impl_isFinite ?_
  unfold D_impl_isFinite
  refine c_Float32bits ?_
  rw [bin_shr _ _ _ _ _ _ _ _ (by decide)]
  have e1 : Int.fdiv (b : Int) (2 ^ min (Int.toNat 23) IntKind.u32.bits) = ((b / 8388608 : Nat) : Int) := by
    rw [Int.fdiv_eq_ediv_of_nonneg _ (by simp [IntKind.bits])]
    simp [IntKind.bits]
  rw [e1, bin_and]
  have e2 : IntKind.u32.wrap ((BitVec.ofInt IntKind.u32.bits ((b / 8388608 : Nat) : Int) &&& BitVec.ofInt IntKind.u32.bits 255).toNat) = ((b / 8388608 % 256 : Nat) : Int) := by
    have h1 : (BitVec.ofInt IntKind.u32.bits ((b / 8388608 : Nat) : Int) &&& BitVec.ofInt IntKind.u32.bits 255).toNat = b / 8388608 % 256 := by
      rw [BitVec.toNat_and]
      have a1 : (BitVec.ofInt IntKind.u32.bits ((b / 8388608 : Nat) : Int)).toNat = b / 8388608 := by
        simp [IntKind.bits]; omega
      have a2 : (BitVec.ofInt IntKind.u32.bits 255).toNat = 2 ^ 8 - 1 := rfl
      rw [a1, a2, Nat.and_two_pow_sub_one_eq_mod]
    rw [h1]
    exact wrap_of (by simp [IntKind.min, IntKind.signed]; omega) (by simp [IntKind.max, IntKind.signed, IntKind.bits]; omega)
  rw [e2]
  simp only [bin_neq]
  have e3 : decide (((b / 8388608 % 256 : Nat) : Int) ≠ 255) = finB b := by
    unfold finB
    rw [decide_eq_decide, fin_iff_bits]; omega
  rw [e3]
  exact H

theorem c_l01Finite {b : Nat} (H : K (.bool (finB b)) w) : call P f_spec_l01Finite [fl b] w K := by
  refine I_spec_l01Finite ?_
  unfold D_spec_l01Finite
  refine rbin_float (by simp) fun r hr => ?_
  simp only [bin_feql]
  have e : (FloatKind.f32.format.order r 0 == some .eq) = finB b := by
    unfold finB
    by_cases hf : Fin Ieee.single b
    · rw [decide_eq_true hf]
      have := FR_some hr (show floatBits .sub .f32 b b = some 0 from sub_self hf)
      subst this; rfl
    · rw [decide_eq_false hf]
      rcases hr with hr | hr
      · rw [show floatBits .sub .f32 b b = none from sub_self_none hs1 hf] at hr; cases hr
      · rw [show FloatKind.f32.format.order r 0 = none from order_nan_left hs1 0 hr.2.1]; rfl
  rw [e]; exact H

theorem get_map {α β : Type} {f : α → β} {l : List α} {i : Nat} (hi : i < l.length) : (l.map f)[i]? = some (f l[i]) := by simp [hi]

theorem c_areFinite {v : Value} {l : List Nat} (h : FS w v l) (H : K (.bool (l.all finB)) w) : call P f_impl_areFinite [v] w K := by
  refine I_impl_areFinite ?_
  unfold D_impl_areFinite
  rw [h.row.len u_s_float32]
  have hb := h.bound
  refine ⟨fun m x w' => w' = w ∧ ∃ i : Nat, x = .int .i64 i ∧ m + i = l.length ∧ (l.take i).all finB = true, ⟨l.length, rfl, 0, rfl, by omega, by simp⟩, ?_⟩
  rintro m x junk w' ⟨rfl, i, rfl, hm, hall⟩
  rw [bin_lss]
  refine cnd_dec (fun hlt => ?_) (fun hge => ?_)
  · have hi : i < l.length := by omega
    refine h.row.at1 (get_map hi) u_s_float32 i_float32 u_float32 rfl ?_
    refine c_isFinite (h.lt _ (List.getElem_mem hi)) ?_
    rw [una_not]
    refine cnd_split (fun hf => ?_) (fun hf => ?_)
    · have : l.all finB = false := by
        refine Bool.eq_false_iff.2 fun hall' => ?_
        have := List.all_eq_true.1 hall' l[i] (List.getElem_mem hi)
        rw [this] at hf; cases hf
      rw [this] at H; exact H
    · rw [bin_add]
      refine ⟨m - 1, by omega, rfl, i + 1, ?_, by omega, ?_⟩
      · rw [wrap_i64 (by omega) (by omega)]; rfl
      · rw [List.take_succ_eq_append_getElem hi, List.all_append, hall]
        simpa using hf
  · have : l.take i = l := List.take_of_length_le (by omega)
    rw [this] at hall
    rw [hall] at H; exact H

end Go.Proofs.Ytabgkpfcpncmhaa

/- Contracts: what is only read: vectors, matrices, sizes, sameness. -/
set_option linter.unusedVariables false
namespace Go.Proofs.Ytabgkpfcpncmhaa
open Go Go.Vc

variable {w : World} {K : Value → World → Prop}

/-- '&&' and '||' joined again. -/
theorem jn1 {v : Value} {want : Bool} {R : Value → World → Prop} {A : (Value → World → Prop) → Prop} {w : World} (h : grd v want (A R) (R undef w)) :
    ∃ J : Value → World → Prop, (∀ (x : Value) (junk : Env) (w1 : World), J x w1 → R x w1) ∧ grd v want (A J) (J undef w) := ⟨R, fun _ _ _ h => h, h⟩

def vecB (l : List Nat) : Bool := l.all finB && decide (1 ≤ l.length ∧ l.length ≤ 8)

theorem c_l10Vector {v : Value} {l : List Nat} (h : FS w v l) (H : K (.bool (vecB l)) w) : call P f_spec_l10Vector [v] w K := by
  refine I_spec_l10Vector ?_
  unfold D_spec_l10Vector
  have hb := h.bound
  refine ⟨fun m x w' => w' = w ∧ ∃ i : Nat, x = .int .i64 i ∧ m + i = l.length ∧ (l.take i).all finB = true, ⟨l.length, rfl, 0, rfl, by omega, by simp⟩, ?_⟩
  rintro m x junk w' ⟨rfl, i, rfl, hm, hall⟩
  rw [h.row.len u_s_float32, bin_lss]
  refine cnd_dec (fun hlt => ?_) (fun hge => ?_)
  · have hi : i < l.length := by omega
    refine h.row.at1 (get_map hi) u_s_float32 i_float32 u_float32 rfl ?_
    refine c_l01Finite ?_
    rw [una_not]
    refine cnd_split (fun hf => ?_) (fun hf => ?_)
    · have : l.all finB = false := by
        refine Bool.eq_false_iff.2 fun hall' => ?_
        have := List.all_eq_true.1 hall' l[i] (List.getElem_mem hi)
        rw [this] at hf; cases hf
      unfold vecB at H
      rw [this] at H; exact H
    · rw [bin_add]
      refine ⟨m - 1, by omega, rfl, i + 1, ?_, by omega, ?_⟩
      · rw [wrap_i64 (by omega) (by omega)]; rfl
      · rw [List.take_succ_eq_append_getElem hi, List.all_append, hall]
        simpa using hf
  · have : l.take i = l := List.take_of_length_le (by omega)
    rw [this] at hall
    rw [h.row.len u_s_float32, bin_geq]
    refine ⟨_, fun _ _ _ h => h, ?_⟩
    refine grd_split (fun h1 => ?_) (fun h1 => ?_)
    · rw [h.row.len u_s_float32, bin_leq, pick_bool, h1]
      simp only [decide_eq_true_eq] at h1
      have e : vecB l = decide ((l.length : Int) ≤ 8) := by
        unfold vecB
        rw [hall, Bool.true_and, decide_eq_decide]; omega
      rw [e] at H; exact H
    · rw [h1]
      simp only [Bool.not_true, decide_eq_false_iff_not] at h1
      have e : vecB l = false := by
        unfold vecB
        rw [hall, Bool.true_and, decide_eq_false_iff_not]; omega
      rw [e] at H; exact H

/-! ### matrices -/
structure FSS (w : World) (v : Value) (m : List (List Nat)) : Prop where
  ex : ∃ vs : List Value, Row 1 w v m.length vs ∧ ∀ i (hi : i < m.length), ∃ x, vs[i]? = some x ∧ FS w x m[i]
theorem FSS.ext {w w' : World} {v : Value} {m : List (List Nat)} (h : FSS w v m) (he : Ext w w') : FSS w' v m := by
  obtain ⟨vs, h1, h2⟩ := h.ex
  exact ⟨vs, h1.ext he, fun i hi => let ⟨x, hx, hf⟩ := h2 i hi; ⟨x, hx, hf.ext he⟩⟩
theorem FSS.bound {w : World} {v : Value} {m : List (List Nat)} (h : FSS w v m) : m.length ≤ 9223372036854775807 := by
  obtain ⟨vs, h1, _⟩ := h.ex
  have := h1.bound; simp only [maxLen] at this; omega
theorem FSS.len {v : Value} {m : List (List Nat)} (h : FSS w v m) {ty : TypeId} {K : Value → Prop} : bl0 P .len #[t_s_s_float32] ty [v] w K = K (.int .i64 m.length) := by
  obtain ⟨vs, h1, _⟩ := h.ex
  exact h1.len u_s_s_float32
theorem FSS.at {v : Value} {m : List (List Nat)} (h : FSS w v m) {i : Nat} (hi : i < m.length) {K : Value → Prop} (H : ∀ x, FS w x m[i] → K x) : ixa P t_s_s_float32 v (.int .i64 (i : Int)) w (fun a => ld P t_s_float32 a w K) := by
  obtain ⟨vs, h1, h2⟩ := h.ex
  obtain ⟨x, hx, hf⟩ := h2 i hi
  exact h1.at1 hx u_s_s_float32 i_s_float32 u_s_float32 rfl (H x hf)

def matB (m : List (List Nat)) : Bool := m.all (fun r => decide (r.length = m.length) && r.all finB) && decide (1 ≤ m.length ∧ m.length ≤ 8)

theorem c_impl_IsMatrix {v : Value} {m : List (List Nat)} (h : FSS w v m) (H : K (.bool (matB m)) w) : call P f_impl_IsMatrix [v] w K := by
  refine I_impl_IsMatrix ?_
  unfold D_impl_IsMatrix
  have hb := h.bound
  rw [h.len, bin_lss]
  refine ⟨_, fun _ _ _ h => h, ?_⟩
  have no : ¬ (1 ≤ m.length ∧ m.length ≤ 8) → K (.bool false) w := fun hn => by
    have e : matB m = false := by
      unfold matB
      have : decide (1 ≤ m.length ∧ m.length ≤ 8) = false := by rw [decide_eq_false_iff_not]; exact hn
      rw [this, Bool.and_false]
    rw [e] at H; exact H
  refine grd_split (fun h1 => ?_) (fun h1 => ?_)
  · rw [h.len, bin_gtr, pick_bool, h1]
    simp only [decide_eq_false_iff_not] at h1
    refine cnd_dec (fun h2 => no (by omega)) (fun h2 => ?_)
    rw [h.len]
    refine ⟨fun k x w' => w' = w ∧ ∃ i : Nat, x = .int .i64 i ∧ k + i = m.length ∧ (m.take i).all (fun r => decide (r.length = m.length) && r.all finB) = true, ⟨m.length, rfl, 0, rfl, by omega, by simp⟩, ?_⟩
    rintro k x junk w' ⟨rfl, i, rfl, hm, hall⟩
    have hd : decide (1 ≤ m.length ∧ m.length ≤ 8) = true := by rw [decide_eq_true_eq]; omega
    rw [bin_lss]
    refine cnd_dec (fun hlt => ?_) (fun hge => ?_)
    · have hi : i < m.length := by omega
      refine h.at hi fun x hx => ?_
      have bad : (decide (m[i].length = m.length) && m[i].all finB) = false → K (.bool false) w' := fun hf => by
        have : matB m = false := by
          unfold matB
          rw [hd, Bool.and_true]
          refine Bool.eq_false_iff.2 fun hall' => ?_
          have := List.all_eq_true.1 hall' m[i] (List.getElem_mem hi)
          rw [this] at hf; cases hf
        rw [this] at H; exact H
      rw [hx.row.len u_s_float32, h.len, bin_neq]
      refine ⟨_, fun _ _ _ h => h, ?_⟩
      refine grd_split (fun h3 => ?_) (fun h3 => ?_)
      · refine c_areFinite hx ?_
        rw [una_not, pick_bool, h3]
        simp only [decide_eq_false_iff_not, ne_eq, Decidable.not_not] at h3
        have h3' : m[i].length = m.length := by omega
        refine cnd_split (fun h4 => ?_) (fun h4 => ?_)
        · exact bad (by simp at h4; simp [h4])
        · simp only [cond_false, Bool.not_eq_eq_eq_not, Bool.not_false] at h4
          rw [bin_add]
          refine ⟨k - 1, by omega, rfl, i + 1, ?_, by omega, ?_⟩
          · rw [wrap_i64 (by omega) (by omega)]; rfl
          · rw [List.take_succ_eq_append_getElem hi, List.all_append, hall]
            simp [h3', h4]
      · rw [h3]
        simp only [Bool.not_false, decide_eq_true_eq, ne_eq] at h3
        exact bad (by
          have : decide (m[i].length = m.length) = false := by rw [decide_eq_false_iff_not]; omega
          rw [this, Bool.false_and])
    · have : m.take i = m := List.take_of_length_le (by omega)
      rw [this] at hall
      have e : matB m = true := by unfold matB; rw [hall, hd]; rfl
      rw [e] at H; exact H
  · rw [h1]
    simp only [Bool.not_false, decide_eq_true_eq] at h1
    exact no (by omega)

theorem c_spec_l10Is {v : Value} {m : List (List Nat)} (h : FSS w v m) (H : K (.bool (matB m)) w) : call P f_spec_l10Is [v] w K := by
  refine I_spec_l10Is ?_
  unfold D_spec_l10Is
  have hb := h.bound
  refine ⟨fun k x w' => w' = w ∧ ∃ i : Nat, x = .int .i64 i ∧ k + i = m.length ∧ (m.take i).all (fun r => decide (r.length = m.length) && r.all finB) = true ∧ (1 ≤ i → m.length ≤ 8), ⟨m.length, rfl, 0, rfl, by omega, by simp, by omega⟩, ?_⟩
  rintro k x junk w' ⟨rfl, i, rfl, hm, hall, h8⟩
  rw [h.len, bin_lss]
  refine cnd_dec (fun hlt => ?_) (fun hge => ?_)
  · have hi : i < m.length := by omega
    refine h.at hi fun x hx => ?_
    have bad : (decide (m[i].length = m.length) && m[i].all finB) = false ∨ ¬ (1 ≤ m.length ∧ m.length ≤ 8) → K (.bool false) w' := fun hf => by
      have : matB m = false := by
        unfold matB
        rcases hf with hf | hf
        · refine Bool.and_eq_false_imp.2 fun hall' => ?_
          have := List.all_eq_true.1 hall' m[i] (List.getElem_mem hi)
          rw [this] at hf; cases hf
        · have : decide (1 ≤ m.length ∧ m.length ≤ 8) = false := by rw [decide_eq_false_iff_not]; exact hf
          rw [this, Bool.and_false]
      rw [this] at H; exact H
    rw [hx.row.len u_s_float32, h.len, bin_neq]
    refine ⟨_, fun _ _ _ h => h, ?_⟩
    refine grd_split (fun h3 => ?_) (fun h3 => ?_)
    · refine h.at hi fun x' hx' => ?_
      refine c_l10Vector hx' ?_
      rw [una_not, pick_bool, h3]
      simp only [decide_eq_false_iff_not, ne_eq, Decidable.not_not] at h3
      have h3' : m[i].length = m.length := by omega
      refine cnd_split (fun h4 => ?_) (fun h4 => ?_)
      · simp only [cond_false, Bool.not_eq_eq_eq_not, Bool.not_true] at h4
        unfold vecB at h4
        refine bad ?_
        rcases Bool.and_eq_false_iff.1 h4 with h4 | h4
        · left; rw [h4, Bool.and_false]
        · right
          rw [decide_eq_false_iff_not] at h4
          omega
      · simp only [cond_false, Bool.not_eq_eq_eq_not, Bool.not_false] at h4
        unfold vecB at h4
        simp only [Bool.and_eq_true, decide_eq_true_eq] at h4
        rw [bin_add]
        refine ⟨k - 1, by omega, rfl, i + 1, ?_, by omega, ?_, by omega⟩
        · rw [wrap_i64 (by omega) (by omega)]; rfl
        · rw [List.take_succ_eq_append_getElem hi, List.all_append, hall]
          simp [h3', h4.1]
    · rw [h3]
      simp only [Bool.not_false, decide_eq_true_eq, ne_eq] at h3
      exact bad (by
        have : decide (m[i].length = m.length) = false := by rw [decide_eq_false_iff_not]; omega
        rw [this, Bool.false_and]; exact .inl rfl)
  · have : m.take i = m := List.take_of_length_le (by omega)
    rw [this] at hall
    rw [h.len, bin_geq]
    refine ⟨_, fun _ _ _ h => h, ?_⟩
    refine grd_split (fun h1 => ?_) (fun h1 => ?_)
    · rw [h.len, bin_leq, pick_bool, h1]
      simp only [decide_eq_true_eq] at h1
      have e : matB m = decide ((m.length : Int) ≤ 8) := by
        unfold matB
        rw [hall, Bool.true_and, decide_eq_decide]; omega
      rw [e] at H; exact H
    · rw [h1]
      simp only [Bool.not_true, decide_eq_false_iff_not] at h1
      have e : matB m = false := by
        unfold matB
        rw [hall, Bool.true_and, decide_eq_false_iff_not]; omega
      rw [e] at H; exact H

/-! ### sizes -/
theorem c_szFloat32S {v : Value} {l : List Nat} {left : Int} (h : FS w v l) (h0 : 0 ≤ left) (h1 : left ≤ 1048576) (H : ∀ r : Int, (r = -1 ∨ (l.length : Int) ≤ left ∧ r = left - l.length) → K (.int .i64 r) w) : call P f_laws_szFloat32S [v, .int .i64 left] w K := by
  refine I_laws_szFloat32S ?_
  unfold D_laws_szFloat32S
  have hb := h.bound
  rw [h.row.len u_s_float32, bin_sub, wrap_i64 (by omega) (by omega), bin_lss]
  exact cnd_dec (fun h2 => H _ (.inl rfl)) (fun h2 => H _ (.inr ⟨by omega, rfl⟩))

def total (m : List (List Nat)) : Nat := (m.map List.length).sum
theorem total_take {m : List (List Nat)} {i : Nat} (hi : i < m.length) : total (m.take (i + 1)) = total (m.take i) + m[i].length := by
  unfold total
  rw [List.take_succ_eq_append_getElem hi, List.map_append, List.sum_append]
  rfl

theorem c_szFloat32SS {v : Value} {m : List (List Nat)} {left : Int} (h : FSS w v m) (h0 : 0 ≤ left) (h1 : left ≤ 1048576) (H : ∀ r : Int, (r = -1 ∨ ((m.length + total m : Nat) : Int) ≤ left ∧ r = left - (m.length + total m : Nat)) → K (.int .i64 r) w) : call P f_laws_szFloat32SS [v, .int .i64 left] w K := by
  refine I_laws_szFloat32SS ?_
  unfold D_laws_szFloat32SS
  have hb := h.bound
  rw [h.len, bin_sub, wrap_i64 (by omega) (by omega), bin_lss]
  refine cnd_dec (fun h2 => H _ (.inl rfl)) (fun h2 => ?_)
  refine ⟨fun k x y w' => w' = w ∧ ∃ i : Nat, y = .int .i64 i ∧ k + i = m.length ∧ x = .int .i64 (left - m.length - total (m.take i)) ∧ 0 ≤ left - m.length - total (m.take i), ⟨m.length, rfl, 0, rfl, by omega, by simp [total], by simp [total]; omega⟩, ?_⟩
  rintro k x y junk w' ⟨rfl, i, rfl, hm, rfl, hpos⟩
  rw [h.len, bin_lss]
  refine cnd_dec (fun hlt => ?_) (fun hge => ?_)
  · have hi : i < m.length := by omega
    refine h.at hi fun x hx => ?_
    refine c_szFloat32S hx hpos (by omega) fun r hr => ?_
    rw [bin_lss]
    refine cnd_dec (fun h3 => H _ (.inl rfl)) (fun h3 => ?_)
    rw [bin_add]
    have e := total_take hi
    refine ⟨k - 1, by omega, rfl, i + 1, ?_, by omega, ?_, ?_⟩
    · rw [wrap_i64 (by omega) (by omega)]; rfl
    · rcases hr with hr | hr
      · omega
      · rw [hr.2, e]; congr 1; omega
    · rcases hr with hr | hr
      · omega
      · omega
  · have : m.take i = m := List.take_of_length_le (by omega)
    rw [this] at hpos ⊢
    exact H _ (.inr ⟨by omega, by omega⟩)

end Go.Proofs.Ytabgkpfcpncmhaa

/- Contracts: sameness of floats and lists of floats. -/
set_option linter.unusedVariables false
namespace Go.Proofs.Ytabgkpfcpncmhaa
open Go Go.Vc

variable {w : World} {K : Value → World → Prop}

theorem div_one_some {a : Nat} (h : ¬ NaN Ieee.double a) : ∃ r, floatBits .quo .f64 4607182418800017408 a = some r := by
  show ∃ r, Ieee.double.div 4607182418800017408 a = some r
  have h1 : Ieee.double.read 4607182418800017408 = .number false 4503599627370496 (-52) := by decide +kernel
  unfold Ieee.Format.div
  rw [h1]
  rcases fin_inf_nan Ieee.double a with h2 | h2 | h2
  · obtain ⟨m, e, hr⟩ := read_fin h2
    rw [hr]
    simp only [Ieee.Datum.quotient]
    by_cases hm : m = 0
    · rw [if_pos hm, if_neg (by decide)]; exact ⟨_, rfl⟩
    · rw [if_neg hm]; exact ⟨_, rfl⟩
  · rw [read_inf hd1 h2]; exact ⟨_, rfl⟩
  · exact absurd h2 h

/-- Two floats of the wide kind that are the same. -/
def Deq (a b : Nat) : Prop := (a = b ∧ ¬ NaN Ieee.double a) ∨ (NaN Ieee.double a ∧ NaN Ieee.double b)

theorem neq_self_nan {a : Nat} (h : NaN Ieee.double a) : (FloatKind.f64.format.order a a != some .eq) = true := by
  rw [show FloatKind.f64.format.order a a = none from order_nan_left hd1 a h]; rfl
theorem neq_self_not {a : Nat} (h : ¬ NaN Ieee.double a) : (FloatKind.f64.format.order a a != some .eq) = false := by
  rw [show FloatKind.f64.format.order a a = some .eq from order_self h hd1]; rfl

theorem c_sameFloat {a b : Nat} (h : Deq a b) (H : K (.bool true) w) : call P f_laws_sameFloat [.float .f64 a, .float .f64 b] w K := by
  refine I_laws_sameFloat ?_
  unfold D_laws_sameFloat
  rw [bin_fneq]
  rcases h with ⟨rfl, ha⟩ | ⟨ha, hb⟩
  · rw [neq_self_not ha]
    refine ⟨_, fun _ _ _ h => h, ?_⟩
    rw [grd_false_false, bin_fneq, neq_self_not ha, pick_bool, cond_false, cnd_false, bin_feql]
    refine ⟨_, fun _ _ _ h => h, ?_⟩
    refine grd_split (fun h1 => ?_) (fun h1 => ?_)
    · rw [bin_feql, pick_bool, h1, cond_true, cnd_true]
      obtain ⟨r, hr⟩ := div_one_some ha
      refine rbin_float (by simp) fun r1 h2 => ?_
      rw [bin_fgtr]
      refine rbin_float (by simp) fun r2 h3 => ?_
      rw [bin_fgtr, bin_beql _ _ _ _ _ _ u_bool, FR_some h2 hr, FR_some h3 hr]
      simpa using H
    · rw [h1, pick_bool]
      simp only [Bool.not_true, cond_false, cnd_false]
      rw [bin_feql, show FloatKind.f64.format.order a a = some .eq from order_self ha hd1]
      exact H
  · rw [neq_self_nan ha]
    refine ⟨_, fun _ _ _ h => h, ?_⟩
    rw [grd_true_false, pick_bool, cond_true, cnd_true, bin_fneq, neq_self_nan ha]
    refine ⟨_, fun _ _ _ h => h, ?_⟩
    rw [grd_true_true, bin_fneq, neq_self_nan hb, pick_bool, cond_true]
    exact H

theorem wid_deq {a b r q : Nat} (h : Feq a b) (h1 : Wid a r) (h2 : Wid b q) : Deq r q := by
  rcases h with rfl | ⟨ha, hb⟩
  · rcases h1 with ⟨n1, rfl⟩ | ⟨n1, m1⟩
    · rcases h2 with ⟨n2, rfl⟩ | ⟨n2, m2⟩
      · exact .inl ⟨rfl, wid_not_nan n1⟩
      · exact absurd n2 n1
    · rcases h2 with ⟨n2, rfl⟩ | ⟨n2, m2⟩
      · exact absurd n1 n2
      · exact .inr ⟨m1, m2⟩
  · rcases h1 with ⟨n1, rfl⟩ | ⟨n1, m1⟩
    · exact absurd ha n1
    · rcases h2 with ⟨n2, rfl⟩ | ⟨n2, m2⟩
      · exact absurd hb n2
      · exact .inr ⟨m1, m2⟩

/-- The same floats, one by one. -/
def Leq (a b : List Nat) : Prop := a.length = b.length ∧ ∀ i (h1 : i < a.length) (h2 : i < b.length), Feq a[i] b[i]
theorem Leq.refl (a : List Nat) : Leq a a := ⟨rfl, fun i h1 h2 => .inl rfl⟩

set_option maxRecDepth 20000 in
theorem c_eqFloat32S {u v : Value} {a b : List Nat} (hu : FS w u a) (hv : FS w v b) (h : Leq a b) (H : K (.bool true) w) : call P f_laws_eqFloat32S [u, v] w K := by
  refine I_laws_eqFloat32S ?_
  unfold D_laws_eqFloat32S
  have hb := hu.bound
  have hlen := h.1
  rw [hu.row.len u_s_float32, hv.row.len u_s_float32, bin_neq]
  refine cnd_dec (fun h1 => by omega) (fun h1 => ?_)
  refine ⟨fun m x w' => w' = w ∧ ∃ i : Nat, x = .int .i64 i ∧ m + i = a.length, ⟨a.length, rfl, 0, rfl, by omega⟩, ?_⟩
  rintro m x junk w' ⟨rfl, i, rfl, hm⟩
  rw [hu.row.len u_s_float32, bin_lss]
  refine cnd_dec (fun hlt => ?_) (fun hge => H)
  have hi : i < a.length := by omega
  have hi' : i < b.length := by omega
  refine hu.row.at1 (get_map hi) u_s_float32 i_float32 u_float32 rfl ?_
  refine hv.row.at1 (get_map hi') u_s_float32 i_float32 u_float32 rfl ?_
  refine rcnv_widen u_float32 u_float64 fun r hr => ?_
  refine rcnv_widen u_float32 u_float64 fun q hq => ?_
  refine c_sameFloat (wid_deq (h.2 i hi hi') hr hq) ?_
  rw [una_not, Bool.not_true, cnd_false, bin_add]
  refine ⟨m - 1, by omega, rfl, i + 1, ?_, by omega⟩
  rw [wrap_i64 (by omega) (by omega)]; rfl

def LLeq (a b : List (List Nat)) : Prop := a.length = b.length ∧ ∀ i (h1 : i < a.length) (h2 : i < b.length), Leq a[i] b[i]
theorem LLeq.refl (a : List (List Nat)) : LLeq a a := ⟨rfl, fun i h1 h2 => Leq.refl _⟩

theorem c_eqFloat32SS {u v : Value} {a b : List (List Nat)} (hu : FSS w u a) (hv : FSS w v b) (h : LLeq a b) (H : K (.bool true) w) : call P f_laws_eqFloat32SS [u, v] w K := by
  refine I_laws_eqFloat32SS ?_
  unfold D_laws_eqFloat32SS
  have hb := hu.bound
  have hlen := h.1
  rw [hu.len, hv.len, bin_neq]
  refine cnd_dec (fun h1 => by omega) (fun h1 => ?_)
  refine ⟨fun m x w' => w' = w ∧ ∃ i : Nat, x = .int .i64 i ∧ m + i = a.length, ⟨a.length, rfl, 0, rfl, by omega⟩, ?_⟩
  rintro m x junk w' ⟨rfl, i, rfl, hm⟩
  rw [hu.len, bin_lss]
  refine cnd_dec (fun hlt => ?_) (fun hge => H)
  have hi : i < a.length := by omega
  have hi' : i < b.length := by omega
  refine hu.at hi fun x hx => ?_
  refine hv.at hi' fun y hy => ?_
  refine c_eqFloat32S hx hy (h.2 i hi hi') ?_
  rw [una_not, Bool.not_true, cnd_false, bin_add]
  refine ⟨m - 1, by omega, rfl, i + 1, ?_, by omega⟩
  rw [wrap_i64 (by omega) (by omega)]; rfl

/-! ### copies of one's own -/
abbrev OS (w : World) (base : Nat) (v : Value) (l : List Nat) : Prop := w.ownsRow base t_float32 1 v l.length (l.map fl)
theorem OS.FS {base : Nat} {v : Value} {l : List Nat} (h : OS w base v l) (hb : ∀ b ∈ l, b < 4294967296) : FS w v l := ⟨owns_Row h, hb⟩

theorem replicate_set_take {α : Type} (l : List α) (z : α) (i : Nat) (hi : i < l.length) : (l.take i ++ List.replicate (l.length - i) z).set i l[i] = l.take (i + 1) ++ List.replicate (l.length - (i + 1)) z := by
  apply List.ext_getElem?
  intro j
  rw [List.getElem?_set]
  simp only [List.getElem?_append, List.length_take, List.getElem?_take, List.getElem?_replicate, List.length_append, List.length_replicate]
  by_cases h1 : i = j
  · subst h1
    simp [Nat.min_eq_left (Nat.le_of_lt hi), hi, show min (i + 1) l.length = i + 1 by omega]
    omega
  · rw [if_neg h1]
    by_cases h2 : j < i
    · simp [show j < min i l.length by omega, show j < min (i + 1) l.length by omega, h2, show j < i + 1 by omega]
    · simp [show ¬ j < min i l.length by omega, show ¬ j < min (i + 1) l.length by omega, show min i l.length = i by omega, show min (i + 1) l.length = i + 1 by omega]
      by_cases h3 : j - i < l.length - i
      · simp [h2, h3, show ¬ j < i + 1 by omega, show j - (i + 1) < l.length - (i + 1) by omega]
      · simp [h2, h3, show ¬ j < i + 1 by omega, show ¬ j - (i + 1) < l.length - (i + 1) by omega]

theorem oneCell_fl (b : Nat) : (fl b).oneCell' = true := rfl

theorem c_toFloat32S {v : Value} {l : List Nat} (h : FS w v l) (hl : l.length ≤ 1048576) (H : ∀ v' w', Ext w w' → OS w' w.heap.size v' l → K v' w') : call P f_laws_toFloat32S [v] w K := by
  refine I_laws_toFloat32S ?_
  unfold D_laws_toFloat32S
  rw [h.row.len u_s_float32]
  refine mks_intro u_s_float32 i_float32 rfl (by omega) (by simp only [maxLen]; omega) fun w1 v1 ho he => ?_
  refine ⟨fun m x w' => RowKit.Below w.heap.size w w' ∧ ∃ i : Nat, x = .int .i64 i ∧ m + i = l.length ∧ w'.ownsRow w.heap.size t_float32 1 v1 l.length (l.map fl |>.take i |> (· ++ List.replicate (l.length - i) (fl 0))),
    ⟨l.length, he, 0, rfl, by omega, by simpa using ho⟩, ?_⟩
  rintro m x junk w2 ⟨hbel, i, rfl, hm, ho2⟩
  have h2 : FS w2 v l := h.ext hbel
  rw [h2.row.len u_s_float32, bin_lss]
  refine cnd_dec (fun hlt => ?_) (fun hge => ?_)
  · have hi : i < l.length := by omega
    refine h2.row.at1 (get_map hi) u_s_float32 i_float32 u_float32 rfl ?_
    refine owns_set ho2 hi (oneCell_fl _) u_s_float32 i_float32 fun w3 ho3 hg => ?_
    rw [bin_add]
    refine ⟨m - 1, by omega, ?_, i + 1, ?_, by omega, ?_⟩
    · exact hbel.grown hg hbel.size fun k hk => (ho2.lt k hk).1
    · rw [wrap_i64 (by omega) (by omega)]; rfl
    · have := replicate_set_take (l.map fl) (fl 0) i (by simpa using hi)
      simp only [List.length_map, List.getElem_map] at this
      rw [this] at ho3; exact ho3
  · have e : (l.map fl).take i = l.map fl := List.take_of_length_le (by simp; omega)
    have e2 : l.length - i = 0 := by omega
    simp only [e, e2, List.replicate_zero, List.append_nil] at ho2
    exact H _ _ hbel ho2

end Go.Proofs.Ytabgkpfcpncmhaa

/- Contracts: matrices of one's own; marks. -/
set_option linter.unusedVariables false
namespace Go.Proofs.Ytabgkpfcpncmhaa
open Go Go.Vc

variable {w : World} {K : Value → World → Prop}

/-- A row behind the range stays. -/
theorem chg_owns {lo hi base : Nat} {a b : World} {e : TypeId} {s n : Nat} {v : Value} {xs : List Value} (h : Chg lo hi a b) (ho : a.ownsRow base e s v n xs) (hb : hi ≤ base) : b.ownsRow base e s v n xs := by
  refine ⟨ho.1, ?_⟩
  rcases ho.2 with h0 | ⟨g, cap, cur, hv, hbb, hg, hr⟩
  · exact .inl h0
  · refine .inr ⟨g, cap, cur, hv, hbb, ?_, hr⟩
    have hlt : g < a.heap.size := by
      rcases Nat.lt_or_ge g a.heap.size with h | h
      · exact h
      · rw [Array.getElem?_eq_none h] at hg; cases hg
    rw [h.block g hlt (.inr (by omega))]; exact hg

theorem owns_ne {b1 b2 : Nat} {e1 e2 : TypeId} {s1 s2 n1 n2 : Nat} {v1 v2 : Value} {xs ys : List Value} (h1 : w.ownsRow b1 e1 s1 v1 n1 xs) (h2 : w.ownsRow b2 e2 s2 v2 n2 ys) (he : e1 ≠ e2) : v1.ownBlock = none ∨ v1.ownBlock ≠ v2.ownBlock := by
  rcases h1.2 with ⟨rfl, _⟩ | ⟨g, cap, cur, rfl, _, hg, _⟩
  · exact .inl rfl
  · rcases h2.2 with ⟨rfl, _⟩ | ⟨g', cap', cur', rfl, _, hg', _⟩
    · exact .inr (by simp [Value.ownBlock])
    · refine .inr ?_
      simp only [Value.ownBlock, ne_eq, Option.some.injEq]
      rintro rfl
      rw [hg] at hg'
      simp only [Option.some.injEq, Obj.cells.injEq] at hg'
      exact he hg'.2.1

/-- A matrix of one's own: its blocks lie from lo to below hi, no two rows share one. -/
structure OM (w : World) (lo hi : Nat) (v : Value) (m : List (List Nat)) (vs : List Value) : Prop where
  outer : w.ownsRow lo t_s_float32 1 v m.length vs
  rows : ∀ (i : Nat) (hl : i < m.length), ∃ x : Value, vs[i]? = some x ∧ OS w lo x m[i] ∧ ∀ k, x.ownBlock = some k → k < hi
  apart : ∀ (i j : Nat) (x y : Value), i < j → vs[i]? = some x → vs[j]? = some y → x.ownBlock = none ∨ x.ownBlock ≠ y.ownBlock
  top : ∀ k, v.ownBlock = some k → k < hi
def bits (m : List (List Nat)) : Prop := ∀ r ∈ m, ∀ b ∈ r, b < 4294967296
theorem OM.FSS {lo hi : Nat} {v : Value} {m : List (List Nat)} {vs : List Value} (h : OM w lo hi v m vs) (hb : bits m) : FSS w v m :=
  ⟨vs, owns_Row h.outer, fun i hi => let ⟨x, hx, ho, _⟩ := h.rows i hi; ⟨x, hx, ho.FS (hb _ (List.getElem_mem hi))⟩⟩
theorem OM.ext {lo hi : Nat} {v : Value} {m : List (List Nat)} {vs : List Value} {w' : World} (h : OM w lo hi v m vs) (he : Ext w w') : OM w' lo hi v m vs :=
  ⟨owns_ext h.outer he, fun i hi => let ⟨x, hx, ho, hk⟩ := h.rows i hi; ⟨x, hx, owns_ext ho he, hk⟩, h.apart, h.top⟩
theorem OM.chg {lo hi lo' hi' : Nat} {v : Value} {m : List (List Nat)} {vs : List Value} {w' : World} (h : OM w lo hi v m vs) (hc : Chg lo' hi' w w') (hb : hi ≤ lo' ∨ hi' ≤ lo) : OM w' lo hi v m vs :=
  ⟨(OwnR.chg ⟨h.outer, h.top⟩ hc hb).own, fun i hi => let ⟨x, hx, ho, hk⟩ := h.rows i hi; ⟨x, hx, (OwnR.chg ⟨ho, hk⟩ hc hb).own, hk⟩, h.apart, h.top⟩

theorem oneCell_sl {base : Nat} {e : TypeId} {s n : Nat} {v : Value} {xs : List Value} (h : w.ownsRow base e s v n xs) : v.oneCell' = true := by
  rcases h.2 with ⟨rfl, _⟩ | ⟨g, cap, cur, rfl, _⟩ <;> rfl

theorem c_toFloat32SS {v : Value} {m : List (List Nat)} (h : FSS w v m) (hl : m.length ≤ 1048576) (hr : ∀ r ∈ m, r.length ≤ 1048576) (H : ∀ v' w' vs, Ext w w' → OM w' w.heap.size w'.heap.size v' m vs → K v' w') : call P f_laws_toFloat32SS [v] w K := by
  refine I_laws_toFloat32SS ?_
  unfold D_laws_toFloat32SS
  rw [h.len]
  refine mks_intro u_s_s_float32 i_s_float32 rfl (by omega) (by simp only [maxLen]; omega) fun w1 v1 ho he => ?_
  refine ⟨fun k x w' => RowKit.Below w.heap.size w w' ∧ ∃ i : Nat, x = .int .i64 i ∧ k + i = m.length ∧ ∃ vs : List Value, vs.length = i ∧ w'.ownsRow w.heap.size t_s_float32 1 v1 m.length (vs ++ List.replicate (m.length - i) (.slice none 0 0)) ∧
      (∀ (j : Nat) (hj : j < m.length), j < i → ∃ x : Value, vs[j]? = some x ∧ OS w' w.heap.size x m[j]) ∧ (∀ (i j : Nat) (x y : Value), i < j → vs[i]? = some x → vs[j]? = some y → x.ownBlock = none ∨ x.ownBlock ≠ y.ownBlock),
    ⟨m.length, he, 0, rfl, by omega, [], rfl, by simpa using ho, fun j hj h0 => by omega, fun i j x y _ h1 => by simp at h1⟩, ?_⟩
  rintro k x junk w2 ⟨hbel, i, rfl, hm, vs, hvl, ho2, hrows, hap⟩
  have h2 : FSS w2 v m := h.ext hbel
  rw [h2.len, bin_lss]
  refine cnd_dec (fun hlt => ?_) (fun hge => ?_)
  · have hi : i < m.length := by omega
    refine h2.at hi fun x hx => ?_
    refine c_toFloat32S hx (hr _ (List.getElem_mem hi)) fun y w3 he3 hy => ?_
    have hb3 : RowKit.Below w.heap.size w w3 := hbel.trans (RowKit.Below.mono he3 hbel.size)
    have ho3 := owns_ext ho2 he3
    refine owns_set ho3 hi (oneCell_sl hy) u_s_s_float32 i_s_float32 fun w4 ho4 hg => ?_
    rw [bin_add]
    have hb4 : RowKit.Below w.heap.size w w4 := hb3.grown hg hb3.size fun k hk => (ho3.lt k hk).1
    refine ⟨k - 1, by omega, hb4, i + 1, ?_, by omega, vs ++ [y], by simp [hvl], ?_, ?_, ?_⟩
    · rw [wrap_i64 (by omega) (by omega)]; rfl
    · have e : (vs ++ List.replicate (m.length - i) (Value.slice none 0 0)).set i y = vs ++ [y] ++ List.replicate (m.length - (i + 1)) (Value.slice none 0 0) := by
        rw [List.set_append_right _ _ (by omega), hvl, Nat.sub_self]
        have : m.length - i = (m.length - (i + 1)) + 1 := by omega
        rw [this, List.replicate_succ, List.set_cons_zero]
        simp
      rw [e] at ho4; exact ho4
    · intro j hj hji
      by_cases he : j = i
      · subst he
        refine ⟨y, by simp [hvl], ?_⟩
        have := hy.kept hg (owns_ne hy ho3 (by decide))
        exact owns_base this hbel.size
      · obtain ⟨x', hx', ho'⟩ := hrows j hj (by omega)
        refine ⟨x', by rw [List.getElem?_append_left (by omega)]; exact hx', ?_⟩
        exact (owns_ext ho' he3).kept hg (owns_ne (owns_ext ho' he3) ho3 (by decide))
    · intro p q x' y' hpq hp hq
      by_cases hqi : q < vs.length
      · rw [List.getElem?_append_left (by omega)] at hp hq
        exact hap p q x' y' hpq hp hq
      · have hq' : y' = y := by
          have hlt := (List.getElem?_eq_some_iff.1 hq).1
          simp at hlt
          have : q = vs.length := by omega
          subst this
          simp at hq; exact hq.symm
        subst hq'
        have hpl : p < vs.length := by
          have hlt := (List.getElem?_eq_some_iff.1 hq).1
          simp at hlt
          omega
        rw [List.getElem?_append_left hpl] at hp
        obtain ⟨x'', hx'', ho''⟩ := hrows p (by omega) (by omega)
        rw [hp] at hx''; cases hx''
        cases hob : x'.ownBlock with
        | none => exact .inl rfl
        | some k =>
          refine .inr fun hne => ?_
          have h1 := (ho''.lt k hob).2
          have h2 := (hy.lt k hne.symm).1
          omega
  · have hi : i = m.length := by omega
    have e2 : m.length - i = 0 := by omega
    simp only [e2, List.replicate_zero, List.append_nil] at ho2
    refine H _ _ vs hbel ⟨ho2, fun j hj => ?_, hap, fun k hk => (ho2.lt k hk).2⟩
    obtain ⟨x, hx, ho⟩ := hrows j hj (by omega)
    exact ⟨x, hx, ho, fun k hk => (ho.lt k hk).2⟩

/-! ### marks -/
def mk (k : Int) (n : Nat) : List Nat := (List.range n).map (fun j => floatOfInt .f32 (k + (j : Nat)))
@[simp] theorem mk_length (k : Int) (n : Nat) : (mk k n).length = n := by simp [mk]
theorem mk_get (k : Int) (n i : Nat) (h : i < (mk k n).length) : (mk k n)[i] = floatOfInt .f32 (k + (i : Nat)) := by simp [mk]
theorem mk_bits (k : Int) (n : Nat) : ∀ b ∈ mk k n, b < 4294967296 := by
  intro b hb
  simp only [mk, List.mem_map] at hb
  obtain ⟨j, _, rfl⟩ := hb
  exact floatOfInt_lt .f32 _
def mkM (k : Int) (m : List (List Nat)) : List (List Nat) := (List.range m.length).map (fun i => mk (k + total (m.take i)) (m.getD i []).length)
@[simp] theorem mkM_length (k : Int) (m : List (List Nat)) : (mkM k m).length = m.length := by simp [mkM]
theorem mkM_get (k : Int) (m : List (List Nat)) (i : Nat) (h : i < (mkM k m).length) (h' : i < m.length) : (mkM k m)[i] = mk (k + total (m.take i)) m[i].length := by simp [mkM, h']
theorem mkM_bits (k : Int) (m : List (List Nat)) : bits (mkM k m) := by
  intro r hr
  simp only [mkM, List.mem_map] at hr
  obtain ⟨j, _, rfl⟩ := hr
  exact mk_bits _ _

theorem c_markFloat32S {base : Nat} {v : Value} {l : List Nat} {k : Int} (h : OS w base v l) (h0 : 0 ≤ k) (h1 : k + l.length ≤ 4611686018427387904) (H : ∀ w', OS w' base v (mk k l.length) → w.grownBy w' v.ownBlock → K (.int .i64 (k + l.length)) w') :
    call P f_laws_markFloat32S [v, .int .i64 k] w K := by
  refine I_laws_markFloat32S ?_
  unfold D_laws_markFloat32S
  refine ⟨fun g x y w' => w.grownBy w' v.ownBlock ∧ ∃ i : Nat, y = .int .i64 i ∧ x = .int .i64 (k + i) ∧ g + i = l.length ∧ w'.ownsRow base t_float32 1 v l.length ((mk k i).map fl ++ (l.map fl).drop i),
    ⟨l.length, World.grownBy.refl _ _, 0, rfl, by simp, by omega, by simpa [mk] using h⟩, ?_⟩
  rintro g x y junk w2 ⟨hg, i, rfl, rfl, hm, ho⟩
  rw [(owns_Row ho).len u_s_float32, bin_lss]
  refine cnd_dec (fun hlt => ?_) (fun hge => ?_)
  · have hi : i < l.length := by omega
    rw [cnv_int_float u_int u_float32]
    refine owns_set ho hi (oneCell_fl _) u_s_float32 i_float32 fun w3 ho3 hg3 => ?_
    rw [bin_add, bin_add, wrap_i64 (by omega) (by omega), wrap_i64 (by omega) (by omega)]
    refine ⟨g - 1, by omega, ⟨hg3.os.trans hg.os, hg3.tape.trans hg.tape, hg3.output.trans hg.output, Nat.le_trans hg.size hg3.size, fun k hk hn => (hg3.block k (Nat.lt_of_lt_of_le hk hg.size) hn).trans (hg.block k hk hn)⟩, i + 1, rfl, by congr 1; omega, by omega, ?_⟩
    have e : ((mk k i).map fl ++ (l.map fl).drop i).set i (fl (floatOfInt .f32 (k + i))) = (mk k (i + 1)).map fl ++ (l.map fl).drop (i + 1) := by
      rw [List.set_append_right _ _ (by simp)]
      simp only [List.length_map, mk_length, Nat.sub_self]
      have hd : (l.map fl).drop i = fl l[i] :: (l.map fl).drop (i + 1) := by
        rw [List.drop_eq_getElem_cons (by simpa using hi)]; simp
      rw [hd, List.set_cons_zero]
      have : mk k (i + 1) = mk k i ++ [floatOfInt .f32 (k + i)] := by simp [mk, List.range_succ]
      rw [this]; simp
    rw [e] at ho3; exact ho3
  · have hi : i = l.length := by omega
    subst hi
    have e : (l.map fl).drop l.length = [] := by simp
    rw [e, List.append_nil] at ho
    refine H _ ?_ hg
    show w2.ownsRow base t_float32 1 v (mk k l.length).length _
    rw [mk_length]; exact ho

end Go.Proofs.Ytabgkpfcpncmhaa

/- Contracts: marks on a matrix; the law of IsMatrix but for the row. -/
set_option linter.unusedVariables false
namespace Go.Proofs.Ytabgkpfcpncmhaa
open Go Go.Vc

variable {w : World} {K : Value → World → Prop}

def mid (k : Int) (m : List (List Nat)) (i : Nat) : List (List Nat) := (List.range m.length).map (fun j => if j < i then mk (k + total (m.take j)) (m.getD j []).length else m.getD j [])
@[simp] theorem mid_length (k : Int) (m : List (List Nat)) (i : Nat) : (mid k m i).length = m.length := by simp [mid]
theorem mid_get (k : Int) (m : List (List Nat)) (i j : Nat) (h : j < (mid k m i).length) (h' : j < m.length) : (mid k m i)[j] = if j < i then mk (k + total (m.take j)) m[j].length else m[j] := by simp [mid, h']
theorem mid_zero (k : Int) (m : List (List Nat)) : mid k m 0 = m := by
  apply List.ext_getElem (by simp)
  intro i h1 h2
  rw [mid_get k m 0 i h1 h2, if_neg (by omega)]
theorem mid_full (k : Int) (m : List (List Nat)) : mid k m m.length = mkM k m := by
  apply List.ext_getElem (by simp)
  intro i h1 h2
  have h3 : i < m.length := by simpa using h1
  rw [mid_get k m _ i h1 h3, if_pos h3, mkM_get k m i h2 h3]

theorem total_take_le (m : List (List Nat)) (i : Nat) : total (m.take i) ≤ total m := by
  have : total m = total (m.take i) + total (m.drop i) := by
    unfold total
    rw [← List.sum_append, ← List.map_append, List.take_append_drop]
  omega

theorem c_markFloat32SSk {lo hi : Nat} {v : Value} {m : List (List Nat)} {vs : List Value} {k : Int} (h : OM w lo hi v m vs) (h0 : 0 ≤ k) (h1 : k + total m ≤ 4611686018427387904)
    (H : ∀ w', OM w' lo hi v (mkM k m) vs → Chg lo hi w w' → KT t_float32 w w' → K (.int .i64 (k + total m)) w') : call P f_laws_markFloat32SS [v, .int .i64 k] w K := by
  have h2 := owns_bound h.outer
  simp only [maxLen] at h2
  refine I_laws_markFloat32SS ?_
  unfold D_laws_markFloat32SS
  refine ⟨fun g x y w' => Chg lo hi w w' ∧ KT t_float32 w w' ∧ ∃ i : Nat, y = .int .i64 i ∧ x = .int .i64 (k + total (m.take i)) ∧ g + i = m.length ∧ OM w' lo hi v (mid k m i) vs,
    ⟨m.length, Chg.refl _ _ _, KT.refl _ _, 0, rfl, by simp [total], by omega, by rw [mid_zero]; exact h⟩, ?_⟩
  rintro g x y junk w2 ⟨hc, hkt, i, rfl, rfl, hm, ho⟩
  rw [(owns_Row ho.outer).len u_s_s_float32, mid_length, bin_lss]
  refine cnd_dec (fun hlt => ?_) (fun hge => ?_)
  · have hi' : i < m.length := by omega
    have hi2 : i < (mid k m i).length := by rw [mid_length]; exact hi'
    obtain ⟨r, hr, hor, hrk⟩ := ho.rows i hi2
    refine (owns_Row ho.outer).at1 hr u_s_s_float32 i_s_float32 u_s_float32 rfl ?_
    have e := total_take hi'
    have t1 := total_take_le m (i + 1)
    rw [mid_get k m i i hi2 hi', if_neg (by omega)] at hor
    refine c_markFloat32S hor (by omega) (by omega) fun w3 hor3 hg => ?_
    rw [bin_add, wrap_i64 (by omega) (by omega)]
    refine ⟨g - 1, by omega, hc.trans (Chg.grown hg fun q hq => ⟨(hor.lt q hq).1, hrk q hq⟩), hkt.trans (KT.grown hg (Ty.owns hor)), i + 1, rfl, by rw [e]; congr 1; omega, by omega, ?_⟩
    refine ⟨?_, fun j hj => ?_, ho.apart, ho.top⟩
    · have := ho.outer.kept hg (owns_ne ho.outer hor (by decide))
      rw [mid_length] at this ⊢; exact this
    · have hj' : j < m.length := by simpa using hj
      have hj2 : j < (mid k m i).length := by rw [mid_length]; exact hj'
      rw [mid_get k m (i + 1) j hj hj']
      by_cases hji : j = i
      · subst hji
        rw [if_pos (by omega)]
        exact ⟨r, hr, hor3, hrk⟩
      · obtain ⟨r', hr', hor', hrk'⟩ := ho.rows j hj2
        rw [mid_get k m i j hj2 hj'] at hor'
        refine ⟨r', hr', ?_, hrk'⟩
        have hne : r'.ownBlock = none ∨ r'.ownBlock ≠ r.ownBlock := by
          rcases Nat.lt_or_ge j i with hlt | hge
          · exact ho.apart j i r' r hlt hr' hr
          · rcases ho.apart i j r r' (by omega) hr hr' with h | h
            · cases hb : r'.ownBlock with
              | none => exact .inl rfl
              | some q => exact .inr (by rw [h]; simp)
            · exact .inr fun e => h e.symm
        have := hor'.kept hg hne
        by_cases hlt : j < i
        · rw [if_pos hlt] at this; rw [if_pos (by omega)]; exact this
        · rw [if_neg hlt] at this; rw [if_neg (by omega)]; exact this
  · have hi' : i = m.length := by omega
    subst hi'
    rw [List.take_length]
    rw [mid_full] at ho
    exact H _ ho hc hkt

theorem c_markFloat32SS {lo hi : Nat} {v : Value} {m : List (List Nat)} {vs : List Value} {k : Int} (h : OM w lo hi v m vs) (h0 : 0 ≤ k) (h1 : k + total m ≤ 4611686018427387904)
    (H : ∀ w', OM w' lo hi v (mkM k m) vs → Chg lo hi w w' → K (.int .i64 (k + total m)) w') : call P f_laws_markFloat32SS [v, .int .i64 k] w K :=
  c_markFloat32SSk h h0 h1 fun w' h1 h2 _ => H w' h1 h2
theorem len_le_total {m : List (List Nat)} {r : List Nat} (h : r ∈ m) : r.length ≤ total m := by
  unfold total
  induction m with
  | nil => cases h
  | cons a m ih =>
    simp only [List.map_cons, List.sum_cons]
    rcases List.mem_cons.1 h with rfl | h
    · omega
    · have := ih h; omega

end Go.Proofs.Ytabgkpfcpncmhaa

/- Contracts: the product of a matrix and a vector. -/
set_option linter.unusedVariables false
namespace Go.Proofs.Ytabgkpfcpncmhaa
open Go Go.Vc

variable {w : World} {K : Value → World → Prop}

theorem finB_iff {b : Nat} : finB b = true ↔ Fin Ieee.single b := by unfold finB; exact decide_eq_true_iff
theorem finB_not {b : Nat} : finB b = false ↔ ¬ Fin Ieee.single b := by unfold finB; exact decide_eq_false_iff_not

theorem FS.at {v : Value} {l : List Nat} (h : FS w v l) {i : Nat} (hi : i < l.length) {K : Value → Prop} (H : K (fl l[i])) : ixa P t_s_float32 v (.int .i64 (i : Int)) w (fun a => ld P t_float32 a w K) :=
  h.row.at1 (get_map hi) u_s_float32 i_float32 u_float32 rfl H

theorem oneCell_cells {v : Value} (h : v.oneCell' = true) : v.cells = #[v] := by cases v <;> first | rfl | (simp [Value.oneCell'] at h; done)

/-- 'append(xs, x)'. -/
theorem app1 {base : Nat} {t e : TypeId} {z : Value} {b n : Nat} {v x : Value} {xs : List Value} {KW : Value → World → Prop} (h : w.ownsRow base e 1 v n xs) (hx : x.oneCell' = true)
    (hu : P.underlying t = some (.slice e)) (ht : TI P e z 1 b) (hz : z.oneCell' = true) (hn : n + 1 ≤ maxLen) (hby : (n + 1) * b ≤ 140737488355328) (hbase : base ≤ w.heap.size)
    (H : ∀ v' w', w'.ownsRow base e 1 v' (n + 1) (xs ++ [x]) → w.grownBy w' v.ownBlock → KW v' w') : bsl P t 1 [(0, x)] w fun y w2 => bl2 P .append #[t, t] t [v, y] w2 KW := by
  refine bsl_one hu ht hx hz ?_
  have ho := owns_lit w [x] e (by simp [maxLen])
  have he := Ext_alloc w (.cells #[x] e)
  refine append_intro (owns_ext h he) (owns_Row ho) (by simpa using hx) hu ht (by rw [oneCell_cells hz]; rfl) (by decide) hn hby (Nat.le_trans hbase he.size) fun v' w' h1 h2 => ?_
  refine H v' w' h1 ⟨?_, ?_, ?_, ?_, fun k hk hne => ?_⟩
  · exact h2.os.trans (RowKit.Below.os he)
  · exact h2.tape.trans (RowKit.Below.tape he)
  · exact h2.output.trans (RowKit.Below.output he)
  · exact Nat.le_trans he.size h2.size
  · exact (h2.block k (Nat.lt_of_lt_of_le hk he.size) hne).trans (he.block k hk)

theorem appF {base : Nat} {v : Value} {b : Nat} {l : List Nat} {KW : Value → World → Prop} (h : OS w base v l) (hn : l.length < 1000000) (hbase : base ≤ w.heap.size)
    (H : ∀ v' w', OS w' base v' (l ++ [b]) → w.grownBy w' v.ownBlock → KW v' w') : bsl P t_s_float32 1 [(0, fl b)] w fun y w2 => bl2 P .append #[t_s_float32, t_s_float32] t_s_float32 [v, y] w2 KW := by
  refine app1 h (oneCell_fl b) u_s_float32 i_float32 rfl (by simp only [maxLen]; omega) (by omega) hbase fun v' w' h1 h2 => H v' w' ?_ h2
  show w'.ownsRow base t_float32 1 v' (l ++ [b]).length ((l ++ [b]).map fl)
  simpa using h1

theorem OS.below {B base : Nat} {v : Value} {l : List Nat} {w0 w' : World} (h : OS w base v l) (hb : RowKit.Below B w0 w) (hg : w.grownBy w' v.ownBlock) (hB : B ≤ w0.heap.size) (hbase : B ≤ base) : RowKit.Below B w0 w' :=
  hb.grown hg (Nat.le_trans hB hb.size) fun k hk => Nat.le_trans hbase (h.lt k hk).1

theorem OS.nil (w : World) (base : Nat) : OS w base (.slice none 0 0) [] := ⟨rfl, .inl ⟨rfl, rfl⟩⟩
theorem OS_lit0 (w : World) : OS (w.alloc (.cells #[] t_float32)) w.heap.size (.slice (some ⟨w.heap.size, 0, none⟩) 0 0) [] := owns_lit w [] t_float32

/-! ### what is computed -/
def dotF : List Nat → List Nat → Nat → Option Nat
  | n :: ns, x :: xs, s => if finB (opF .add s (opF .mul n x)) then dotF ns xs (opF .add s (opF .mul n x)) else none
  | _, _, s => some s
theorem dotF_step {r x : List Nat} {j s : Nat} (h1 : j < r.length) (h2 : j < x.length) : dotF (r.drop j) (x.drop j) s = if finB (opF .add s (opF .mul r[j] x[j])) then dotF (r.drop (j + 1)) (x.drop (j + 1)) (opF .add s (opF .mul r[j] x[j])) else none := by
  rw [List.drop_eq_getElem_cons h1, List.drop_eq_getElem_cons h2, dotF]
theorem dotF_end {r x : List Nat} {j s : Nat} (h1 : r.length ≤ j) : dotF (r.drop j) (x.drop j) s = some s := by
  rw [List.drop_eq_nil_of_le h1]; simp [dotF]
def timesF (x : List Nat) : List (List Nat) → List Nat → Option (List Nat)
  | [], out => some out
  | r :: rs, out => match dotF r x 0 with
    | none => none
    | some s => timesF x rs (out ++ [s])
theorem timesF_step {x : List Nat} {m : List (List Nat)} {i : Nat} {out : List Nat} (h : i < m.length) : timesF x (m.drop i) out = match dotF m[i] x 0 with
    | none => none
    | some s => timesF x (m.drop (i + 1)) (out ++ [s]) := by
  rw [List.drop_eq_getElem_cons h, timesF]
theorem dotF_fin : ∀ {r x : List Nat} {s q : Nat}, finB s = true → dotF r x s = some q → finB q = true
  | [], x, s, q, hs, h => by simp [dotF] at h; subst h; exact hs
  | n :: ns, [], s, q, hs, h => by simp [dotF] at h; subst h; exact hs
  | n :: ns, x :: xs, s, q, hs, h => by
    rw [dotF] at h
    split at h
    · rename_i hf; exact dotF_fin hf h
    · cases h
theorem dotF_lt : ∀ {r x : List Nat} {s q : Nat}, s < 4294967296 → dotF r x s = some q → q < 4294967296
  | [], x, s, q, hs, h => by simp [dotF] at h; subst h; exact hs
  | n :: ns, [], s, q, hs, h => by simp [dotF] at h; subst h; exact hs
  | n :: ns, x :: xs, s, q, hs, h => by
    rw [dotF] at h
    split at h
    · exact dotF_lt opF_lt h
    · cases h
theorem timesF_lt {x : List Nat} : ∀ {m : List (List Nat)} {out q : List Nat}, (∀ b ∈ out, b < 4294967296) → timesF x m out = some q → ∀ b ∈ q, b < 4294967296
  | [], out, q, ho, h => by simp [timesF] at h; subst h; exact ho
  | r :: rs, out, q, ho, h => by
    rw [timesF] at h
    cases hd : dotF r x 0 with
    | none => rw [hd] at h; cases h
    | some s =>
      rw [hd] at h
      refine timesF_lt (fun b hb => ?_) h
      rcases List.mem_append.1 hb with hb | hb
      · exact ho b hb
      · simp at hb; subst hb; exact dotF_lt (by decide) hd
theorem timesF_fin {x : List Nat} : ∀ {m : List (List Nat)} {out q : List Nat}, (out.all finB = true) → timesF x m out = some q → q.all finB = true
  | [], out, q, ho, h => by simp [timesF] at h; subst h; exact ho
  | r :: rs, out, q, ho, h => by
    rw [timesF] at h
    cases hd : dotF r x 0 with
    | none => rw [hd] at h; cases h
    | some s =>
      rw [hd] at h
      refine timesF_fin ?_ h
      rw [List.all_append, ho]
      simpa using dotF_fin (by decide) hd
theorem timesF_length {x : List Nat} : ∀ {m : List (List Nat)} {out q : List Nat}, timesF x m out = some q → q.length = out.length + m.length
  | [], out, q, h => by simp [timesF] at h; subst h; rfl
  | r :: rs, out, q, h => by
    rw [timesF] at h
    cases hd : dotF r x 0 with
    | none => rw [hd] at h; cases h
    | some s =>
      rw [hd] at h
      have := timesF_length h
      simp at this ⊢; omega

/-- One step of a sum of products: finite floats have a product that is no NaN; if it is infinite, the sum is not finite. -/
theorem step_prod {a b s p q : Nat} (ha : finB a = true) (hb : finB b = true) (hs : finB s = true) (hp : FR .mul .f32 a b p) (hq : FR .add .f32 s p q) : p = opF .mul a b ∧ ((finB p = true ∧ q = opF .add s (opF .mul a b)) ∨ (finB p = false ∧ finB q = false ∧ finB (opF .add s (opF .mul a b)) = false)) := by
  rw [finB_iff] at ha hb hs
  have hm := mul_fin (k := .f32) ha hb
  have e := FR_opF hp hm
  refine ⟨e, ?_⟩
  by_cases hf : Fin Ieee.single p
  · refine .inl ⟨finB_iff.2 hf, ?_⟩
    rw [← e]
    exact FR_opF hq (add_fin (k := .f32) hs hf)
  · refine .inr ⟨finB_not.2 hf, finB_not.2 (add_bad (k := .f32) hs hf hq), finB_not.2 ?_⟩
    rw [← e]
    have hn : ¬ NaN Ieee.single p := by rw [e]; exact opF_nan hm
    rcases fin_inf_nan Ieee.single p with h | h | h
    · exact absurd h hf
    · have hread := read_inf hs1 h
      obtain ⟨m, e', h1⟩ := read_fin hs
      have : floatBits .add .f32 s p = some (Ieee.single.write (.infinity (p / Ieee.single.signWeight % 2 == 1))) := by
        show Ieee.single.add s p = _
        unfold Ieee.Format.add; rw [h1, hread]; rfl
      unfold opF
      rw [this]
      exact not_fin_of_inf (write_inf _ _)
    · exact absurd h hn

/-! ### the program's and the reference's -/
structure MV (w : World) (a v : Value) (m : List (List Nat)) (x : List Nat) : Prop where
  fa : FSS w a m
  fv : FS w v x
  len : ∀ r ∈ m, r.length = x.length
  fm : ∀ r ∈ m, r.all finB = true
  fx : x.all finB = true
  small : m.length ≤ 8
theorem MV.ext {w' : World} {a v : Value} {m : List (List Nat)} {x : List Nat} (h : MV w a v m x) (he : Ext w w') : MV w' a v m x := ⟨h.fa.ext he, h.fv.ext he, h.len, h.fm, h.fx, h.small⟩

theorem all_get {l : List Nat} (h : l.all finB = true) {i : Nat} (hi : i < l.length) : finB l[i] = true := List.all_eq_true.1 h _ (List.getElem_mem hi)
theorem nat_succ (i : Nat) (h : i < 1000000) : IntKind.i64.wrap ((i : Int) + 1) = ((i + 1 : Nat) : Int) := by rw [wrap_i64 (by omega) (by omega)]; rfl

theorem FS_two {b1 b2 : Nat} (h1 : b1 < 4294967296) (h2 : b2 < 4294967296) (w : World) : FS (w.alloc (.cells #[fl b1, fl b2] t_float32)) (.slice (some ⟨w.heap.size, 0, none⟩) 2 2) [b1, b2] :=
  ⟨owns_Row (owns_lit w [fl b1, fl b2] t_float32 (by simp [maxLen])), by intro b hb; simp at hb; rcases hb with rfl | rfl <;> assumption⟩

theorem bslF2 {b1 b2 : Nat} {KW : Value → World → Prop} (h1 : b1 < 4294967296) (h2 : b2 < 4294967296) (H : ∀ v w', Ext w w' → FS w' v [b1, b2] → KW v w') : bsl P t_s_float32 2 [(0, fl b1), (1, fl b2)] w KW :=
  bsl_two u_s_float32 i_float32 rfl rfl rfl (H _ _ (Ext_alloc _ _) (FS_two h1 h2 w))

end Go.Proofs.Ytabgkpfcpncmhaa

/- Contracts: codes of systems; the product of a matrix and a vector, as the two packages hand it out; the law's own steps. -/
set_option linter.unusedVariables false
namespace Go.Proofs.Ytabgkpfcpncmhaa
open Go Go.Vc

variable {w : World} {K : Value → World → Prop}

def codeF (m : List (List Nat)) (L : List (List Nat)) : Int := if matB m && L.all vecB then (if L.all (fun l => decide (l.length = m.length)) then 0 else 2) else 1

/-- A literal of one row. -/
theorem FSS_lit1 {v : Value} {l : List Nat} (h : FS w v l) (ho : v.oneCell' = true) : FSS (w.alloc (.cells #[v] t_s_float32)) (.slice (some ⟨w.heap.size, 0, none⟩) 1 1) [l] :=
  ⟨[v], owns_Row (owns_lit w [v] t_s_float32 (by simp [maxLen])), fun i hi => by
    obtain rfl : i = 0 := by simpa using hi
    exact ⟨v, rfl, h.ext (Ext_alloc _ _)⟩⟩
theorem FS.one {v : Value} {l : List Nat} (h : FS w v l) : v.oneCell' = true := by
  obtain ⟨_, _, a, cap, rfl, _⟩ := h.row
  rfl

def tvF (m : List (List Nat)) (x : List Nat) : List Nat × Int :=
  if codeF m [x] = 0 then (match timesF x m [] with | none => ([], 3) | some q => (q, 0)) else ([], codeF m [x])

theorem code_zero {m : List (List Nat)} {L : List (List Nat)} (h : codeF m L = 0) : matB m = true ∧ (∀ l ∈ L, vecB l = true) ∧ ∀ l ∈ L, l.length = m.length := by
  unfold codeF at h
  split at h
  · rename_i h1
    split at h
    · rename_i h2
      simp only [Bool.and_eq_true] at h1
      refine ⟨h1.1, fun l hl => List.all_eq_true.1 h1.2 l hl, fun l hl => ?_⟩
      have := List.all_eq_true.1 h2 l hl
      simpa using this
    · omega
  · omega
theorem matB_parts {m : List (List Nat)} (h : matB m = true) : (∀ r ∈ m, r.length = m.length ∧ r.all finB = true) ∧ 1 ≤ m.length ∧ m.length ≤ 8 := by
  unfold matB at h
  simp only [Bool.and_eq_true, decide_eq_true_eq] at h
  refine ⟨fun r hr => ?_, h.2.1, h.2.2⟩
  have := List.all_eq_true.1 h.1 r hr
  simpa using this
theorem MV_of {a v : Value} {m : List (List Nat)} {x : List Nat} (ha : FSS w a m) (hv : FS w v x) (h : codeF m [x] = 0) : MV w a v m x := by
  obtain ⟨h1, h2, h3⟩ := code_zero h
  obtain ⟨h4, h5, h6⟩ := matB_parts h1
  have hx := h3 x (by simp)
  have hv' := h2 x (by simp)
  unfold vecB at hv'
  simp only [Bool.and_eq_true, decide_eq_true_eq] at hv'
  exact ⟨ha, hv, fun r hr => by rw [hx]; exact (h4 r hr).1, fun r hr => (h4 r hr).2, hv'.1, h6⟩

theorem tvF_bits (m : List (List Nat)) (x : List Nat) : ∀ b ∈ (tvF m x).1, b < 4294967296 := by
  unfold tvF
  split
  · cases h : timesF x m [] with
    | none => intro b hb; simp at hb
    | some q => exact timesF_lt (by simp) h
  · intro b hb; simp at hb
theorem tvF_small (m : List (List Nat)) (x : List Nat) : (tvF m x).1.length ≤ 8 := by
  unfold tvF
  split
  · rename_i h
    cases h1 : timesF x m [] with
    | none => simp
    | some q =>
      have := timesF_length h1
      have h2 := (matB_parts (code_zero h).1).2.2
      simp at this ⊢; omega
  · simp

end Go.Proofs.Ytabgkpfcpncmhaa

/- Contracts: matrices of one's own, row by row; matrices turned over. -/
set_option linter.unusedVariables false
namespace Go.Proofs.Ytabgkpfcpncmhaa
open Go Go.Vc

variable {w : World} {K : Value → World → Prop}

section
variable {lo hi : Nat} {v : Value} {m : List (List Nat)} {vs : List Value}

theorem OM.at (h : OM w lo hi v m vs) {i : Nat} (hi' : i < m.length) {K : Value → Prop} (H : ∀ r, vs[i]? = some r → OwnR w lo hi t_float32 1 r m[i].length (m[i].map fl) → K r) : ixa P t_s_s_float32 v (.int .i64 (i : Int)) w (fun a => ld P t_s_float32 a w K) := by
  obtain ⟨x, hx, ho, hk⟩ := h.rows i hi'
  exact (owns_Row h.outer).at1 hx u_s_s_float32 i_s_float32 u_s_float32 rfl (H x hx ⟨ho, hk⟩)
theorem OM.len (h : OM w lo hi v m vs) {ty : TypeId} {K : Value → Prop} : bl0 P .len #[t_s_s_float32] ty [v] w K = K (.int .i64 m.length) := (owns_Row h.outer).len u_s_s_float32
theorem OM.vlen (h : OM w lo hi v m vs) : vs.length = m.length := by have := h.outer.1; omega

/-- A row's own block changes. -/
theorem OM.row {w' : World} {i : Nat} {r : Value} {l : List Nat} (h : OM w lo hi v m vs) (hr : vs[i]? = some r) (hg : w.grownBy w' r.ownBlock) (ho : OS w' lo r l) : OM w' lo hi v (m.set i l) vs ∧ Chg lo hi w w' := by
  have hi' : i < m.length := by
    have := (List.getElem?_eq_some_iff.1 hr).1
    have := h.vlen; omega
  obtain ⟨x, hx, hox, hk⟩ := h.rows i hi'
  rw [hr] at hx; cases hx
  refine ⟨⟨?_, fun j hj => ?_, h.apart, h.top⟩, Chg.grown hg fun k hk' => ⟨(hox.lt k hk').1, hk k hk'⟩⟩
  · rw [List.length_set]
    exact h.outer.kept hg (owns_ne h.outer hox (by decide))
  · have hj' : j < m.length := by simpa using hj
    by_cases hji : j = i
    · subst hji
      refine ⟨r, hr, ?_, hk⟩
      rw [List.getElem_set_self]; exact ho
    · obtain ⟨r', hr', hor', hrk'⟩ := h.rows j hj'
      refine ⟨r', hr', ?_, hrk'⟩
      have hne : r'.ownBlock = none ∨ r'.ownBlock ≠ r.ownBlock := by
        rcases Nat.lt_or_ge j i with hlt | hge
        · exact h.apart j i r' r hlt hr' hr
        · rcases h.apart i j r r' (by omega) hr hr' with h | h
          · cases hb : r'.ownBlock with
            | none => exact .inl rfl
            | some q => exact .inr (by rw [h]; simp)
          · exact .inr fun e => h e.symm
      rw [List.getElem_set_ne (by omega)]
      exact hor'.kept hg hne

/-- 'm[i][j] = x', the row at hand. -/
theorem OM.put {i j : Nat} {r : Value} {x : Nat} {K : World → Prop} (h : OM w lo hi v m vs) (hr : vs[i]? = some r) (hi' : i < m.length) (hj : j < m[i].length) (H : ∀ w', OM w' lo hi v (m.set i (m[i].set j x)) vs → Chg lo hi w w' → K w') :
    ixa P t_s_float32 r (.int .i64 (j : Int)) w (fun a => sto P t_float32 a (fl x) w K) := by
  obtain ⟨r', hr', ho, hk⟩ := h.rows i hi'
  rw [hr] at hr'; cases hr'
  refine owns_set ho hj (oneCell_fl _) u_s_float32 i_float32 fun w' ho' hg => ?_
  have e : OS w' lo r (m[i].set j x) := by
    show w'.ownsRow lo t_float32 1 r (m[i].set j x).length ((m[i].set j x).map fl)
    rw [List.length_set, List.map_set]; exact ho'
  obtain ⟨q1, q2⟩ := h.row hr hg e
  exact H w' q1 q2

/-- 'append(m, row)', the row newer than all of m. -/
theorem OM.push {hi2 : Nat} {r : Value} {l : List Nat} {KW : Value → World → Prop} (h : OM w lo hi v m vs) (hr : OwnR w hi hi2 t_float32 1 r l.length (l.map fl)) (hlh : lo ≤ hi) (hn : m.length < 1000000) (hs : lo ≤ w.heap.size)
    (H : ∀ v' w', OM w' lo w'.heap.size v' (m ++ [l]) (vs ++ [r]) → w.grownBy w' v.ownBlock → KW v' w') : bsl P t_s_s_float32 1 [(0, r)] w fun y w2 => bl2 P .append #[t_s_s_float32, t_s_s_float32] t_s_s_float32 [v, y] w2 KW := by
  refine app1 h.outer (oneCell_sl hr.own) u_s_s_float32 i_s_float32 rfl (by simp only [maxLen]; omega) (by omega) hs fun v' w' h1 h2 => H v' w' ⟨?_, fun i hi' => ?_, fun i j x y hij hx hy => ?_, fun k hk => (h1.lt k hk).2⟩ h2
  · simpa using h1
  · by_cases he : i < m.length
    · obtain ⟨x, hx, ho, hk⟩ := h.rows i he
      have hv : i < vs.length := (List.getElem?_eq_some_iff.1 hx).1
      refine ⟨x, by rw [List.getElem?_append_left hv]; exact hx, ?_, fun k hkk => ?_⟩
      · rw [List.getElem_append_left he]
        exact ho.kept h2 (owns_ne ho h.outer (by decide))
      · have := (ho.lt k hkk).2
        have := h2.size
        omega
    · have hi'' : i = m.length := by simp at hi'; omega
      subst hi''
      refine ⟨r, by rw [← h.vlen]; simp, ?_, fun k hkk => ?_⟩
      · rw [List.getElem_append_right (Nat.le_refl _)]
        simp only [Nat.sub_self, List.getElem_cons_zero]
        exact owns_base (hr.own.kept h2 (owns_ne hr.own h.outer (by decide))) hlh
      · have := (hr.own.lt k hkk).2
        have := h2.size
        omega
  · by_cases he : j < vs.length
    · rw [List.getElem?_append_left he] at hy
      rw [List.getElem?_append_left (by omega)] at hx
      exact h.apart i j x y hij hx hy
    · have hjl := (List.getElem?_eq_some_iff.1 hy).1
      have : j = vs.length := by simp at hjl; omega
      subst this
      simp at hy; subst hy
      rw [List.getElem?_append_left hij] at hx
      have hvl := h.vlen
      obtain ⟨x', hx', ho', hk'⟩ := h.rows i (by omega)
      rw [hx] at hx'; cases hx'
      cases hob : x.ownBlock with
      | none => exact .inl rfl
      | some k =>
        refine .inr fun hne => ?_
        have h1 := hk' k hob
        have h2 := (hr.own.lt k hne.symm).1
        omega

theorem OM.lit0 (w : World) : OM (w.alloc (.cells #[] t_s_float32)) w.heap.size (w.alloc (.cells #[] t_s_float32)).heap.size (.slice (some ⟨w.heap.size, 0, none⟩) 0 0) [] [] :=
  ⟨owns_lit w [] t_s_float32, fun i hi => by simp at hi, fun i j x y _ hx => by simp at hx, fun k hk => ((owns_lit w [] t_s_float32).lt k hk).2⟩
theorem OM.nil (w : World) (lo hi : Nat) : OM w lo hi (.slice none 0 0) [] [] := ⟨⟨rfl, .inl ⟨rfl, rfl⟩⟩, fun i hi => by simp at hi, fun i j x y _ hx => by simp at hx, fun k hk => by cases hk⟩
theorem OM.mono {lo' hi' : Nat} (h : OM w lo hi v m vs) (h1 : lo' ≤ lo) (h2 : hi ≤ hi') : OM w lo' hi' v m vs :=
  ⟨owns_base h.outer h1, fun i hi => let ⟨x, hx, ho, hk⟩ := h.rows i hi; ⟨x, hx, owns_base ho h1, fun k hkk => Nat.lt_of_lt_of_le (hk k hkk) h2⟩, h.apart, fun k hk => Nat.lt_of_lt_of_le (h.top k hk) h2⟩
theorem OM.sized (h : OM w lo hi v m vs) : OM w lo w.heap.size v m vs :=
  ⟨h.outer, fun i hi => let ⟨x, hx, ho, hk⟩ := h.rows i hi; ⟨x, hx, ho, fun k hkk => (ho.lt k hkk).2⟩, h.apart, fun k hk => (h.outer.lt k hk).2⟩
end

/-! ### square tables -/
def tab (n : Nat) (f : Nat → Nat → Nat) : List (List Nat) := (List.range n).map fun i => (List.range n).map fun j => f i j
@[simp] theorem tab_length (n : Nat) (f : Nat → Nat → Nat) : (tab n f).length = n := by simp [tab]
theorem tab_row {n : Nat} {f : Nat → Nat → Nat} {i : Nat} (h : i < (tab n f).length) : (tab n f)[i] = (List.range n).map (f i) := by simp [tab]
theorem tab_get {n : Nat} {f : Nat → Nat → Nat} {i j : Nat} (h : i < (tab n f).length) (h' : j < (tab n f)[i].length) : (tab n f)[i][j] = f i j := by simp [tab]
theorem tab_row_length {n : Nat} {f : Nat → Nat → Nat} {i : Nat} (h : i < (tab n f).length) : (tab n f)[i].length = n := by simp [tab]
def upd (f : Nat → Nat → Nat) (i j x : Nat) : Nat → Nat → Nat := fun p q => if p = i ∧ q = j then x else f p q
theorem tab_set {n : Nat} {f : Nat → Nat → Nat} {i j x : Nat} (h : i < (tab n f).length) : (tab n f).set i ((tab n f)[i].set j x) = tab n (upd f i j x) := by
  apply List.ext_getElem (by simp)
  intro p h1 h2
  have hp : p < n := by simpa using h2
  by_cases he : p = i
  · subst he
    rw [List.getElem_set_self]
    apply List.ext_getElem (by simp [tab])
    intro q h3 h4
    have hq : q < n := by simpa [tab] using h4
    by_cases hqe : q = j
    · subst hqe
      rw [List.getElem_set_self, tab_get]
      simp [upd]
    · rw [List.getElem_set_ne (by omega), tab_get, tab_get]
      simp [upd, hqe]
  · rw [List.getElem_set_ne (by omega)]
    apply List.ext_getElem (by simp [tab])
    intro q h3 h4
    rw [tab_get, tab_get]
    simp [upd, he]
theorem tab_congr {n : Nat} {f g : Nat → Nat → Nat} (h : ∀ i j, i < n → j < n → f i j = g i j) : tab n f = tab n g := by
  apply List.ext_getElem (by simp)
  intro p h1 h2
  have hp : p < n := by simpa using h2
  apply List.ext_getElem (by simp [tab])
  intro q h3 h4
  have hq : q < n := by simpa [tab] using h4
  rw [tab_get, tab_get]; exact h p q hp hq
def cell (m : List (List Nat)) (i j : Nat) : Nat := (m.getD i []).getD j 0
theorem cell_get {m : List (List Nat)} {i j : Nat} (h : i < m.length) (h' : j < m[i].length) : cell m i j = m[i][j] := by simp [cell, h, h']
/-- A square matrix is the table of its cells. -/
def square (n : Nat) (m : List (List Nat)) : Prop := m.length = n ∧ ∀ r ∈ m, r.length = n
theorem square.row {n : Nat} {m : List (List Nat)} (h : square n m) {i : Nat} (hi : i < m.length) : m[i].length = n := h.2 _ (List.getElem_mem hi)
theorem square_tab (n : Nat) (f : Nat → Nat → Nat) : square n (tab n f) := ⟨by simp, fun r hr => by
  obtain ⟨i, hi, rfl⟩ := List.getElem_of_mem hr
  exact tab_row_length hi⟩
theorem tab_cell {n : Nat} {m : List (List Nat)} (h : square n m) : tab n (cell m) = m := by
  apply List.ext_getElem (by simp [h.1])
  intro p h1 h2
  apply List.ext_getElem (by rw [tab_row_length, h.row])
  intro q h3 h4
  rw [tab_get, cell_get h2 h4]

/-! ### turned over -/
def turnF (m : List (List Nat)) : List (List Nat) := tab m.length fun i j => cell m j i

theorem map_range_succ (n : Nat) (f : Nat → Nat) : (List.range n).map f ++ [f n] = (List.range (n + 1)).map f := by rw [List.range_succ]; simp

end Go.Proofs.Ytabgkpfcpncmhaa

/- Contracts: the product of two matrices. -/
set_option linter.unusedVariables false
namespace Go.Proofs.Ytabgkpfcpncmhaa
open Go Go.Vc

variable {w : World} {K : Value → World → Prop}

def colsF (a : List (List Nat)) : List (List Nat) → List (List Nat) → Option (List (List Nat))
  | [], out => some out
  | c :: cs, out => match timesF c a [] with
    | none => none
    | some q => colsF a cs (out ++ [q])
theorem colsF_step {a m : List (List Nat)} {i : Nat} {out : List (List Nat)} (h : i < m.length) : colsF a (m.drop i) out = match timesF m[i] a [] with
    | none => none
    | some q => colsF a (m.drop (i + 1)) (out ++ [q]) := by
  rw [List.drop_eq_getElem_cons h, colsF]
def tmF (a b : List (List Nat)) : List (List Nat) × Int :=
  if matB a && matB b then (if a.length = b.length then (match colsF a (turnF b) [] with | none => ([], 3) | some q => (turnF q, 0)) else ([], 2)) else ([], 1)

theorem cell_cases (m : List (List Nat)) (i j : Nat) : cell m i j = 0 ∨ ∃ (h : i < m.length) (h' : j < m[i].length), cell m i j = m[i][j] := by
  by_cases h : i < m.length
  · by_cases h' : j < m[i].length
    · exact .inr ⟨h, h', cell_get h h'⟩
    · left
      have e : m.getD i [] = m[i] := by simp [h]
      unfold cell
      rw [e, List.getD_eq_getElem?_getD, List.getElem?_eq_none (by omega)]; rfl
  · left
    have e : m.getD i [] = [] := by rw [List.getD_eq_getElem?_getD, List.getElem?_eq_none (by omega)]; rfl
    unfold cell
    rw [e]; rfl
theorem cell_fin {m : List (List Nat)} (hf : ∀ r ∈ m, r.all finB = true) (i j : Nat) : finB (cell m i j) = true := by
  rcases cell_cases m i j with h | ⟨h, h', e⟩
  · rw [h]; rfl
  · rw [e]; exact all_get (hf _ (List.getElem_mem h)) h'
theorem cell_lt {m : List (List Nat)} (hf : bits m) (i j : Nat) : cell m i j < 4294967296 := by
  rcases cell_cases m i j with h | ⟨h, h', e⟩
  · rw [h]; decide
  · rw [e]; exact hf _ (List.getElem_mem h) _ (List.getElem_mem h')
theorem turnF_fin {m : List (List Nat)} (hf : ∀ r ∈ m, r.all finB = true) : ∀ r ∈ turnF m, r.all finB = true := by
  intro r hr
  simp only [turnF, tab, List.mem_map] at hr
  obtain ⟨i, _, rfl⟩ := hr
  rw [List.all_eq_true]
  intro b hb
  simp only [List.mem_map] at hb
  obtain ⟨j, _, rfl⟩ := hb
  exact cell_fin hf _ _
theorem tab_bits {n : Nat} {f : Nat → Nat → Nat} (h : ∀ i j, f i j < 4294967296) : bits (tab n f) := by
  intro r hr b hb
  simp only [tab, List.mem_map] at hr
  obtain ⟨i, _, rfl⟩ := hr
  simp only [List.mem_map] at hb
  obtain ⟨j, _, rfl⟩ := hb
  exact h _ _
theorem turnF_bits {m : List (List Nat)} (hf : bits m) : bits (turnF m) := tab_bits fun i j => cell_lt hf j i
theorem turnF_row {m : List (List Nat)} : ∀ r ∈ turnF m, r.length = m.length := (square_tab _ _).2

/-- What colsF hands out: a list of columns, one for each. -/
theorem colsF_good {a : List (List Nat)} : ∀ {m out q : List (List Nat)}, (∀ r ∈ out, r.length = a.length) → bits out → colsF a m out = some q → q.length = out.length + m.length ∧ (∀ r ∈ q, r.length = a.length) ∧ bits q
  | [], out, q, h1, h2, h => by simp [colsF] at h; subst h; exact ⟨rfl, h1, h2⟩
  | c :: cs, out, q, h1, h2, h => by
    rw [colsF] at h
    cases hd : timesF c a [] with
    | none => rw [hd] at h; cases h
    | some s =>
      rw [hd] at h
      have hl := timesF_length hd
      have hb := timesF_lt (by simp) hd
      obtain ⟨p1, p2, p3⟩ := colsF_good (out := out ++ [s]) (fun r hr => by
        rcases List.mem_append.1 hr with hr | hr
        · exact h1 r hr
        · simp at hr; subst hr; simpa using hl) (fun r hr => by
        rcases List.mem_append.1 hr with hr | hr
        · exact h2 r hr
        · simp at hr; subst hr; exact hb) h
      refine ⟨?_, p2, p3⟩
      simp at p1 ⊢; omega

theorem tmF_bits (a b : List (List Nat)) : bits (tmF a b).1 := by
  unfold tmF
  split
  · split
    · cases h : colsF a (turnF b) [] with
      | none => intro r hr; simp at hr
      | some q => exact turnF_bits (colsF_good (by simp) (by intro r hr; simp at hr) h).2.2
    · intro r hr; simp at hr
  · intro r hr; simp at hr
theorem tmF_small (a b : List (List Nat)) : (tmF a b).1.length ≤ 8 ∧ ∀ r ∈ (tmF a b).1, r.length ≤ 8 := by
  unfold tmF
  split
  · rename_i hmb
    simp only [Bool.and_eq_true] at hmb
    have hb8 := (matB_parts hmb.2).2.2
    split
    · cases h : colsF a (turnF b) [] with
      | none => exact ⟨by simp, fun r hr => by simp at hr⟩
      | some q =>
        have hq := (colsF_good (by simp) (by intro r hr; simp at hr) h).1
        have hl : q.length ≤ 8 := by simp [turnF] at hq; omega
        refine ⟨by simpa [turnF] using hl, fun r hr => ?_⟩
        rw [turnF_row r hr]; exact hl
    · exact ⟨by simp, fun r hr => by simp at hr⟩
  · exact ⟨by simp, fun r hr => by simp at hr⟩

theorem MV_col {a v : Value} {m : List (List Nat)} {x : List Nat} (ha : FSS w a m) (hm : matB m = true) (hv : FS w v x) (hl : x.length = m.length) (hf : x.all finB = true) : MV w a v m x := by
  obtain ⟨h4, h5, h6⟩ := matB_parts hm
  exact ⟨ha, hv, fun r hr => by rw [hl]; exact (h4 r hr).1, fun r hr => (h4 r hr).2, hf, h6⟩

/-! ### the program's -/
theorem replicate_eq_range (n z : Nat) : List.replicate n z = (List.range n).map fun _ => z := by
  apply List.ext_getElem (by simp)
  intro i h1 h2; simp

/-- Some columns are filled in. -/
def filled (n : Nat) (cols : List (List Nat)) : List (List Nat) := tab n fun i j => cell cols j i
theorem cell_none {m : List (List Nat)} {i j : Nat} (h : m.length ≤ i) : cell m i j = 0 := by
  rcases cell_cases m i j with h1 | ⟨h1, _⟩
  · exact h1
  · omega
theorem cell_append {m : List (List Nat)} {l : List Nat} {i j : Nat} : cell (m ++ [l]) i j = if i = m.length then l.getD j 0 else cell m i j := by
  unfold cell
  by_cases h : i < m.length
  · rw [if_neg (by omega)]
    rw [List.getD_eq_getElem?_getD (l := m ++ [l]), List.getElem?_append_left h, ← List.getD_eq_getElem?_getD]
  · by_cases h2 : i = m.length
    · subst h2; rw [if_pos rfl]
      rw [List.getD_eq_getElem?_getD (l := m ++ [l]), List.getElem?_append_right (Nat.le_refl _)]; simp
    · rw [if_neg h2, List.getD_eq_getElem?_getD (l := m ++ [l]), List.getElem?_eq_none (by simp; omega), List.getD_eq_getElem?_getD (l := m), List.getElem?_eq_none (by omega)]

end Go.Proofs.Ytabgkpfcpncmhaa

/- One interface for the kinds of data that the laws copy, compare and mark: lists of floats, matrices. -/
set_option linter.unusedVariables false
namespace Go.Proofs.Ytabgkpfcpncmhaa
open Go Go.Vc

variable {w : World} {K : Value → World → Prop} {lo hi : Nat} {v : Value}

/-- A variable whose block is one of its own range. -/
structure BxR (w : World) (lo hi : Nat) (t : TypeId) (p : Value) (cs : List Value) : Prop where
  own : Bx w lo t p cs
  top : ∀ k, blk p = some k → k < hi
theorem BxR.ext {w' : World} {t : TypeId} {p : Value} {cs : List Value} (h : BxR w lo hi t p cs) (he : Ext w w') : BxR w' lo hi t p cs := ⟨h.own.ext he, h.top⟩
theorem BxR.chg {w' : World} {lo' hi' : Nat} {t : TypeId} {p : Value} {cs : List Value} (h : BxR w lo hi t p cs) (hc : Chg lo' hi' w w') (hd : hi ≤ lo' ∨ hi' ≤ lo) : BxR w' lo hi t p cs := by
  obtain ⟨⟨g, h1, h2, h3⟩, ht⟩ := h
  have ht' := ht
  subst h1
  have := ht g rfl
  exact ⟨⟨g, rfl, h2, by rw [hc.block g (heap_lt h3) (by omega)]; exact h3⟩, ht⟩
theorem BxR.of {t : TypeId} {p : Value} {cs : List Value} (h : Bx w lo t p cs) : BxR w lo w.heap.size t p cs := ⟨h, fun k hk => (h.blk_lt hk).2⟩
theorem BxR.grown {w' : World} {t : TypeId} {p : Value} {cs : List Value} (h : BxR w lo hi t p cs) (hg : w.grownBy w' (blk p)) : Chg lo hi w w' := Chg.grown hg fun k hk => ⟨(h.own.blk_lt hk).1, h.top k hk⟩

/-! ### lists of floats -/
abbrev A_Float32S := FS
abbrev I_Float32S := FS
def O_Float32S (w : World) (lo hi : Nat) (v : Value) (l : List Nat) : Prop := OwnR w lo hi t_float32 1 v l.length (l.map fl) ∧ ∀ b ∈ l, b < 4294967296
theorem O_Float32S.ext {l : List Nat} {w' : World} (h : O_Float32S w lo hi v l) (he : Ext w w') : O_Float32S w' lo hi v l := ⟨h.1.ext he, h.2⟩
theorem O_Float32S.chg {l : List Nat} {w' : World} {lo' hi' : Nat} (h : O_Float32S w lo hi v l) (hc : Chg lo' hi' w w') (hd : hi ≤ lo' ∨ hi' ≤ lo) : O_Float32S w' lo hi v l := ⟨h.1.chg hc hd, h.2⟩
theorem O_Float32S.I {l : List Nat} (h : O_Float32S w lo hi v l) : I_Float32S w v l := OS.FS h.1.own h.2
def sz_Float32S (l : List Nat) : Nat := l.length
def cnt_Float32S (l : List Nat) : Nat := l.length
def mk_Float32S (k : Int) (l : List Nat) : List Nat := mk k l.length
theorem cnt_sz_Float32S (l : List Nat) : cnt_Float32S l ≤ sz_Float32S l := Nat.le_refl _
theorem len_Float32S {l : List Nat} (h : A_Float32S w v l) {ty : TypeId} {K : Value → Prop} : bl0 P .len #[t_s_float32] ty [v] w K = K (.int .i64 (sz_Float32S l)) := h.row.len u_s_float32
theorem c_to_Float32S {l : List Nat} (h : A_Float32S w v l) (hs : sz_Float32S l ≤ 1048576) (H : ∀ v' w', Ext w w' → O_Float32S w' w.heap.size w'.heap.size v' l → K v' w') : call P f_laws_toFloat32S [v] w K :=
  c_toFloat32S h hs fun v' w' he ho => H v' w' he ⟨OwnR.of ho, h.lt⟩
theorem c_eq_Float32S {u : Value} {l : List Nat} (h1 : I_Float32S w u l) (h2 : I_Float32S w v l) (H : ∀ w', Ext w w' → K (.bool true) w') : call P f_laws_eqFloat32S [u, v] w K :=
  c_eqFloat32S h1 h2 (Leq.refl _) (H _ (Ext.refl _))
theorem c_mark_Float32S {l : List Nat} {k : Int} (h : O_Float32S w lo hi v l) (h0 : 0 ≤ k) (h1 : k + cnt_Float32S l ≤ 4611686018427387904) (H : ∀ w', O_Float32S w' lo hi v (mk_Float32S k l) → Chg lo hi w w' → K (.int .i64 (k + cnt_Float32S l)) w') :
    call P f_laws_markFloat32S [v, .int .i64 k] w K :=
  c_markFloat32S h.1.own h0 h1 fun w' ho hg => H w' ⟨⟨ho, h.1.top⟩, mk_bits _ _⟩ (h.1.grown hg)
/-! ### matrices -/
def A_Float32SS (w : World) (v : Value) (m : List (List Nat)) : Prop := FSS w v m ∧ bits m
abbrev I_Float32SS := A_Float32SS
theorem A_Float32SS.ext {m : List (List Nat)} {w' : World} (h : A_Float32SS w v m) (he : Ext w w') : A_Float32SS w' v m := ⟨h.1.ext he, h.2⟩
def O_Float32SS (w : World) (lo hi : Nat) (v : Value) (m : List (List Nat)) : Prop := (∃ vs, OM w lo hi v m vs) ∧ bits m
theorem O_Float32SS.ext {m : List (List Nat)} {w' : World} (h : O_Float32SS w lo hi v m) (he : Ext w w') : O_Float32SS w' lo hi v m := ⟨let ⟨vs, h⟩ := h.1; ⟨vs, h.ext he⟩, h.2⟩
theorem O_Float32SS.chg {m : List (List Nat)} {w' : World} {lo' hi' : Nat} (h : O_Float32SS w lo hi v m) (hc : Chg lo' hi' w w') (hd : hi ≤ lo' ∨ hi' ≤ lo) : O_Float32SS w' lo hi v m := ⟨let ⟨vs, h⟩ := h.1; ⟨vs, h.chg hc hd⟩, h.2⟩
theorem O_Float32SS.I {m : List (List Nat)} (h : O_Float32SS w lo hi v m) : I_Float32SS w v m := ⟨let ⟨_, h1⟩ := h.1; h1.FSS h.2, h.2⟩
def sz_Float32SS (m : List (List Nat)) : Nat := m.length + total m
def cnt_Float32SS (m : List (List Nat)) : Nat := total m
def mk_Float32SS (k : Int) (m : List (List Nat)) : List (List Nat) := mkM k m
theorem cnt_sz_Float32SS (m : List (List Nat)) : cnt_Float32SS m ≤ sz_Float32SS m := by unfold cnt_Float32SS sz_Float32SS; omega
theorem c_sz_Float32SS {m : List (List Nat)} {left : Int} (h : A_Float32SS w v m) (h0 : 0 ≤ left) (h1 : left ≤ 1048576) (H : ∀ (r : Int) w', Ext w w' → (r = -1 ∨ ((sz_Float32SS m : Nat) : Int) ≤ left ∧ r = left - (sz_Float32SS m : Nat)) → K (.int .i64 r) w') : call P f_laws_szFloat32SS [v, .int .i64 left] w K :=
  c_szFloat32SS h.1 h0 h1 fun r hr => H r _ (Ext.refl _) hr
theorem c_to_Float32SS {m : List (List Nat)} (h : A_Float32SS w v m) (hs : sz_Float32SS m ≤ 1048576) (H : ∀ v' w', Ext w w' → O_Float32SS w' w.heap.size w'.heap.size v' m → K v' w') : call P f_laws_toFloat32SS [v] w K := by
  unfold sz_Float32SS at hs
  exact c_toFloat32SS h.1 (by omega) (fun r hr => by have := len_le_total hr; omega) fun v' w' vs he ho => H v' w' he ⟨⟨vs, ho⟩, h.2⟩
theorem c_eq_Float32SS {u : Value} {m : List (List Nat)} (h1 : I_Float32SS w u m) (h2 : I_Float32SS w v m) (H : ∀ w', Ext w w' → K (.bool true) w') : call P f_laws_eqFloat32SS [u, v] w K :=
  c_eqFloat32SS h1.1 h2.1 (LLeq.refl _) (H _ (Ext.refl _))
theorem c_mark_Float32SS {m : List (List Nat)} {k : Int} (h : O_Float32SS w lo hi v m) (h0 : 0 ≤ k) (h1 : k + cnt_Float32SS m ≤ 4611686018427387904) (H : ∀ w', O_Float32SS w' lo hi v (mk_Float32SS k m) → Chg lo hi w w' → K (.int .i64 (k + cnt_Float32SS m)) w') :
    call P f_laws_markFloat32SS [v, .int .i64 k] w K := by
  obtain ⟨vs, ho⟩ := h.1
  exact c_markFloat32SS ho h0 h1 fun w' ho' hc => H w' ⟨⟨vs, ho'⟩, mkM_bits _ _⟩ hc
end Go.Proofs.Ytabgkpfcpncmhaa

/- From a row's reading of its arguments to what the contracts ask. -/
set_option linter.unusedVariables false
namespace Go.Proofs.Ytabgkpfcpncmhaa
open Go Go.Vc
open Go.ChangeShapes Go.WideShapes Go.ChangeAt

section
variable {H : Type} {enc : TypeId × Value → H} {w : World} {base : Nat} {spare : Nat → Bool} {held : Bool} {fuel : Nat}

theorem trod_float {t : TypeId} {k : FloatKind} {cs : List Value} {x : DataW H × List MemPlace} (ht : P.underlying t = some (.float k)) (h : DataW.trod enc P w base spare held fuel t cs = some x) : ∃ b, cs = [.float k b] ∧ (Lit.float k b).wf = true := by
  cases fuel with
  | zero => simp [DataW.trod] at h
  | succ n =>
    unfold DataW.trod at h
    rw [ht] at h
    split at h <;> simp_all

theorem open_row {t e : TypeId} {v : Value} {x : DataW H × List MemPlace} (hu : P.underlying t = some (.slice e)) (hc : P.cellsOf e = 1) (h : DataW.trod enc P w base (fun _ => true) held fuel t [v] = some x) :
    ∃ (n : Nat) (vs : List Value), Row 1 w v n vs ∧ ∀ (i : Nat) (u : Value), vs[i]? = some u → ∃ m y, DataW.trod enc P w base (fun _ => true) held m e [u] = some y := by
  rcases Deep.open_slice1 hu hc h with ⟨hcs, _⟩ | ⟨a, len, cap, m, k, V, D, Pl, hcs, hb, hl, hm, hmm, _, hx⟩
  · obtain rfl : v = .slice none 0 0 := by simpa using hcs
    exact ⟨0, [], Row.nil 1 w, fun i u hu => by simp at hu⟩
  · obtain rfl : v = .slice (some a) len cap := by simpa using hcs
    simp only [if_true] at hmm
    subst hmm
    refine ⟨len, (List.range len).map V, ⟨by simp, by omega, some a, _, rfl, fun hn => ?_⟩, fun i u hu => ?_⟩
    · have h0 := (hx 0 (by omega)).1
      obtain ⟨b, o, sp⟩ := a
      have hsp : sp = none := by
        have := World.cell?_spot h0
        simpa [Addr.add] using this
      subst hsp
      refine ⟨b, o, rfl, fun j u hu => ?_⟩
      have hj : j < len := by
        have := (List.getElem?_eq_some_iff.1 hu).1
        simpa using this
      have := (hx j (by omega)).1
      rw [Addr.add_lit] at this
      rw [this]
      simp [hj] at hu
      rw [hu]
    · have hj : i < len := by
        have := (List.getElem?_eq_some_iff.1 hu).1
        simpa using this
      simp [hj] at hu
      subst hu
      exact ⟨k, _, (hx i (by omega)).2⟩

theorem cells_float32 : P.cellsOf t_float32 = 1 := by kernel_rfl
theorem cells_s_float32 : P.cellsOf t_s_float32 = 1 := by kernel_rfl

/-- From 'each is some f ..' to one list. -/
theorem list_of {α β : Type} {p : α → β → Prop} : ∀ {l : List α}, (∀ (i : Nat) (u : α), l[i]? = some u → ∃ b, p u b) → ∃ bs : List β, bs.length = l.length ∧ ∀ (i : Nat) (u : α), l[i]? = some u → ∃ b, bs[i]? = some b ∧ p u b
  | [], _ => ⟨[], rfl, fun i u h => by simp at h⟩
  | a :: l, h => by
    obtain ⟨b, hb⟩ := h 0 a rfl
    obtain ⟨bs, h1, h2⟩ := list_of (l := l) (fun i u hu => h (i + 1) u (by simpa using hu))
    refine ⟨b :: bs, by simp [h1], fun i u hu => ?_⟩
    cases i with
    | zero => simp at hu; subst hu; exact ⟨b, rfl, hb⟩
    | succ i => obtain ⟨c, hc1, hc2⟩ := h2 i u (by simpa using hu); exact ⟨c, by simpa using hc1, hc2⟩

theorem open_FS {v : Value} {x : DataW H × List MemPlace} (h : DataW.trod enc P w base (fun _ => true) held fuel t_s_float32 [v] = some x) : ∃ l, FS w v l := by
  obtain ⟨n, vs, hrow, hel⟩ := open_row u_s_float32 cells_float32 h
  obtain ⟨bs, h1, h2⟩ := list_of (p := fun u b => u = fl b ∧ b < 4294967296) (l := vs) (fun i u hu => by
    obtain ⟨m, y, hy⟩ := hel i u hu
    obtain ⟨b, hb, hw⟩ := trod_float u_float32 hy
    refine ⟨b, by simpa using hb, ?_⟩
    simpa [Lit.wf] using hw)
  have hn : bs.length = n := by have := hrow.1; omega
  have hmap : vs = bs.map fl := by
    apply List.ext_getElem?
    intro i
    cases hi : vs[i]? with
    | none =>
      rw [List.getElem?_eq_none_iff] at hi
      exact (List.getElem?_eq_none_iff.2 (by simp; omega)).symm
    | some u =>
      obtain ⟨b, hb, rfl, _⟩ := h2 i u hi
      simp [hb]
  refine ⟨bs, ?_, fun b hb => ?_⟩
  · rw [hn, ← hmap]; exact hrow
  · obtain ⟨i, hi, rfl⟩ := List.getElem_of_mem hb
    have hi' : i < vs.length := by omega
    obtain ⟨b', hb', _, hlt⟩ := h2 i vs[i] (by simp [hi'])
    rw [List.getElem?_eq_getElem hi] at hb'
    cases hb'; exact hlt

theorem open_FSS {v : Value} {x : DataW H × List MemPlace} (h : DataW.trod enc P w base (fun _ => true) held fuel t_s_s_float32 [v] = some x) : ∃ m, FSS w v m ∧ bits m := by
  obtain ⟨n, vs, hrow, hel⟩ := open_row u_s_s_float32 cells_s_float32 h
  obtain ⟨bs, h1, h2⟩ := list_of (p := fun u l => FS w u l) (l := vs) (fun i u hu => by
    obtain ⟨m, y, hy⟩ := hel i u hu
    exact open_FS hy)
  have hn : bs.length = n := by have := hrow.1; omega
  refine ⟨bs, ⟨vs, by rw [hn]; exact hrow, fun i hi => ?_⟩, fun r hr => ?_⟩
  · have hi' : i < vs.length := by omega
    obtain ⟨l, hl, hf⟩ := h2 i vs[i] (by simp [hi'])
    rw [List.getElem?_eq_getElem hi] at hl
    cases hl
    exact ⟨_, by simp [hi'], hf⟩
  · obtain ⟨i, hi, rfl⟩ := List.getElem_of_mem hr
    have hi' : i < vs.length := by omega
    obtain ⟨l, hl, hf⟩ := h2 i vs[i] (by simp [hi'])
    rw [List.getElem?_eq_getElem hi] at hl
    cases hl
    exact hf.lt
end

theorem FS.N {w : World} {v : Value} {l : List Nat} (h : FS w v l) : FS (N w) v l := ⟨h.row, h.lt⟩
theorem FSS.N {w : World} {v : Value} {m : List (List Nat)} (h : FSS w v m) : FSS (Vc.N w) v m := by
  obtain ⟨vs, h1, h2⟩ := h.ex
  exact ⟨vs, h1, fun i hi => let ⟨x, hx, hf⟩ := h2 i hi; ⟨x, hx, hf.N⟩⟩
theorem open_Float32S {H : Type} {enc : TypeId × Value → H} {w : World} {base : Nat} {held : Bool} {fuel : Nat} {v : Value} {x : DataW H × List MemPlace} (h : DataW.trod enc P w base (fun _ => true) held fuel t_s_float32 [v] = some x) : ∃ l, A_Float32S w v l := open_FS h
theorem open_Float32SS {H : Type} {enc : TypeId × Value → H} {w : World} {base : Nat} {held : Bool} {fuel : Nat} {v : Value} {x : DataW H × List MemPlace} (h : DataW.trod enc P w base (fun _ => true) held fuel t_s_s_float32 [v] = some x) : ∃ l, A_Float32SS w v l := open_FSS h
theorem A_Float32SS.N {w : World} {v : Value} {m : List (List Nat)} (h : A_Float32SS w v m) : A_Float32SS (Vc.N w) v m := ⟨h.1.N, h.2⟩
theorem below_N {w c : World} (h : Ext (Vc.N w) (Vc.N c)) : RowKit.Below w.heap.size w c := by
  have h1 := RowKit.Below.os h
  have h2 := RowKit.Below.tape h
  have h3 := RowKit.Below.output h
  have h4 := Ext.size h
  have h5 := Ext.block h
  exact ⟨h1, h2, h3, h4, h5⟩

theorem own : ownKnob P.godebug = none := by kernel_rfl
theorem laidOut : laidOutB P = true := by kernel_rfl

/-- A call that is known to end well, as the row wants it. -/
theorem calls_of {f : FuncId} {fn : Func} {args : List Value} {w : World} {K : Value → World → Prop} (hf : P.funcs[f]? = some fn) (hn : (fn.name == "runtime.NumGoroutine") = false) (hb : fn.body.isSome = true) (h : call P f args (N w) K) :
    Calls P f args.toArray w (fun e w' => ∃ v, e = .returned v ∧ K v (N w')) := by
  obtain ⟨n, c', hr, hk⟩ := h w rfl
  have hn' : ¬ fn.name = "runtime.NumGoroutine" := by simpa using hn
  cases hbb : fn.body with
  | none => rw [hbb] at hb; cases hb
  | some c =>
    have : (callFunc f args.toArray).run P w = .ok (.enter f args.toArray) w := by simp [callFunc, program, Sem.run, hf, hn', hbb]
    rw [this] at hr
    cases hr
    exact hk w rfl

end Go.Proofs.Ytabgkpfcpncmhaa

/- Contracts: magnitudes in digits of 32 bits. -/
set_option linter.unusedVariables false
namespace Go.Proofs.Ytabgkpfcpncmhaa
open Go Go.Vc

variable {w : World} {K : Value → World → Prop}


/-- Digits of a natural number, read; of one's own. -/
def Mg (w : World) (v : Value) (n : Nat) : Prop := ∃ l, IR .u32 w v l ∧ Norm 4294967296 l ∧ val 4294967296 l = n ∧ Ty w v.ownBlock t_uint32
def MgO (w : World) (base : Nat) (v : Value) (n : Nat) : Prop := ∃ l, OD .u32 t_uint32 w base v l ∧ Norm 4294967296 l ∧ val 4294967296 l = n
theorem Ty_ext {w w' : World} {k : Option Nat} {e : TypeId} (h : Ty w k e) (he : Ext w w') : Ty w' k e := fun b hb => let ⟨c, f, hc⟩ := h b hb; ⟨c, f, by rw [he.block b (heap_lt hc)]; exact hc⟩
theorem Ty_none (w : World) (e : TypeId) : Ty w none e := fun b hb => by cases hb
theorem MgO.Mg {base n : Nat} {v : Value} (h : MgO w base v n) : Mg w v n := let ⟨l, h1, h2, h3⟩ := h; ⟨l, h1.IR, h2, h3, Ty.owns h1⟩
theorem Mg.ext {w' : World} {n : Nat} {v : Value} (h : Mg w v n) (he : Ext w w') : Mg w' v n := let ⟨l, h1, h2, h3, h4⟩ := h; ⟨l, h1.ext he, h2, h3, Ty_ext h4 he⟩
theorem Mg.nil (w : World) : Mg w (.slice none 0 0) 0 := ⟨[], IR.nil _ _, Norm.nil _, rfl, Ty_none _ _⟩
theorem MgO.nil (w : World) (base : Nat) : MgO w base (.slice none 0 0) 0 := ⟨[], OD.nil _ _ _ _, Norm.nil _, rfl⟩
theorem MgO.ext {w' : World} {base n : Nat} {v : Value} (h : MgO w base v n) (he : Ext w w') : MgO w' base v n := let ⟨l, h1, h2, h3⟩ := h; ⟨l, owns_ext h1 he, h2, h3⟩
theorem MgO.low {base base' n : Nat} {v : Value} (h : MgO w base v n) (hb : base' ≤ base) : MgO w base' v n := let ⟨l, h1, h2, h3⟩ := h; ⟨l, owns_base h1 hb, h2, h3⟩

theorem dig_len {l : List Nat} (h : Norm 4294967296 l) (hb : bl (val 4294967296 l) ≤ 1099511627776) : l.length ≤ 34359738369 := by
  have := (Norm.len_le (s := 32) (by decide) h).1
  have e : val (2 ^ 32) l = val 4294967296 l := rfl
  rw [e] at this
  omega

/-! ### arithmetic of words -/
theorem w_u32 (x : Nat) : IntKind.u32.wrap (x : Int) = ((x % 4294967296 : Nat) : Int) := by simp [IntKind.wrap, IntKind.bits, IntKind.signed]
theorem w_u64 (x : Nat) : IntKind.u64.wrap (x : Int) = ((x % 18446744073709551616 : Nat) : Int) := by simp [IntKind.wrap, IntKind.bits, IntKind.signed]
theorem w_u64' {x : Nat} (h : x < 18446744073709551616) : IntKind.u64.wrap (x : Int) = (x : Int) := by rw [w_u64, Nat.mod_eq_of_lt h]
section
variable {t : TypeId} {cx cy : Bool} {k yk : IntKind} {a b s : Nat} {c : Int} {K : Value → Prop}
theorem bin_shrN (hs : s ≤ k.bits) (hc : c = (s : Int) := by rfl) : bin P .shr t cx cy (.int k (a : Int)) (.int yk c) w K = K (.int k ((a / 2 ^ s : Nat) : Int)) := by
  subst hc
  rw [bin_shr _ _ _ _ _ _ _ _ (by omega)]
  congr 2
  have e : min ((s : Int).toNat) k.bits = s := by rw [Int.toNat_natCast]; omega
  rw [e, Int.fdiv_eq_ediv_of_nonneg _ (Int.pow_nonneg (by decide))]
  simp
theorem bin_addN (h : a + b < 18446744073709551616) : bin P .add t cx cy (.int .u64 (a : Int)) (.int .u64 (b : Int)) w K = K (.int .u64 ((a + b : Nat) : Int)) := by
  rw [bin_add, show (a : Int) + b = ((a + b : Nat) : Int) by omega, w_u64' h]
theorem bin_mulN (h : a * b < 18446744073709551616) : bin P .mul t cx cy (.int .u64 (a : Int)) (.int .u64 (b : Int)) w K = K (.int .u64 ((a * b : Nat) : Int)) := by
  rw [bin_mul, show (a : Int) * b = ((a * b : Nat) : Int) by simp, w_u64' h]
theorem bin_addI (h : a + b ≤ 9223372036854775807) : bin P .add t cx cy (.int .i64 (a : Int)) (.int .i64 (b : Int)) w K = K (.int .i64 ((a + b : Nat) : Int)) := by
  rw [bin_add, show (a : Int) + b = ((a + b : Nat) : Int) by omega, wrap_i64 (by omega) (by omega)]
theorem bin_addI1 (h : a + b ≤ 9223372036854775807) (hc : c = (b : Int) := by rfl) : bin P .add t cx cy (.int .i64 (a : Int)) (.int .i64 c) w K = K (.int .i64 ((a + b : Nat) : Int)) := by
  subst hc; exact bin_addI h
theorem bin_subI1 (h : b ≤ a) (ha : a ≤ 9223372036854775807) (hc : c = (b : Int) := by rfl) : bin P .sub t cx cy (.int .i64 (a : Int)) (.int .i64 c) w K = K (.int .i64 ((a - b : Nat) : Int)) := by
  subst hc
  rw [bin_sub, show (a : Int) - b = ((a - b : Nat) : Int) by omega, wrap_i64 (by omega) (by omega)]
theorem cnv_32_64 : cnv P t_uint32 t_uint64 (.int .u32 (a : Int)) w K = K (.int .u64 ((a % 18446744073709551616 : Nat) : Int)) := by
  rw [cnv_int_int u_uint32 u_uint64, w_u64]
theorem cnv_32_64' (h : a < 4294967296) : cnv P t_uint32 t_uint64 (.int .u32 (a : Int)) w K = K (.int .u64 (a : Int)) := by
  rw [cnv_32_64, Nat.mod_eq_of_lt (by omega)]
theorem cnv_64_32 : cnv P t_uint64 t_uint32 (.int .u64 (a : Int)) w K = K (.int .u32 ((a % 4294967296 : Nat) : Int)) := by
  rw [cnv_int_int u_uint64 u_uint32, w_u32]
end

/-! ### cutting zeros -/
theorem trim_snoc_zero : ∀ l : List Nat, trim (l ++ [0]) = trim l
  | [] => by simp [trim]
  | d :: l => by rw [List.cons_append, trim, trim, trim_snoc_zero l]
theorem trim_last {l : List Nat} (h : l.getLast? ≠ some 0) : trim l = l := by
  induction l with
  | nil => rfl
  | cons d l ih =>
    rw [trim]
    cases l with
    | nil =>
      have : d ≠ 0 := by simpa using h
      rw [if_neg (fun q => this q.1)]; rfl
    | cons e l =>
      have h' : (e :: l).getLast? ≠ some 0 := by simpa using h
      rw [ih h', if_neg (fun q => by simp at q)]

theorem c_magTrim {v : Value} {l : List Nat} (h : IR .u32 w v l)
    (H : ∀ v', IR .u32 w v' (trim l) → (∀ base, OD .u32 t_uint32 w base v l → OD .u32 t_uint32 w base v' (trim l)) → (v'.ownBlock = none ∨ v'.ownBlock = v.ownBlock) → K v' w) : call P f_impl_magTrim [v] w K := by
  refine I_impl_magTrim ?_
  unfold D_impl_magTrim
  have hb := h.bound
  refine ⟨fun m x w' => w' = w ∧ m ≤ l.length ∧ IR .u32 w x (l.take m) ∧ (∀ base, OD .u32 t_uint32 w base v l → OD .u32 t_uint32 w base x (l.take m)) ∧ trim (l.take m) = trim l ∧ (x.ownBlock = none ∨ x.ownBlock = v.ownBlock),
    ⟨l.length, rfl, Nat.le_refl _, by rw [List.take_length]; exact h, fun base ho => by rw [List.take_length]; exact ho, by rw [List.take_length], .inr rfl⟩, ?_⟩
  rintro m x junk w' ⟨rfl, hm, hx, ho, ht, hbk⟩
  have hl : (l.take m).length = m := by rw [List.length_take]; omega
  rw [hx.row.len u_s_uint32, bin_gtr, hl]
  refine ⟨_, fun _ _ _ h => h, ?_⟩
  have fin : (l.take m).getLast? ≠ some 0 → K x w' := fun hz => by
    rw [trim_last hz] at ht
    exact H x (by rw [← ht]; exact hx) (fun base hq => by rw [← ht]; exact ho base hq) hbk
  refine grd_split (fun h1 => ?_) (fun h1 => ?_)
  · simp only [decide_eq_true_eq] at h1
    have hm0 : 0 < m := by omega
    rw [hx.row.len u_s_uint32, hl, bin_subI1 (b := 1) (by omega) (by omega)]
    have hi : m - 1 < (l.take m).length := by omega
    refine hx.at hi u_s_uint32 i_uint32 u_uint32 ?_
    rw [bin_eql, pick_bool]
    have hlast : (l.take m).getLast? = some (l.take m)[m - 1] := by
      rw [List.getLast?_eq_getElem?, hl]; exact List.getElem?_eq_getElem hi
    have htk : l.take m = l.take (m - 1) ++ [(l.take m)[m - 1]] := by
      have := List.take_succ_eq_append_getElem (l := l) (i := m - 1) (by omega)
      rw [show m - 1 + 1 = m by omega] at this
      rw [List.getElem_take]; exact this
    rw [decide_eq_true h1, cond_true]
    refine cnd_dec (fun hz => ?_) (fun hz => ?_)
    · have hz' : (l.take m)[m - 1] = 0 := by simpa using hz
      rw [hz'] at htk
      rw [hx.row.len u_s_uint32, hl, bin_subI1 (b := 1) (by omega) (by omega)]
      refine Row.sli_h hx.row hx.cap u_s_uint32 i_uint32 (by omega) fun v' r1 r2 r3 r4 => ?_
      have htt : (l.take m).take (m - 1) = l.take (m - 1) := by rw [List.take_take]; congr 1; omega
      have hl' : (l.take (m - 1)).length = m - 1 := by rw [List.length_take]; omega
      rw [← List.map_take, htt] at r1 r3
      refine ⟨m - 1, by omega, rfl, by omega, ⟨by rw [hl']; exact r1, r2⟩, fun base hq => ?_, ?_, ?_⟩
      · have := r3 base (ho base hq)
        unfold OD; rw [hl']; exact this
      · rw [← ht, htk, trim_snoc_zero]
      · rcases r4 with rfl | r4
        · exact .inl rfl
        · rw [r4]; exact hbk
    · exact fin (by rw [hlast]; simpa using hz)
  · rw [h1, Bool.not_true, pick_bool]
    simp only [Bool.not_true, decide_eq_false_iff_not] at h1
    have hm0 : m = 0 := by omega
    subst hm0
    exact fin (by simp)

theorem Norm_trim {l : List Nat} (h : Dig 4294967296 l) : Norm 4294967296 (trim l) := Norm.trim h
/-- What has been made, trimmed. -/
theorem c_trimO {base : Nat} {v : Value} {l : List Nat} (h : OD .u32 t_uint32 w base v l) (hd : Dig 4294967296 l) (H : ∀ v', MgO w base v' (val 4294967296 l) → K v' w) : call P f_impl_magTrim [v] w K :=
  c_magTrim h.IR fun v' h1 h2 _ => H v' ⟨trim l, h2 base h, Norm.trim hd, val_trim _ _⟩

/-! ### comparing -/
def cmpN (a b : Nat) : Int := if a < b then -1 else if b < a then 1 else 0
theorem c_isNaN_int {v : Value} {a : Int} (H : K (.bool false) w) : call P f_cmp_isNaN_int [.int .i64 a] w K := by
  refine I_cmp_isNaN_int ?_
  unfold D_cmp_isNaN_int
  rw [bin_neq]; simpa using H
theorem c_isNaN_u32 {v : Value} {a : Int} (H : K (.bool false) w) : call P f_cmp_isNaN_uint32 [.int .u32 a] w K := by
  refine I_cmp_isNaN_uint32 ?_
  unfold D_cmp_isNaN_uint32
  rw [bin_neq]; simpa using H
theorem c_Compare_int {a b : Nat} (H : K (.int .i64 (cmpN a b)) w) : call P f_cmp_Compare_int [.int .i64 (a : Int), .int .i64 (b : Int)] w K := by
  refine I_cmp_Compare_int ?_
  unfold D_cmp_Compare_int
  refine c_isNaN_int (v := undef) (c_isNaN_int (v := undef) ?_)
  rw [cnd_false, cnd_false, bin_lss]
  unfold cmpN at H
  refine cnd_dec (fun h => ?_) (fun h => ?_)
  · rw [if_pos (by omega)] at H; exact H
  · rw [if_neg (by omega)] at H
    rw [bin_gtr]
    refine cnd_dec (fun h => ?_) (fun h => ?_)
    · rw [if_pos (by omega)] at H; exact H
    · rw [if_neg (by omega)] at H; exact H
theorem c_Compare_u32 {a b : Nat} (H : K (.int .i64 (cmpN a b)) w) : call P f_cmp_Compare_uint32 [.int .u32 (a : Int), .int .u32 (b : Int)] w K := by
  refine I_cmp_Compare_uint32 ?_
  unfold D_cmp_Compare_uint32
  refine c_isNaN_u32 (v := undef) (c_isNaN_u32 (v := undef) ?_)
  rw [cnd_false, cnd_false, bin_lss]
  unfold cmpN at H
  refine cnd_dec (fun h => ?_) (fun h => ?_)
  · rw [if_pos (by omega)] at H; exact H
  · rw [if_neg (by omega)] at H
    rw [bin_gtr]
    refine cnd_dec (fun h => ?_) (fun h => ?_)
    · rw [if_pos (by omega)] at H; exact H
    · rw [if_neg (by omega)] at H; exact H
theorem cmpN_len {b : Nat} {l r : List Nat} (hl : Norm b l) (hr : Norm b r) (h : l.length ≠ r.length) : cmpN (val b l) (val b r) = cmpN l.length r.length := by
  unfold cmpN
  rcases Nat.lt_or_gt_of_ne h with h | h
  · rw [if_pos h, if_pos (val_lt_len hl.1 hr h)]
  · have := val_lt_len hr.1 hl h
    rw [if_neg (show ¬ val b l < val b r by omega), if_pos this, if_neg (show ¬ l.length < r.length by omega), if_pos h]
theorem cmpN_dig {b : Nat} {l r : List Nat} {i : Nat} (hl : Dig b l) (hr : Dig b r) (hlen : l.length = r.length) (hi : i < l.length) (hd : l.drop (i + 1) = r.drop (i + 1)) (h : l[i] ≠ r[i]'(by omega)) : cmpN (val b l) (val b r) = cmpN l[i] (r[i]'(by omega)) := by
  unfold cmpN
  rcases Nat.lt_or_gt_of_ne h with h | h
  · rw [if_pos h, if_pos (val_cmp hl hlen hi hd h)]
  · have := val_cmp hr hlen.symm (by omega) hd.symm h
    rw [if_neg (show ¬ val b l < val b r by omega), if_pos this, if_neg (show ¬ l[i] < r[i] by omega), if_pos h]
theorem c_magCmp {u v : Value} {a b : Nat} (ha : Mg w u a) (hb : Mg w v b) (H : K (.int .i64 (cmpN a b)) w) : call P f_impl_magCmp [u, v] w K := by
  obtain ⟨l, h1, n1, rfl, _⟩ := ha
  obtain ⟨r, h2, n2, rfl, _⟩ := hb
  refine I_impl_magCmp ?_
  unfold D_impl_magCmp
  have b1 := h1.bound
  have b2 := h2.bound
  rw [h1.row.len u_s_uint32, h2.row.len u_s_uint32, bin_neq]
  refine cnd_dec (fun h => ?_) (fun h => ?_)
  · rw [h1.row.len u_s_uint32, h2.row.len u_s_uint32]
    rw [cmpN_len n1 n2 (by omega)] at H
    exact c_Compare_int H
  · have hlen : l.length = r.length := by omega
    rw [h1.row.len u_s_uint32, bin_sub, wrap_i64 (by omega) (by omega)]
    refine ⟨fun m x w' => w' = w ∧ x = .int .i64 ((m : Int) - 1) ∧ m ≤ l.length ∧ l.drop m = r.drop m, ⟨l.length, rfl, rfl, Nat.le_refl _, by rw [List.drop_length, hlen, List.drop_length]⟩, ?_⟩
    rintro m x junk w' ⟨rfl, rfl, hm, hd⟩
    rw [bin_geq]
    refine cnd_dec (fun hge => ?_) (fun hlt => ?_)
    · have hm0 : 0 < m := by omega
      rw [show (m : Int) - 1 = ((m - 1 : Nat) : Int) by omega]
      refine h1.at (i := m - 1) (by omega) u_s_uint32 i_uint32 u_uint32 ?_
      refine h2.at (i := m - 1) (by omega) u_s_uint32 i_uint32 u_uint32 ?_
      rw [bin_neq]
      refine cnd_dec (fun hne => ?_) (fun heq => ?_)
      · refine h1.at (i := m - 1) (by omega) u_s_uint32 i_uint32 u_uint32 ?_
        refine h2.at (i := m - 1) (by omega) u_s_uint32 i_uint32 u_uint32 ?_
        rw [cmpN_dig (i := m - 1) n1.1 n2.1 hlen (by omega) (by rw [show m - 1 + 1 = m by omega]; exact hd) (by omega)] at H
        exact c_Compare_u32 H
      · rw [bin_sub, wrap_i64 (by omega) (by omega)]
        refine ⟨m - 1, by omega, rfl, by congr 1, by omega, ?_⟩
        rw [List.drop_eq_getElem_cons (by omega : m - 1 < l.length), List.drop_eq_getElem_cons (by omega : m - 1 < r.length), show m - 1 + 1 = m by omega, hd]
        congr 1; omega
    · have hm0 : m = 0 := by omega
      subst hm0
      have : l = r := by simpa using hd
      subst this
      unfold cmpN at H
      rw [if_neg (by omega), if_neg (by omega)] at H
      exact H
end Go.Proofs.Ytabgkpfcpncmhaa

/- Contracts: sums, differences, products and shifts of magnitudes. -/
set_option linter.unusedVariables false
namespace Go.Proofs.Ytabgkpfcpncmhaa
open Go Go.Vc

variable {w : World} {K : Value → World → Prop}

theorem val_take_succD (b : Nat) (l : List Nat) (i : Nat) : val b (l.take (i + 1)) = val b (l.take i) + b ^ i * l.getD i 0 := by
  by_cases h : i < l.length
  · rw [val_take_succ b h, List.getD_eq_getElem?_getD]; simp [h]
  · rw [List.take_of_length_le (by omega), List.take_of_length_le (by omega), List.getD_eq_getElem?_getD]; simp [show l.length ≤ i by omega]
theorem take_set {l : List Nat} {i x : Nat} (h : i < l.length) : (l.set i x).take (i + 1) = l.take i ++ [x] := by
  rw [List.take_succ_eq_append_getElem (by simpa using h)]
  simp [List.take_set_of_le]
theorem val_set_take (b : Nat) {l : List Nat} {i x : Nat} (h : i < l.length) : val b ((l.set i x).take (i + 1)) = val b (l.take i) + b ^ i * x := by
  rw [take_set h, val_snoc, List.length_take, Nat.min_eq_left (by omega)]
theorem Dig_set {b : Nat} {l : List Nat} {i x : Nat} (h : Dig b l) (hx : x < b) : Dig b (l.set i x) := fun d hd => by
  rcases List.mem_or_eq_of_mem_set hd with h1 | h1
  · exact h d h1
  · omega
theorem Dig_rep (b n : Nat) (hb : 0 < b) : Dig b (List.replicate n 0) := fun d hd => by rw [List.mem_replicate] at hd; omega
theorem Dig_get {b : Nat} {l : List Nat} (h : Dig b l) {i : Nat} (hi : i < l.length) : l[i] < b := h _ (List.getElem_mem hi)
theorem getD_get {l : List Nat} {i : Nat} (hi : i < l.length) : l.getD i 0 = l[i] := by rw [List.getD_eq_getElem?_getD]; simp [hi]

theorem len_eq_of {b : Nat} {l r : List Nat} (hl : Norm b l) (hr : Norm b r) (h : val b l = val b r) : l = r := val_inj hl hr h
theorem len_mono {b : Nat} {l r : List Nat} (hl : Norm b l) (hr : Norm b r) (h : val b r ≤ val b l) : r.length ≤ l.length := by
  rw [← Nat.not_lt]
  intro hc
  have := val_lt_len hl.1 hr hc
  omega

theorem pB (i : Nat) : (4294967296 : Nat) ^ (i + 1) = 4294967296 ^ i * 4294967296 := Nat.pow_succ ..
theorem step_add {V L R p c a b s : Nat} (hv : V + c * p = L + R) (hs : s = c + a + b) : V + p * (s % 4294967296) + s / 4294967296 * (p * 4294967296) = L + p * a + (R + p * b) := by
  have h := Nat.div_add_mod s 4294967296
  have h2 : p * (4294967296 * (s / 4294967296) + s % 4294967296) = p * (c + a + b) := by rw [h, hs]
  grind
theorem step_sub32 {V L R p c a b s s0 s1 : Nat} (hv : V + R = L + c * p) (hs : s = c + b) (hk : s0 + s = a + s1 * 4294967296) : V + p * s0 + (R + p * b) = L + p * a + s1 * (p * 4294967296) := by
  have h2 : p * (s0 + s) = p * (a + s1 * 4294967296) := by rw [hk]
  rw [hs] at h2
  grind
/-- One's own row, changed: the rest stays. -/
theorem own_step {k : IntKind} {e : TypeId} {w w1 w2 : World} {v : Value} {l : List Nat} (he : Ext w w1) (ho : OD k e w1 w.heap.size v l) (hg : w1.grownBy w2 v.ownBlock) : Ext w w2 :=
  ext_of_grown he (fun g hg' => (ho.lt g hg').1) hg

theorem c_magAdd {u v : Value} {a b : Nat} (ha : Mg w u a) (hb : Mg w v b) (ba : bl a ≤ 1099511627776) (bb : bl b ≤ 1099511627776)
    (H : ∀ v' w', Ext w w' → MgO w' w.heap.size v' (a + b) → K v' w') : call P f_impl_magAdd [u, v] w K := by
  have main : ∀ {u v : Value} {l r : List Nat}, IR .u32 w u l → IR .u32 w v r → Dig 4294967296 l → Dig 4294967296 r → r.length ≤ l.length → l.length ≤ 34359738369 → (∀ v' w', Ext w w' → MgO w' w.heap.size v' (val 4294967296 l + val 4294967296 r) → K v' w') →
      (bl0 P .len #[t_s_uint32] t_int [u] w fun x17_6 =>
      bin P .add t_int false true x17_6 (.int .i64 1) w fun x18_7 =>
      mks P t_s_uint32 x18_7 x18_7 w fun x19_8 w9 =>
      bl0 P .len #[t_s_uint32] t_int [u] w9 fun x21_10 =>
      ∃ I11 : Nat → Value → Value → World → Prop, (∃ m46, I11 m46 (.int .u64 0) (.int .i64 0) w9) ∧ ∀ (m14 : Nat) (x6_15 : Value) (x22_16 : Value) (junk12 : Env) (w13 : World), I11 m14 x6_15 x22_16 w13 →
        bin P .lss t_int false false x22_16 x21_10 w13 fun x23_17 =>
        cnd x23_17
          (ixa P t_s_uint32 u x22_16 w13 fun x25_18 =>
          ld P t_uint32 x25_18 w13 fun x26_19 =>
          cnv P t_uint32 t_uint64 x26_19 w13 fun x29_20 =>
          bin P .add t_uint64 false false x6_15 x29_20 w13 fun x30_21 =>
          ∃ J22 : Value → World → Prop, (∀ (x6_25 : Value) (junk23 : Env) (w24 : World), J22 x6_25 w24 →
            cnv P t_uint64 t_uint32 x6_25 w24 fun x45_26 =>
            ixa P t_s_uint32 x19_8 x22_16 w24 fun x46_27 =>
            sto P t_uint32 x46_27 x45_26 w24 fun w29 =>
            bin P .shr t_uint64 false true x6_25 (.int .u64 32) w29 fun x48_30 =>
            bin P .add t_int false true x22_16 (.int .i64 1) w29 fun x49_31 =>
            ∃ m32, m32 < m14 ∧ I11 m32 x48_30 x49_31 w29) ∧
            (bl0 P .len #[t_s_uint32] t_int [v] w13 fun x33_33 =>
            bin P .lss t_int false false x22_16 x33_33 w13 fun x34_34 =>
            cnd x34_34
              (ixa P t_s_uint32 v x22_16 w13 fun x38_35 =>
              ld P t_uint32 x38_35 w13 fun x39_36 =>
              cnv P t_uint32 t_uint64 x39_36 w13 fun x40_37 =>
              bin P .add t_uint64 false false x30_21 x40_37 w13 fun x41_38 =>
              J22 x41_38 w13)
              (J22 x30_21 w13)))
          (bl0 P .len #[t_s_uint32] t_int [u] w13 fun x52_39 =>
          cnv P t_uint64 t_uint32 x6_15 w13 fun x54_40 =>
          ixa P t_s_uint32 x19_8 x52_39 w13 fun x55_41 =>
          sto P t_uint32 x55_41 x54_40 w13 fun w43 =>
          call P f_impl_magTrim [x19_8] w43 fun x57_44 w45 =>
          K x57_44 w45)) := by
    intro u v l r h1 h2 d1 d2 hlr hlen H
    rw [h1.row.len u_s_uint32, bin_addI1 (b := 1) (by omega)]
    refine OD.make u_s_uint32 i_uint32 (by omega) (by simp only [maxLen]; omega) fun w1 o ho he => ?_
    rw [(h1.ext he).row.len u_s_uint32]
    refine ⟨fun m x y w' => ∃ (i c : Nat) (q : List Nat), m + i = l.length ∧ x = .int .u64 (c : Int) ∧ y = .int .i64 (i : Int) ∧ Ext w w' ∧ OD .u32 t_uint32 w' w.heap.size o q ∧ q.length = l.length + 1 ∧ Dig 4294967296 q ∧ c ≤ 1 ∧
      val 4294967296 (q.take i) + c * 4294967296 ^ i = val 4294967296 (l.take i) + val 4294967296 (r.take i), ⟨l.length, 0, 0, _, rfl, rfl, rfl, he, ho, by simp, Dig_rep _ _ (by decide), by omega, by simp [val]⟩, ?_⟩
    rintro m x y junk w2 ⟨i, c, q, hm, rfl, rfl, e2, oq, hq, dq, hc, hv⟩
    rw [bin_lss]
    refine cnd_dec (fun hlt => ?_) (fun hge => ?_)
    · have hi : i < l.length := by omega
      refine (h1.ext e2).at hi u_s_uint32 i_uint32 u_uint32 ?_
      have g1 := Dig_get d1 hi
      rw [cnv_32_64' g1, bin_addN (by omega)]
      refine ⟨fun x w' => w' = w2 ∧ ∃ s : Nat, x = .int .u64 (s : Int) ∧ s = c + l[i] + r.getD i 0 ∧ r.getD i 0 < 4294967296, ?_, ?_⟩
      · rintro x junk w3 ⟨rfl, s, rfl, hs, hr⟩
        rw [cnv_64_32]
        refine OD.set oq (by omega) u_s_uint32 i_uint32 fun w4 oq' hg => ?_
        rw [bin_shrN (s := 32) (by decide), bin_addI1 (b := 1) (by omega)]
        refine ⟨m - 1, by omega, i + 1, s / 2 ^ 32, _, by omega, rfl, rfl, own_step e2 oq hg, oq', by simpa using hq, Dig_set dq (Nat.mod_lt _ (by decide)), by omega, ?_⟩
        rw [val_set_take _ (by omega), val_take_succD, val_take_succD, getD_get hi, pB]
        exact step_add hv hs
      · rw [(h2.ext e2).row.len u_s_uint32, bin_lss]
        refine cnd_dec (fun h => ?_) (fun h => ?_)
        · have hi2 : i < r.length := by omega
          refine (h2.ext e2).at hi2 u_s_uint32 i_uint32 u_uint32 ?_
          have g2 := Dig_get d2 hi2
          rw [cnv_32_64' g2, bin_addN (by omega)]
          exact ⟨rfl, _, rfl, by rw [getD_get hi2], by rw [getD_get hi2]; exact g2⟩
        · have : r.getD i 0 = 0 := by rw [List.getD_eq_getElem?_getD]; simp [show r.length ≤ i by omega]
          exact ⟨rfl, _, rfl, by omega, by omega⟩
    · have hi : i = l.length := by omega
      subst hi
      rw [(h1.ext e2).row.len u_s_uint32, cnv_64_32]
      refine OD.set oq (by omega) u_s_uint32 i_uint32 fun w4 oq' hg => ?_
      have hcm : c % 4294967296 = c := Nat.mod_eq_of_lt (by omega)
      rw [hcm] at oq'
      refine c_trimO oq' (Dig_set dq (by omega)) fun v' hv' => ?_
      have e : val 4294967296 (q.set l.length c) = val 4294967296 l + val 4294967296 r := by
        have h3 := val_set_take 4294967296 (l := q) (i := l.length) (x := c) (by omega)
        rw [List.take_of_length_le (by rw [List.length_set]; omega)] at h3
        rw [List.take_of_length_le (by omega : l.length ≤ l.length), List.take_of_length_le (by omega : r.length ≤ l.length)] at hv
        rw [h3, ← hv, Nat.mul_comm]
      rw [e] at hv'
      exact H _ _ (own_step e2 oq hg) hv'
  obtain ⟨l, h1, n1, rfl, _⟩ := ha
  obtain ⟨r, h2, n2, rfl, _⟩ := hb
  have l1 := dig_len n1 ba
  have l2 := dig_len n2 bb
  refine I_impl_magAdd ?_
  unfold D_impl_magAdd
  refine ⟨_, fun _ _ _ _ h => h, ?_⟩
  rw [h1.row.len u_s_uint32, h2.row.len u_s_uint32, bin_lss]
  refine cnd_dec (fun h => ?_) (fun h => ?_)
  · exact main h2 h1 n2.1 n1.1 (by omega) l2 (by rw [Nat.add_comm]; exact H)
  · exact main h1 h2 n1.1 n2.1 (by omega) l1 H

theorem wrap_u64_neg {x : Nat} (h0 : 0 < x) (h : x < 18446744073709551616) : IntKind.u64.wrap (-(x : Int)) = ((18446744073709551616 - x : Nat) : Int) := by
  simp [IntKind.wrap, IntKind.bits, IntKind.signed]; omega
theorem bin_subN {t : TypeId} {cx cy : Bool} {a b : Nat} {K : Value → Prop} (ha : a < 18446744073709551616) (hb : b < 18446744073709551616) : bin P .sub t cx cy (.int .u64 (a : Int)) (.int .u64 (b : Int)) w K = K (.int .u64 (((a + 18446744073709551616 - b) % 18446744073709551616 : Nat) : Int)) := by
  rw [bin_sub]
  congr 2
  by_cases h : b ≤ a
  · rw [show (a : Int) - b = ((a - b : Nat) : Int) by omega, w_u64' (by omega)]; omega
  · rw [show (a : Int) - b = -((b - a : Nat) : Int) by omega, wrap_u64_neg (by omega) (by omega)]; omega

theorem c_magSub {u v : Value} {a b : Nat} (ha : Mg w u a) (hb : Mg w v b) (hle : b ≤ a) (ba : bl a ≤ 1099511627776)
    (H : ∀ v' w', Ext w w' → MgO w' w.heap.size v' (a - b) → K v' w') : call P f_impl_magSub [u, v] w K := by
  obtain ⟨l, h1, n1, rfl, _⟩ := ha
  obtain ⟨r, h2, n2, rfl, _⟩ := hb
  have l1 := dig_len n1 ba
  have hlr := len_mono n1 n2 hle
  have d1 := n1.1
  have d2 := n2.1
  refine I_impl_magSub ?_
  unfold D_impl_magSub
  rw [h1.row.len u_s_uint32]
  refine OD.make u_s_uint32 i_uint32 (by omega) (by simp only [maxLen]; omega) fun w1 o ho he => ?_
  rw [(h1.ext he).row.len u_s_uint32]
  refine ⟨fun m x y w' => ∃ (i c : Nat) (q : List Nat), m + i = l.length ∧ x = .int .u64 (c : Int) ∧ y = .int .i64 (i : Int) ∧ Ext w w' ∧ OD .u32 t_uint32 w' w.heap.size o q ∧ q.length = l.length ∧ Dig 4294967296 q ∧ c ≤ 1 ∧
    val 4294967296 (q.take i) + val 4294967296 (r.take i) = val 4294967296 (l.take i) + c * 4294967296 ^ i, ⟨l.length, 0, 0, _, rfl, rfl, rfl, he, ho, by simp, Dig_rep _ _ (by decide), by omega, by simp [val]⟩, ?_⟩
  rintro m x y junk w2 ⟨i, c, q, hm, rfl, rfl, e2, oq, hq, dq, hc, hv⟩
  rw [bin_lss]
  refine cnd_dec (fun hlt => ?_) (fun hge => ?_)
  · have hi : i < l.length := by omega
    refine (h1.ext e2).at hi u_s_uint32 i_uint32 u_uint32 ?_
    have g1 := Dig_get d1 hi
    refine ⟨fun x w' => w' = w2 ∧ ∃ s : Nat, x = .int .u64 (s : Int) ∧ s = c + r.getD i 0 ∧ r.getD i 0 < 4294967296, ?_, ?_⟩
    · rintro x junk w3 ⟨rfl, s, rfl, hs, hr⟩
      rw [cnv_32_64' g1, bin_subN (by omega) (by omega), cnv_64_32]
      refine OD.set oq (by omega) u_s_uint32 i_uint32 fun w4 oq' hg => ?_
      rw [bin_shrN (s := 63) (by decide), bin_addI1 (b := 1) (by omega)]
      have key : (l[i] + 18446744073709551616 - s) % 18446744073709551616 % 4294967296 + s = l[i] + (l[i] + 18446744073709551616 - s) % 18446744073709551616 / 2 ^ 63 * 4294967296 ∧ (l[i] + 18446744073709551616 - s) % 18446744073709551616 / 2 ^ 63 ≤ 1 := by
        simp only [show (2 : Nat) ^ 63 = 9223372036854775808 from rfl]
        omega
      obtain ⟨k1, k2⟩ := key
      refine ⟨m - 1, by omega, i + 1, _, _, by omega, rfl, rfl, own_step e2 oq hg, oq', by simpa using hq, Dig_set dq (Nat.mod_lt _ (by decide)), k2, ?_⟩
      rw [val_set_take _ (by omega), val_take_succD, val_take_succD, getD_get hi, pB]
      exact step_sub32 hv hs k1
    · rw [(h2.ext e2).row.len u_s_uint32, bin_lss]
      refine cnd_dec (fun h => ?_) (fun h => ?_)
      · have hi2 : i < r.length := by omega
        refine (h2.ext e2).at hi2 u_s_uint32 i_uint32 u_uint32 ?_
        have g2 := Dig_get d2 hi2
        rw [cnv_32_64' g2, bin_addN (by omega)]
        exact ⟨rfl, _, rfl, by rw [getD_get hi2], by rw [getD_get hi2]; exact g2⟩
      · have : r.getD i 0 = 0 := by rw [List.getD_eq_getElem?_getD]; simp [show r.length ≤ i by omega]
        exact ⟨rfl, _, rfl, by omega, by omega⟩
  · have hi : i = l.length := by omega
    subst hi
    rw [List.take_of_length_le (by omega : l.length ≤ l.length), List.take_of_length_le (by omega : r.length ≤ l.length), List.take_of_length_le (by omega : q.length ≤ l.length)] at hv
    have hc0 : c = 0 := by
      have h3 := val_lt dq
      rw [hq] at h3
      rcases Nat.eq_zero_or_pos c with h | h
      · exact h
      · have : 1 * 4294967296 ^ l.length ≤ c * 4294967296 ^ l.length := Nat.mul_le_mul_right _ h
        omega
    subst hc0
    refine c_trimO oq dq fun v' hv' => ?_
    have e : val 4294967296 q = val 4294967296 l - val 4294967296 r := by omega
    rw [e] at hv'
    exact H _ _ e2 hv'

/-! ### copies -/
theorem bin_snil {t e : TypeId} {cx cy : Bool} {a : Option Addr} {n c : Nat} {K : Value → Prop} (hu : P.underlying t = some (.slice e)) : bin P .eql t cx cy (.slice a n c) (.slice none 0 0) w K = K (.bool a.isNone) := by
  refine bin_of (by unfold eqg eqGuard; rfl) ?_
  show rv P (do pure (Value.bool (← Op.equal t _ _))) w = _
  rw [rv_bind']
  have : rv P (Op.equal t (.slice a n c) (.slice none 0 0)) w = some a.isNone := by
    show rv P (Op.equalIn (9999 + 1) t _ _) w = _
    rw [Op.equalIn, rv_bind', rv_underlying hu]
    cases a <;> rfl
  rw [this]; rfl
theorem c_Clone {v : Value} {n : Nat} (h : Mg w v n) (hn : bl n ≤ 1099511627776) (H : ∀ v' w', Ext w w' → MgO w' w.heap.size v' n → K v' w') : call P f_slices_Clone_uint32_uint32 [v] w K := by
  obtain ⟨l, h1, n1, rfl, _⟩ := h
  have l1 := dig_len n1 hn
  refine I_slices_Clone_uint32_uint32 ?_
  unfold D_slices_Clone_uint32_uint32
  have hrow := h1.row
  obtain ⟨_, _, a, cap, rfl, hcell⟩ := hrow
  rw [bin_snil u_s_uint32]
  cases a with
  | none =>
    have hl0 : l.length = 0 := by
      refine Classical.byContradiction fun hne => ?_
      obtain ⟨_, _, h, _⟩ := hcell hne
      cases h
    obtain rfl : l = [] := List.eq_nil_of_length_eq_zero hl0
    exact cnd_yes rfl (H _ _ (Ext.refl _) (MgO.nil _ _))
  | some a =>
    refine cnd_no rfl ?_
    refine bsl_nil u_s_uint32 i_uint32 ?_
    have he := Ext_alloc w (.cells #[] t_uint32)
    have hz : (w.alloc (.cells #[] t_uint32)).ownsRow w.heap.size t_uint32 1 (.slice (some ⟨w.heap.size, 0, none⟩) 0 0) 0 [] := owns_lit w [] t_uint32
    generalize w.alloc (.cells #[] t_uint32) = w1 at he hz ⊢
    by_cases hl0 : l.length = 0
    · obtain rfl : l = [] := List.eq_nil_of_length_eq_zero hl0
      refine append_intro hz (h1.ext he).row (by simp) u_s_uint32 i_uint32 rfl (by decide) (Nat.zero_le _) (by decide) he.size fun v' w2 ho hg => ?_
      exact H _ _ (ext_of_grown he (fun g hq => (hz.lt g hq).1) hg) ⟨[], ho, n1, rfl⟩
    · refine append_fresh (h1.ext he).row (by simp [Value.oneCell']) u_s_uint32 i_uint32 rfl (by decide) (by omega) (by omega) fun v' w2 ho he2 => ?_
      exact H _ _ (he.trans he2) ⟨l, owns_base ho he.size, n1, rfl⟩

/-! ### products -/
theorem val_set_all (b : Nat) {l : List Nat} {i x : Nat} (h : i < l.length) : val b (l.set i x) + b ^ i * l[i] = val b l + b ^ i * x := by
  have h1 := val_split b l (i := i) (by omega)
  have h2 := val_split b (l.set i x) (i := i) (by simp; omega)
  rw [List.take_set_of_le (by omega)] at h2
  have h3 : (l.set i x).drop i = x :: l.drop (i + 1) := by
    rw [List.drop_eq_getElem_cons (by simpa using h), List.getElem_set_self, List.drop_set_of_lt (by omega)]
  have h4 : l.drop i = l[i] :: l.drop (i + 1) := List.drop_eq_getElem_cons h
  rw [h3] at h2
  rw [h4] at h1
  simp only [val] at h1 h2
  grind
theorem mul_step {V V' Q L p pi pk c x y o s : Nat} (hp : p = pi * pk) (hv : V + c * p = Q + x * L * pi) (hs : s = c + (x * y + o)) (hq : V' + p * o = V + p * (s % 4294967296)) :
    V' + s / 4294967296 * (p * 4294967296) = Q + x * (L + pk * y) * pi := by
  have h := Nat.div_add_mod s 4294967296
  have h2 : p * (4294967296 * (s / 4294967296) + s % 4294967296) = p * (c + (x * y + o)) := by rw [h, hs]
  subst hp
  grind
theorem mul_last {V V' A x y p pi pk c : Nat} (hp : p = pi * pk) (hv : V + c * p = A * y + x * y * pi) (hq : V' + p * 0 = V + p * c) : V' = (A + pi * x) * y := by
  subst hp
  grind
theorem mul_word {x y : Nat} (hx : x < 4294967296) (hy : y < 4294967296) : x * y ≤ 18446744065119617025 := by
  have : x * y ≤ 4294967295 * 4294967295 := Nat.mul_le_mul (by omega) (by omega)
  omega
theorem getD_set {l : List Nat} {i j x : Nat} (h : i < l.length) : (l.set i x).getD j 0 = if i = j then x else l.getD j 0 := by
  simp only [List.getD_eq_getElem?_getD, List.getElem?_set]
  by_cases e : i = j
  · subst e; simp [h]
  · simp [e]

theorem c_magMul {u v : Value} {a b : Nat} (ha : Mg w u a) (hb : Mg w v b) (ba : bl a ≤ 1099511627776) (bb : bl b ≤ 1099511627776)
    (H : ∀ v' w', Ext w w' → MgO w' w.heap.size v' (a * b) → K v' w') : call P f_impl_magMul [u, v] w K := by
  obtain ⟨l, h1, n1, rfl, _⟩ := ha
  obtain ⟨r, h2, n2, rfl, _⟩ := hb
  have l1 := dig_len n1 ba
  have l2 := dig_len n2 bb
  have d1 := n1.1
  have d2 := n2.1
  refine I_impl_magMul ?_
  unfold D_impl_magMul
  rw [h1.row.len u_s_uint32, h2.row.len u_s_uint32, bin_addI (by omega)]
  refine OD.make u_s_uint32 i_uint32 (by omega) (by simp only [maxLen]; omega) fun w1 o ho he => ?_
  rw [(h1.ext he).row.len u_s_uint32]
  refine ⟨fun m y w' => ∃ (i : Nat) (q : List Nat), m + i = l.length ∧ y = .int .i64 (i : Int) ∧ Ext w w' ∧ OD .u32 t_uint32 w' w.heap.size o q ∧ q.length = l.length + r.length ∧ Dig 4294967296 q ∧ (∀ j, i + r.length ≤ j → q.getD j 0 = 0) ∧
    val 4294967296 q = val 4294967296 (l.take i) * val 4294967296 r, ⟨l.length, 0, _, rfl, rfl, he, ho, by simp, Dig_rep _ _ (by decide), fun j _ => by simp [List.getElem?_replicate]; split <;> rfl, by simp [val, val_replicate]⟩, ?_⟩
  rintro m y junk w2 ⟨i, q, hm, rfl, e2, oq, hq, dq, hz, hv⟩
  rw [bin_lss]
  refine cnd_dec (fun hlt => ?_) (fun hge => ?_)
  · have hi : i < l.length := by omega
    refine (h1.ext e2).at hi u_s_uint32 i_uint32 u_uint32 ?_
    have g1 := Dig_get d1 hi
    rw [(h2.ext e2).row.len u_s_uint32]
    refine ⟨fun m' x y w' => ∃ (k c : Nat) (q' : List Nat), m' + k = r.length ∧ x = .int .u64 (c : Int) ∧ y = .int .i64 (k : Int) ∧ Ext w w' ∧ OD .u32 t_uint32 w' w.heap.size o q' ∧ q'.length = l.length + r.length ∧ Dig 4294967296 q' ∧ (∀ j, i + r.length ≤ j → q'.getD j 0 = 0) ∧ c < 4294967296 ∧
      val 4294967296 q' + c * 4294967296 ^ (i + k) = val 4294967296 (l.take i) * val 4294967296 r + l[i] * val 4294967296 (r.take k) * 4294967296 ^ i,
      ⟨r.length, 0, 0, q, rfl, rfl, rfl, e2, oq, hq, dq, hz, by omega, by simp [val, hv]⟩, ?_⟩
    rintro m' x y junk w3 ⟨k, c, q', hm', rfl, rfl, e3, oq', hq', dq', hz', hc, hv'⟩
    rw [bin_lss]
    refine cnd_dec (fun hlt' => ?_) (fun hge' => ?_)
    · have hk : k < r.length := by omega
      refine (h2.ext e3).at hk u_s_uint32 i_uint32 u_uint32 ?_
      have g2 := Dig_get d2 hk
      have hik : i + k < q'.length := by omega
      have g3 := Dig_get dq' hik
      have hw := mul_word g1 g2
      rw [cnv_32_64' g1, cnv_32_64' g2, bin_mulN (by omega), bin_addI (by omega)]
      refine oq'.IR.at hik u_s_uint32 i_uint32 u_uint32 ?_
      rw [cnv_32_64' g3, bin_addN (by omega), bin_addN (by omega), bin_addI (by omega), cnv_64_32]
      refine OD.set oq' hik u_s_uint32 i_uint32 fun w4 oq4 hg => ?_
      rw [bin_shrN (s := 32) (by decide), bin_addI1 (b := 1) (by omega)]
      refine ⟨m' - 1, by omega, k + 1, _, _, by omega, rfl, rfl, own_step e3 oq' hg, oq4, by simpa using hq', Dig_set dq' (Nat.mod_lt _ (by decide)), fun j hj => ?_, ?_, ?_⟩
      · rw [getD_set hik, if_neg (by omega)]; exact hz' j hj
      · have : c + (l[i] * r[k] + q'[i + k]) < 18446744073709551616 := by omega
        simp only [show (2 : Nat) ^ 32 = 4294967296 from rfl]
        omega
      · rw [val_take_succD, getD_get hk, show (4294967296 : Nat) ^ (i + (k + 1)) = 4294967296 ^ (i + k) * 4294967296 from pB (i + k)]
        exact mul_step (Nat.pow_add ..) hv' rfl (val_set_all _ hik)
    · have hk : k = r.length := by omega
      subst hk
      have hik : i + r.length < q'.length := by omega
      rw [(h2.ext e3).row.len u_s_uint32, bin_addI (by omega), cnv_64_32]
      refine OD.set oq' hik u_s_uint32 i_uint32 fun w4 oq4 hg => ?_
      rw [bin_addI1 (b := 1) (by omega)]
      have hcm : c % 4294967296 = c := Nat.mod_eq_of_lt (by omega)
      rw [hcm] at oq4
      refine ⟨m - 1, by omega, i + 1, _, by omega, rfl, own_step e3 oq' hg, oq4, by simpa using hq', Dig_set dq' (by omega), fun j hj => ?_, ?_⟩
      · rw [getD_set hik, if_neg (by omega)]; exact hz' j (by omega)
      · rw [val_take_succD, getD_get hi]
        rw [List.take_of_length_le (Nat.le_refl _)] at hv'
        refine mul_last (Nat.pow_add ..) hv' ?_
        have h3 := val_set_all 4294967296 (l := q') (x := c) hik
        have h4 := hz' (i + r.length) (Nat.le_refl _)
        rw [getD_get hik] at h4
        rw [h4] at h3
        exact h3
  · have hi : i = l.length := by omega
    subst hi
    rw [List.take_of_length_le (Nat.le_refl _)] at hv
    refine c_trimO oq dq fun v' hv' => ?_
    rw [hv] at hv'
    exact H _ _ e2 hv'
end Go.Proofs.Ytabgkpfcpncmhaa

/- Contracts: shifts and lengths of magnitudes. -/
set_option linter.unusedVariables false
namespace Go.Proofs.Ytabgkpfcpncmhaa
open Go Go.Vc

variable {w : World} {K : Value → World → Prop}

/-! ### words -/
section
variable {t : TypeId} {cx cy : Bool} {k yk : IntKind} {a b s : Nat} {c : Int} {K : Value → Prop}
theorem kmin_le (k : IntKind) : k.min ≤ 0 := by cases k <;> decide
theorem wrap_nat {k : IntKind} {x : Nat} (h : (x : Int) ≤ k.max) : k.wrap (x : Int) = (x : Int) := wrap_of (Int.le_trans (kmin_le k) (Int.natCast_nonneg _)) h
theorem bin_quoN (h : (a : Int) ≤ k.max) (hb : b ≠ 0) (hc : c = (b : Int) := by rfl) : bin P .quo t cx cy (.int k (a : Int)) (.int k c) w K = K (.int k ((a / b : Nat) : Int)) := by
  subst hc
  rw [bin_quo _ _ _ _ _ _ _ (by omega)]
  have e : Int.tdiv (a : Int) (b : Int) = ((a / b : Nat) : Int) := by rw [Int.ofNat_tdiv]
  rw [e, wrap_nat (Int.le_trans (by
    have := Nat.div_le_self a b
    omega) h)]
theorem bin_remN (hb : b ≠ 0) (hc : c = (b : Int) := by rfl) : bin P .rem t cx cy (.int k (a : Int)) (.int k c) w K = K (.int k ((a % b : Nat) : Int)) := by
  subst hc
  rw [bin_rem _ _ _ _ _ _ _ (by omega)]
  have e : Int.tmod (a : Int) (b : Int) = ((a % b : Nat) : Int) := by rw [Int.ofNat_tmod]
  rw [e]
theorem bin_shlN (hs : s ≤ k.bits) (h : ((a * 2 ^ s : Nat) : Int) ≤ k.max) (hc : c = (s : Int) := by rfl) : bin P .shl t cx cy (.int k (a : Int)) (.int yk c) w K = K (.int k ((a * 2 ^ s : Nat) : Int)) := by
  subst hc
  rw [bin_shl _ _ _ _ _ _ _ _ (by omega)]
  have e : min ((s : Int).toNat) k.bits = s := by rw [Int.toNat_natCast]; omega
  rw [e]
  have : (a : Int) * 2 ^ s = ((a * 2 ^ s : Nat) : Int) := by simp
  rw [this, wrap_nat h]
theorem toNat_word {n a : Nat} (h : a < 2 ^ n) : (BitVec.ofInt n (a : Int)).toNat = a := by
  rw [BitVec.ofInt_natCast, BitVec.toNat_ofNat, Nat.mod_eq_of_lt h]
theorem bin_orN (ha : a < 2 ^ k.bits) (hb : b < 2 ^ k.bits) (hk : k.signed = false) (hc : c = (b : Int) := by rfl) : bin P .or t cx cy (.int k (a : Int)) (.int k c) w K = K (.int k ((a ||| b : Nat) : Int)) := by
  subst hc
  rw [bin_or, BitVec.toNat_or, toNat_word ha, toNat_word hb]
  have h := Nat.or_lt_two_pow ha hb
  rw [wrap_nat]
  cases k <;> simp [IntKind.signed] at hk <;> simp [IntKind.max, IntKind.signed, IntKind.bits] at h ⊢ <;> omega
theorem bin_andN (ha : a < 2 ^ k.bits) (hb : b < 2 ^ k.bits) (hk : k.signed = false) (hc : c = (b : Int) := by rfl) : bin P .and t cx cy (.int k (a : Int)) (.int k c) w K = K (.int k ((a &&& b : Nat) : Int)) := by
  subst hc
  rw [bin_and, BitVec.toNat_and, toNat_word ha, toNat_word hb]
  have h : a &&& b ≤ a := Nat.and_le_left
  rw [wrap_nat]
  cases k <;> simp [IntKind.signed] at hk <;> simp [IntKind.max, IntKind.signed, IntKind.bits] at ha ⊢ <;> omega
theorem max_u64 : IntKind.u64.max = 18446744073709551615 := rfl
theorem max_u32 : IntKind.u32.max = 4294967295 := rfl
theorem max_i64 : IntKind.i64.max = 9223372036854775807 := rfl
theorem cnv_uint_int (h : a ≤ 9223372036854775807) : cnv P t_uint t_int (.int .u64 (a : Int)) w K = K (.int .i64 (a : Int)) := by
  rw [cnv_int_int u_uint u_int, wrap_i64 (by omega) (by omega)]
theorem cnv_int_uint (h : a ≤ 9223372036854775807) : cnv P t_int t_uint (.int .i64 (a : Int)) w K = K (.int .u64 (a : Int)) := by
  rw [cnv_int_int u_int u_uint, w_u64' (by omega)]
end

/-! ### to the left -/
theorem left_or {d s old : Nat} (hs : s < 32) (hd : d < 4294967296) (ho : old < 2 ^ s) : old ||| (d * 2 ^ s % 4294967296) = old + d * 2 ^ s % 4294967296 := by
  have e : d * 2 ^ s % 4294967296 = 2 ^ s * (d % 2 ^ (32 - s)) := by
    have h32 : (4294967296 : Nat) = 2 ^ s * 2 ^ (32 - s) := by rw [← Nat.pow_add, show s + (32 - s) = 32 by omega]
    rw [h32, Nat.mul_comm d, Nat.mul_mod_mul_left]
  rw [e, Nat.or_comm, ← Nat.two_pow_add_eq_or_of_lt ho, Nat.add_comm]
theorem left_step {V V1 V2 T x p q2 old wd f d p0 : Nat} (hV : V = T * f) (h1 : V1 + p * old = V + p * (old + wd % 4294967296)) (h2 : V2 + p * 4294967296 * 0 = V1 + p * 4294967296 * (wd / 4294967296)) (hp : p * wd = p0 * d * f) : V2 = (T + p0 * d) * f := by
  have h := Nat.div_add_mod wd 4294967296
  have h3 : p * (4294967296 * (wd / 4294967296) + wd % 4294967296) = p0 * d * f := by rw [h, hp]
  subst hV
  grind

theorem c_magLeft {u : Value} {a n : Nat} (ha : Mg w u a) (ba : bl a ≤ 1099511627776) (bn : n ≤ 1099511627776)
    (H : ∀ v' w', Ext w w' → MgO w' w.heap.size v' (a * 2 ^ n) → K v' w') : call P f_impl_magLeft [u, .int .u64 (n : Int)] w K := by
  obtain ⟨l, h1, n1, rfl, _⟩ := ha
  have l1 := dig_len n1 ba
  have d1 := n1.1
  refine I_impl_magLeft ?_
  unfold D_impl_magLeft
  rw [h1.row.len u_s_uint32, bin_eql]
  refine cnd_dec (fun h0 => ?_) (fun h0 => ?_)
  · obtain rfl : l = [] := List.eq_nil_of_length_eq_zero (by omega)
    have := H _ _ (Ext.refl _) (by
      have := MgO.nil w w.heap.size
      simpa [val] using this)
    exact this
  · rw [bin_quoN (b := 32) (by rw [max_u64]; omega) (by decide), cnv_uint_int (by omega), h1.row.len u_s_uint32, bin_addI (by omega), bin_addI1 (b := 1) (by omega)]
    refine OD.make u_s_uint32 i_uint32 (by omega) (by simp only [maxLen]; omega) fun w1 o ho he => ?_
    rw [(h1.ext he).row.len u_s_uint32]
    refine ⟨fun m y w' => ∃ (i : Nat) (q : List Nat), m + i = l.length ∧ y = .int .i64 (i : Int) ∧ Ext w w' ∧ OD .u32 t_uint32 w' w.heap.size o q ∧ q.length = n / 32 + l.length + 1 ∧ Dig 4294967296 q ∧ (∀ j, n / 32 + i < j → q.getD j 0 = 0) ∧ q.getD (n / 32 + i) 0 < 2 ^ (n % 32) ∧
      val 4294967296 q = val 4294967296 (l.take i) * 2 ^ n, ⟨l.length, 0, _, rfl, rfl, he, ho, by simp, Dig_rep _ _ (by decide), fun j _ => by simp [List.getElem?_replicate]; split <;> rfl, by
        have : (List.replicate (n / 32 + l.length + 1) 0).getD (n / 32 + 0) 0 = 0 := by simp [List.getElem?_replicate]; split <;> rfl
        rw [this]; exact Nat.two_pow_pos _, by simp [val, val_replicate]⟩, ?_⟩
    rintro m y junk w2 ⟨i, q, hm, rfl, e2, oq, hq, dq, hz, hold, hv⟩
    rw [bin_lss]
    refine cnd_dec (fun hlt => ?_) (fun hge => ?_)
    · have hi : i < l.length := by omega
      refine (h1.ext e2).at hi u_s_uint32 i_uint32 u_uint32 ?_
      have g1 := Dig_get d1 hi
      have hs : n % 32 < 32 := Nat.mod_lt _ (by decide)
      have hps : 2 ^ (n % 32) ≤ 2147483648 := by
        have := Nat.pow_le_pow_right (n := 2) (by decide) (show n % 32 ≤ 31 by omega)
        exact this
      have hwd : l[i] * 2 ^ (n % 32) ≤ 4294967295 * 2147483648 := Nat.mul_le_mul (by omega) hps
      have hi1 : n / 32 + i < q.length := by omega
      have hi2 : n / 32 + i + 1 < q.length := by omega
      rw [cnv_32_64' g1, bin_remN (b := 32) (by decide), bin_shlN (s := n % 32) (by simp only [IntKind.bits]; omega) (by rw [max_u64]; omega)]
      rw [bin_quoN (b := 32) (by rw [max_u64]; omega) (by decide), cnv_uint_int (by omega), bin_addI (by omega)]
      refine oq.IR.at hi1 u_s_uint32 i_uint32 u_uint32 ?_
      have g3 := Dig_get dq hi1
      rw [cnv_64_32, bin_orN (by simpa [IntKind.bits] using g3) (by have := Nat.mod_lt (l[i] * 2 ^ (n % 32)) (show 0 < 4294967296 by decide); simpa [IntKind.bits] using this) rfl]
      rw [getD_get hi1] at hold
      rw [left_or hs g1 hold]
      refine OD.set oq hi1 u_s_uint32 i_uint32 fun w3 oq3 hg3 => ?_
      have e3 := own_step e2 oq hg3
      rw [bin_quoN (b := 32) (by rw [max_u64]; omega) (by decide), cnv_uint_int (by omega), bin_addI (by omega), bin_addI1 (b := 1) (by omega), bin_shrN (s := 32) (by decide), cnv_64_32]
      refine OD.set oq3 (by simpa using hi2) u_s_uint32 i_uint32 fun w4 oq4 hg4 => ?_
      rw [bin_addI1 (b := 1) (by omega)]
      have hhi : l[i] * 2 ^ (n % 32) / 2 ^ 32 < 2 ^ (n % 32) := by
        rw [Nat.div_lt_iff_lt_mul (Nat.two_pow_pos _), Nat.mul_comm]
        exact Nat.mul_lt_mul_of_pos_left g1 (Nat.two_pow_pos _)
      have hmod : l[i] * 2 ^ (n % 32) / 2 ^ 32 % 4294967296 = l[i] * 2 ^ (n % 32) / 2 ^ 32 := Nat.mod_eq_of_lt (by omega)
      rw [hmod] at oq4
      have hlo : q[n / 32 + i] + l[i] * 2 ^ (n % 32) % 4294967296 < 4294967296 := by
        rw [← left_or hs g1 hold]
        exact Nat.or_lt_two_pow (n := 32) g3 (Nat.mod_lt _ (by decide))
      refine ⟨m - 1, by omega, i + 1, _, by omega, rfl, own_step e3 oq3 hg4, oq4, by simpa using hq, Dig_set (Dig_set dq hlo) (by omega), fun j hj => ?_, ?_, ?_⟩
      · rw [getD_set (by simpa using hi2), if_neg (by omega), getD_set hi1, if_neg (by omega)]
        exact hz j (by omega)
      · rw [show n / 32 + (i + 1) = n / 32 + i + 1 from rfl, getD_set (by simpa using hi2), if_pos rfl]; exact hhi
      · rw [val_take_succD, getD_get hi]
        have a1 := val_set_all 4294967296 (l := q) (x := q[n / 32 + i] + l[i] * 2 ^ (n % 32) % 4294967296) hi1
        have hi2' : n / 32 + i + 1 < (q.set (n / 32 + i) (q[n / 32 + i] + l[i] * 2 ^ (n % 32) % 4294967296)).length := by simpa using hi2
        have a2 := val_set_all 4294967296 (x := l[i] * 2 ^ (n % 32) / 2 ^ 32) hi2'
        have hz0 : (q.set (n / 32 + i) (q[n / 32 + i] + l[i] * 2 ^ (n % 32) % 4294967296))[n / 32 + i + 1] = 0 := by
          have := hz (n / 32 + i + 1) (by omega)
          rw [getD_get hi2] at this
          rw [List.getElem_set_ne (by omega)]; exact this
        rw [hz0, pB] at a2
        refine left_step (x := 0) (q2 := 0) hv a1 a2 ?_
        have hn : 2 ^ n = 4294967296 ^ (n / 32) * 2 ^ (n % 32) := by
          conv => lhs; rw [← Nat.div_add_mod n 32, Nat.pow_add, Nat.pow_mul]
        rw [hn, Nat.pow_add]
        grind
    · have hi : i = l.length := by omega
      subst hi
      rw [List.take_of_length_le (Nat.le_refl _)] at hv
      refine c_trimO oq dq fun v' hv' => ?_
      rw [hv] at hv'
      exact H _ _ e2 hv'

/-! ### to the right -/
theorem right_or {d x : Nat} (hd : d < 4294967296) : d ||| x * 4294967296 = d + x * 4294967296 := by
  have := Nat.two_pow_add_eq_or_of_lt (i := 32) hd x
  rw [Nat.or_comm, Nat.mul_comm x, show (4294967296 : Nat) = 2 ^ 32 from rfl, ← this, Nat.add_comm]
theorem right_dig {l : List Nat} {i s : Nat} (hd : Dig 4294967296 l) (hi : i < l.length) (hs : s < 32) :
    val 4294967296 l / 2 ^ s / 4294967296 ^ i % 4294967296 = (l[i] + l.getD (i + 1) 0 * 4294967296) / 2 ^ s % 4294967296 := by
  have h1 : val 4294967296 l / 2 ^ s / 4294967296 ^ i = val 4294967296 l / 4294967296 ^ i / 2 ^ s := by
    rw [Nat.div_div_eq_div_mul, Nat.div_div_eq_div_mul, Nat.mul_comm]
  have h2 : val 4294967296 l / 4294967296 ^ i = val 4294967296 (l.drop i) := by
    have hp : 0 < 4294967296 ^ i := Nat.pow_pos (by decide)
    rw [val_split _ l (Nat.le_of_lt hi), Nat.add_mul_div_left _ _ hp, Nat.div_eq_of_lt, Nat.zero_add]
    have := val_lt (hd.take i)
    rw [List.length_take, Nat.min_eq_left (by omega)] at this
    exact this
  have h3 : ∃ X, val 4294967296 (l.drop i) = l[i] + l.getD (i + 1) 0 * 4294967296 + 18446744073709551616 * X := by
    rw [List.drop_eq_getElem_cons hi, val]
    by_cases h : i + 1 < l.length
    · rw [List.drop_eq_getElem_cons h, val, getD_get h]
      exact ⟨val 4294967296 (l.drop (i + 1 + 1)), by grind⟩
    · rw [List.drop_eq_nil_of_le (by omega), val]
      have : l.getD (i + 1) 0 = 0 := by rw [List.getD_eq_getElem?_getD]; simp [show l.length ≤ i + 1 by omega]
      exact ⟨0, by rw [this]⟩
  obtain ⟨X, hX⟩ := h3
  rw [h1, h2, hX]
  have h4 : 18446744073709551616 * X = 2 ^ s * (4294967296 * (2 ^ (32 - s) * X)) := by
    have : (4294967296 : Nat) = 2 ^ s * 2 ^ (32 - s) := by rw [← Nat.pow_add, show s + (32 - s) = 32 by omega]
    have h5 : (18446744073709551616 : Nat) = 4294967296 * (2 ^ s * 2 ^ (32 - s)) := by rw [← this]
    rw [h5]; grind
  rw [h4, Nat.add_mul_div_left _ _ (Nat.two_pow_pos _), Nat.add_mul_mod_self_left]

theorem c_magRight {u : Value} {a n : Nat} (ha : Mg w u a) (ba : bl a ≤ 1099511627776) (bn : n ≤ 9223372036854775807)
    (H : ∀ v' w', Ext w w' → MgO w' w.heap.size v' (a / 2 ^ n) → K v' w') : call P f_impl_magRight [u, .int .u64 (n : Int)] w K := by
  obtain ⟨l, h1, n1, rfl, _⟩ := ha
  have l1 := dig_len n1 ba
  have d1 := n1.1
  have hn : 2 ^ n = 4294967296 ^ (n / 32) * 2 ^ (n % 32) := by
    conv => lhs; rw [← Nat.div_add_mod n 32, Nat.pow_add, Nat.pow_mul]
  refine I_impl_magRight ?_
  unfold D_impl_magRight
  rw [h1.row.len u_s_uint32, cnv_int_uint (by omega), bin_quoN (b := 32) (by rw [max_u64]; omega) (by decide), bin_leq]
  refine cnd_dec (fun h0 => ?_) (fun h0 => ?_)
  · have e : val 4294967296 l / 2 ^ n = 0 := by
      refine Nat.div_eq_of_lt (Nat.lt_of_lt_of_le (val_lt d1) ?_)
      rw [hn]
      refine Nat.le_trans (Nat.pow_le_pow_right (by decide) (by omega : l.length ≤ n / 32)) (Nat.le_mul_of_pos_right _ (Nat.two_pow_pos _))
    rw [e] at H
    exact H _ _ (Ext.refl _) (MgO.nil _ _)
  · have hle : n / 32 < l.length := by omega
    rw [bin_quoN (b := 32) (by rw [max_u64]; omega) (by decide)]
    refine Row.sli_l h1.row h1.cap u_s_uint32 i_uint32 (by omega) fun v' r1 r2 => ?_
    have hl' : (l.drop (n / 32)).length = l.length - n / 32 := List.length_drop
    have hm : IR .u32 w v' (l.drop (n / 32)) := ⟨by rw [hl', List.map_drop]; exact r1, r2⟩
    have hdiv : val 4294967296 l / 2 ^ n = val 4294967296 (l.drop (n / 32)) / 2 ^ (n % 32) := by
      rw [hn, ← Nat.div_div_eq_div_mul]
      congr 1
      have hp : 0 < 4294967296 ^ (n / 32) := Nat.pow_pos (by decide)
      conv => lhs; rw [val_split _ l (Nat.le_of_lt hle)]
      rw [Nat.add_mul_div_left _ _ hp, Nat.div_eq_of_lt, Nat.zero_add]
      have := val_lt (d1.take (n / 32))
      rw [List.length_take, Nat.min_eq_left (by omega)] at this
      exact this
    have dm : Dig 4294967296 (l.drop (n / 32)) := d1.drop _
    rw [hdiv] at H
    generalize l.drop (n / 32) = r at *
    have hs : n % 32 < 32 := Nat.mod_lt _ (by decide)
    rw [hm.row.len u_s_uint32]
    refine OD.make u_s_uint32 i_uint32 (by omega) (by simp only [maxLen]; omega) fun w1 o ho he => ?_
    rw [(hm.ext he).row.len u_s_uint32]
    refine ⟨fun m y w' => ∃ (i : Nat) (q : List Nat), m + i = r.length ∧ y = .int .i64 (i : Int) ∧ Ext w w' ∧ OD .u32 t_uint32 w' w.heap.size o q ∧ q.length = r.length ∧ Dig 4294967296 q ∧
      val 4294967296 (q.take i) = val 4294967296 r / 2 ^ (n % 32) % 4294967296 ^ i, ⟨r.length, 0, _, rfl, rfl, he, ho, by simp, Dig_rep _ _ (by decide), by simp [val, Nat.mod_one]⟩, ?_⟩
    rintro m y junk w2 ⟨i, q, hmi, rfl, e2, oq, hq, dq, hv⟩
    rw [bin_lss]
    refine cnd_dec (fun hlt => ?_) (fun hge => ?_)
    · have hi : i < r.length := by omega
      refine (hm.ext e2).at hi u_s_uint32 i_uint32 u_uint32 ?_
      have g1 := Dig_get dm hi
      rw [cnv_32_64' g1]
      refine ⟨fun x w' => w' = w2 ∧ x = .int .u64 ((r[i] + r.getD (i + 1) 0 * 4294967296 : Nat) : Int) ∧ r.getD (i + 1) 0 < 4294967296, ?_, ?_⟩
      · rintro x junk w3 ⟨rfl, rfl, hx⟩
        rw [bin_remN (b := 32) (by decide), bin_shrN (s := n % 32) (by simp only [IntKind.bits]; omega), cnv_64_32]
        refine OD.set oq (by omega) u_s_uint32 i_uint32 fun w4 oq4 hg => ?_
        rw [bin_addI1 (b := 1) (by omega)]
        refine ⟨m - 1, by omega, i + 1, _, by omega, rfl, own_step e2 oq hg, oq4, by simpa using hq, Dig_set dq (Nat.mod_lt _ (by decide)), ?_⟩
        rw [val_set_take _ (by omega), hv, ← right_dig dm hi hs, Nat.mod_pow_succ]
      · rw [bin_addI1 (b := 1) (by omega), (hm.ext e2).row.len u_s_uint32, bin_lss]
        refine cnd_dec (fun h => ?_) (fun h => ?_)
        · have hi2 : i + 1 < r.length := by omega
          have g2 := Dig_get dm hi2
          rw [bin_addI1 (b := 1) (by omega)]
          refine (hm.ext e2).at hi2 u_s_uint32 i_uint32 u_uint32 ?_
          rw [cnv_32_64' g2, bin_shlN (s := 32) (by decide) (by rw [max_u64]; simp only [show (2 : Nat) ^ 32 = 4294967296 from rfl]; omega)]
          rw [show (2 : Nat) ^ 32 = 4294967296 from rfl]
          rw [bin_orN (b := r[i + 1] * 4294967296) (by simp only [IntKind.bits]; omega) (by simp only [IntKind.bits]; omega) rfl, right_or g1, getD_get hi2]
          exact ⟨rfl, rfl, g2⟩
        · have : r.getD (i + 1) 0 = 0 := by rw [List.getD_eq_getElem?_getD]; simp [show r.length ≤ i + 1 by omega]
          rw [this]
          exact ⟨rfl, by simp, by decide⟩
    · have hi : i = r.length := by omega
      subst hi
      rw [List.take_of_length_le (by omega), Nat.mod_eq_of_lt (Nat.lt_of_le_of_lt (Nat.div_le_self _ _) (val_lt dm))] at hv
      refine c_trimO oq dq fun v' hv' => ?_
      rw [hv] at hv'
      exact H _ _ e2 hv'

/-! ### lengths -/
theorem bl_top {k low top : Nat} (hl : low < 2 ^ k) (ht : top ≠ 0) : bl (low + 2 ^ k * top) = k + bl top := by
  have h1 := two_bl_le ht
  have h2 := lt_two_bl top
  have h3 := bl_pos ht
  have := bl_eq (n := low + 2 ^ k * top) (k := k + (bl top - 1)) (by
    rw [Nat.pow_add]
    have := Nat.mul_le_mul_left (2 ^ k) h1
    omega) (by
    rw [show k + (bl top - 1) + 1 = k + bl top by omega, Nat.pow_add]
    have h4 : 2 ^ k * (top + 1) ≤ 2 ^ k * 2 ^ bl top := Nat.mul_le_mul_left _ h2
    rw [Nat.mul_add] at h4
    omega)
  omega
theorem bl_val {l : List Nat} (h : Norm 4294967296 l) (hl : 0 < l.length) : bl (val 4294967296 l) = 32 * (l.length - 1) + bl (l[l.length - 1]) ∧ l[l.length - 1] ≠ 0 := by
  have hz : l[l.length - 1] ≠ 0 := by
    intro hz
    have := h.2
    rw [List.getLast?_eq_getElem?, List.getElem?_eq_getElem (by omega), hz] at this
    exact this rfl
  refine ⟨?_, hz⟩
  have h1 := val_split 4294967296 l (i := l.length - 1) (by omega)
  rw [List.drop_eq_getElem_cons (by omega), List.drop_eq_nil_of_le (by omega)] at h1
  simp only [val, Nat.mul_zero, Nat.add_zero] at h1
  have h2 := val_lt (h.1.take (l.length - 1))
  rw [List.length_take, Nat.min_eq_left (by omega)] at h2
  have hp : (4294967296 : Nat) ^ (l.length - 1) = 2 ^ (32 * (l.length - 1)) := by rw [Nat.pow_mul]
  rw [hp] at h1 h2
  rw [h1, bl_top h2 hz]

theorem c_magBits {u : Value} {a : Nat} (ha : Mg w u a) (ba : bl a ≤ 1099511627776) (H : K (.int .i64 (bl a : Nat)) w) : call P f_impl_magBits [u] w K := by
  obtain ⟨l, h1, n1, rfl, _⟩ := ha
  have l1 := dig_len n1 ba
  refine I_impl_magBits ?_
  unfold D_impl_magBits
  rw [h1.row.len u_s_uint32, bin_eql]
  refine cnd_dec (fun h0 => ?_) (fun h0 => ?_)
  · obtain rfl : l = [] := List.eq_nil_of_length_eq_zero (by omega)
    exact H
  · have hl : 0 < l.length := by omega
    obtain ⟨e1, e2⟩ := bl_val n1 hl
    rw [h1.row.len u_s_uint32, bin_subI1 (b := 1) (by omega) (by omega), bin_mul, wrap_i64 (by omega) (by omega), h1.row.len u_s_uint32, bin_subI1 (b := 1) (by omega) (by omega)]
    refine h1.at (by omega) u_s_uint32 i_uint32 u_uint32 ?_
    have g1 := Dig_get n1.1 (show l.length - 1 < l.length by omega)
    refine ⟨fun m x y w' => w' = w ∧ ∃ d c : Nat, x = .int .i64 (c : Int) ∧ y = .int .u32 (d : Int) ∧ m = bl d ∧ c + bl d = bl (val 4294967296 l), ⟨bl l[l.length - 1], rfl, l[l.length - 1], 32 * (l.length - 1), by congr 1, rfl, rfl, by omega⟩, ?_⟩
    rintro m x y junk w' ⟨rfl, d, c, rfl, rfl, rfl, hc⟩
    rw [bin_gtr]
    refine cnd_dec (fun hd => ?_) (fun hd => ?_)
    · rw [bin_addI1 (b := 1) (by omega), bin_shrN (s := 1) (by decide)]
      have hb := bl_shr d 1
      have hp := bl_pos (n := d) (by omega)
      exact ⟨_, by rw [hb]; omega, rfl, _, _, rfl, rfl, rfl, by rw [hb]; omega⟩
    · have : d = 0 := by omega
      subst this
      rw [bl_zero] at hc
      rw [← hc] at H
      exact H
end Go.Proofs.Ytabgkpfcpncmhaa
