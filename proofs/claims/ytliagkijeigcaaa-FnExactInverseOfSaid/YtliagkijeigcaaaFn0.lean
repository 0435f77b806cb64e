/- Written by a program (gen.py): what is left to show of each function's call. -/
import Derived.Test.YtliagkijeigcaaaIds
set_option linter.unusedVariables false
namespace Go.Proofs.Ytliagkijeigcaaa
open Go Go.Vc

/-- laws.FnExactIsMatrix -/
def D_laws_FnExactIsMatrix (a0 : Value) (w : World) (K : Value → World → Prop) : Prop :=
  call P f_laws_szFloat32SS [a0, (.int .i64 1048576)] w fun x9_1 w2 =>
  bin P .lss 3 false true x9_1 (.int .i64 0) w2 fun x11_3 =>
  cnd x11_3
    (K (.bool true) w2)
    (call P f_laws_toFloat32SS [a0] w2 fun x13_4 w5 =>
    call P f_spec_IsMatrix [x13_4] w5 fun x14_6 w7 =>
    call P f_laws_toFloat32SS [a0] w7 fun x16_8 w9 =>
    call P f_impl_IsMatrix [x16_8] w9 fun x18_10 w11 =>
    bin P .neq 4 false false x18_10 x14_6 w11 fun x21_12 =>
    cnd x21_12
      (K (.bool false) w11)
      (call P f_laws_toFloat32SS [a0] w11 fun x24_13 w14 =>
      call P f_laws_eqFloat32SS [x16_8, x24_13] w14 fun x25_15 w16 =>
      una P .not x25_15 w16 fun x26_17 =>
      cnd x26_17
        (K (.bool false) w16)
        (K (.bool true) w16)))
def P_laws_FnExactIsMatrix : Plan := (.seq (.reg [.op (0, 0, false)]) (.seq (.reg [.op (0, 0, false)]) (.seq (.reg [.op (0, 0, false), .op (1, 0, false), .op (2, 2, false), .op (3, 0, false)]) (.seq (.seq (.reg [.op (0, 0, false), .op (1, 0, false)]) (.cond (.seq (.reg [.op (0, 0, false)]) .leaf) .leaf)) (.seq (.reg [.op (0, 0, false), .op (1, 2, false), .op (2, 2, false), .op (3, 0, false)]) (.seq (.reg [.op (0, 0, false), .op (1, 2, false), .op (2, 0, false)]) (.seq (.reg [.op (0, 0, false), .op (1, 2, false), .op (2, 0, false)]) (.seq (.seq (.reg [.op (0, 0, false), .op (1, 0, false), .op (2, 0, false)]) (.cond (.seq (.reg [.op (0, 0, false)]) .leaf) .leaf)) (.seq (.seq (.reg [.op (0, 0, false), .op (1, 0, false), .op (2, 2, false), .op (3, 2, false), .op (4, 0, false)]) (.cond (.seq (.reg [.op (0, 0, false)]) .leaf) .leaf)) (.seq (.reg [.op (0, 0, false)]) .leaf))))))))))
theorem I_laws_FnExactIsMatrix {a0 : Value} {w : World} {K : Value → World → Prop} (h : D_laws_FnExactIsMatrix a0 w K) : call P f_laws_FnExactIsMatrix [a0] w K :=
  call_of_vc mixed Try.func3 (c := codeOf Try.f3) (by kernel_rfl) (by kernel_rfl) (p := P_laws_FnExactIsMatrix) (by kernel_rfl) (by rw [Try.ntmps3]; simp) (by
    have e : D_laws_FnExactIsMatrix a0 w K = vc P P_laws_FnExactIsMatrix (codeOf Try.f3) (env0 [a0]) w (retX P Try.f3.results.toList K) := by kernel_rfl
    exact e ▸ h)

/-- laws.FnExactNewServer -/
def D_laws_FnExactNewServer (w : World) (K : Value → World → Prop) : Prop :=
  call P f_spec_NewServer [] w fun x6_1 w2 =>
  alc P 31 w2 fun x1_3 w4 =>
  sto P 31 x1_3 x6_1 w4 fun w6 =>
  call P f_impl_NewServer [] w6 fun x7_7 w8 =>
  alc P 31 w8 fun x2_9 w10 =>
  sto P 31 x2_9 x7_7 w10 fun w12 =>
  ld P 31 x2_9 w12 fun x8_13 =>
  ld P 31 x1_3 w12 fun x9_14 =>
  call P f_laws_eqServer [x8_13, x9_14] w12 fun x10_15 w16 =>
  una P .not x10_15 w16 fun x11_17 =>
  cnd x11_17
    (K (.bool false) w16)
    (ld P 31 x2_9 w16 fun x12_18 =>
    call P f_laws_markServer [x12_18, (.int .i64 1)] w16 fun x14_19 w20 =>
    ld P 31 x2_9 w20 fun x15_21 =>
    call P f_laws_heldServer [x15_21, (.int .i64 1)] w20 fun x17_22 w23 =>
    bin P .lss 3 false true x17_22 (.int .i64 0) w23 fun x19_24 =>
    cnd x19_24
      (K (.bool false) w23)
      (bin P .neq 3 false false x17_22 x14_19 w23 fun x22_25 =>
      cnd x22_25
        (K (.bool false) w23)
        (call P f_impl_NewServer [] w23 fun x23_26 w27 =>
        alc P 31 w27 fun x5_28 w29 =>
        sto P 31 x5_28 x23_26 w29 fun w31 =>
        ld P 31 x5_28 w31 fun x24_32 =>
        ld P 31 x1_3 w31 fun x25_33 =>
        call P f_laws_eqServer [x24_32, x25_33] w31 fun x26_34 w35 =>
        una P .not x26_34 w35 fun x27_36 =>
        cnd x27_36
          (K (.bool false) w35)
          (ld P 31 x2_9 w35 fun x28_37 =>
          call P f_laws_heldServer [x28_37, (.int .i64 1)] w35 fun x30_38 w39 =>
          bin P .lss 3 false true x30_38 (.int .i64 0) w39 fun x32_40 =>
          cnd x32_40
            (K (.bool false) w39)
            (bin P .neq 3 false false x30_38 x14_19 w39 fun x35_41 =>
            cnd x35_41
              (K (.bool false) w39)
              (K (.bool true) w39))))))
def P_laws_FnExactNewServer : Plan := (.seq (.reg [.op (0, 0, false)]) (.seq (.reg [.op (0, 2, false), .op (1, 2, false), .op (2, 2, false)]) (.seq (.reg [.op (0, 2, false), .op (1, 2, false), .op (2, 2, false)]) (.seq (.seq (.reg [.op (0, 0, false), .op (1, 0, false), .op (2, 2, false), .op (3, 0, false)]) (.cond (.seq (.reg [.op (0, 0, false)]) .leaf) .leaf)) (.seq (.reg [.op (0, 0, false)]) (.seq (.reg [.op (0, 0, false), .op (1, 0, false), .op (2, 2, false), .op (3, 0, false)]) (.seq (.reg [.op (0, 0, false)]) (.seq (.reg [.op (0, 0, false), .op (1, 0, false), .op (2, 2, false), .op (3, 0, false)]) (.seq (.seq (.reg [.op (0, 0, false), .op (1, 0, false)]) (.cond (.seq (.reg [.op (0, 0, false)]) .leaf) .leaf)) (.seq (.seq (.reg [.op (0, 0, false), .op (1, 0, false), .op (2, 0, false)]) (.cond (.seq (.reg [.op (0, 0, false)]) .leaf) .leaf)) (.seq (.reg [.op (0, 2, false), .op (1, 2, false), .op (2, 2, false)]) (.seq (.seq (.reg [.op (0, 0, false), .op (1, 0, false), .op (2, 2, false), .op (3, 0, false)]) (.cond (.seq (.reg [.op (0, 0, false)]) .leaf) .leaf)) (.seq (.reg [.op (0, 0, false)]) (.seq (.reg [.op (0, 0, false), .op (1, 0, false), .op (2, 2, false), .op (3, 0, false)]) (.seq (.seq (.reg [.op (0, 0, false), .op (1, 0, false)]) (.cond (.seq (.reg [.op (0, 0, false)]) .leaf) .leaf)) (.seq (.seq (.reg [.op (0, 0, false), .op (1, 0, false), .op (2, 0, false)]) (.cond (.seq (.reg [.op (0, 0, false)]) .leaf) .leaf)) (.seq (.reg [.op (0, 0, false)]) .leaf)))))))))))))))))
theorem I_laws_FnExactNewServer {w : World} {K : Value → World → Prop} (h : D_laws_FnExactNewServer  w K) : call P f_laws_FnExactNewServer [] w K :=
  call_of_vc mixed Try.func4 (c := codeOf Try.f4) (by kernel_rfl) (by kernel_rfl) (p := P_laws_FnExactNewServer) (by kernel_rfl) (by rw [Try.ntmps4]; simp) (by
    have e : D_laws_FnExactNewServer  w K = vc P P_laws_FnExactNewServer (codeOf Try.f4) (env0 []) w (retX P Try.f4.results.toList K) := by kernel_rfl
    exact e ▸ h)

/-- laws.FnExactTimesVector -/
def D_laws_FnExactTimesVector (a0 a1 : Value) (w : World) (K : Value → World → Prop) : Prop :=
  bl0 P .len #[36] 3 [a1] w fun x18_1 =>
  bin P .gtr 3 false true x18_1 (.int .i64 1048576) w fun x19_2 =>
  cnd x19_2
    (K (.bool true) w)
    (call P f_laws_szFloat32SS [a0, (.int .i64 1048576)] w fun x22_3 w4 =>
    bin P .lss 3 false true x22_3 (.int .i64 0) w4 fun x24_5 =>
    cnd x24_5
      (K (.bool true) w4)
      (call P f_laws_toFloat32SS [a0] w4 fun x27_6 w7 =>
      call P f_laws_toFloat32S [a1] w7 fun x29_8 w9 =>
      call P f_spec_TimesVector [x27_6, x29_8] w9 fun x30_10 w11 =>
      xtr P x30_10 0 w11 fun x31_12 =>
      xtr P x30_10 1 w11 fun x32_13 =>
      call P f_laws_toFloat32SS [a0] w11 fun x34_14 w15 =>
      call P f_laws_toFloat32S [a1] w15 fun x36_16 w17 =>
      call P f_impl_TimesVector [x34_14, x36_16] w17 fun x40_18 w19 =>
      xtr P x40_18 0 w19 fun x41_20 =>
      xtr P x40_18 1 w19 fun x42_21 =>
      call P f_laws_eqFloat32S [x41_20, x31_12] w19 fun x45_22 w23 =>
      una P .not x45_22 w23 fun x46_24 =>
      ∃ J25 : Value → World → Prop, (∀ (x50_26 : Value) (junk28 : Env) (w27 : World), J25 x50_26 w27 →
        pick x46_24 (.bool true) x50_26 fun x51_29 =>
        cnd x51_29
          (K (.bool false) w27)
          (call P f_laws_toFloat32SS [a0] w27 fun x54_30 w31 =>
          call P f_laws_eqFloat32SS [x34_14, x54_30] w31 fun x55_32 w33 =>
          una P .not x55_32 w33 fun x56_34 =>
          cnd x56_34
            (K (.bool false) w33)
            (call P f_laws_toFloat32S [a1] w33 fun x59_35 w36 =>
            call P f_laws_eqFloat32S [x36_16, x59_35] w36 fun x60_37 w38 =>
            una P .not x60_37 w38 fun x61_39 =>
            cnd x61_39
              (K (.bool false) w38)
              (call P f_laws_markFloat32SS [x34_14, (.int .i64 1)] w38 fun x64_40 w41 =>
              call P f_laws_markFloat32S [x36_16, x64_40] w41 fun x67_42 w43 =>
              bin P .lss 3 false true x67_42 (.int .i64 0) w43 fun x69_44 =>
              ∃ J45 : Value → World → Prop, (∀ (x74_46 : Value) (junk48 : Env) (w47 : World), J45 x74_46 w47 →
                pick x69_44 (.bool true) x74_46 fun x75_49 =>
                ∃ J50 : Value → World → Prop, (∀ (x79_51 : Value) (junk53 : Env) (w52 : World), J50 x79_51 w52 →
                pick x75_49 (.bool true) x79_51 fun x80_54 =>
                  cnd x80_54
                    (K (.bool false) w52)
                    (call P f_laws_markFloat32S [x41_20, (.int .i64 1)] w52 fun x83_55 w56 =>
                    call P f_laws_heldFloat32S [x41_20, (.int .i64 1)] w56 fun x86_57 w58 =>
                    bin P .lss 3 false true x86_57 (.int .i64 0) w58 fun x88_59 =>
                    cnd x88_59
                      (K (.bool false) w58)
                      (bin P .neq 3 false false x86_57 x83_55 w58 fun x91_60 =>
                      cnd x91_60
                        (K (.bool false) w58)
                        (call P f_laws_toFloat32SS [a0] w58 fun x94_61 w62 =>
                        call P f_laws_toFloat32S [a1] w62 fun x96_63 w64 =>
                        call P f_impl_TimesVector [x94_61, x96_63] w64 fun x97_65 w66 =>
                        xtr P x97_65 0 w66 fun x98_67 =>
                        xtr P x97_65 1 w66 fun x99_68 =>
                        call P f_laws_eqFloat32S [x98_67, x31_12] w66 fun x102_69 w70 =>
                        una P .not x102_69 w70 fun x103_71 =>
                        ∃ J72 : Value → World → Prop, (∀ (x107_73 : Value) (junk75 : Env) (w74 : World), J72 x107_73 w74 →
                          pick x103_71 (.bool true) x107_73 fun x108_76 =>
                          cnd x108_76
                            (K (.bool false) w74)
                            (call P f_laws_heldFloat32S [x41_20, (.int .i64 1)] w74 fun x111_77 w78 =>
                            bin P .lss 3 false true x111_77 (.int .i64 0) w78 fun x113_79 =>
                            cnd x113_79
                              (K (.bool false) w78)
                              (bin P .neq 3 false false x111_77 x83_55 w78 fun x116_80 =>
                              cnd x116_80
                                (K (.bool false) w78)
                                (K (.bool true) w78)))) ∧
                          grd x103_71 false
                            (bin P .neq 2 false false x99_68 x32_13 w70 fun x107_81 =>
                            J72 x107_81 w70)
                            (J72 undef w70))))) ∧
                grd x75_49 false
                  (bin P .neq 2 false false x42_21 x32_13 w47 fun x79_82 =>
                    J50 x79_82 w47)
                  (J50 undef w47)) ∧
                grd x69_44 false
                  (call P f_laws_eqFloat32S [x41_20, x31_12] w43 fun x73_83 w84 =>
                  una P .not x73_83 w84 fun x74_85 =>
                  J45 x74_85 w84)
                  (J45 undef w43))))) ∧
        grd x46_24 false
          (bin P .neq 2 false false x42_21 x32_13 w23 fun x50_86 =>
          J25 x50_86 w23)
          (J25 undef w23)))
def P_laws_FnExactTimesVector : Plan := (.seq (.reg [.op (0, 0, false)]) (.seq (.seq (.reg [.op (0, 0, false), .op (1, 0, false), .op (2, 0, false)]) (.cond (.seq (.reg [.op (0, 0, false)]) .leaf) .leaf)) (.seq (.reg [.op (0, 0, false)]) (.seq (.reg [.op (0, 0, false), .op (1, 0, false), .op (2, 2, false), .op (3, 0, false)]) (.seq (.seq (.reg [.op (0, 0, false), .op (1, 0, false)]) (.cond (.seq (.reg [.op (0, 0, false)]) .leaf) .leaf)) (.seq (.reg [.op (0, 0, false), .op (1, 2, false), .op (2, 0, false), .op (3, 2, false), .op (4, 2, false), .op (5, 0, false), .op (6, 0, false), .op (7, 0, false), .op (8, 0, false), .op (9, 0, false)]) (.seq (.reg [.op (0, 0, false), .op (1, 2, false), .op (2, 0, false)]) (.seq (.reg [.op (0, 0, false), .op (1, 2, false), .op (2, 0, false)]) (.seq (.reg [.op (0, 0, false), .op (1, 0, false), .op (2, 2, false), .op (3, 0, false), .op (4, 0, false), .op (5, 0, false), .op (6, 0, false), .op (7, 0, false)]) (.seq (.seq (.reg [.op (0, 0, false), .op (1, 0, false), .op (2, 2, false), .op (3, 0, false), .op (4, 0, false), .grp 4 false [(5, 0, false), (6, 0, false), (7, 0, false)] [50] 1970324836974592, .op (8, 0, false)]) (.cond (.seq (.reg [.op (0, 0, false)]) .leaf) .leaf)) (.seq (.seq (.reg [.op (0, 0, false), .op (1, 0, false), .op (2, 2, false), .op (3, 2, false), .op (4, 0, false)]) (.cond (.seq (.reg [.op (0, 0, false)]) .leaf) .leaf)) (.seq (.seq (.reg [.op (0, 0, false), .op (1, 0, false), .op (2, 2, false), .op (3, 2, false), .op (4, 0, false)]) (.cond (.seq (.reg [.op (0, 0, false)]) .leaf) .leaf)) (.seq (.reg [.op (0, 0, false)]) (.seq (.reg [.op (0, 0, false), .op (1, 0, false), .op (2, 2, false), .op (3, 0, false)]) (.seq (.reg [.op (0, 0, false), .op (1, 0, false), .op (2, 2, false), .op (3, 0, false)]) (.seq (.seq (.reg [.op (0, 0, false), .op (1, 0, false), .op (2, 0, false), .grp 2 false [(3, 0, false), (4, 0, false), (5, 2, false), (6, 0, false)] [74] 35417748621522339102720, .op (7, 0, false), .op (8, 0, false), .grp 8 false [(9, 0, false), (10, 0, false), (11, 0, false)] [79] 1057810092162800527867904, .op (12, 0, false)]) (.cond (.seq (.reg [.op (0, 0, false)]) .leaf) .leaf)) (.seq (.reg [.op (0, 0, false)]) (.seq (.reg [.op (0, 0, false), .op (1, 0, false), .op (2, 2, false), .op (3, 0, false)]) (.seq (.reg [.op (0, 0, false)]) (.seq (.reg [.op (0, 0, false), .op (1, 0, false), .op (2, 2, false), .op (3, 0, false)]) (.seq (.seq (.reg [.op (0, 0, false), .op (1, 0, false)]) (.cond (.seq (.reg [.op (0, 0, false)]) .leaf) .leaf)) (.seq (.seq (.reg [.op (0, 0, false), .op (1, 0, false), .op (2, 0, false)]) (.cond (.seq (.reg [.op (0, 0, false)]) .leaf) .leaf)) (.seq (.reg [.op (0, 0, false), .op (1, 2, false), .op (2, 0, false), .op (3, 2, false), .op (4, 2, false), .op (5, 0, false), .op (6, 0, false), .op (7, 0, false), .op (8, 0, false), .op (9, 0, false)]) (.seq (.seq (.reg [.op (0, 0, false), .op (1, 0, false), .op (2, 2, false), .op (3, 0, false), .op (4, 0, false), .grp 4 false [(5, 0, false), (6, 0, false), (7, 0, false)] [107] 283953734451123385935261518004224, .op (8, 0, false)]) (.cond (.seq (.reg [.op (0, 0, false)]) .leaf) .leaf)) (.seq (.reg [.op (0, 0, false)]) (.seq (.reg [.op (0, 0, false), .op (1, 0, false), .op (2, 2, false), .op (3, 0, false)]) (.seq (.seq (.reg [.op (0, 0, false), .op (1, 0, false)]) (.cond (.seq (.reg [.op (0, 0, false)]) .leaf) .leaf)) (.seq (.seq (.reg [.op (0, 0, false), .op (1, 0, false), .op (2, 0, false)]) (.cond (.seq (.reg [.op (0, 0, false)]) .leaf) .leaf)) (.seq (.reg [.op (0, 0, false)]) .leaf)))))))))))))))))))))))))))))
theorem I_laws_FnExactTimesVector {a0 a1 : Value} {w : World} {K : Value → World → Prop} (h : D_laws_FnExactTimesVector a0 a1 w K) : call P f_laws_FnExactTimesVector [a0, a1] w K :=
  call_of_vc mixed Try.func5 (c := codeOf Try.f5) (by kernel_rfl) (by kernel_rfl) (p := P_laws_FnExactTimesVector) (by kernel_rfl) (by rw [Try.ntmps5]; simp) (by
    have e : D_laws_FnExactTimesVector a0 a1 w K = vc P P_laws_FnExactTimesVector (codeOf Try.f5) (env0 [a0, a1]) w (retX P Try.f5.results.toList K) := by kernel_rfl
    exact e ▸ h)

/-- laws.FnExactTimesMatrix -/
def D_laws_FnExactTimesMatrix (a0 a1 : Value) (w : World) (K : Value → World → Prop) : Prop :=
  call P f_laws_szFloat32SS [a0, (.int .i64 1048576)] w fun x19_1 w2 =>
  bin P .lss 3 false true x19_1 (.int .i64 0) w2 fun x21_3 =>
  cnd x21_3
    (K (.bool true) w2)
    (call P f_laws_szFloat32SS [a1, x19_1] w2 fun x24_4 w5 =>
    bin P .lss 3 false true x24_4 (.int .i64 0) w5 fun x26_6 =>
    cnd x26_6
      (K (.bool true) w5)
      (call P f_laws_toFloat32SS [a0] w5 fun x29_7 w8 =>
      call P f_laws_toFloat32SS [a1] w8 fun x31_9 w10 =>
      call P f_spec_TimesMatrix [x29_7, x31_9] w10 fun x32_11 w12 =>
      xtr P x32_11 0 w12 fun x33_13 =>
      xtr P x32_11 1 w12 fun x34_14 =>
      call P f_laws_toFloat32SS [a0] w12 fun x36_15 w16 =>
      call P f_laws_toFloat32SS [a1] w16 fun x38_17 w18 =>
      call P f_impl_TimesMatrix [x36_15, x38_17] w18 fun x42_19 w20 =>
      xtr P x42_19 0 w20 fun x43_21 =>
      xtr P x42_19 1 w20 fun x44_22 =>
      call P f_laws_eqFloat32SS [x43_21, x33_13] w20 fun x47_23 w24 =>
      una P .not x47_23 w24 fun x48_25 =>
      ∃ J26 : Value → World → Prop, (∀ (x52_27 : Value) (junk29 : Env) (w28 : World), J26 x52_27 w28 →
        pick x48_25 (.bool true) x52_27 fun x53_30 =>
        cnd x53_30
          (K (.bool false) w28)
          (call P f_laws_toFloat32SS [a0] w28 fun x56_31 w32 =>
          call P f_laws_eqFloat32SS [x36_15, x56_31] w32 fun x57_33 w34 =>
          una P .not x57_33 w34 fun x58_35 =>
          cnd x58_35
            (K (.bool false) w34)
            (call P f_laws_toFloat32SS [a1] w34 fun x61_36 w37 =>
            call P f_laws_eqFloat32SS [x38_17, x61_36] w37 fun x62_38 w39 =>
            una P .not x62_38 w39 fun x63_40 =>
            cnd x63_40
              (K (.bool false) w39)
              (call P f_laws_markFloat32SS [x36_15, (.int .i64 1)] w39 fun x66_41 w42 =>
              call P f_laws_markFloat32SS [x38_17, x66_41] w42 fun x69_43 w44 =>
              bin P .lss 3 false true x69_43 (.int .i64 0) w44 fun x71_45 =>
              ∃ J46 : Value → World → Prop, (∀ (x76_47 : Value) (junk49 : Env) (w48 : World), J46 x76_47 w48 →
                pick x71_45 (.bool true) x76_47 fun x77_50 =>
                ∃ J51 : Value → World → Prop, (∀ (x81_52 : Value) (junk54 : Env) (w53 : World), J51 x81_52 w53 →
                pick x77_50 (.bool true) x81_52 fun x82_55 =>
                  cnd x82_55
                    (K (.bool false) w53)
                    (call P f_laws_markFloat32SS [x43_21, (.int .i64 1)] w53 fun x85_56 w57 =>
                    call P f_laws_heldFloat32SS [x43_21, (.int .i64 1)] w57 fun x88_58 w59 =>
                    bin P .lss 3 false true x88_58 (.int .i64 0) w59 fun x90_60 =>
                    cnd x90_60
                      (K (.bool false) w59)
                      (bin P .neq 3 false false x88_58 x85_56 w59 fun x93_61 =>
                      cnd x93_61
                        (K (.bool false) w59)
                        (call P f_laws_toFloat32SS [a0] w59 fun x96_62 w63 =>
                        call P f_laws_toFloat32SS [a1] w63 fun x98_64 w65 =>
                        call P f_impl_TimesMatrix [x96_62, x98_64] w65 fun x99_66 w67 =>
                        xtr P x99_66 0 w67 fun x100_68 =>
                        xtr P x99_66 1 w67 fun x101_69 =>
                        call P f_laws_eqFloat32SS [x100_68, x33_13] w67 fun x104_70 w71 =>
                        una P .not x104_70 w71 fun x105_72 =>
                        ∃ J73 : Value → World → Prop, (∀ (x109_74 : Value) (junk76 : Env) (w75 : World), J73 x109_74 w75 →
                          pick x105_72 (.bool true) x109_74 fun x110_77 =>
                          cnd x110_77
                            (K (.bool false) w75)
                            (call P f_laws_heldFloat32SS [x43_21, (.int .i64 1)] w75 fun x113_78 w79 =>
                            bin P .lss 3 false true x113_78 (.int .i64 0) w79 fun x115_80 =>
                            cnd x115_80
                              (K (.bool false) w79)
                              (bin P .neq 3 false false x113_78 x85_56 w79 fun x118_81 =>
                              cnd x118_81
                                (K (.bool false) w79)
                                (K (.bool true) w79)))) ∧
                          grd x105_72 false
                            (bin P .neq 2 false false x101_69 x34_14 w71 fun x109_82 =>
                            J73 x109_82 w71)
                            (J73 undef w71))))) ∧
                grd x77_50 false
                  (bin P .neq 2 false false x44_22 x34_14 w48 fun x81_83 =>
                    J51 x81_83 w48)
                  (J51 undef w48)) ∧
                grd x71_45 false
                  (call P f_laws_eqFloat32SS [x43_21, x33_13] w44 fun x75_84 w85 =>
                  una P .not x75_84 w85 fun x76_86 =>
                  J46 x76_86 w85)
                  (J46 undef w44))))) ∧
        grd x48_25 false
          (bin P .neq 2 false false x44_22 x34_14 w24 fun x52_87 =>
          J26 x52_87 w24)
          (J26 undef w24)))
def P_laws_FnExactTimesMatrix : Plan := (.seq (.reg [.op (0, 0, false)]) (.seq (.reg [.op (0, 0, false)]) (.seq (.reg [.op (0, 0, false), .op (1, 0, false), .op (2, 2, false), .op (3, 0, false)]) (.seq (.seq (.reg [.op (0, 0, false), .op (1, 0, false)]) (.cond (.seq (.reg [.op (0, 0, false)]) .leaf) .leaf)) (.seq (.reg [.op (0, 0, false), .op (1, 0, false), .op (2, 2, false), .op (3, 0, false)]) (.seq (.seq (.reg [.op (0, 0, false), .op (1, 0, false)]) (.cond (.seq (.reg [.op (0, 0, false)]) .leaf) .leaf)) (.seq (.reg [.op (0, 0, false), .op (1, 2, false), .op (2, 0, false), .op (3, 2, false), .op (4, 2, false), .op (5, 0, false), .op (6, 0, false), .op (7, 0, false), .op (8, 0, false), .op (9, 0, false)]) (.seq (.reg [.op (0, 0, false), .op (1, 2, false), .op (2, 0, false)]) (.seq (.reg [.op (0, 0, false), .op (1, 2, false), .op (2, 0, false)]) (.seq (.reg [.op (0, 0, false), .op (1, 0, false), .op (2, 2, false), .op (3, 0, false), .op (4, 0, false), .op (5, 0, false), .op (6, 0, false), .op (7, 0, false)]) (.seq (.seq (.reg [.op (0, 0, false), .op (1, 0, false), .op (2, 2, false), .op (3, 0, false), .op (4, 0, false), .grp 4 false [(5, 0, false), (6, 0, false), (7, 0, false)] [52] 7881299347898368, .op (8, 0, false)]) (.cond (.seq (.reg [.op (0, 0, false)]) .leaf) .leaf)) (.seq (.seq (.reg [.op (0, 0, false), .op (1, 0, false), .op (2, 2, false), .op (3, 2, false), .op (4, 0, false)]) (.cond (.seq (.reg [.op (0, 0, false)]) .leaf) .leaf)) (.seq (.seq (.reg [.op (0, 0, false), .op (1, 0, false), .op (2, 2, false), .op (3, 2, false), .op (4, 0, false)]) (.cond (.seq (.reg [.op (0, 0, false)]) .leaf) .leaf)) (.seq (.reg [.op (0, 0, false)]) (.seq (.reg [.op (0, 0, false), .op (1, 0, false), .op (2, 2, false), .op (3, 0, false)]) (.seq (.reg [.op (0, 0, false), .op (1, 0, false), .op (2, 2, false), .op (3, 0, false)]) (.seq (.seq (.reg [.op (0, 0, false), .op (1, 0, false), .op (2, 0, false), .grp 2 false [(3, 0, false), (4, 0, false), (5, 2, false), (6, 0, false)] [76] 141670994486089356410880, .op (7, 0, false), .op (8, 0, false), .grp 8 false [(9, 0, false), (10, 0, false), (11, 0, false)] [81] 4231240368651202111471616, .op (12, 0, false)]) (.cond (.seq (.reg [.op (0, 0, false)]) .leaf) .leaf)) (.seq (.reg [.op (0, 0, false)]) (.seq (.reg [.op (0, 0, false), .op (1, 0, false), .op (2, 2, false), .op (3, 0, false)]) (.seq (.reg [.op (0, 0, false)]) (.seq (.reg [.op (0, 0, false), .op (1, 0, false), .op (2, 2, false), .op (3, 0, false)]) (.seq (.seq (.reg [.op (0, 0, false), .op (1, 0, false)]) (.cond (.seq (.reg [.op (0, 0, false)]) .leaf) .leaf)) (.seq (.seq (.reg [.op (0, 0, false), .op (1, 0, false), .op (2, 0, false)]) (.cond (.seq (.reg [.op (0, 0, false)]) .leaf) .leaf)) (.seq (.reg [.op (0, 0, false), .op (1, 2, false), .op (2, 0, false), .op (3, 2, false), .op (4, 2, false), .op (5, 0, false), .op (6, 0, false), .op (7, 0, false), .op (8, 0, false), .op (9, 0, false)]) (.seq (.seq (.reg [.op (0, 0, false), .op (1, 0, false), .op (2, 2, false), .op (3, 0, false), .op (4, 0, false), .grp 4 false [(5, 0, false), (6, 0, false), (7, 0, false)] [109] 1135814937804493543741046072016896, .op (8, 0, false)]) (.cond (.seq (.reg [.op (0, 0, false)]) .leaf) .leaf)) (.seq (.reg [.op (0, 0, false)]) (.seq (.reg [.op (0, 0, false), .op (1, 0, false), .op (2, 2, false), .op (3, 0, false)]) (.seq (.seq (.reg [.op (0, 0, false), .op (1, 0, false)]) (.cond (.seq (.reg [.op (0, 0, false)]) .leaf) .leaf)) (.seq (.seq (.reg [.op (0, 0, false), .op (1, 0, false), .op (2, 0, false)]) (.cond (.seq (.reg [.op (0, 0, false)]) .leaf) .leaf)) (.seq (.reg [.op (0, 0, false)]) .leaf))))))))))))))))))))))))))))))
theorem I_laws_FnExactTimesMatrix {a0 a1 : Value} {w : World} {K : Value → World → Prop} (h : D_laws_FnExactTimesMatrix a0 a1 w K) : call P f_laws_FnExactTimesMatrix [a0, a1] w K :=
  call_of_vc mixed Try.func6 (c := codeOf Try.f6) (by kernel_rfl) (by kernel_rfl) (p := P_laws_FnExactTimesMatrix) (by kernel_rfl) (by rw [Try.ntmps6]; simp) (by
    have e : D_laws_FnExactTimesMatrix a0 a1 w K = vc P P_laws_FnExactTimesMatrix (codeOf Try.f6) (env0 [a0, a1]) w (retX P Try.f6.results.toList K) := by kernel_rfl
    exact e ▸ h)

/-- laws.FnExactEliminationOf -/
def D_laws_FnExactEliminationOf (a0 : Value) (w : World) (K : Value → World → Prop) : Prop :=
  call P f_laws_szFloat32SS [a0, (.int .i64 1048576)] w fun x16_1 w2 =>
  bin P .lss 3 false true x16_1 (.int .i64 0) w2 fun x18_3 =>
  cnd x18_3
    (K (.bool true) w2)
    (call P f_laws_toFloat32SS [a0] w2 fun x21_4 w5 =>
    call P f_spec_EliminationOf [x21_4] w5 fun x22_6 w7 =>
    xtr P x22_6 0 w7 fun x23_8 =>
    xtr P x22_6 1 w7 fun x24_9 =>
    alc P 47 w7 fun x4_10 w11 =>
    sto P 47 x4_10 x23_8 w11 fun w13 =>
    call P f_laws_toFloat32SS [a0] w13 fun x26_14 w15 =>
    call P f_impl_EliminationOf [x26_14] w15 fun x29_16 w17 =>
    xtr P x29_16 0 w17 fun x30_18 =>
    xtr P x29_16 1 w17 fun x31_19 =>
    alc P 47 w17 fun x7_20 w21 =>
    sto P 47 x7_20 x30_18 w21 fun w23 =>
    ld P 47 x7_20 w23 fun x32_24 =>
    ld P 47 x4_10 w23 fun x33_25 =>
    call P f_laws_eqElimination [x32_24, x33_25] w23 fun x34_26 w27 =>
    una P .not x34_26 w27 fun x35_28 =>
    ∃ J29 : Value → World → Prop, (∀ (x39_30 : Value) (junk32 : Env) (w31 : World), J29 x39_30 w31 →
      pick x35_28 (.bool true) x39_30 fun x40_33 =>
      cnd x40_33
        (K (.bool false) w31)
        (call P f_laws_toFloat32SS [a0] w31 fun x43_34 w35 =>
        call P f_laws_eqFloat32SS [x26_14, x43_34] w35 fun x44_36 w37 =>
        una P .not x44_36 w37 fun x45_38 =>
        cnd x45_38
          (K (.bool false) w37)
          (call P f_laws_markFloat32SS [x26_14, (.int .i64 1)] w37 fun x48_39 w40 =>
          bin P .lss 3 false true x48_39 (.int .i64 0) w40 fun x50_41 =>
          ∃ J42 : Value → World → Prop, (∀ (x55_43 : Value) (junk45 : Env) (w44 : World), J42 x55_43 w44 →
            pick x50_41 (.bool true) x55_43 fun x56_46 =>
            ∃ J47 : Value → World → Prop, (∀ (x60_48 : Value) (junk50 : Env) (w49 : World), J47 x60_48 w49 →
            pick x56_46 (.bool true) x60_48 fun x61_51 =>
              cnd x61_51
                (K (.bool false) w49)
                (ld P 47 x7_20 w49 fun x62_52 =>
                call P f_laws_markElimination [x62_52, (.int .i64 1)] w49 fun x64_53 w54 =>
                ld P 47 x7_20 w54 fun x65_55 =>
                call P f_laws_heldElimination [x65_55, (.int .i64 1)] w54 fun x67_56 w57 =>
                bin P .lss 3 false true x67_56 (.int .i64 0) w57 fun x69_58 =>
                cnd x69_58
                  (K (.bool false) w57)
                  (bin P .neq 3 false false x67_56 x64_53 w57 fun x72_59 =>
                  cnd x72_59
                    (K (.bool false) w57)
                    (call P f_laws_toFloat32SS [a0] w57 fun x75_60 w61 =>
                    call P f_impl_EliminationOf [x75_60] w61 fun x76_62 w63 =>
                    xtr P x76_62 0 w63 fun x77_64 =>
                    xtr P x76_62 1 w63 fun x78_65 =>
                    alc P 47 w63 fun x12_66 w67 =>
                    sto P 47 x12_66 x77_64 w67 fun w69 =>
                    ld P 47 x12_66 w69 fun x79_70 =>
                    ld P 47 x4_10 w69 fun x80_71 =>
                    call P f_laws_eqElimination [x79_70, x80_71] w69 fun x81_72 w73 =>
                    una P .not x81_72 w73 fun x82_74 =>
                    ∃ J75 : Value → World → Prop, (∀ (x86_76 : Value) (junk78 : Env) (w77 : World), J75 x86_76 w77 →
                      pick x82_74 (.bool true) x86_76 fun x87_79 =>
                      cnd x87_79
                        (K (.bool false) w77)
                        (ld P 47 x7_20 w77 fun x88_80 =>
                        call P f_laws_heldElimination [x88_80, (.int .i64 1)] w77 fun x90_81 w82 =>
                        bin P .lss 3 false true x90_81 (.int .i64 0) w82 fun x92_83 =>
                        cnd x92_83
                          (K (.bool false) w82)
                          (bin P .neq 3 false false x90_81 x64_53 w82 fun x95_84 =>
                          cnd x95_84
                            (K (.bool false) w82)
                            (K (.bool true) w82)))) ∧
                      grd x82_74 false
                        (bin P .neq 2 false false x78_65 x24_9 w73 fun x86_85 =>
                        J75 x86_85 w73)
                        (J75 undef w73))))) ∧
            grd x56_46 false
              (bin P .neq 2 false false x31_19 x24_9 w44 fun x60_86 =>
                J47 x60_86 w44)
              (J47 undef w44)) ∧
            grd x50_41 false
              (ld P 47 x7_20 w40 fun x52_87 =>
              ld P 47 x4_10 w40 fun x53_88 =>
              call P f_laws_eqElimination [x52_87, x53_88] w40 fun x54_89 w90 =>
              una P .not x54_89 w90 fun x55_91 =>
              J42 x55_91 w90)
              (J42 undef w40)))) ∧
      grd x35_28 false
        (bin P .neq 2 false false x31_19 x24_9 w27 fun x39_92 =>
        J29 x39_92 w27)
        (J29 undef w27))
def P_laws_FnExactEliminationOf : Plan := (.seq (.reg [.op (0, 0, false)]) (.seq (.reg [.op (0, 0, false)]) (.seq (.reg [.op (0, 0, false), .op (1, 0, false), .op (2, 2, false), .op (3, 0, false)]) (.seq (.seq (.reg [.op (0, 0, false), .op (1, 0, false)]) (.cond (.seq (.reg [.op (0, 0, false)]) .leaf) .leaf)) (.seq (.reg [.op (0, 0, false), .op (1, 2, false), .op (2, 2, false), .op (3, 0, false), .op (4, 0, false), .op (5, 0, false), .op (6, 2, false), .op (7, 2, false), .op (8, 0, false)]) (.seq (.reg [.op (0, 0, false), .op (1, 2, false), .op (2, 0, false)]) (.seq (.reg [.op (0, 0, false), .op (1, 2, false), .op (2, 0, false), .op (3, 0, false), .op (4, 0, false), .op (5, 2, false), .op (6, 2, false), .op (7, 0, false)]) (.seq (.seq (.reg [.op (0, 0, false), .op (1, 0, false), .op (2, 2, false), .op (3, 0, false), .op (4, 0, false), .grp 4 false [(5, 0, false), (6, 0, false), (7, 0, false)] [39] 962072674304, .op (8, 0, false)]) (.cond (.seq (.reg [.op (0, 0, false)]) .leaf) .leaf)) (.seq (.seq (.reg [.op (0, 0, false), .op (1, 0, false), .op (2, 2, false), .op (3, 2, false), .op (4, 0, false)]) (.cond (.seq (.reg [.op (0, 0, false)]) .leaf) .leaf)) (.seq (.reg [.op (0, 0, false)]) (.seq (.reg [.op (0, 0, false), .op (1, 0, false), .op (2, 2, false), .op (3, 0, false)]) (.seq (.seq (.reg [.op (0, 0, false), .op (1, 0, false), .op (2, 0, false), .grp 2 false [(3, 0, false), (4, 0, false), (5, 2, false), (6, 0, false)] [55] 67553994410557440, .op (7, 0, false), .op (8, 0, false), .grp 8 false [(9, 0, false), (10, 0, false), (11, 0, false)] [60] 2017612633061982208, .op (12, 0, false)]) (.cond (.seq (.reg [.op (0, 0, false)]) .leaf) .leaf)) (.seq (.reg [.op (0, 0, false)]) (.seq (.reg [.op (0, 0, false), .op (1, 0, false), .op (2, 2, false), .op (3, 0, false)]) (.seq (.reg [.op (0, 0, false)]) (.seq (.reg [.op (0, 0, false), .op (1, 0, false), .op (2, 2, false), .op (3, 0, false)]) (.seq (.seq (.reg [.op (0, 0, false), .op (1, 0, false)]) (.cond (.seq (.reg [.op (0, 0, false)]) .leaf) .leaf)) (.seq (.seq (.reg [.op (0, 0, false), .op (1, 0, false), .op (2, 0, false)]) (.cond (.seq (.reg [.op (0, 0, false)]) .leaf) .leaf)) (.seq (.reg [.op (0, 0, false), .op (1, 2, false), .op (2, 2, false), .op (3, 0, false), .op (4, 0, false), .op (5, 0, false), .op (6, 2, false), .op (7, 2, false), .op (8, 0, false)]) (.seq (.seq (.reg [.op (0, 0, false), .op (1, 0, false), .op (2, 2, false), .op (3, 0, false), .op (4, 0, false), .grp 4 false [(5, 0, false), (6, 0, false), (7, 0, false)] [86] 135399691796838467567091712, .op (8, 0, false)]) (.cond (.seq (.reg [.op (0, 0, false)]) .leaf) .leaf)) (.seq (.reg [.op (0, 0, false)]) (.seq (.reg [.op (0, 0, false), .op (1, 0, false), .op (2, 2, false), .op (3, 0, false)]) (.seq (.seq (.reg [.op (0, 0, false), .op (1, 0, false)]) (.cond (.seq (.reg [.op (0, 0, false)]) .leaf) .leaf)) (.seq (.seq (.reg [.op (0, 0, false), .op (1, 0, false), .op (2, 0, false)]) (.cond (.seq (.reg [.op (0, 0, false)]) .leaf) .leaf)) (.seq (.reg [.op (0, 0, false)]) .leaf)))))))))))))))))))))))))
theorem I_laws_FnExactEliminationOf {a0 : Value} {w : World} {K : Value → World → Prop} (h : D_laws_FnExactEliminationOf a0 w K) : call P f_laws_FnExactEliminationOf [a0] w K :=
  call_of_vc mixed Try.func7 (c := codeOf Try.f7) (by kernel_rfl) (by kernel_rfl) (p := P_laws_FnExactEliminationOf) (by kernel_rfl) (by rw [Try.ntmps7]; simp) (by
    have e : D_laws_FnExactEliminationOf a0 w K = vc P P_laws_FnExactEliminationOf (codeOf Try.f7) (env0 [a0]) w (retX P Try.f7.results.toList K) := by kernel_rfl
    exact e ▸ h)

/-- laws.FnExactSolveSystem -/
def D_laws_FnExactSolveSystem (a0 a1 : Value) (w : World) (K : Value → World → Prop) : Prop :=
  bl0 P .len #[36] 3 [a1] w fun x18_1 =>
  bin P .gtr 3 false true x18_1 (.int .i64 1048576) w fun x19_2 =>
  cnd x19_2
    (K (.bool true) w)
    (call P f_laws_szFloat32SS [a0, (.int .i64 1048576)] w fun x22_3 w4 =>
    bin P .lss 3 false true x22_3 (.int .i64 0) w4 fun x24_5 =>
    cnd x24_5
      (K (.bool true) w4)
      (call P f_laws_toFloat32SS [a0] w4 fun x27_6 w7 =>
      call P f_laws_toFloat32S [a1] w7 fun x29_8 w9 =>
      call P f_spec_SolveSystem [x27_6, x29_8] w9 fun x30_10 w11 =>
      xtr P x30_10 0 w11 fun x31_12 =>
      xtr P x30_10 1 w11 fun x32_13 =>
      call P f_laws_toFloat32SS [a0] w11 fun x34_14 w15 =>
      call P f_laws_toFloat32S [a1] w15 fun x36_16 w17 =>
      call P f_impl_SolveSystem [x34_14, x36_16] w17 fun x40_18 w19 =>
      xtr P x40_18 0 w19 fun x41_20 =>
      xtr P x40_18 1 w19 fun x42_21 =>
      call P f_laws_eqFloat32S [x41_20, x31_12] w19 fun x45_22 w23 =>
      una P .not x45_22 w23 fun x46_24 =>
      ∃ J25 : Value → World → Prop, (∀ (x50_26 : Value) (junk28 : Env) (w27 : World), J25 x50_26 w27 →
        pick x46_24 (.bool true) x50_26 fun x51_29 =>
        cnd x51_29
          (K (.bool false) w27)
          (call P f_laws_toFloat32SS [a0] w27 fun x54_30 w31 =>
          call P f_laws_eqFloat32SS [x34_14, x54_30] w31 fun x55_32 w33 =>
          una P .not x55_32 w33 fun x56_34 =>
          cnd x56_34
            (K (.bool false) w33)
            (call P f_laws_toFloat32S [a1] w33 fun x59_35 w36 =>
            call P f_laws_eqFloat32S [x36_16, x59_35] w36 fun x60_37 w38 =>
            una P .not x60_37 w38 fun x61_39 =>
            cnd x61_39
              (K (.bool false) w38)
              (call P f_laws_markFloat32SS [x34_14, (.int .i64 1)] w38 fun x64_40 w41 =>
              call P f_laws_markFloat32S [x36_16, x64_40] w41 fun x67_42 w43 =>
              bin P .lss 3 false true x67_42 (.int .i64 0) w43 fun x69_44 =>
              ∃ J45 : Value → World → Prop, (∀ (x74_46 : Value) (junk48 : Env) (w47 : World), J45 x74_46 w47 →
                pick x69_44 (.bool true) x74_46 fun x75_49 =>
                ∃ J50 : Value → World → Prop, (∀ (x79_51 : Value) (junk53 : Env) (w52 : World), J50 x79_51 w52 →
                pick x75_49 (.bool true) x79_51 fun x80_54 =>
                  cnd x80_54
                    (K (.bool false) w52)
                    (call P f_laws_markFloat32S [x41_20, (.int .i64 1)] w52 fun x83_55 w56 =>
                    call P f_laws_heldFloat32S [x41_20, (.int .i64 1)] w56 fun x86_57 w58 =>
                    bin P .lss 3 false true x86_57 (.int .i64 0) w58 fun x88_59 =>
                    cnd x88_59
                      (K (.bool false) w58)
                      (bin P .neq 3 false false x86_57 x83_55 w58 fun x91_60 =>
                      cnd x91_60
                        (K (.bool false) w58)
                        (call P f_laws_toFloat32SS [a0] w58 fun x94_61 w62 =>
                        call P f_laws_toFloat32S [a1] w62 fun x96_63 w64 =>
                        call P f_impl_SolveSystem [x94_61, x96_63] w64 fun x97_65 w66 =>
                        xtr P x97_65 0 w66 fun x98_67 =>
                        xtr P x97_65 1 w66 fun x99_68 =>
                        call P f_laws_eqFloat32S [x98_67, x31_12] w66 fun x102_69 w70 =>
                        una P .not x102_69 w70 fun x103_71 =>
                        ∃ J72 : Value → World → Prop, (∀ (x107_73 : Value) (junk75 : Env) (w74 : World), J72 x107_73 w74 →
                          pick x103_71 (.bool true) x107_73 fun x108_76 =>
                          cnd x108_76
                            (K (.bool false) w74)
                            (call P f_laws_heldFloat32S [x41_20, (.int .i64 1)] w74 fun x111_77 w78 =>
                            bin P .lss 3 false true x111_77 (.int .i64 0) w78 fun x113_79 =>
                            cnd x113_79
                              (K (.bool false) w78)
                              (bin P .neq 3 false false x111_77 x83_55 w78 fun x116_80 =>
                              cnd x116_80
                                (K (.bool false) w78)
                                (K (.bool true) w78)))) ∧
                          grd x103_71 false
                            (bin P .neq 2 false false x99_68 x32_13 w70 fun x107_81 =>
                            J72 x107_81 w70)
                            (J72 undef w70))))) ∧
                grd x75_49 false
                  (bin P .neq 2 false false x42_21 x32_13 w47 fun x79_82 =>
                    J50 x79_82 w47)
                  (J50 undef w47)) ∧
                grd x69_44 false
                  (call P f_laws_eqFloat32S [x41_20, x31_12] w43 fun x73_83 w84 =>
                  una P .not x73_83 w84 fun x74_85 =>
                  J45 x74_85 w84)
                  (J45 undef w43))))) ∧
        grd x46_24 false
          (bin P .neq 2 false false x42_21 x32_13 w23 fun x50_86 =>
          J25 x50_86 w23)
          (J25 undef w23)))
def P_laws_FnExactSolveSystem : Plan := (.seq (.reg [.op (0, 0, false)]) (.seq (.seq (.reg [.op (0, 0, false), .op (1, 0, false), .op (2, 0, false)]) (.cond (.seq (.reg [.op (0, 0, false)]) .leaf) .leaf)) (.seq (.reg [.op (0, 0, false)]) (.seq (.reg [.op (0, 0, false), .op (1, 0, false), .op (2, 2, false), .op (3, 0, false)]) (.seq (.seq (.reg [.op (0, 0, false), .op (1, 0, false)]) (.cond (.seq (.reg [.op (0, 0, false)]) .leaf) .leaf)) (.seq (.reg [.op (0, 0, false), .op (1, 2, false), .op (2, 0, false), .op (3, 2, false), .op (4, 2, false), .op (5, 0, false), .op (6, 0, false), .op (7, 0, false), .op (8, 0, false), .op (9, 0, false)]) (.seq (.reg [.op (0, 0, false), .op (1, 2, false), .op (2, 0, false)]) (.seq (.reg [.op (0, 0, false), .op (1, 2, false), .op (2, 0, false)]) (.seq (.reg [.op (0, 0, false), .op (1, 0, false), .op (2, 2, false), .op (3, 0, false), .op (4, 0, false), .op (5, 0, false), .op (6, 0, false), .op (7, 0, false)]) (.seq (.seq (.reg [.op (0, 0, false), .op (1, 0, false), .op (2, 2, false), .op (3, 0, false), .op (4, 0, false), .grp 4 false [(5, 0, false), (6, 0, false), (7, 0, false)] [50] 1970324836974592, .op (8, 0, false)]) (.cond (.seq (.reg [.op (0, 0, false)]) .leaf) .leaf)) (.seq (.seq (.reg [.op (0, 0, false), .op (1, 0, false), .op (2, 2, false), .op (3, 2, false), .op (4, 0, false)]) (.cond (.seq (.reg [.op (0, 0, false)]) .leaf) .leaf)) (.seq (.seq (.reg [.op (0, 0, false), .op (1, 0, false), .op (2, 2, false), .op (3, 2, false), .op (4, 0, false)]) (.cond (.seq (.reg [.op (0, 0, false)]) .leaf) .leaf)) (.seq (.reg [.op (0, 0, false)]) (.seq (.reg [.op (0, 0, false), .op (1, 0, false), .op (2, 2, false), .op (3, 0, false)]) (.seq (.reg [.op (0, 0, false), .op (1, 0, false), .op (2, 2, false), .op (3, 0, false)]) (.seq (.seq (.reg [.op (0, 0, false), .op (1, 0, false), .op (2, 0, false), .grp 2 false [(3, 0, false), (4, 0, false), (5, 2, false), (6, 0, false)] [74] 35417748621522339102720, .op (7, 0, false), .op (8, 0, false), .grp 8 false [(9, 0, false), (10, 0, false), (11, 0, false)] [79] 1057810092162800527867904, .op (12, 0, false)]) (.cond (.seq (.reg [.op (0, 0, false)]) .leaf) .leaf)) (.seq (.reg [.op (0, 0, false)]) (.seq (.reg [.op (0, 0, false), .op (1, 0, false), .op (2, 2, false), .op (3, 0, false)]) (.seq (.reg [.op (0, 0, false)]) (.seq (.reg [.op (0, 0, false), .op (1, 0, false), .op (2, 2, false), .op (3, 0, false)]) (.seq (.seq (.reg [.op (0, 0, false), .op (1, 0, false)]) (.cond (.seq (.reg [.op (0, 0, false)]) .leaf) .leaf)) (.seq (.seq (.reg [.op (0, 0, false), .op (1, 0, false), .op (2, 0, false)]) (.cond (.seq (.reg [.op (0, 0, false)]) .leaf) .leaf)) (.seq (.reg [.op (0, 0, false), .op (1, 2, false), .op (2, 0, false), .op (3, 2, false), .op (4, 2, false), .op (5, 0, false), .op (6, 0, false), .op (7, 0, false), .op (8, 0, false), .op (9, 0, false)]) (.seq (.seq (.reg [.op (0, 0, false), .op (1, 0, false), .op (2, 2, false), .op (3, 0, false), .op (4, 0, false), .grp 4 false [(5, 0, false), (6, 0, false), (7, 0, false)] [107] 283953734451123385935261518004224, .op (8, 0, false)]) (.cond (.seq (.reg [.op (0, 0, false)]) .leaf) .leaf)) (.seq (.reg [.op (0, 0, false)]) (.seq (.reg [.op (0, 0, false), .op (1, 0, false), .op (2, 2, false), .op (3, 0, false)]) (.seq (.seq (.reg [.op (0, 0, false), .op (1, 0, false)]) (.cond (.seq (.reg [.op (0, 0, false)]) .leaf) .leaf)) (.seq (.seq (.reg [.op (0, 0, false), .op (1, 0, false), .op (2, 0, false)]) (.cond (.seq (.reg [.op (0, 0, false)]) .leaf) .leaf)) (.seq (.reg [.op (0, 0, false)]) .leaf)))))))))))))))))))))))))))))
theorem I_laws_FnExactSolveSystem {a0 a1 : Value} {w : World} {K : Value → World → Prop} (h : D_laws_FnExactSolveSystem a0 a1 w K) : call P f_laws_FnExactSolveSystem [a0, a1] w K :=
  call_of_vc mixed Try.func8 (c := codeOf Try.f8) (by kernel_rfl) (by kernel_rfl) (p := P_laws_FnExactSolveSystem) (by kernel_rfl) (by rw [Try.ntmps8]; simp) (by
    have e : D_laws_FnExactSolveSystem a0 a1 w K = vc P P_laws_FnExactSolveSystem (codeOf Try.f8) (env0 [a0, a1]) w (retX P Try.f8.results.toList K) := by kernel_rfl
    exact e ▸ h)

/-- laws.FnExactInverseOf -/
def D_laws_FnExactInverseOf (a0 : Value) (w : World) (K : Value → World → Prop) : Prop :=
  call P f_laws_szFloat32SS [a0, (.int .i64 1048576)] w fun x16_1 w2 =>
  bin P .lss 3 false true x16_1 (.int .i64 0) w2 fun x18_3 =>
  cnd x18_3
    (K (.bool true) w2)
    (call P f_laws_toFloat32SS [a0] w2 fun x21_4 w5 =>
    call P f_spec_InverseOf [x21_4] w5 fun x22_6 w7 =>
    xtr P x22_6 0 w7 fun x23_8 =>
    xtr P x22_6 1 w7 fun x24_9 =>
    call P f_laws_toFloat32SS [a0] w7 fun x26_10 w11 =>
    call P f_impl_InverseOf [x26_10] w11 fun x29_12 w13 =>
    xtr P x29_12 0 w13 fun x30_14 =>
    xtr P x29_12 1 w13 fun x31_15 =>
    call P f_laws_eqFloat32SS [x30_14, x23_8] w13 fun x34_16 w17 =>
    una P .not x34_16 w17 fun x35_18 =>
    ∃ J19 : Value → World → Prop, (∀ (x39_20 : Value) (junk22 : Env) (w21 : World), J19 x39_20 w21 →
      pick x35_18 (.bool true) x39_20 fun x40_23 =>
      cnd x40_23
        (K (.bool false) w21)
        (call P f_laws_toFloat32SS [a0] w21 fun x43_24 w25 =>
        call P f_laws_eqFloat32SS [x26_10, x43_24] w25 fun x44_26 w27 =>
        una P .not x44_26 w27 fun x45_28 =>
        cnd x45_28
          (K (.bool false) w27)
          (call P f_laws_markFloat32SS [x26_10, (.int .i64 1)] w27 fun x48_29 w30 =>
          bin P .lss 3 false true x48_29 (.int .i64 0) w30 fun x50_31 =>
          ∃ J32 : Value → World → Prop, (∀ (x55_33 : Value) (junk35 : Env) (w34 : World), J32 x55_33 w34 →
            pick x50_31 (.bool true) x55_33 fun x56_36 =>
            ∃ J37 : Value → World → Prop, (∀ (x60_38 : Value) (junk40 : Env) (w39 : World), J37 x60_38 w39 →
            pick x56_36 (.bool true) x60_38 fun x61_41 =>
              cnd x61_41
                (K (.bool false) w39)
                (call P f_laws_markFloat32SS [x30_14, (.int .i64 1)] w39 fun x64_42 w43 =>
                call P f_laws_heldFloat32SS [x30_14, (.int .i64 1)] w43 fun x67_44 w45 =>
                bin P .lss 3 false true x67_44 (.int .i64 0) w45 fun x69_46 =>
                cnd x69_46
                  (K (.bool false) w45)
                  (bin P .neq 3 false false x67_44 x64_42 w45 fun x72_47 =>
                  cnd x72_47
                    (K (.bool false) w45)
                    (call P f_laws_toFloat32SS [a0] w45 fun x75_48 w49 =>
                    call P f_impl_InverseOf [x75_48] w49 fun x76_50 w51 =>
                    xtr P x76_50 0 w51 fun x77_52 =>
                    xtr P x76_50 1 w51 fun x78_53 =>
                    call P f_laws_eqFloat32SS [x77_52, x23_8] w51 fun x81_54 w55 =>
                    una P .not x81_54 w55 fun x82_56 =>
                    ∃ J57 : Value → World → Prop, (∀ (x86_58 : Value) (junk60 : Env) (w59 : World), J57 x86_58 w59 →
                      pick x82_56 (.bool true) x86_58 fun x87_61 =>
                      cnd x87_61
                        (K (.bool false) w59)
                        (call P f_laws_heldFloat32SS [x30_14, (.int .i64 1)] w59 fun x90_62 w63 =>
                        bin P .lss 3 false true x90_62 (.int .i64 0) w63 fun x92_64 =>
                        cnd x92_64
                          (K (.bool false) w63)
                          (bin P .neq 3 false false x90_62 x64_42 w63 fun x95_65 =>
                          cnd x95_65
                            (K (.bool false) w63)
                            (K (.bool true) w63)))) ∧
                      grd x82_56 false
                        (bin P .neq 2 false false x78_53 x24_9 w55 fun x86_66 =>
                        J57 x86_66 w55)
                        (J57 undef w55))))) ∧
            grd x56_36 false
              (bin P .neq 2 false false x31_15 x24_9 w34 fun x60_67 =>
                J37 x60_67 w34)
              (J37 undef w34)) ∧
            grd x50_31 false
              (call P f_laws_eqFloat32SS [x30_14, x23_8] w30 fun x54_68 w69 =>
              una P .not x54_68 w69 fun x55_70 =>
              J32 x55_70 w69)
              (J32 undef w30)))) ∧
      grd x35_18 false
        (bin P .neq 2 false false x31_15 x24_9 w17 fun x39_71 =>
        J19 x39_71 w17)
        (J19 undef w17))
def P_laws_FnExactInverseOf : Plan := (.seq (.reg [.op (0, 0, false)]) (.seq (.reg [.op (0, 0, false)]) (.seq (.reg [.op (0, 0, false), .op (1, 0, false), .op (2, 2, false), .op (3, 0, false)]) (.seq (.seq (.reg [.op (0, 0, false), .op (1, 0, false)]) (.cond (.seq (.reg [.op (0, 0, false)]) .leaf) .leaf)) (.seq (.reg [.op (0, 0, false), .op (1, 2, false), .op (2, 2, false), .op (3, 0, false), .op (4, 0, false), .op (5, 0, false), .op (6, 0, false), .op (7, 0, false)]) (.seq (.reg [.op (0, 0, false), .op (1, 2, false), .op (2, 0, false)]) (.seq (.reg [.op (0, 0, false), .op (1, 2, false), .op (2, 0, false), .op (3, 0, false), .op (4, 0, false), .op (5, 0, false), .op (6, 0, false)]) (.seq (.seq (.reg [.op (0, 0, false), .op (1, 0, false), .op (2, 2, false), .op (3, 0, false), .op (4, 0, false), .grp 4 false [(5, 0, false), (6, 0, false), (7, 0, false)] [39] 962072674304, .op (8, 0, false)]) (.cond (.seq (.reg [.op (0, 0, false)]) .leaf) .leaf)) (.seq (.seq (.reg [.op (0, 0, false), .op (1, 0, false), .op (2, 2, false), .op (3, 2, false), .op (4, 0, false)]) (.cond (.seq (.reg [.op (0, 0, false)]) .leaf) .leaf)) (.seq (.reg [.op (0, 0, false)]) (.seq (.reg [.op (0, 0, false), .op (1, 0, false), .op (2, 2, false), .op (3, 0, false)]) (.seq (.seq (.reg [.op (0, 0, false), .op (1, 0, false), .op (2, 0, false), .grp 2 false [(3, 0, false), (4, 0, false), (5, 2, false), (6, 0, false)] [55] 67553994410557440, .op (7, 0, false), .op (8, 0, false), .grp 8 false [(9, 0, false), (10, 0, false), (11, 0, false)] [60] 2017612633061982208, .op (12, 0, false)]) (.cond (.seq (.reg [.op (0, 0, false)]) .leaf) .leaf)) (.seq (.reg [.op (0, 0, false)]) (.seq (.reg [.op (0, 0, false), .op (1, 0, false), .op (2, 2, false), .op (3, 0, false)]) (.seq (.reg [.op (0, 0, false)]) (.seq (.reg [.op (0, 0, false), .op (1, 0, false), .op (2, 2, false), .op (3, 0, false)]) (.seq (.seq (.reg [.op (0, 0, false), .op (1, 0, false)]) (.cond (.seq (.reg [.op (0, 0, false)]) .leaf) .leaf)) (.seq (.seq (.reg [.op (0, 0, false), .op (1, 0, false), .op (2, 0, false)]) (.cond (.seq (.reg [.op (0, 0, false)]) .leaf) .leaf)) (.seq (.reg [.op (0, 0, false), .op (1, 2, false), .op (2, 2, false), .op (3, 0, false), .op (4, 0, false), .op (5, 0, false), .op (6, 0, false), .op (7, 0, false)]) (.seq (.seq (.reg [.op (0, 0, false), .op (1, 0, false), .op (2, 2, false), .op (3, 0, false), .op (4, 0, false), .grp 4 false [(5, 0, false), (6, 0, false), (7, 0, false)] [86] 135399691796838467567091712, .op (8, 0, false)]) (.cond (.seq (.reg [.op (0, 0, false)]) .leaf) .leaf)) (.seq (.reg [.op (0, 0, false)]) (.seq (.reg [.op (0, 0, false), .op (1, 0, false), .op (2, 2, false), .op (3, 0, false)]) (.seq (.seq (.reg [.op (0, 0, false), .op (1, 0, false)]) (.cond (.seq (.reg [.op (0, 0, false)]) .leaf) .leaf)) (.seq (.seq (.reg [.op (0, 0, false), .op (1, 0, false), .op (2, 0, false)]) (.cond (.seq (.reg [.op (0, 0, false)]) .leaf) .leaf)) (.seq (.reg [.op (0, 0, false)]) .leaf)))))))))))))))))))))))))
theorem I_laws_FnExactInverseOf {a0 : Value} {w : World} {K : Value → World → Prop} (h : D_laws_FnExactInverseOf a0 w K) : call P f_laws_FnExactInverseOf [a0] w K :=
  call_of_vc mixed Try.func9 (c := codeOf Try.f9) (by kernel_rfl) (by kernel_rfl) (p := P_laws_FnExactInverseOf) (by kernel_rfl) (by rw [Try.ntmps9]; simp) (by
    have e : D_laws_FnExactInverseOf a0 w K = vc P P_laws_FnExactInverseOf (codeOf Try.f9) (env0 [a0]) w (retX P Try.f9.results.toList K) := by kernel_rfl
    exact e ▸ h)

/-- laws.szFloat32SS -/
def D_laws_szFloat32SS (a0 a1 : Value) (w : World) (K : Value → World → Prop) : Prop :=
  bl0 P .len #[22] 3 [a0] w fun x8_1 =>
  bin P .sub 3 false false a1 x8_1 w fun x9_2 =>
  bin P .lss 3 false true x9_2 (.int .i64 0) w fun x11_3 =>
  cnd x11_3
    (K (.int .i64 (-1)) w)
    (∃ I4 : Nat → Value → Value → World → Prop, (∃ m19, I4 m19 x9_2 (.int .i64 0) w) ∧ ∀ (m7 : Nat) (x1_8 : Value) (x5_9 : Value) (junk5 : Env) (w6 : World), I4 m7 x1_8 x5_9 w6 →
      bl0 P .len #[22] 3 [a0] w6 fun x14_10 =>
      bin P .lss 3 false false x5_9 x14_10 w6 fun x15_11 =>
      cnd x15_11
        (ixa P 22 a0 x5_9 w6 fun x20_12 =>
        ld P 36 x20_12 w6 fun x21_13 =>
        call P f_laws_szFloat32S [x21_13, x1_8] w6 fun x23_14 w15 =>
        bin P .lss 3 false true x23_14 (.int .i64 0) w15 fun x25_16 =>
        cnd x25_16
          (K (.int .i64 (-1)) w15)
          (bin P .add 3 false true x5_9 (.int .i64 1) w15 fun x17_17 =>
          ∃ m18, m18 < m7 ∧ I4 m18 x23_14 x17_17 w15))
        (K x1_8 w6))
def P_laws_szFloat32SS : Plan := (.seq (.reg [.op (0, 0, false)]) (.seq (.reg [.op (0, 0, false), .op (1, 0, false), .op (2, 0, false), .op (3, 0, false), .op (4, 0, false)]) (.seq (.seq (.reg [.op (0, 0, false), .op (1, 0, false)]) (.cond (.seq (.reg [.op (0, 0, false)]) .leaf) .leaf)) (.seq (.seq (.reg [.op (0, 0, false)]) (.blk (.loop [1, 5] 67104818 (.seq (.seq (.reg [.op (0, 0, false), .op (1, 0, false), .op (2, 0, false), .op (3, 0, false)]) (.cond .leaf .leaf)) (.seq (.blk (.seq (.reg [.op (0, 0, false), .op (1, 0, false), .op (2, 0, false), .op (3, 0, false), .op (4, 0, false), .op (5, 2, false), .op (6, 0, false)]) (.seq (.reg [.op (0, 0, false), .op (1, 0, false)]) (.cond (.seq (.reg [.op (0, 0, false)]) .leaf) .leaf)))) (.reg [.op (0, 0, false), .op (1, 0, false), .op (2, 0, false)])))))) (.seq (.reg [.op (0, 0, false), .op (1, 0, false)]) .leaf)))))
theorem I_laws_szFloat32SS {a0 a1 : Value} {w : World} {K : Value → World → Prop} (h : D_laws_szFloat32SS a0 a1 w K) : call P f_laws_szFloat32SS [a0, a1] w K :=
  call_of_vc mixed Try.func10 (c := codeOf Try.f10) (by kernel_rfl) (by kernel_rfl) (p := P_laws_szFloat32SS) (by kernel_rfl) (by rw [Try.ntmps10]; simp) (by
    have e : D_laws_szFloat32SS a0 a1 w K = vc P P_laws_szFloat32SS (codeOf Try.f10) (env0 [a0, a1]) w (retX P Try.f10.results.toList K) := by kernel_rfl
    exact e ▸ h)

/-- spec.IsMatrix -/
def D_spec_IsMatrix (a0 : Value) (w : World) (K : Value → World → Prop) : Prop :=
  call P f_spec_l10Is [a0] w fun x4_1 w2 =>
  K x4_1 w2
def P_spec_IsMatrix : Plan := (.seq (.reg [.op (0, 0, false)]) (.seq (.reg [.op (0, 0, false), .op (1, 2, false), .op (2, 0, false)]) .leaf))
theorem I_spec_IsMatrix {a0 : Value} {w : World} {K : Value → World → Prop} (h : D_spec_IsMatrix a0 w K) : call P f_spec_IsMatrix [a0] w K :=
  call_of_vc mixed Try.func11 (c := codeOf Try.f11) (by kernel_rfl) (by kernel_rfl) (p := P_spec_IsMatrix) (by kernel_rfl) (by rw [Try.ntmps11]; simp) (by
    have e : D_spec_IsMatrix a0 w K = vc P P_spec_IsMatrix (codeOf Try.f11) (env0 [a0]) w (retX P Try.f11.results.toList K) := by kernel_rfl
    exact e ▸ h)

/-- laws.toFloat32SS -/
def D_laws_toFloat32SS (a0 : Value) (w : World) (K : Value → World → Prop) : Prop :=
  bl0 P .len #[22] 3 [a0] w fun x6_1 =>
  mks P 22 x6_1 x6_1 w fun x7_2 w3 =>
  ∃ I4 : Nat → Value → World → Prop, (∃ m20, I4 m20 (.int .i64 0) w3) ∧ ∀ (m7 : Nat) (x4_8 : Value) (junk5 : Env) (w6 : World), I4 m7 x4_8 w6 →
    bl0 P .len #[22] 3 [a0] w6 fun x10_9 =>
    bin P .lss 3 false false x4_8 x10_9 w6 fun x11_10 =>
    cnd x11_10
      (ixa P 22 a0 x4_8 w6 fun x18_11 =>
      ld P 36 x18_11 w6 fun x19_12 =>
      call P f_laws_toFloat32S [x19_12] w6 fun x20_13 w14 =>
      ixa P 22 x7_2 x4_8 w14 fun x21_15 =>
      sto P 36 x21_15 x20_13 w14 fun w17 =>
      bin P .add 3 false true x4_8 (.int .i64 1) w17 fun x13_18 =>
      ∃ m19, m19 < m7 ∧ I4 m19 x13_18 w17)
      (K x7_2 w6)
def P_laws_toFloat32SS : Plan := (.seq (.reg [.op (0, 0, false)]) (.seq (.reg [.op (0, 0, false), .op (1, 0, false), .op (2, 2, false), .op (3, 0, false)]) (.seq (.seq (.reg [.op (0, 0, false)]) (.blk (.loop [4] 4194064 (.seq (.seq (.reg [.op (0, 0, false), .op (1, 0, false), .op (2, 0, false), .op (3, 0, false)]) (.cond .leaf .leaf)) (.seq (.blk (.reg [.op (0, 0, false), .op (1, 0, false), .op (2, 0, false), .op (3, 0, false), .op (4, 0, false), .op (5, 0, false), .op (6, 2, false), .op (7, 0, false), .op (8, 2, false)])) (.reg [.op (0, 0, false), .op (1, 0, false), .op (2, 0, false)])))))) (.seq (.reg [.op (0, 0, false), .op (1, 0, false)]) .leaf))))
theorem I_laws_toFloat32SS {a0 : Value} {w : World} {K : Value → World → Prop} (h : D_laws_toFloat32SS a0 w K) : call P f_laws_toFloat32SS [a0] w K :=
  call_of_vc mixed Try.func12 (c := codeOf Try.f12) (by kernel_rfl) (by kernel_rfl) (p := P_laws_toFloat32SS) (by kernel_rfl) (by rw [Try.ntmps12]; simp) (by
    have e : D_laws_toFloat32SS a0 w K = vc P P_laws_toFloat32SS (codeOf Try.f12) (env0 [a0]) w (retX P Try.f12.results.toList K) := by kernel_rfl
    exact e ▸ h)

/-- impl.IsMatrix -/
def D_impl_IsMatrix (a0 : Value) (w : World) (K : Value → World → Prop) : Prop :=
  bl0 P .len #[22] 3 [a0] w fun x6_1 =>
  bin P .lss 3 false true x6_1 (.int .i64 1) w fun x7_2 =>
  ∃ J3 : Value → World → Prop, (∀ (x11_4 : Value) (junk6 : Env) (w5 : World), J3 x11_4 w5 →
    pick x7_2 (.bool true) x11_4 fun x12_7 =>
    cnd x12_7
      (K (.bool false) w5)
      (bl0 P .len #[22] 3 [a0] w5 fun x14_8 =>
      ∃ I9 : Nat → Value → World → Prop, (∃ m30, I9 m30 (.int .i64 0) w5) ∧ ∀ (m12 : Nat) (x15_13 : Value) (junk10 : Env) (w11 : World), I9 m12 x15_13 w11 →
        bin P .lss 3 false false x15_13 x14_8 w11 fun x16_14 =>
        cnd x16_14
          (ixa P 22 a0 x15_13 w11 fun x17_15 =>
          ld P 36 x17_15 w11 fun x18_16 =>
          bl0 P .len #[36] 3 [x18_16] w11 fun x20_17 =>
          bl0 P .len #[22] 3 [a0] w11 fun x22_18 =>
          bin P .neq 3 false false x20_17 x22_18 w11 fun x23_19 =>
          ∃ J20 : Value → World → Prop, (∀ (x27_21 : Value) (junk23 : Env) (w22 : World), J20 x27_21 w22 →
            pick x23_19 (.bool true) x27_21 fun x28_24 =>
            cnd x28_24
              (K (.bool false) w22)
              (bin P .add 3 false true x15_13 (.int .i64 1) w22 fun x29_25 =>
              ∃ m26, m26 < m12 ∧ I9 m26 x29_25 w22)) ∧
            grd x23_19 false
              (call P f_impl_areFinite [x18_16] w11 fun x26_27 w28 =>
              una P .not x26_27 w28 fun x27_29 =>
              J20 x27_29 w28)
              (J20 undef w11))
          (K (.bool true) w11))) ∧
    grd x7_2 false
      (bl0 P .len #[22] 3 [a0] w fun x10_31 =>
      bin P .gtr 3 false true x10_31 (.int .i64 8) w fun x11_32 =>
      J3 x11_32 w)
      (J3 undef w)
def P_impl_IsMatrix : Plan := (.seq (.reg [.op (0, 0, false)]) (.seq (.seq (.reg [.op (0, 0, false), .op (1, 0, false), .op (2, 0, false), .op (3, 0, false), .grp 3 false [(4, 0, false), (5, 0, false), (6, 0, false)] [11] 3584, .op (7, 0, false)]) (.cond (.seq (.reg [.op (0, 0, false)]) .leaf) .leaf)) (.seq (.seq (.reg [.op (0, 0, false), .op (1, 0, false), .op (2, 0, false)]) (.blk (.loop [15] 1073709076 (.seq (.reg [.op (0, 0, false)]) (.seq (.cond .leaf .leaf) (.seq (.blk (.seq (.reg [.op (0, 0, false), .op (1, 0, false), .op (2, 0, false)]) (.seq (.reg [.op (0, 0, false), .op (1, 0, false), .op (2, 0, false), .op (3, 0, false), .op (4, 0, false), .op (5, 0, false), .grp 5 false [(6, 0, false), (7, 2, false), (8, 0, false)] [27] 234881024, .op (9, 0, false)]) (.cond (.seq (.reg [.op (0, 0, false)]) .leaf) .leaf)))) (.reg [.op (0, 0, false), .op (1, 0, false)]))))))) (.seq (.reg [.op (0, 0, false)]) .leaf))))
theorem I_impl_IsMatrix {a0 : Value} {w : World} {K : Value → World → Prop} (h : D_impl_IsMatrix a0 w K) : call P f_impl_IsMatrix [a0] w K :=
  call_of_vc mixed Try.func13 (c := codeOf Try.f13) (by kernel_rfl) (by kernel_rfl) (p := P_impl_IsMatrix) (by kernel_rfl) (by rw [Try.ntmps13]; simp) (by
    have e : D_impl_IsMatrix a0 w K = vc P P_impl_IsMatrix (codeOf Try.f13) (env0 [a0]) w (retX P Try.f13.results.toList K) := by kernel_rfl
    exact e ▸ h)

/-- laws.eqFloat32SS -/
def D_laws_eqFloat32SS (a0 a1 : Value) (w : World) (K : Value → World → Prop) : Prop :=
  bl0 P .len #[22] 3 [a0] w fun x7_1 =>
  bl0 P .len #[22] 3 [a1] w fun x9_2 =>
  bin P .neq 3 false false x7_1 x9_2 w fun x10_3 =>
  cnd x10_3
    (K (.bool false) w)
    (∃ I4 : Nat → Value → World → Prop, (∃ m20, I4 m20 (.int .i64 0) w) ∧ ∀ (m7 : Nat) (x5_8 : Value) (junk5 : Env) (w6 : World), I4 m7 x5_8 w6 →
      bl0 P .len #[22] 3 [a0] w6 fun x13_9 =>
      bin P .lss 3 false false x5_8 x13_9 w6 fun x14_10 =>
      cnd x14_10
        (ixa P 22 a0 x5_8 w6 fun x19_11 =>
        ld P 36 x19_11 w6 fun x20_12 =>
        ixa P 22 a1 x5_8 w6 fun x23_13 =>
        ld P 36 x23_13 w6 fun x24_14 =>
        call P f_laws_eqFloat32S [x20_12, x24_14] w6 fun x25_15 w16 =>
        una P .not x25_15 w16 fun x26_17 =>
        cnd x26_17
          (K (.bool false) w16)
          (bin P .add 3 false true x5_8 (.int .i64 1) w16 fun x16_18 =>
          ∃ m19, m19 < m7 ∧ I4 m19 x16_18 w16))
        (K (.bool true) w6))
def P_laws_eqFloat32SS : Plan := (.seq (.reg [.op (0, 0, false)]) (.seq (.seq (.reg [.op (0, 0, false), .op (1, 0, false), .op (2, 0, false), .op (3, 0, false), .op (4, 0, false)]) (.cond (.seq (.reg [.op (0, 0, false)]) .leaf) .leaf)) (.seq (.seq (.reg [.op (0, 0, false)]) (.blk (.loop [5] 134215728 (.seq (.seq (.reg [.op (0, 0, false), .op (1, 0, false), .op (2, 0, false), .op (3, 0, false)]) (.cond .leaf .leaf)) (.seq (.blk (.seq (.reg [.op (0, 0, false), .op (1, 0, false), .op (2, 0, false), .op (3, 0, false), .op (4, 0, false), .op (5, 0, false), .op (6, 0, false), .op (7, 0, false), .op (8, 2, false), .op (9, 0, false)]) (.cond (.seq (.reg [.op (0, 0, false)]) .leaf) .leaf))) (.reg [.op (0, 0, false), .op (1, 0, false), .op (2, 0, false)])))))) (.seq (.reg [.op (0, 0, false)]) .leaf))))
theorem I_laws_eqFloat32SS {a0 a1 : Value} {w : World} {K : Value → World → Prop} (h : D_laws_eqFloat32SS a0 a1 w K) : call P f_laws_eqFloat32SS [a0, a1] w K :=
  call_of_vc mixed Try.func14 (c := codeOf Try.f14) (by kernel_rfl) (by kernel_rfl) (p := P_laws_eqFloat32SS) (by kernel_rfl) (by rw [Try.ntmps14]; simp) (by
    have e : D_laws_eqFloat32SS a0 a1 w K = vc P P_laws_eqFloat32SS (codeOf Try.f14) (env0 [a0, a1]) w (retX P Try.f14.results.toList K) := by kernel_rfl
    exact e ▸ h)

end Go.Proofs.Ytliagkijeigcaaa
