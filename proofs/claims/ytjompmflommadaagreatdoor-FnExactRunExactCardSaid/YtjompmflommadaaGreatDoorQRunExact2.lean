import Derived.Test.YtjompmflommadaaGreatDoorQRunExact1
set_option linter.unusedSimpArgs false
set_option linter.unusedVariables false
/- Written by a program (gen.py): what is left to show of each function's call. -/
set_option linter.unusedVariables false
set_option maxRecDepth 20000
namespace Go.Proofs.YtjompmflommadaaGreatDoor
open Go Go.Vc

/-- impl.numOf -/
def D_impl_numOf (a0 : Value) (w : World) (K : Value → World → Prop) : Prop :=
  alc P 105 w fun x2_1 w2 =>
  call P f_impl_parts [a0] w2 fun x7_3 w4 =>
  xtr P x7_3 0 w4 fun x8_5 =>
  xtr P x7_3 1 w4 fun x9_6 =>
  call P f_impl_newInt [x8_5] w4 fun x11_7 w8 =>
  bld P 105 [(0, x11_7), (1, x9_6)] w8 fun x13_9 =>
  sto P 105 x2_1 x13_9 w8 fun w11 =>
  ldc P 105 x2_1 w11 fun r12 =>
  K r12 w11
def P_impl_numOf : Plan := (.seq (.reg [.op (0, 2, false)]) (.seq (.reg [.op (0, 0, false), .op (1, 2, false), .op (2, 0, false), .op (3, 0, false), .op (4, 0, false), .op (5, 0, false), .op (6, 0, false)]) (.seq (.reg [.op (0, 0, false), .op (1, 2, false), .op (2, 0, false), .op (3, 0, false), .op (4, 2, false)]) .leaf)))
theorem I_impl_numOf {a0 : Value} {w : World} {K : Value → World → Prop} (h : D_impl_numOf a0 w K) : call P f_impl_numOf [a0] w K :=
  call_of_vc mixed Tryz.func78 (c := codeOf Tryz.f78) (by kernel_rfl) (by kernel_rfl) (p := P_impl_numOf) (by kernel_rfl) (by rw [Tryz.ntmps78]; simp) (by
    have e : D_impl_numOf a0 w K = vc P P_impl_numOf (codeOf Tryz.f78) (env0 [a0]) w (retX P Tryz.f78.results.toList K) := by kernel_rfl
    exact e ▸ h)

/-- (impl.num).odd -/
def D_impl_num_odd (a0 : Value) (w : World) (K : Value → World → Prop) : Prop :=
  bx P 105 a0 w fun x1_1 w2 =>
  alc P 105 w2 fun x2_3 w4 =>
  ld P 105 x1_1 w4 fun x4_5 =>
  call P f_impl_num_sign [x4_5] w4 fun x5_6 w7 =>
  bin P .eql 3 false true x5_6 (.int .i64 0) w7 fun x6_8 =>
  cnd x6_8
  (call P f_impl_zero [] w7 fun x7_9 w10 =>
  sto P 105 x2_3 x7_9 w10 fun w12 =>
  ldc P 105 x2_3 w12 fun r13 =>
  K r13 w12)
  (fda P 105 x1_1 0 w7 fun x8_14 =>
  ld P 103 x8_14 w7 fun x9_15 =>
  call P f_impl_integer_TrailingZeroBits [x9_15] w7 fun x10_16 w17 =>
  fda P 105 x1_1 0 w17 fun x12_18 =>
  ld P 103 x12_18 w17 fun x13_19 =>
  fda P 105 x1_1 1 w17 fun x16_20 =>
  ld P 3 x16_20 w17 fun x17_21 =>
  cnv P 154 3 x10_16 w17 fun x19_22 =>
  bin P .add 3 false false x17_21 x19_22 w17 fun x20_23 =>
  alc P 158 w17 fun x11_24 w25 =>
  Ext w17 w25 ∧ call P f_impl_integer_Rsh [x11_24, x13_19, x10_16] w25 fun x15_26 w27 =>
  (fda P 105 x1_1 1 w27 fun z => z = x16_20) ∧ (ld P 3 x16_20 w27 fun z => z = x17_21) ∧ (cnv P 154 3 x10_16 w27 fun z => z = x19_22) ∧ (bin P .add 3 false false x17_21 x19_22 w27 fun z => z = x20_23) ∧ bld P 105 [(0, x15_26), (1, x20_23)] w27 fun x21_28 =>
  sto P 105 x2_3 x21_28 w27 fun w30 =>
  ldc P 105 x2_3 w30 fun r31 =>
  K r31 w30)
def P_impl_num_odd : Plan := (.seq (.reg [.op (0, 2, false), .op (1, 2, false)]) (.seq (.seq (.reg [.op (0, 0, false), .op (1, 2, false), .op (2, 0, false)]) (.cond (.seq (.reg [.op (0, 2, false), .op (1, 2, false)]) .leaf) .leaf)) (.seq (.reg [.op (0, 0, false), .op (1, 0, false), .op (2, 2, false), .op (3, 0, false)]) (.seq (.reg [.op (1, 0, false), .op (2, 0, false), .op (3, 0, false), .op (5, 0, false), .op (6, 0, false), .op (7, 0, false), .op (8, 0, false), .op (9, 0, false), .op (0, 2, true), .op (4, 866, false), .op (10, 0, false), .op (11, 2, false)]) .leaf))))
theorem I_impl_num_odd {a0 : Value} {w : World} {K : Value → World → Prop} (h : D_impl_num_odd a0 w K) : call P f_impl_num_odd [a0] w K :=
  call_of_vc mixed Tryz.func79 (c := codeOf Tryz.f79) (by kernel_rfl) (by kernel_rfl) (p := P_impl_num_odd) (by kernel_rfl) (by rw [Tryz.ntmps79]; simp) (by
    have e : D_impl_num_odd a0 w K = vc P P_impl_num_odd (codeOf Tryz.f79) (env0 [a0]) w (retX P Tryz.f79.results.toList K) := by kernel_rfl
    exact e ▸ h)

/-- (impl.num).dyadic -/
def D_impl_num_dyadic (a0 : Value) (w : World) (K : Value → World → Prop) : Prop :=
  bx P 105 a0 w fun x1_1 w2 =>
  alc P 57 w2 fun x2_3 w4 =>
  ld P 105 x1_1 w4 fun x6_5 =>
  call P f_impl_num_odd [x6_5] w4 fun x7_6 w7 =>
  sto P 105 x1_1 x7_6 w7 fun w9 =>
  fda P 105 x1_1 0 w9 fun x9_10 =>
  ld P 103 x9_10 w9 fun x10_11 =>
  call P f_impl_fromBig [x10_11] w9 fun x11_12 w13 =>
  xtr P x11_12 0 w13 fun x12_14 =>
  xtr P x11_12 1 w13 fun x13_15 =>
  alc P 55 w13 fun x4_16 w17 =>
  sto P 55 x4_16 x12_14 w17 fun w19 =>
  una P .not x13_15 w19 fun x15_20 =>
  ∃ J21 : Value → World → Prop, (∀ (x19_22 : Value) (junk24 : Env) (w23 : World), J21 x19_22 w23 →
  pick x15_20 (.bool true) x19_22 fun x20_25 =>
  ∃ J26 : Value → World → Prop, (∀ (x24_27 : Value) (junk29 : Env) (w28 : World), J26 x24_27 w28 →
  pick x20_25 (.bool true) x24_27 fun x25_30 =>
  cnd x25_30
  (bld P 57 [] w28 fun x26_31 =>
  sto P 57 x2_3 x26_31 w28 fun w33 =>
  ldc P 57 x2_3 w33 fun r34 =>
  K (.tuple #[r34, (.int .i64 3)]) w33)
  (ld P 55 x4_16 w28 fun x27_35 =>
  fda P 105 x1_1 1 w28 fun x28_36 =>
  ld P 3 x28_36 w28 fun x29_37 =>
  bld P 57 [(0, x27_35), (1, x29_37)] w28 fun x30_38 =>
  sto P 57 x2_3 x30_38 w28 fun w40 =>
  ldc P 57 x2_3 w40 fun r41 =>
  K (.tuple #[r41, (.int .i64 0)]) w40)) ∧
  grd x20_25 false
  (fda P 105 x1_1 1 w23 fun x22_42 =>
  ld P 3 x22_42 w23 fun x23_43 =>
  bin P .gtr 3 false true x23_43 (.int .i64 3000) w23 fun x24_44 =>
  J26 x24_44 w23)
  (J26 undef w23)) ∧
  grd x15_20 false
  (fda P 105 x1_1 1 w19 fun x17_45 =>
  ld P 3 x17_45 w19 fun x18_46 =>
  bin P .lss 3 false true x18_46 (.int .i64 (-3000)) w19 fun x19_47 =>
  J21 x19_47 w19)
  (J21 undef w19)
def P_impl_num_dyadic : Plan := (.seq (.reg [.op (0, 2, false), .op (1, 2, false), .op (2, 0, false)]) (.seq (.reg [.op (0, 0, false), .op (1, 2, false), .op (2, 2, false)]) (.seq (.reg [.op (0, 0, false), .op (1, 0, false), .op (2, 2, false), .op (3, 0, false), .op (4, 0, false), .op (5, 0, false), .op (6, 2, false), .op (7, 2, false), .op (8, 0, false)]) (.seq (.seq (.reg [.op (0, 0, false), .op (1, 0, false), .op (2, 0, false), .grp 2 false [(3, 0, false), (4, 0, false), (5, 0, false)] [19] 917504, .op (6, 0, false), .op (7, 0, false), .grp 7 false [(8, 0, false), (9, 0, false), (10, 0, false)] [24] 29360128, .op (11, 0, false)]) (.cond (.seq (.reg [.op (0, 0, false), .op (1, 2, false), .op (2, 0, false)]) .leaf) .leaf)) (.seq (.reg [.op (0, 0, false), .op (1, 0, false), .op (2, 0, false), .op (3, 0, false), .op (4, 2, false), .op (5, 0, false)]) .leaf)))))
theorem I_impl_num_dyadic {a0 : Value} {w : World} {K : Value → World → Prop} (h : D_impl_num_dyadic a0 w K) : call P f_impl_num_dyadic [a0] w K :=
  call_of_vc mixed Tryz.func84 (c := codeOf Tryz.f84) (by kernel_rfl) (by kernel_rfl) (p := P_impl_num_dyadic) (by kernel_rfl) (by rw [Tryz.ntmps84]; simp) (by
    have e : D_impl_num_dyadic a0 w K = vc P P_impl_num_dyadic (codeOf Tryz.f84) (env0 [a0]) w (retX P Tryz.f84.results.toList K) := by kernel_rfl
    exact e ▸ h)

/-- (impl.num).sign -/
def D_impl_num_sign (a0 : Value) (w : World) (K : Value → World → Prop) : Prop :=
  bx P 105 a0 w fun x1_1 w2 =>
  fda P 105 x1_1 0 w2 fun x3_3 =>
  ld P 103 x3_3 w2 fun x4_4 =>
  call P f_impl_integer_Sign [x4_4] w2 fun x5_5 w6 =>
  K x5_5 w6
def P_impl_num_sign : Plan := (.seq (.reg [.op (0, 2, false), .op (1, 0, false)]) (.seq (.reg [.op (0, 0, false), .op (1, 0, false), .op (2, 2, false), .op (3, 0, false)]) .leaf))
theorem I_impl_num_sign {a0 : Value} {w : World} {K : Value → World → Prop} (h : D_impl_num_sign a0 w K) : call P f_impl_num_sign [a0] w K :=
  call_of_vc mixed Tryz.func125 (c := codeOf Tryz.f125) (by kernel_rfl) (by kernel_rfl) (p := P_impl_num_sign) (by kernel_rfl) (by rw [Tryz.ntmps125]; simp) (by
    have e : D_impl_num_sign a0 w K = vc P P_impl_num_sign (codeOf Tryz.f125) (env0 [a0]) w (retX P Tryz.f125.results.toList K) := by kernel_rfl
    exact e ▸ h)

/-- impl.zero -/
def D_impl_zero (w : World) (K : Value → World → Prop) : Prop :=
  alc P 105 w fun x0_1 w2 =>
  alc P 158 w2 fun x1_3 w4 =>
  bld P 105 [(0, x1_3)] w4 fun x2_5 =>
  sto P 105 x0_1 x2_5 w4 fun w7 =>
  ldc P 105 x0_1 w7 fun r8 =>
  K r8 w7
def P_impl_zero : Plan := (.seq (.reg [.op (0, 2, false)]) (.seq (.reg [.op (0, 2, false), .op (1, 0, false), .op (2, 2, false)]) .leaf))
theorem I_impl_zero {w : World} {K : Value → World → Prop} (h : D_impl_zero  w K) : call P f_impl_zero [] w K :=
  call_of_vc mixed Tryz.func126 (c := codeOf Tryz.f126) (by kernel_rfl) (by kernel_rfl) (p := P_impl_zero) (by kernel_rfl) (by rw [Tryz.ntmps126]; simp) (by
    have e : D_impl_zero  w K = vc P P_impl_zero (codeOf Tryz.f126) (env0 []) w (retX P Tryz.f126.results.toList K) := by kernel_rfl
    exact e ▸ h)

/-- (impl.num).neg -/
def D_impl_num_neg (a0 : Value) (w : World) (K : Value → World → Prop) : Prop :=
  bx P 105 a0 w fun x1_1 w2 =>
  alc P 105 w2 fun x2_3 w4 =>
  fda P 105 x1_1 0 w4 fun x4_5 =>
  ld P 103 x4_5 w4 fun x5_6 =>
  fda P 105 x1_1 1 w4 fun x7_7 =>
  ld P 3 x7_7 w4 fun x8_8 =>
  alc P 158 w4 fun x3_9 w10 =>
  Ext w4 w10 ∧ call P f_impl_integer_Neg [x3_9, x5_6] w10 fun x6_11 w12 =>
  (fda P 105 x1_1 1 w12 fun z => z = x7_7) ∧ (ld P 3 x7_7 w12 fun z => z = x8_8) ∧ bld P 105 [(0, x6_11), (1, x8_8)] w12 fun x9_13 =>
  sto P 105 x2_3 x9_13 w12 fun w15 =>
  ldc P 105 x2_3 w15 fun r16 =>
  K r16 w15
def P_impl_num_neg : Plan := (.seq (.reg [.op (0, 2, false), .op (1, 2, false)]) (.seq (.reg [.op (1, 0, false), .op (2, 0, false), .op (4, 0, false), .op (5, 0, false), .op (0, 2, true), .op (3, 50, false), .op (6, 0, false), .op (7, 2, false)]) .leaf))
theorem I_impl_num_neg {a0 : Value} {w : World} {K : Value → World → Prop} (h : D_impl_num_neg a0 w K) : call P f_impl_num_neg [a0] w K :=
  call_of_vc mixed Tryz.func130 (c := codeOf Tryz.f130) (by kernel_rfl) (by kernel_rfl) (p := P_impl_num_neg) (by kernel_rfl) (by rw [Tryz.ntmps130]; simp) (by
    have e : D_impl_num_neg a0 w K = vc P P_impl_num_neg (codeOf Tryz.f130) (env0 [a0]) w (retX P Tryz.f130.results.toList K) := by kernel_rfl
    exact e ▸ h)

/-- (impl.num).mul -/
def D_impl_num_mul (a0 a1 : Value) (w : World) (K : Value → World → Prop) : Prop :=
  bx P 105 a0 w fun x2_1 w2 =>
  bx P 105 a1 w2 fun x3_3 w4 =>
  alc P 105 w4 fun x4_5 w6 =>
  fda P 105 x2_1 0 w6 fun x6_7 =>
  ld P 103 x6_7 w6 fun x7_8 =>
  fda P 105 x3_3 0 w6 fun x8_9 =>
  ld P 103 x8_9 w6 fun x9_10 =>
  fda P 105 x2_1 1 w6 fun x11_11 =>
  ld P 3 x11_11 w6 fun x12_12 =>
  fda P 105 x3_3 1 w6 fun x13_13 =>
  ld P 3 x13_13 w6 fun x14_14 =>
  bin P .add 3 false false x12_12 x14_14 w6 fun x15_15 =>
  alc P 158 w6 fun x5_16 w17 =>
  Ext w6 w17 ∧ call P f_impl_integer_Mul [x5_16, x7_8, x9_10] w17 fun x10_18 w19 =>
  (fda P 105 x2_1 1 w19 fun z => z = x11_11) ∧ (ld P 3 x11_11 w19 fun z => z = x12_12) ∧ (fda P 105 x3_3 1 w19 fun z => z = x13_13) ∧ (ld P 3 x13_13 w19 fun z => z = x14_14) ∧ (bin P .add 3 false false x12_12 x14_14 w19 fun z => z = x15_15) ∧ bld P 105 [(0, x10_18), (1, x15_15)] w19 fun x16_20 =>
  sto P 105 x4_5 x16_20 w19 fun w22 =>
  ldc P 105 x4_5 w22 fun r23 =>
  K r23 w22
def P_impl_num_mul : Plan := (.seq (.reg [.op (0, 2, false), .op (1, 2, false), .op (2, 2, false)]) (.seq (.reg [.op (1, 0, false), .op (2, 0, false), .op (3, 0, false), .op (4, 0, false), .op (6, 0, false), .op (7, 0, false), .op (8, 0, false), .op (9, 0, false), .op (10, 0, false), .op (0, 2, true), .op (5, 1986, false), .op (11, 0, false), .op (12, 2, false)]) .leaf))
theorem I_impl_num_mul {a0 a1 : Value} {w : World} {K : Value → World → Prop} (h : D_impl_num_mul a0 a1 w K) : call P f_impl_num_mul [a0, a1] w K :=
  call_of_vc mixed Tryz.func132 (c := codeOf Tryz.f132) (by kernel_rfl) (by kernel_rfl) (p := P_impl_num_mul) (by kernel_rfl) (by rw [Tryz.ntmps132]; simp) (by
    have e : D_impl_num_mul a0 a1 w K = vc P P_impl_num_mul (codeOf Tryz.f132) (env0 [a0, a1]) w (retX P Tryz.f132.results.toList K) := by kernel_rfl
    exact e ▸ h)

/-- (impl.num).abs -/
def D_impl_num_abs (a0 : Value) (w : World) (K : Value → World → Prop) : Prop :=
  bx P 105 a0 w fun x1_1 w2 =>
  alc P 105 w2 fun x2_3 w4 =>
  fda P 105 x1_1 0 w4 fun x4_5 =>
  ld P 103 x4_5 w4 fun x5_6 =>
  fda P 105 x1_1 1 w4 fun x7_7 =>
  ld P 3 x7_7 w4 fun x8_8 =>
  alc P 158 w4 fun x3_9 w10 =>
  Ext w4 w10 ∧ call P f_impl_integer_Abs [x3_9, x5_6] w10 fun x6_11 w12 =>
  (fda P 105 x1_1 1 w12 fun z => z = x7_7) ∧ (ld P 3 x7_7 w12 fun z => z = x8_8) ∧ bld P 105 [(0, x6_11), (1, x8_8)] w12 fun x9_13 =>
  sto P 105 x2_3 x9_13 w12 fun w15 =>
  ldc P 105 x2_3 w15 fun r16 =>
  K r16 w15
def P_impl_num_abs : Plan := (.seq (.reg [.op (0, 2, false), .op (1, 2, false)]) (.seq (.reg [.op (1, 0, false), .op (2, 0, false), .op (4, 0, false), .op (5, 0, false), .op (0, 2, true), .op (3, 50, false), .op (6, 0, false), .op (7, 2, false)]) .leaf))
theorem I_impl_num_abs {a0 : Value} {w : World} {K : Value → World → Prop} (h : D_impl_num_abs a0 w K) : call P f_impl_num_abs [a0] w K :=
  call_of_vc mixed Tryz.func133 (c := codeOf Tryz.f133) (by kernel_rfl) (by kernel_rfl) (p := P_impl_num_abs) (by kernel_rfl) (by rw [Tryz.ntmps133]; simp) (by
    have e : D_impl_num_abs a0 w K = vc P P_impl_num_abs (codeOf Tryz.f133) (env0 [a0]) w (retX P Tryz.f133.results.toList K) := by kernel_rfl
    exact e ▸ h)

/-- (impl.num).add -/
def D_impl_num_add (a0 a1 : Value) (w : World) (K : Value → World → Prop) : Prop :=
  bx P 105 a0 w fun x2_1 w2 =>
  bx P 105 a1 w2 fun x3_3 w4 =>
  alc P 105 w4 fun x4_5 w6 =>
  ld P 105 x2_1 w6 fun x7_7 =>
  call P f_impl_num_sign [x7_7] w6 fun x8_8 w9 =>
  bin P .eql 3 false true x8_8 (.int .i64 0) w9 fun x9_10 =>
  cnd x9_10
  (ld P 105 x3_3 w9 fun x10_11 =>
  sto P 105 x4_5 x10_11 w9 fun w13 =>
  ldc P 105 x4_5 w13 fun r14 =>
  K r14 w13)
  (ld P 105 x3_3 w9 fun x12_15 =>
  call P f_impl_num_sign [x12_15] w9 fun x13_16 w17 =>
  bin P .eql 3 false true x13_16 (.int .i64 0) w17 fun x14_18 =>
  cnd x14_18
  (ld P 105 x2_1 w17 fun x15_19 =>
  sto P 105 x4_5 x15_19 w17 fun w21 =>
  ldc P 105 x4_5 w21 fun r22 =>
  K r22 w21)
  (fda P 105 x2_1 1 w17 fun x16_23 =>
  ld P 3 x16_23 w17 fun x17_24 =>
  fda P 105 x3_3 1 w17 fun x18_25 =>
  ld P 3 x18_25 w17 fun x19_26 =>
  bl0 P .min #[3, 3] 3 [x17_24, x19_26] w17 fun x20_27 =>
  ∃ J28 : World → Prop, (∀ (junk29 : Env) (w30 : World), J28 w30 →
  ldc P 105 x4_5 w30 fun r31 =>
  K r31 w30) ∧
  (ld P 105 x2_1 w17 fun x22_32 =>
  ld P 105 x3_3 w17 fun x25_33 =>
  (alc P 158 w17 fun x21_34 w35 =>
  Ext w17 w35 ∧ call P f_impl_num_at [x22_32, x20_27] w35 fun x24_36 w37 =>
  Ext w35 w37 ∧ call P f_impl_num_at [x25_33, x20_27] w37 fun x27_38 w39 =>
  call P f_impl_integer_Add [x21_34, x24_36, x27_38] w39 fun x28_40 w41 =>
  bld P 105 [(0, x28_40), (1, x20_27)] w41 fun x30_42 =>
  sto P 105 x4_5 x30_42 w41 fun w44 =>
  J28 w44) ∧
  (call P f_impl_num_at [x22_32, x20_27] w17 fun x24_45 w46 =>
  Ext w17 w46 ∧ (alc P 158 w46 fun x21_47 w48 =>
  Ext w46 w48 ∧ call P f_impl_num_at [x25_33, x20_27] w48 fun x27_49 w50 =>
  call P f_impl_integer_Add [x21_47, x24_45, x27_49] w50 fun x28_51 w52 =>
  bld P 105 [(0, x28_51), (1, x20_27)] w52 fun x30_53 =>
  sto P 105 x4_5 x30_53 w52 fun w55 =>
  J28 w55) ∧
  (call P f_impl_num_at [x25_33, x20_27] w46 fun x27_56 w57 =>
  alc P 158 w57 fun x21_58 w59 =>
  Ext w57 w59 ∧ call P f_impl_integer_Add [x21_58, x24_45, x27_56] w59 fun x28_60 w61 =>
  bld P 105 [(0, x28_60), (1, x20_27)] w61 fun x30_62 =>
  sto P 105 x4_5 x30_62 w61 fun w64 =>
  J28 w64)))))
def P_impl_num_add : Plan := (.seq (.reg [.op (0, 2, false), .op (1, 2, false), .op (2, 2, false)]) (.seq (.blk (.seq (.reg [.op (0, 0, false), .op (1, 2, false), .op (2, 0, false), .op (3, 0, false)]) (.cond (.seq (.reg [.op (0, 0, false), .op (1, 2, false)]) .leaf) (.seq (.reg [.op (0, 0, false), .op (1, 2, false), .op (2, 0, false), .op (3, 0, false)]) (.cond (.seq (.reg [.op (0, 0, false), .op (1, 2, false)]) .leaf) .leaf))))) (.seq (.reg [.op (0, 0, false), .op (1, 0, false), .op (2, 0, false), .op (3, 0, false), .op (4, 0, false), .op (5, 0, false)]) (.seq (.tree [] 2145386496 (.op (1, 0, false) (.op (2, 0, false) (.op (4, 0, false) (.op (5, 0, false) (.op (8, 0, false) (.fork (0, 2, true) (.fork (3, 2, true) (.fork (6, 2, false) (.fork (7, 2, false) (.op (9, 0, false) (.fork (10, 2, false) .done .stop)) .stop) .stop) .stop) (.fork (3, 2, true) (.fork (0, 2, true) (.fork (6, 2, false) (.fork (7, 2, false) (.op (9, 0, false) (.fork (10, 2, false) .done .stop)) .stop) .stop) (.fork (6, 2, false) (.fork (0, 2, true) (.fork (7, 2, false) (.op (9, 0, false) (.fork (10, 2, false) .done .stop)) .stop) .stop) .stop)) .stop)))))))) .leaf))))
theorem I_impl_num_add {a0 a1 : Value} {w : World} {K : Value → World → Prop} (h : D_impl_num_add a0 a1 w K) : call P f_impl_num_add [a0, a1] w K :=
  call_of_vc mixed Tryz.func134 (c := codeOf Tryz.f134) (by kernel_rfl) (by kernel_rfl) (p := P_impl_num_add) (by kernel_rfl) (by rw [Tryz.ntmps134]; simp) (by
    have e : D_impl_num_add a0 a1 w K = vc P P_impl_num_add (codeOf Tryz.f134) (env0 [a0, a1]) w (retX P Tryz.f134.results.toList K) := by kernel_rfl
    exact e ▸ h)

/-- (impl.num).sub -/
def D_impl_num_sub (a0 a1 : Value) (w : World) (K : Value → World → Prop) : Prop :=
  bx P 105 a0 w fun x2_1 w2 =>
  bx P 105 a1 w2 fun x3_3 w4 =>
  alc P 105 w4 fun x4_5 w6 =>
  ld P 105 x2_1 w6 fun x5_7 =>
  ld P 105 x3_3 w6 fun x6_8 =>
  call P f_impl_num_neg [x6_8] w6 fun x7_9 w10 =>
  Ext w6 w10 ∧ call P f_impl_num_add [x5_7, x7_9] w10 fun x8_11 w12 =>
  sto P 105 x4_5 x8_11 w12 fun w14 =>
  ldc P 105 x4_5 w14 fun r15 =>
  K r15 w14
def P_impl_num_sub : Plan := (.seq (.reg [.op (0, 2, false), .op (1, 2, false), .op (2, 2, false)]) (.seq (.reg [.op (0, 0, false), .op (1, 0, false), .op (2, 2, true), .op (3, 2, false), .op (4, 2, false)]) .leaf))
theorem I_impl_num_sub {a0 a1 : Value} {w : World} {K : Value → World → Prop} (h : D_impl_num_sub a0 a1 w K) : call P f_impl_num_sub [a0, a1] w K :=
  call_of_vc mixed Tryz.func135 (c := codeOf Tryz.f135) (by kernel_rfl) (by kernel_rfl) (p := P_impl_num_sub) (by kernel_rfl) (by rw [Tryz.ntmps135]; simp) (by
    have e : D_impl_num_sub a0 a1 w K = vc P P_impl_num_sub (codeOf Tryz.f135) (env0 [a0, a1]) w (retX P Tryz.f135.results.toList K) := by kernel_rfl
    exact e ▸ h)

/-- (impl.num).cmp -/
def D_impl_num_cmp (a0 a1 : Value) (w : World) (K : Value → World → Prop) : Prop :=
  bx P 105 a0 w fun x2_1 w2 =>
  bx P 105 a1 w2 fun x3_3 w4 =>
  ld P 105 x2_1 w4 fun x5_5 =>
  ld P 105 x3_3 w4 fun x6_6 =>
  call P f_impl_num_sub [x5_5, x6_6] w4 fun x7_7 w8 =>
  call P f_impl_num_sign [x7_7] w8 fun x8_9 w10 =>
  K x8_9 w10
def P_impl_num_cmp : Plan := (.seq (.reg [.op (0, 2, false), .op (1, 2, false), .op (2, 0, false)]) (.seq (.reg [.op (0, 0, false), .op (1, 0, false), .op (2, 2, false), .op (3, 2, false), .op (4, 0, false)]) .leaf))
theorem I_impl_num_cmp {a0 a1 : Value} {w : World} {K : Value → World → Prop} (h : D_impl_num_cmp a0 a1 w K) : call P f_impl_num_cmp [a0, a1] w K :=
  call_of_vc mixed Tryz.func136 (c := codeOf Tryz.f136) (by kernel_rfl) (by kernel_rfl) (p := P_impl_num_cmp) (by kernel_rfl) (by rw [Tryz.ntmps136]; simp) (by
    have e : D_impl_num_cmp a0 a1 w K = vc P P_impl_num_cmp (codeOf Tryz.f136) (env0 [a0, a1]) w (retX P Tryz.f136.results.toList K) := by kernel_rfl
    exact e ▸ h)

/-- impl.ParseDyadic -/
def D_impl_ParseDyadic (a0 : Value) (w : World) (K : Value → World → Prop) : Prop :=
  alc P 57 w fun x2_1 w2 =>
  call P f_strings_Cut [a0, (.string ⟨#[112]⟩)] w2 fun x14_3 w4 =>
  xtr P x14_3 0 w4 fun x15_5 =>
  xtr P x14_3 1 w4 fun x16_6 =>
  xtr P x14_3 2 w4 fun x17_7 =>
  una P .not x17_7 w4 fun x19_8 =>
  ∃ J9 : Value → World → Prop, (∀ (x23_10 : Value) (junk12 : Env) (w11 : World), J9 x23_10 w11 →
  pick x19_8 (.bool true) x23_10 fun x24_13 =>
  ∃ J14 : Value → World → Prop, (∀ (x28_15 : Value) (junk17 : Env) (w16 : World), J14 x28_15 w16 →
  pick x24_13 (.bool true) x28_15 fun x29_18 =>
  cnd x29_18
  (bld P 57 [] w16 fun x30_19 =>
  sto P 57 x2_1 x30_19 w16 fun w21 =>
  ldc P 57 x2_1 w21 fun r22 =>
  K (.tuple #[r22, (.int .i64 6)]) w21)
  (call P f_impl_ParseWhole [x15_5] w16 fun x33_23 w24 =>
  xtr P x33_23 0 w24 fun x34_25 =>
  xtr P x33_23 1 w24 fun x35_26 =>
  alc P 55 w24 fun x7_27 w28 =>
  sto P 55 x7_27 x34_25 w28 fun w30 =>
  call P f_strconv_ParseInt [x16_6, (.int .i64 10), (.int .i64 64)] w30 fun x38_31 w32 =>
  xtr P x38_31 0 w32 fun x39_33 =>
  xtr P x38_31 1 w32 fun x40_34 =>
  ld P 55 x7_27 w32 fun x41_35 =>
  bld P 57 [(0, x41_35), (1, x39_33)] w32 fun x43_36 =>
  alc P 57 w32 fun x11_37 w38 =>
  sto P 57 x11_37 x43_36 w38 fun w40 =>
  bin P .neq 2 false true x35_26 (.int .i64 0) w40 fun x45_41 =>
  ∃ J42 : Value → World → Prop, (∀ (x48_43 : Value) (junk45 : Env) (w44 : World), J42 x48_43 w44 →
  pick x45_41 (.bool true) x48_43 fun x49_46 =>
  ∃ J47 : Value → World → Prop, (∀ (x53_48 : Value) (junk50 : Env) (w49 : World), J47 x53_48 w49 →
  pick x49_46 (.bool true) x53_48 fun x54_51 =>
  cnd x54_51
  (bld P 57 [] w49 fun x55_52 =>
  sto P 57 x2_1 x55_52 w49 fun w54 =>
  ldc P 57 x2_1 w54 fun r55 =>
  K (.tuple #[r55, (.int .i64 6)]) w54)
  (ld P 57 x11_37 w49 fun x56_56 =>
  sto P 57 x2_1 x56_56 w49 fun w58 =>
  ldc P 57 x2_1 w58 fun r59 =>
  K (.tuple #[r59, (.int .i64 0)]) w58)) ∧
  grd x49_46 false
  (ld P 57 x11_37 w44 fun x51_60 =>
  call P f_impl_IsDyadic [x51_60] w44 fun x52_61 w62 =>
  una P .not x52_61 w62 fun x53_63 =>
  J47 x53_63 w62)
  (J47 undef w44)) ∧
  grd x45_41 false
  (bin P .neq 189 false true x40_34 .nilIface w40 fun x48_64 =>
  J42 x48_64 w40)
  (J42 undef w40))) ∧
  grd x24_13 false
  (bl0 P .len #[9] 3 [x16_6] w11 fun x27_65 =>
  bin P .gtr 3 false true x27_65 (.int .i64 6) w11 fun x28_66 =>
  J14 x28_66 w11)
  (J14 undef w11)) ∧
  grd x19_8 false
  (call P f_impl_isNumeral [x16_6] w4 fun x22_67 w68 =>
  una P .not x22_67 w68 fun x23_69 =>
  J9 x23_69 w68)
  (J9 undef w4)
def P_impl_ParseDyadic : Plan := (.seq (.reg [.op (0, 2, false), .op (1, 0, false)]) (.seq (.reg [.op (0, 0, false), .op (1, 2, false), .op (2, 0, false), .op (3, 0, false), .op (4, 0, false), .op (5, 0, false), .op (6, 0, false), .op (7, 0, false), .op (8, 0, false)]) (.seq (.seq (.reg [.op (0, 0, false), .op (1, 0, false), .op (2, 0, false), .grp 2 false [(3, 0, false), (4, 2, false), (5, 0, false)] [23] 14680064, .op (6, 0, false), .op (7, 0, false), .grp 7 false [(8, 0, false), (9, 0, false), (10, 0, false)] [28] 469762048, .op (11, 0, false)]) (.cond (.seq (.reg [.op (0, 0, false), .op (1, 2, false), .op (2, 0, false)]) .leaf) .leaf)) (.seq (.reg [.op (0, 0, false), .op (1, 2, false), .op (2, 0, false), .op (3, 0, false), .op (4, 0, false), .op (5, 2, false), .op (6, 2, false), .op (7, 0, false)]) (.seq (.reg [.op (0, 0, false), .op (1, 2, false), .op (2, 0, false), .op (3, 0, false), .op (4, 0, false), .op (5, 0, false), .op (6, 0, false)]) (.seq (.reg [.op (0, 0, false), .op (1, 0, false), .op (2, 0, false), .op (3, 2, false), .op (4, 2, false)]) (.seq (.seq (.reg [.op (0, 0, false), .op (1, 0, false), .op (2, 0, false), .grp 2 false [(3, 0, false), (4, 0, false)] [48] 422212465065984, .op (5, 0, false), .op (6, 0, false), .grp 6 false [(7, 0, false), (8, 2, false), (9, 0, false)] [53] 15762598695796736, .op (10, 0, false)]) (.cond (.seq (.reg [.op (0, 0, false), .op (1, 2, false), .op (2, 0, false)]) .leaf) .leaf)) (.seq (.reg [.op (0, 0, false), .op (1, 2, false), .op (2, 0, false)]) .leaf))))))))
theorem I_impl_ParseDyadic {a0 : Value} {w : World} {K : Value → World → Prop} (h : D_impl_ParseDyadic a0 w K) : call P f_impl_ParseDyadic [a0] w K :=
  call_of_vc mixed Tryz.func182 (c := codeOf Tryz.f182) (by kernel_rfl) (by kernel_rfl) (p := P_impl_ParseDyadic) (by kernel_rfl) (by rw [Tryz.ntmps182]; simp) (by
    have e : D_impl_ParseDyadic a0 w K = vc P P_impl_ParseDyadic (codeOf Tryz.f182) (env0 [a0]) w (retX P Tryz.f182.results.toList K) := by kernel_rfl
    exact e ▸ h)

/-- impl.RoundDyadic -/
def D_impl_RoundDyadic (a0 a1 : Value) (w : World) (K : Value → World → Prop) : Prop :=
  bx P 57 a0 w fun x2_1 w2 =>
  ld P 57 x2_1 w2 fun x9_3 =>
  call P f_impl_IsDyadic [x9_3] w2 fun x10_4 w5 =>
  una P .not x10_4 w5 fun x11_6 =>
  cnd x11_6
  (K (.tuple #[(.float .f32 0), (.int .i64 0), (.int .i64 1)]) w5)
  (call P f_impl_isMode [a1] w5 fun x13_7 w8 =>
  una P .not x13_7 w8 fun x14_9 =>
  cnd x14_9
  (K (.tuple #[(.float .f32 0), (.int .i64 0), (.int .i64 2)]) w8)
  (ld P 57 x2_1 w8 fun x16_10 =>
  call P f_impl_numberOf [x16_10] w8 fun x17_11 w12 =>
  call P f_impl_num_round [x17_11, a1] w12 fun x19_13 w14 =>
  xtr P x19_13 0 w14 fun x20_15 =>
  xtr P x19_13 1 w14 fun x21_16 =>
  K (.tuple #[x20_15, x21_16, (.int .i64 0)]) w14))
def P_impl_RoundDyadic : Plan := (.seq (.reg [.op (0, 2, false), .op (1, 0, false), .op (2, 0, false), .op (3, 0, false)]) (.seq (.seq (.reg [.op (0, 0, false), .op (1, 2, false), .op (2, 0, false)]) (.cond (.seq (.reg [.op (0, 0, false), .op (1, 0, false), .op (2, 0, false)]) .leaf) .leaf)) (.seq (.seq (.reg [.op (0, 0, false), .op (1, 2, false), .op (2, 0, false)]) (.cond (.seq (.reg [.op (0, 0, false), .op (1, 0, false), .op (2, 0, false)]) .leaf) .leaf)) (.seq (.reg [.op (0, 0, false), .op (1, 2, false), .op (2, 0, false), .op (3, 2, false), .op (4, 0, false), .op (5, 0, false), .op (6, 0, false), .op (7, 0, false), .op (8, 0, false)]) (.seq (.reg [.op (0, 0, false), .op (1, 0, false), .op (2, 0, false), .op (3, 0, false), .op (4, 0, false)]) .leaf)))))
theorem I_impl_RoundDyadic {a0 a1 : Value} {w : World} {K : Value → World → Prop} (h : D_impl_RoundDyadic a0 a1 w K) : call P f_impl_RoundDyadic [a0, a1] w K :=
  call_of_vc mixed Tryz.func183 (c := codeOf Tryz.f183) (by kernel_rfl) (by kernel_rfl) (p := P_impl_RoundDyadic) (by kernel_rfl) (by rw [Tryz.ntmps183]; simp) (by
    have e : D_impl_RoundDyadic a0 a1 w K = vc P P_impl_RoundDyadic (codeOf Tryz.f183) (env0 [a0, a1]) w (retX P Tryz.f183.results.toList K) := by kernel_rfl
    exact e ▸ h)

/-- (impl.num).at -/
def D_impl_num_at (a0 a1 : Value) (w : World) (K : Value → World → Prop) : Prop :=
  bx P 105 a0 w fun x2_1 w2 =>
  alc P 158 w2 fun x5_3 w4 =>
  fda P 105 x2_1 0 w4 fun x6_5 =>
  ld P 103 x6_5 w4 fun x7_6 =>
  fda P 105 x2_1 1 w4 fun x8_7 =>
  ld P 3 x8_7 w4 fun x9_8 =>
  bin P .sub 3 false false x9_8 a1 w4 fun x11_9 =>
  cnv P 3 154 x11_9 w4 fun x12_10 =>
  call P f_impl_integer_Lsh [x5_3, x7_6, x12_10] w4 fun x13_11 w12 =>
  K x13_11 w12
def P_impl_num_at : Plan := (.seq (.reg [.op (0, 2, false), .op (1, 0, false)]) (.seq (.reg [.op (0, 2, false), .op (1, 0, false), .op (2, 0, false), .op (3, 0, false), .op (4, 0, false), .op (5, 0, false), .op (6, 0, false), .op (7, 0, false), .op (8, 2, false), .op (9, 0, false)]) .leaf))
theorem I_impl_num_at {a0 a1 : Value} {w : World} {K : Value → World → Prop} (h : D_impl_num_at a0 a1 w K) : call P f_impl_num_at [a0, a1] w K :=
  call_of_vc mixed Tryz.func188 (c := codeOf Tryz.f188) (by kernel_rfl) (by kernel_rfl) (p := P_impl_num_at) (by kernel_rfl) (by rw [Tryz.ntmps188]; simp) (by
    have e : D_impl_num_at a0 a1 w K = vc P P_impl_num_at (codeOf Tryz.f188) (env0 [a0, a1]) w (retX P Tryz.f188.results.toList K) := by kernel_rfl
    exact e ▸ h)

/-- impl.IsDyadic -/
def D_impl_IsDyadic (a0 : Value) (w : World) (K : Value → World → Prop) : Prop :=
  bx P 57 a0 w fun x1_1 w2 =>
  fda P 57 x1_1 0 w2 fun x3_3 =>
  ld P 55 x3_3 w2 fun x4_4 =>
  call P f_impl_IsWhole [x4_4] w2 fun x5_5 w6 =>
  una P .not x5_5 w6 fun x6_7 =>
  cnd x6_7
  (K (.bool false) w6)
  (fda P 57 x1_1 0 w6 fun x7_8 =>
  fda P 55 x7_8 0 w6 fun x8_9 =>
  ld P 2 x8_9 w6 fun x9_10 =>
  bin P .eql 2 false true x9_10 (.int .i64 0) w6 fun x10_11 =>
  cnd x10_11
  (fda P 57 x1_1 1 w6 fun x11_12 =>
  ld P 2 x11_12 w6 fun x12_13 =>
  bin P .eql 2 false true x12_13 (.int .i64 0) w6 fun x13_14 =>
  K x13_14 w6)
  (fda P 57 x1_1 0 w6 fun x14_15 =>
  fda P 55 x14_15 1 w6 fun x15_16 =>
  ld P 53 x15_16 w6 fun x16_17 =>
  ixa P 53 x16_17 (.int .i64 0) w6 fun x17_18 =>
  ld P 2 x17_18 w6 fun x18_19 =>
  bin P .rem 2 false true x18_19 (.int .i64 2) w6 fun x19_20 =>
  bin P .eql 2 false true x19_20 (.int .i64 1) w6 fun x20_21 =>
  ∃ J22 : Value → World → Prop, (∀ (x24_23 : Value) (junk25 : Env) (w24 : World), J22 x24_23 w24 →
  pick x20_21 x24_23 (.bool false) fun x25_26 =>
  ∃ J27 : Value → World → Prop, (∀ (x29_28 : Value) (junk30 : Env) (w29 : World), J27 x29_28 w29 →
  pick x25_26 x29_28 (.bool false) fun x30_31 =>
  K x30_31 w29) ∧
  grd x25_26 true
  (fda P 57 x1_1 1 w24 fun x27_32 =>
  ld P 2 x27_32 w24 fun x28_33 =>
  bin P .leq 2 false true x28_33 (.int .i64 3000) w24 fun x29_34 =>
  J27 x29_34 w24)
  (J27 undef w24)) ∧
  grd x20_21 true
  (fda P 57 x1_1 1 w6 fun x22_35 =>
  ld P 2 x22_35 w6 fun x23_36 =>
  bin P .geq 2 false true x23_36 (.int .i64 (-3000)) w6 fun x24_37 =>
  J22 x24_37 w6)
  (J22 undef w6)))
def P_impl_IsDyadic : Plan := (.seq (.reg [.op (0, 2, false), .op (1, 0, false)]) (.seq (.seq (.reg [.op (0, 0, false), .op (1, 0, false), .op (2, 2, false), .op (3, 0, false)]) (.cond (.seq (.reg [.op (0, 0, false)]) .leaf) .leaf)) (.seq (.seq (.reg [.op (0, 0, false), .op (1, 0, false), .op (2, 0, false), .op (3, 0, false)]) (.cond (.seq (.reg [.op (0, 0, false), .op (1, 0, false), .op (2, 0, false), .op (3, 0, false)]) .leaf) .leaf)) (.seq (.reg [.op (0, 0, false), .op (1, 0, false), .op (2, 0, false), .op (3, 0, false), .op (4, 0, false), .op (5, 0, false), .op (6, 0, false), .op (7, 0, false), .grp 7 true [(8, 0, false), (9, 0, false), (10, 0, false)] [24] 29360128, .op (11, 0, false), .op (12, 0, false), .grp 12 true [(13, 0, false), (14, 0, false), (15, 0, false)] [29] 939524096, .op (16, 0, false), .op (17, 0, false)]) .leaf))))
theorem I_impl_IsDyadic {a0 : Value} {w : World} {K : Value → World → Prop} (h : D_impl_IsDyadic a0 w K) : call P f_impl_IsDyadic [a0] w K :=
  call_of_vc mixed Tryz.func226 (c := codeOf Tryz.f226) (by kernel_rfl) (by kernel_rfl) (p := P_impl_IsDyadic) (by kernel_rfl) (by rw [Tryz.ntmps226]; simp) (by
    have e : D_impl_IsDyadic a0 w K = vc P P_impl_IsDyadic (codeOf Tryz.f226) (env0 [a0]) w (retX P Tryz.f226.results.toList K) := by kernel_rfl
    exact e ▸ h)

/-- impl.isMode -/
def D_impl_isMode (a0 : Value) (w : World) (K : Value → World → Prop) : Prop :=
  bin P .geq 2 false true a0 (.int .i64 0) w fun x4_1 =>
  ∃ J2 : Value → World → Prop, (∀ (x7_3 : Value) (junk5 : Env) (w4 : World), J2 x7_3 w4 →
  pick x4_1 x7_3 (.bool false) fun x8_6 =>
  K x8_6 w4) ∧
  grd x4_1 true
  (bin P .leq 2 false true a0 (.int .i64 4) w fun x7_7 =>
  J2 x7_7 w)
  (J2 undef w)
def P_impl_isMode : Plan := (.seq (.reg [.op (0, 0, false)]) (.seq (.reg [.op (0, 0, false), .op (1, 0, false), .op (2, 0, false), .grp 2 true [(3, 0, false), (4, 0, false)] [7] 192, .op (5, 0, false), .op (6, 0, false)]) .leaf))
theorem I_impl_isMode {a0 : Value} {w : World} {K : Value → World → Prop} (h : D_impl_isMode a0 w K) : call P f_impl_isMode [a0] w K :=
  call_of_vc mixed Tryz.func227 (c := codeOf Tryz.f227) (by kernel_rfl) (by kernel_rfl) (p := P_impl_isMode) (by kernel_rfl) (by rw [Tryz.ntmps227]; simp) (by
    have e : D_impl_isMode a0 w K = vc P P_impl_isMode (codeOf Tryz.f227) (env0 [a0]) w (retX P Tryz.f227.results.toList K) := by kernel_rfl
    exact e ▸ h)

/-- impl.numberOf -/
def D_impl_numberOf (a0 : Value) (w : World) (K : Value → World → Prop) : Prop :=
  bx P 57 a0 w fun x1_1 w2 =>
  alc P 105 w2 fun x2_3 w4 =>
  fda P 57 x1_1 0 w4 fun x3_5 =>
  ld P 55 x3_5 w4 fun x4_6 =>
  fda P 57 x1_1 1 w4 fun x6_7 =>
  ld P 2 x6_7 w4 fun x7_8 =>
  call P f_impl_toBig [x4_6] w4 fun x5_9 w10 =>
  Ext w4 w10 ∧ bld P 105 [(0, x5_9), (1, x7_8)] w10 fun x8_11 =>
  sto P 105 x2_3 x8_11 w10 fun w13 =>
  ldc P 105 x2_3 w13 fun r14 =>
  K r14 w13
def P_impl_numberOf : Plan := (.seq (.reg [.op (0, 2, false), .op (1, 2, false)]) (.seq (.reg [.op (0, 0, false), .op (1, 0, false), .op (3, 0, false), .op (4, 0, false), .op (2, 2, true), .op (5, 0, false), .op (6, 2, false)]) .leaf))
theorem I_impl_numberOf {a0 : Value} {w : World} {K : Value → World → Prop} (h : D_impl_numberOf a0 w K) : call P f_impl_numberOf [a0] w K :=
  call_of_vc mixed Tryz.func228 (c := codeOf Tryz.f228) (by kernel_rfl) (by kernel_rfl) (p := P_impl_numberOf) (by kernel_rfl) (by rw [Tryz.ntmps228]; simp) (by
    have e : D_impl_numberOf a0 w K = vc P P_impl_numberOf (codeOf Tryz.f228) (env0 [a0]) w (retX P Tryz.f228.results.toList K) := by kernel_rfl
    exact e ▸ h)

/-- (impl.num).round -/
def D_impl_num_round (a0 a1 : Value) (w : World) (K : Value → World → Prop) : Prop :=
  bx P 105 a0 w fun x2_1 w2 =>
  bx P 2 a1 w2 fun x3_3 w4 =>
  ld P 105 x2_1 w4 fun x18_5 =>
  call P f_impl_num_sign [x18_5] w4 fun x19_6 w7 =>
  bin P .eql 3 false true x19_6 (.int .i64 0) w7 fun x20_8 =>
  cnd x20_8
  (K (.tuple #[(.float .f32 0), (.int .i64 0)]) w7)
  (∃ J9 : Value → Value → World → Prop, (∀ (x6_12 : Value) (x7_13 : Value) (junk10 : Env) (w11 : World), J9 x6_12 x7_13 w11 →
  fda P 105 x2_1 1 w11 fun x28_14 =>
  ld P 3 x28_14 w11 fun x29_15 =>
  bin P .add 3 false false x7_13 x29_15 w11 fun x30_16 =>
  bin P .gtr 3 false true x30_16 (.int .i64 128) w11 fun x31_17 =>
  cnd x31_17
  (callv P (.func (.func 262) #[] #[x3_3, x6_12]) [] w11 fun x33_18 w19 =>
  xtr P x33_18 0 w19 fun x34_20 =>
  xtr P x33_18 1 w19 fun x35_21 =>
  K (.tuple #[x34_20, x35_21]) w19)
  (fda P 105 x2_1 1 w11 fun x37_22 =>
  ld P 3 x37_22 w11 fun x38_23 =>
  bin P .add 3 false false x7_13 x38_23 w11 fun x39_24 =>
  bin P .sub 3 false true x39_24 (.int .i64 24) w11 fun x40_25 =>
  bl0 P .max #[3, 3] 3 [x40_25, (.int .i64 (-149))] w11 fun x41_26 =>
  alc P 158 w11 fun x42_27 w28 =>
  fda P 105 x2_1 0 w28 fun x43_29 =>
  ld P 103 x43_29 w28 fun x44_30 =>
  call P f_impl_integer_Abs [x42_27, x44_30] w28 fun x45_31 w32 =>
  alc P 158 w32 fun x46_33 w34 =>
  ∃ J35 : Value → World → Prop, (∀ (x11_38 : Value) (junk36 : Env) (w37 : World), J35 x11_38 w37 →
  call P f_impl_integer_BitLen [x46_33] w37 fun x122_39 w40 =>
  bin P .add 3 false false x122_39 x41_26 w40 fun x124_41 =>
  bin P .gtr 3 false true x124_41 (.int .i64 128) w40 fun x125_42 =>
  cnd x125_42
  (callv P (.func (.func 262) #[] #[x3_3, x6_12]) [] w40 fun x127_43 w44 =>
  xtr P x127_43 0 w44 fun x128_45 =>
  xtr P x127_43 1 w44 fun x129_46 =>
  K (.tuple #[x128_45, x129_46]) w44)
  (call P f_impl_integer_Int64 [x46_33] w40 fun x131_47 w48 =>
  cnv P 2 117 x131_47 w48 fun x132_49 =>
  call P f_math_Ldexp [x132_49, x41_26] w48 fun x134_50 w51 =>
  rcnv P 117 66 x134_50 w51 fun x135_52 =>
  ld P 3 x6_12 w51 fun x136_53 =>
  bin P .lss 3 false true x136_53 (.int .i64 0) w51 fun x137_54 =>
  cnd x137_54
  (una P .neg x135_52 w51 fun x139_55 =>
  K (.tuple #[x139_55, x11_38]) w51)
  (K (.tuple #[x135_52, x11_38]) w51))) ∧
  (fda P 105 x2_1 1 w34 fun x47_56 =>
  ld P 3 x47_56 w34 fun x48_57 =>
  bin P .geq 3 false false x48_57 x41_26 w34 fun x50_58 =>
  cnd x50_58
  (fda P 105 x2_1 1 w34 fun x53_59 =>
  ld P 3 x53_59 w34 fun x54_60 =>
  bin P .sub 3 false false x54_60 x41_26 w34 fun x56_61 =>
  cnv P 3 154 x56_61 w34 fun x57_62 =>
  call P f_impl_integer_Lsh [x46_33, x45_31, x57_62] w34 fun x58_63 w64 =>
  J35 (.int .i64 0) w64)
  (fda P 105 x2_1 1 w34 fun x60_65 =>
  ld P 3 x60_65 w34 fun x61_66 =>
  bin P .sub 3 false false x41_26 x61_66 w34 fun x62_67 =>
  cnv P 3 154 x62_67 w34 fun x63_68 =>
  call P f_impl_integer_Rsh [x46_33, x45_31, x63_68] w34 fun x67_69 w70 =>
  alc P 158 w70 fun x68_71 w72 =>
  alc P 158 w72 fun x70_73 w74 =>
  call P f_impl_integer_Lsh [x70_73, x46_33, x63_68] w74 fun x73_75 w76 =>
  call P f_impl_integer_Sub [x68_71, x45_31, x73_75] w76 fun x74_77 w78 =>
  call P f_impl_integer_Sign [x74_77] w78 fun x76_79 w80 =>
  bin P .neq 3 false true x76_79 (.int .i64 0) w80 fun x77_81 =>
  cnd x77_81
  (∃ J82 : Value → World → Prop, (∀ (x11_85 : Value) (junk83 : Env) (w84 : World), J82 x11_85 w84 →
  alc P 158 w84 fun x86_86 w87 =>
  call P f_impl_newInt [(.int .i64 1)] w87 fun x87_88 w89 =>
  bin P .sub 154 false true x63_68 (.int .u64 1) w89 fun x89_90 =>
  call P f_impl_integer_Lsh [x86_86, x87_88, x89_90] w89 fun x90_91 w92 =>
  call P f_impl_integer_Cmp [x74_77, x90_91] w92 fun x91_93 w94 =>
  ∃ J95 : Value → World → Prop, (∀ (x16_98 : Value) (junk96 : Env) (w97 : World), J95 x16_98 w97 →
  cnd x16_98
  (call P f_impl_newInt [(.int .i64 1)] w97 fun x119_99 w100 =>
  call P f_impl_integer_Add [x46_33, x46_33, x119_99] w100 fun x120_101 w102 =>
  J35 x11_85 w102)
  (J35 x11_85 w97)) ∧
  (ld P 2 x3_3 w94 fun x92_103 =>
  bin P .eql 2 false true x92_103 (.int .i64 0) w94 fun x94_104 =>
  cnd x94_104
  (bin P .gtr 3 false true x91_93 (.int .i64 0) w94 fun x96_105 =>
  ∃ J106 : Value → World → Prop, (∀ (x100_107 : Value) (junk109 : Env) (w108 : World), J106 x100_107 w108 →
  ∃ J110 : Value → World → Prop, (∀ (x103_111 : Value) (junk113 : Env) (w112 : World), J110 x103_111 w112 →
  ∃ J114 : Value → World → Prop, (∀ (x104_115 : Value) (junk117 : Env) (w116 : World), J114 x104_115 w116 →
  pick x96_105 (.bool true) x104_115 fun x105_118 =>
  J95 x105_118 w116) ∧
  grd x96_105 false
  (pick x100_107 x103_111 (.bool false) fun x104_119 =>
  J114 x104_119 w112)
  (J114 undef w112)) ∧
  grd x100_107 true
  (call P f_impl_integer_Bit [x46_33, (.int .i64 0)] w108 fun x102_120 w121 =>
  bin P .eql 154 false true x102_120 (.int .u64 1) w121 fun x103_122 =>
  J110 x103_122 w121)
  (J110 undef w108)) ∧
  grd x96_105 false
  (bin P .eql 3 false true x91_93 (.int .i64 0) w94 fun x99_123 =>
  J106 x99_123 w94)
  (J106 undef w94))
  (bin P .eql 2 false true x92_103 (.int .i64 1) w94 fun x107_124 =>
  cnd x107_124
  (ld P 3 x6_12 w94 fun x108_125 =>
  bin P .lss 3 false true x108_125 (.int .i64 0) w94 fun x109_126 =>
  J95 x109_126 w94)
  (bin P .eql 2 false true x92_103 (.int .i64 2) w94 fun x111_127 =>
  cnd x111_127
  (ld P 3 x6_12 w94 fun x112_128 =>
  bin P .gtr 3 false true x112_128 (.int .i64 0) w94 fun x113_129 =>
  J95 x113_129 w94)
  (bin P .eql 2 false true x92_103 (.int .i64 4) w94 fun x115_130 =>
  cnd x115_130
  (J95 (.bool true) w94)
  (J95 (.bool false) w94)))))) ∧
  (fda P 105 x2_1 1 w80 fun x79_131 =>
  ld P 3 x79_131 w80 fun x80_132 =>
  bin P .add 3 false false x7_13 x80_132 w80 fun x81_133 =>
  bin P .leq 3 false true x81_133 (.int .i64 (-126)) w80 fun x82_134 =>
  cnd x82_134
  (bin P .or 2 false true (.int .i64 1) (.int .i64 2) w80 fun x84_135 =>
  J82 x84_135 w80)
  (J82 (.int .i64 1) w80)))
  (J35 (.int .i64 0) w80))))) ∧
  (ld P 105 x2_1 w7 fun x21_136 =>
  fda P 105 x2_1 0 w7 fun x23_137 =>
  ld P 103 x23_137 w7 fun x24_138 =>
  (call P f_impl_num_sign [x21_136] w7 fun x22_139 w140 =>
  Ext w7 w140 ∧ (call P f_impl_integer_BitLen [x24_138] w140 fun x25_141 w142 =>
  alc P 3 w142 fun x6_143 w144 =>
  Ext w142 w144 ∧ sto P 3 x6_143 x22_139 w144 fun w146 =>
  J9 x6_143 x25_141 w146) ∧
  (alc P 3 w140 fun x6_147 w148 =>
  Ext w140 w148 ∧ call P f_impl_integer_BitLen [x24_138] w148 fun x25_149 w150 =>
  sto P 3 x6_147 x22_139 w150 fun w152 =>
  J9 x6_147 x25_149 w152)) ∧
  (alc P 3 w7 fun x6_153 w154 =>
  Ext w7 w154 ∧ call P f_impl_num_sign [x21_136] w154 fun x22_155 w156 =>
  Ext w154 w156 ∧ call P f_impl_integer_BitLen [x24_138] w156 fun x25_157 w158 =>
  sto P 3 x6_153 x22_155 w158 fun w160 =>
  J9 x6_153 x25_157 w160)))
def P_impl_num_round : Plan := (.seq (.reg [.op (0, 2, false), .op (1, 2, false), .op (2, 0, false), .op (3, 0, false)]) (.seq (.seq (.reg [.op (0, 0, false), .op (1, 2, false), .op (2, 0, false)]) (.cond (.seq (.reg [.op (0, 0, false), .op (1, 0, false)]) .leaf) .leaf)) (.seq (.tree [6, 7] 65011904 (.op (0, 0, false) (.op (2, 0, false) (.op (3, 0, false) (.fork (1, 2, true) (.fork (4, 2, false) (.fork (5, 2, true) (.fork (6, 2, false) (.op (7, 0, false) .done) .stop) .stop) (.fork (5, 2, true) (.fork (4, 2, false) (.fork (6, 2, false) (.op (7, 0, false) .done) .stop) .stop) .stop)) (.fork (5, 2, true) (.fork (1, 2, true) (.fork (4, 2, false) (.fork (6, 2, false) (.op (7, 0, false) .done) .stop) .stop) .stop) .stop)))))) (.seq (.reg [.op (0, 0, false), .op (1, 0, false)]) (.seq (.seq (.reg [.op (0, 0, false), .op (1, 0, false), .op (2, 0, false), .op (3, 0, false), .op (4, 0, false)]) (.cond (.seq (.reg [.op (0, 0, false), .op (1, 2, false), .op (2, 0, false), .op (3, 0, false), .op (4, 0, false), .op (5, 0, false)]) .leaf) .leaf)) (.seq (.reg [.op (0, 0, false), .op (1, 0, false), .op (2, 0, false), .op (3, 0, false), .op (4, 0, false), .op (5, 0, false), .op (6, 0, false)]) (.seq (.reg [.op (0, 2, false), .op (1, 0, false), .op (2, 0, false), .op (3, 2, false), .op (4, 0, false)]) (.seq (.reg [.op (0, 0, false)]) (.seq (.reg [.op (0, 2, false), .op (1, 0, false)]) (.cut [11] 2658455991569831745807473383072458752 (.seq (.reg [.op (0, 0, false), .op (1, 0, false), .op (2, 0, false), .op (3, 0, false)]) (.cond (.reg [.op (0, 0, false), .op (1, 0, false), .op (2, 0, false), .op (3, 0, false), .op (4, 0, false), .op (5, 0, false), .op (6, 0, false), .op (7, 2, false)]) (.seq (.reg [.op (0, 0, false), .op (1, 0, false), .op (2, 0, false), .op (3, 0, false), .op (4, 0, false), .op (5, 0, false)]) (.seq (.reg [.op (0, 0, false), .op (1, 0, false), .op (2, 0, false), .op (3, 2, false)]) (.seq (.reg [.op (0, 2, false), .op (1, 0, false), .op (2, 2, false), .op (3, 0, false), .op (4, 0, false), .op (5, 2, false), .op (6, 2, false), .op (7, 0, false)]) (.seq (.reg [.op (0, 0, false), .op (1, 2, false), .op (2, 0, false)]) (.cond (.seq (.reg [.op (0, 0, false)]) (.cut [11] 38383394772764476296923136 (.seq (.reg [.op (0, 0, false), .op (1, 0, false), .op (2, 0, false), .op (3, 0, false), .op (4, 0, false)]) (.cond (.reg [.op (0, 0, false), .op (1, 0, false), .op (2, 0, false)]) .leaf)) (.seq (.reg [.op (0, 0, false), .op (1, 2, false), .op (2, 2, false), .op (3, 0, false), .op (4, 0, false), .op (5, 2, false), .op (6, 2, false), .op (7, 0, false)]) (.seq (.reg [.op (0, 0, false)]) (.cut [16] 83076744784797084914966841671090176 (.seq (.reg [.op (0, 0, false)]) (.blk (.seq (.reg [.op (0, 0, false), .op (1, 0, false)]) (.cond (.reg [.op (0, 0, false), .op (1, 0, false), .op (2, 0, false), .grp 2 false [(3, 0, false), (4, 0, false), (5, 0, false)] [100] 2218388550399401452619230609408, .grp 5 true [(6, 0, false), (7, 2, false), (8, 0, false)] [103] 17747108403195211620953844875264, .grp 2 false [(9, 0, false)] [104] 20282409603651670423947251286016, .op (10, 0, false), .op (11, 0, false)]) (.seq (.reg [.op (0, 0, false), .op (1, 0, false)]) (.cond (.reg [.op (0, 0, false), .op (1, 0, false), .op (2, 0, false)]) (.seq (.reg [.op (0, 0, false), .op (1, 0, false)]) (.cond (.reg [.op (0, 0, false), .op (1, 0, false), .op (2, 0, false)]) (.seq (.reg [.op (0, 0, false), .op (1, 0, false)]) (.cond (.reg [.op (0, 0, false)]) .leaf)))))))))) (.seq (.reg [.op (0, 0, false)]) (.cond (.reg [.op (0, 0, false), .op (1, 0, false), .op (2, 2, false), .op (3, 2, false)]) .leaf))))))) .leaf))))))) (.seq (.seq (.reg [.op (0, 0, false), .op (1, 2, false), .op (2, 0, false), .op (3, 0, false), .op (4, 0, false)]) (.cond (.seq (.reg [.op (0, 0, false), .op (1, 2, false), .op (2, 0, false), .op (3, 0, false), .op (4, 0, false), .op (5, 0, false)]) .leaf) .leaf)) (.seq (.reg [.op (0, 0, false), .op (1, 2, false), .op (2, 0, false), .op (3, 0, false), .op (4, 2, false), .op (5, 1, false), .op (6, 0, false)]) (.seq (.seq (.reg [.op (0, 0, false), .op (1, 0, false)]) (.cond (.reg [.op (0, 0, false), .op (1, 0, false), .op (2, 0, false)]) .leaf)) (.seq (.reg [.op (0, 0, false), .op (1, 0, false), .op (2, 0, false), .op (3, 0, false)]) .leaf))))))))))))))
theorem I_impl_num_round {a0 a1 : Value} {w : World} {K : Value → World → Prop} (h : D_impl_num_round a0 a1 w K) : call P f_impl_num_round [a0, a1] w K :=
  call_of_vc mixed Tryz.func229 (c := codeOf Tryz.f229) (by kernel_rfl) (by kernel_rfl) (p := P_impl_num_round) (by kernel_rfl) (by rw [Tryz.ntmps229]; simp) (by
    have e : D_impl_num_round a0 a1 w K = vc P P_impl_num_round (codeOf Tryz.f229) (env0 [a0, a1]) w (retX P Tryz.f229.results.toList K) := by kernel_rfl
    exact e ▸ h)

/-- (impl.num).round$1 -/
def D_impl_num_round_1 (a0 a1 : Value) (w : World) (K : Value → World → Prop) : Prop :=
  ld P 2 a0 w fun x4_1 =>
  bin P .eql 2 false true x4_1 (.int .i64 3) w fun x5_2 =>
  ∃ J3 : Value → World → Prop, (∀ (x9_4 : Value) (junk6 : Env) (w5 : World), J3 x9_4 w5 →
  ∃ J7 : Value → World → Prop, (∀ (x11_8 : Value) (junk10 : Env) (w9 : World), J7 x11_8 w9 →
  ∃ J11 : Value → World → Prop, (∀ (x12_12 : Value) (junk14 : Env) (w13 : World), J11 x12_12 w13 →
  pick x5_2 (.bool true) x12_12 fun x13_15 =>
  ∃ J16 : Value → World → Prop, (∀ (x17_17 : Value) (junk19 : Env) (w18 : World), J16 x17_17 w18 →
  ∃ J20 : Value → World → Prop, (∀ (x19_21 : Value) (junk23 : Env) (w22 : World), J20 x19_21 w22 →
  ∃ J24 : Value → World → Prop, (∀ (x20_25 : Value) (junk27 : Env) (w26 : World), J24 x20_25 w26 →
  pick x13_15 (.bool true) x20_25 fun x21_28 =>
  cnd x21_28
  (ld P 3 a1 w26 fun x22_29 =>
  bin P .mul 2 false true x22_29 (.int .i64 2139095039) w26 fun x23_30 =>
  call P f_impl_atPlace [x23_30] w26 fun x24_31 w32 =>
  K (.tuple #[x24_31, (.int .i64 5)]) w32)
  (ld P 3 a1 w26 fun x25_33 =>
  call P f_impl_infinite [x25_33] w26 fun x26_34 w35 =>
  K (.tuple #[x26_34, (.int .i64 5)]) w35)) ∧
  grd x13_15 false
  (pick x17_17 x19_21 (.bool false) fun x20_36 =>
  J24 x20_36 w22)
  (J24 undef w22)) ∧
  grd x17_17 true
  (ld P 3 a1 w18 fun x18_37 =>
  bin P .lss 3 false true x18_37 (.int .i64 0) w18 fun x19_38 =>
  J20 x19_38 w18)
  (J20 undef w18)) ∧
  grd x13_15 false
  (ld P 2 a0 w13 fun x15_39 =>
  bin P .eql 2 false true x15_39 (.int .i64 2) w13 fun x16_40 =>
  J16 x16_40 w13)
  (J16 undef w13)) ∧
  grd x5_2 false
  (pick x9_4 x11_8 (.bool false) fun x12_41 =>
  J11 x12_41 w9)
  (J11 undef w9)) ∧
  grd x9_4 true
  (ld P 3 a1 w5 fun x10_42 =>
  bin P .gtr 3 false true x10_42 (.int .i64 0) w5 fun x11_43 =>
  J7 x11_43 w5)
  (J7 undef w5)) ∧
  grd x5_2 false
  (ld P 2 a0 w fun x7_44 =>
  bin P .eql 2 false true x7_44 (.int .i64 1) w fun x8_45 =>
  J3 x8_45 w)
  (J3 undef w)
def P_impl_num_round_1 : Plan := (.seq (.reg [.op (0, 0, false), .op (1, 0, false)]) (.seq (.seq (.reg [.op (0, 0, false), .op (1, 0, false), .op (2, 0, false), .grp 2 false [(3, 0, false), (4, 0, false), (5, 0, false)] [9] 896, .grp 5 true [(6, 0, false), (7, 0, false)] [11] 3072, .grp 2 false [(8, 0, false)] [12] 4096, .op (9, 0, false), .op (10, 0, false), .grp 10 false [(11, 0, false), (12, 0, false), (13, 0, false)] [17] 229376, .grp 13 true [(14, 0, false), (15, 0, false)] [19] 786432, .grp 10 false [(16, 0, false)] [20] 1048576, .op (17, 0, false)]) (.cond (.seq (.reg [.op (0, 0, false), .op (1, 0, false), .op (2, 2, false), .op (3, 0, false), .op (4, 0, false)]) .leaf) .leaf)) (.seq (.reg [.op (0, 0, false), .op (1, 2, false), .op (2, 0, false), .op (3, 0, false)]) .leaf)))
theorem I_impl_num_round_1 {a0 a1 : Value} {w : World} {K : Value → World → Prop} (h : D_impl_num_round_1 a0 a1 w K) : call P f_impl_num_round_1 [a0, a1] w K :=
  call_of_vc mixed Tryz.func262 (c := codeOf Tryz.f262) (by kernel_rfl) (by kernel_rfl) (p := P_impl_num_round_1) (by kernel_rfl) (by rw [Tryz.ntmps262]; simp) (by
    have e : D_impl_num_round_1 a0 a1 w K = vc P P_impl_num_round_1 (codeOf Tryz.f262) (env0 [a0, a1]) w (retX P Tryz.f262.results.toList K) := by kernel_rfl
    exact e ▸ h)

end Go.Proofs.YtjompmflommadaaGreatDoor

/- Written by a program (gen.py): what is left to show of each function's call. -/
set_option linter.unusedVariables false
set_option maxRecDepth 20000
namespace Go.Proofs.YtjompmflommadaaGreatDoor
open Go Go.Vc

/-- spec.l02Of -/
def D_spec_l02Of (a0 : Value) (w : World) (K : Value → World → Prop) : Prop :=
  alc P 55 w fun x2_1 w2 =>
  bsl P 53 0 [] w2 fun x6_3 w4 =>
  ∃ J5 : Value → World → Prop, (∀ (x3_8 : Value) (junk6 : Env) (w7 : World), J5 x3_8 w7 →
  ∃ I9 : Nat → Value → Value → World → Prop, (∃ m34, I9 m34 a0 x6_3 w7) ∧ ∀ (m12 : Nat) (x0_13 : Value) (x4_14 : Value) (junk10 : Env) (w11 : World), I9 m12 x0_13 x4_14 w11 →
  bin P .neq 2 false true x0_13 (.int .i64 0) w11 fun x10_15 =>
  cnd x10_15
  (bin P .rem 2 false true x0_13 (.int .i64 16777216) w11 fun x12_16 =>
  ∃ J17 : Value → World → Prop, (∀ (x5_20 : Value) (junk18 : Env) (w19 : World), J17 x5_20 w19 →
  bsl P 53 1 [(0, x5_20)] w19 fun x19_21 w22 =>
  bl2 P .append #[53, 53] 53 [x4_14, x19_21] w22 fun x20_23 w24 =>
  bin P .quo 2 false true x0_13 (.int .i64 16777216) w24 fun x22_25 =>
  ∃ m26, m26 < m12 ∧ I9 m26 x22_25 x20_23 w24) ∧
  (bin P .lss 2 false true x12_16 (.int .i64 0) w11 fun x14_27 =>
  cnd x14_27
  (una P .neg x12_16 w11 fun x16_28 =>
  J17 x16_28 w11)
  (J17 x12_16 w11)))
  (call P f_spec_l02Make [x3_8, x4_14] w11 fun x25_29 w30 =>
  sto P 55 x2_1 x25_29 w30 fun w32 =>
  ldc P 55 x2_1 w32 fun r33 =>
  K r33 w32)) ∧
  (bin P .lss 2 false true a0 (.int .i64 0) w4 fun x8_35 =>
  cnd x8_35
  (J5 (.int .i64 (-1)) w4)
  (J5 (.int .i64 1) w4))
def P_spec_l02Of : Plan := (.seq (.reg [.op (0, 2, false)]) (.seq (.reg [.op (0, 2, false), .op (1, 0, false), .op (2, 0, false)]) (.cut [3] 392 (.seq (.reg [.op (0, 0, false), .op (1, 0, false)]) (.cond (.reg [.op (0, 0, false)]) .leaf)) (.seq (.blk (.loop [0, 4] 8388145 (.seq (.seq (.reg [.op (0, 0, false), .op (1, 0, false)]) (.cond .leaf .leaf)) (.blk (.seq (.reg [.op (0, 0, false), .op (1, 0, false), .op (2, 0, false)]) (.cut [5] 122912 (.seq (.reg [.op (0, 0, false), .op (1, 0, false)]) (.cond (.reg [.op (0, 0, false), .op (1, 0, false), .op (2, 0, false)]) .leaf)) (.seq (.reg [.op (0, 0, false), .op (1, 0, false), .op (2, 2, false), .op (3, 2, false), .op (4, 0, false)]) (.reg [.op (0, 0, false), .op (1, 0, false), .op (2, 0, false)])))))))) (.seq (.reg [.op (0, 0, false), .op (1, 0, false), .op (2, 2, false), .op (3, 2, false)]) .leaf)))))
theorem I_spec_l02Of {a0 : Value} {w : World} {K : Value → World → Prop} (h : D_spec_l02Of a0 w K) : call P f_spec_l02Of [a0] w K :=
  call_of_vc mixed Tryz.func164 (c := codeOf Tryz.f164) (by kernel_rfl) (by kernel_rfl) (p := P_spec_l02Of) (by kernel_rfl) (by rw [Tryz.ntmps164]; simp) (by
    have e : D_spec_l02Of a0 w K = vc P P_spec_l02Of (codeOf Tryz.f164) (env0 [a0]) w (retX P Tryz.f164.results.toList K) := by kernel_rfl
    exact e ▸ h)

/-- spec.l02Abs -/
def D_spec_l02Abs (a0 : Value) (w : World) (K : Value → World → Prop) : Prop :=
  bx P 55 a0 w fun x1_1 w2 =>
  alc P 55 w2 fun x2_3 w4 =>
  fda P 55 x1_1 0 w4 fun x3_5 =>
  ld P 2 x3_5 w4 fun x4_6 =>
  fda P 55 x1_1 0 w4 fun x5_7 =>
  ld P 2 x5_7 w4 fun x6_8 =>
  bin P .mul 2 false false x4_6 x6_8 w4 fun x7_9 =>
  fda P 55 x1_1 1 w4 fun x8_10 =>
  ld P 53 x8_10 w4 fun x9_11 =>
  call P f_spec_l02Make [x7_9, x9_11] w4 fun x10_12 w13 =>
  sto P 55 x2_3 x10_12 w13 fun w15 =>
  ldc P 55 x2_3 w15 fun r16 =>
  K r16 w15
def P_spec_l02Abs : Plan := (.seq (.reg [.op (0, 2, false), .op (1, 2, false)]) (.seq (.reg [.op (0, 0, false), .op (1, 0, false), .op (2, 0, false), .op (3, 0, false), .op (4, 0, false), .op (5, 0, false), .op (6, 0, false), .op (7, 2, false), .op (8, 2, false)]) .leaf))
theorem I_spec_l02Abs {a0 : Value} {w : World} {K : Value → World → Prop} (h : D_spec_l02Abs a0 w K) : call P f_spec_l02Abs [a0] w K :=
  call_of_vc mixed Tryz.func167 (c := codeOf Tryz.f167) (by kernel_rfl) (by kernel_rfl) (p := P_spec_l02Abs) (by kernel_rfl) (by rw [Tryz.ntmps167]; simp) (by
    have e : D_spec_l02Abs a0 w K = vc P P_spec_l02Abs (codeOf Tryz.f167) (env0 [a0]) w (retX P Tryz.f167.results.toList K) := by kernel_rfl
    exact e ▸ h)

/-- spec.l02Is -/
def D_spec_l02Is (a0 : Value) (w : World) (K : Value → World → Prop) : Prop :=
  bx P 55 a0 w fun x1_1 w2 =>
  fda P 55 x1_1 1 w2 fun x5_3 =>
  ld P 53 x5_3 w2 fun x6_4 =>
  bl0 P .len #[53] 3 [x6_4] w2 fun x7_5 =>
  ∃ I6 : Nat → Value → World → Prop, (∃ m57, I6 m57 (.int .i64 0) w2) ∧ ∀ (m9 : Nat) (x4_10 : Value) (junk7 : Env) (w8 : World), I6 m9 x4_10 w8 →
  bin P .lss 3 false false x4_10 x7_5 w8 fun x10_11 =>
  cnd x10_11
  (fda P 55 x1_1 1 w8 fun x13_12 =>
  ld P 53 x13_12 w8 fun x14_13 =>
  ixa P 53 x14_13 x4_10 w8 fun x16_14 =>
  ld P 2 x16_14 w8 fun x17_15 =>
  call P f_spec_l01In [x17_15, (.int .i64 0), (.int .i64 16777215)] w8 fun x18_16 w17 =>
  una P .not x18_16 w17 fun x19_18 =>
  cnd x19_18
  (K (.bool false) w17)
  (bin P .add 3 false true x4_10 (.int .i64 1) w17 fun x12_19 =>
  ∃ m20, m20 < m9 ∧ I6 m20 x12_19 w17))
  (bin P .eql 3 false true x7_5 (.int .i64 0) w8 fun x21_21 =>
  cnd x21_21
  (fda P 55 x1_1 0 w8 fun x22_22 =>
  ld P 2 x22_22 w8 fun x23_23 =>
  bin P .eql 2 false true x23_23 (.int .i64 0) w8 fun x24_24 =>
  K x24_24 w8)
  (bin P .leq 3 false true x7_5 (.int .i64 100) w8 fun x26_25 =>
  ∃ J26 : Value → World → Prop, (∀ (x34_27 : Value) (junk29 : Env) (w28 : World), J26 x34_27 w28 →
  pick x26_25 x34_27 (.bool false) fun x35_30 =>
  ∃ J31 : Value → World → Prop, (∀ (x40_32 : Value) (junk34 : Env) (w33 : World), J31 x40_32 w33 →
  ∃ J35 : Value → World → Prop, (∀ (x43_36 : Value) (junk38 : Env) (w37 : World), J35 x43_36 w37 →
  ∃ J39 : Value → World → Prop, (∀ (x44_40 : Value) (junk42 : Env) (w41 : World), J39 x44_40 w41 →
  pick x35_30 x44_40 (.bool false) fun x45_43 =>
  K x45_43 w41) ∧
  grd x35_30 true
  (pick x40_32 (.bool true) x43_36 fun x44_44 =>
  J39 x44_44 w37)
  (J39 undef w37)) ∧
  grd x40_32 false
  (fda P 55 x1_1 0 w33 fun x41_45 =>
  ld P 2 x41_45 w33 fun x42_46 =>
  bin P .eql 2 false true x42_46 (.int .i64 (-1)) w33 fun x43_47 =>
  J35 x43_47 w33)
  (J35 undef w33)) ∧
  grd x35_30 true
  (fda P 55 x1_1 0 w28 fun x37_48 =>
  ld P 2 x37_48 w28 fun x38_49 =>
  bin P .eql 2 false true x38_49 (.int .i64 1) w28 fun x39_50 =>
  J31 x39_50 w28)
  (J31 undef w28)) ∧
  grd x26_25 true
  (fda P 55 x1_1 1 w8 fun x28_51 =>
  ld P 53 x28_51 w8 fun x29_52 =>
  bin P .sub 3 false true x7_5 (.int .i64 1) w8 fun x31_53 =>
  ixa P 53 x29_52 x31_53 w8 fun x32_54 =>
  ld P 2 x32_54 w8 fun x33_55 =>
  bin P .neq 2 false true x33_55 (.int .i64 0) w8 fun x34_56 =>
  J26 x34_56 w8)
  (J26 undef w8)))
def P_spec_l02Is : Plan := (.seq (.reg [.op (0, 2, false), .op (1, 0, false)]) (.seq (.reg [.op (0, 0, false), .op (1, 0, false), .op (2, 0, false), .op (3, 0, false)]) (.seq (.seq (.reg [.op (0, 0, false)]) (.blk (.loop [4] 1048340 (.seq (.seq (.reg [.op (0, 0, false), .op (1, 0, false), .op (2, 0, false)]) (.cond .leaf .leaf)) (.seq (.blk (.seq (.reg [.op (0, 0, false), .op (1, 0, false), .op (2, 0, false), .op (3, 0, false), .op (4, 0, false), .op (5, 2, false), .op (6, 0, false)]) (.cond (.seq (.reg [.op (0, 0, false)]) .leaf) .leaf))) (.reg [.op (0, 0, false), .op (1, 0, false), .op (2, 0, false)])))))) (.seq (.seq (.reg [.op (0, 0, false), .op (1, 0, false)]) (.cond (.seq (.reg [.op (0, 0, false), .op (1, 0, false), .op (2, 0, false), .op (3, 0, false)]) .leaf) .leaf)) (.seq (.reg [.op (0, 0, false), .op (1, 0, false), .op (2, 0, false), .grp 2 true [(3, 0, false), (4, 0, false), (5, 0, false), (6, 0, false), (7, 0, false), (8, 0, false), (9, 0, false)] [34] 34091302912, .op (10, 0, false), .op (11, 0, false), .grp 11 true [(12, 0, false), (13, 0, false), (14, 0, false), (15, 0, false)] [40] 2061584302080, .grp 15 false [(16, 0, false), (17, 0, false), (18, 0, false)] [43] 15393162788864, .grp 11 true [(19, 0, false)] [44] 17592186044416, .op (20, 0, false), .op (21, 0, false)]) .leaf)))))
theorem I_spec_l02Is {a0 : Value} {w : World} {K : Value → World → Prop} (h : D_spec_l02Is a0 w K) : call P f_spec_l02Is [a0] w K :=
  call_of_vc mixed Tryz.func170 (c := codeOf Tryz.f170) (by kernel_rfl) (by kernel_rfl) (p := P_spec_l02Is) (by kernel_rfl) (by rw [Tryz.ntmps170]; simp) (by
    have e : D_spec_l02Is a0 w K = vc P P_spec_l02Is (codeOf Tryz.f170) (env0 [a0]) w (retX P Tryz.f170.results.toList K) := by kernel_rfl
    exact e ▸ h)

/-- spec.l02Twos -/
def D_spec_l02Twos (a0 : Value) (w : World) (K : Value → World → Prop) : Prop :=
  bx P 55 a0 w fun x1_1 w2 =>
  ∃ I3 : Nat → Value → World → Prop, (∃ m14, I3 m14 (.int .i64 0) w2) ∧ ∀ (m6 : Nat) (x3_7 : Value) (junk4 : Env) (w5 : World), I3 m6 x3_7 w5 →
  ld P 55 x1_1 w5 fun x4_8 =>
  call P f_spec_l02Bit [x4_8, x3_7] w5 fun x6_9 w10 =>
  bin P .eql 2 false true x6_9 (.int .i64 0) w10 fun x7_11 =>
  cnd x7_11
  (bin P .add 2 false true x3_7 (.int .i64 1) w10 fun x9_12 =>
  ∃ m13, m13 < m6 ∧ I3 m13 x9_12 w10)
  (K x3_7 w10)
def P_spec_l02Twos : Plan := (.seq (.reg [.op (0, 2, false), .op (1, 0, false)]) (.seq (.reg [.op (0, 0, false)]) (.seq (.blk (.loop [3] 1016 (.seq (.seq (.reg [.op (0, 0, false), .op (1, 0, false), .op (2, 2, false), .op (3, 0, false)]) (.cond .leaf .leaf)) (.blk (.reg [.op (0, 0, false), .op (1, 0, false), .op (2, 0, false)]))))) (.seq (.reg [.op (0, 0, false), .op (1, 0, false)]) .leaf))))
theorem I_spec_l02Twos {a0 : Value} {w : World} {K : Value → World → Prop} (h : D_spec_l02Twos a0 w K) : call P f_spec_l02Twos [a0] w K :=
  call_of_vc mixed Tryz.func171 (c := codeOf Tryz.f171) (by kernel_rfl) (by kernel_rfl) (p := P_spec_l02Twos) (by kernel_rfl) (by rw [Tryz.ntmps171]; simp) (by
    have e : D_spec_l02Twos a0 w K = vc P P_spec_l02Twos (codeOf Tryz.f171) (env0 [a0]) w (retX P Tryz.f171.results.toList K) := by kernel_rfl
    exact e ▸ h)

/-- spec.l02Cut -/
def D_spec_l02Cut (a0 a1 : Value) (w : World) (K : Value → World → Prop) : Prop :=
  bx P 55 a0 w fun x2_1 w2 =>
  alc P 55 w2 fun x4_3 w4 =>
  bsl P 53 0 [] w4 fun x8_5 w6 =>
  bin P .quo 2 false true a1 (.int .i64 24) w6 fun x10_7 =>
  ∃ I8 : Nat → Value → Value → World → Prop, (∃ m60, I8 m60 x8_5 x10_7 w6) ∧ ∀ (m11 : Nat) (x5_12 : Value) (x6_13 : Value) (junk9 : Env) (w10 : World), I8 m11 x5_12 x6_13 w10 →
  fda P 55 x2_1 1 w10 fun x12_14 =>
  ld P 53 x12_14 w10 fun x13_15 =>
  bl0 P .len #[53] 3 [x13_15] w10 fun x14_16 =>
  bin P .lss 2 false false x6_13 x14_16 w10 fun x15_17 =>
  cnd x15_17
  (fda P 55 x2_1 1 w10 fun x18_18 =>
  ld P 53 x18_18 w10 fun x19_19 =>
  ixa P 53 x19_19 x6_13 w10 fun x21_20 =>
  ld P 2 x21_20 w10 fun x22_21 =>
  bin P .rem 2 false true a1 (.int .i64 24) w10 fun x24_22 =>
  cnv P 2 178 x24_22 w10 fun x25_23 =>
  bin P .shr 2 false false x22_21 x25_23 w10 fun x26_24 =>
  bin P .add 2 false true x6_13 (.int .i64 1) w10 fun x28_25 =>
  fda P 55 x2_1 1 w10 fun x29_26 =>
  ld P 53 x29_26 w10 fun x30_27 =>
  bl0 P .len #[53] 3 [x30_27] w10 fun x31_28 =>
  bin P .lss 2 false false x28_25 x31_28 w10 fun x32_29 =>
  cnd x32_29
  (fda P 55 x2_1 1 w10 fun x34_30 =>
  ld P 53 x34_30 w10 fun x35_31 =>
  bin P .add 2 false true x6_13 (.int .i64 1) w10 fun x37_32 =>
  ixa P 53 x35_31 x37_32 w10 fun x38_33 =>
  ld P 2 x38_33 w10 fun x39_34 =>
  bin P .rem 2 false true a1 (.int .i64 24) w10 fun x41_35 =>
  bin P .sub 2 true false (.int .i64 24) x41_35 w10 fun x42_36 =>
  cnv P 2 178 x42_36 w10 fun x43_37 =>
  bin P .shl 2 false false x39_34 x43_37 w10 fun x44_38 =>
  bin P .add 2 false false x26_24 x44_38 w10 fun x45_39 =>
  bin P .rem 2 false true x45_39 (.int .i64 16777216) w10 fun x46_40 =>
  bsl P 53 1 [(0, x46_40)] w10 fun x49_41 w42 =>
  bl2 P .append #[53, 53] 53 [x5_12, x49_41] w42 fun x50_43 w44 =>
  bin P .add 2 false true x6_13 (.int .i64 1) w44 fun x17_45 =>
  ∃ m46, m46 < m11 ∧ I8 m46 x50_43 x17_45 w44)
  (bsl P 53 1 [(0, x26_24)] w10 fun x49_47 w48 =>
  bl2 P .append #[53, 53] 53 [x5_12, x49_47] w48 fun x50_49 w50 =>
  bin P .add 2 false true x6_13 (.int .i64 1) w50 fun x17_51 =>
  ∃ m52, m52 < m11 ∧ I8 m52 x50_49 x17_51 w50))
  (fda P 55 x2_1 0 w10 fun x51_53 =>
  ld P 2 x51_53 w10 fun x52_54 =>
  call P f_spec_l02Make [x52_54, x5_12] w10 fun x54_55 w56 =>
  sto P 55 x4_3 x54_55 w56 fun w58 =>
  ldc P 55 x4_3 w58 fun r59 =>
  K r59 w58)
def P_spec_l02Cut : Plan := (.seq (.reg [.op (0, 2, false), .op (1, 2, false)]) (.seq (.reg [.op (0, 2, false), .op (1, 0, false)]) (.seq (.seq (.reg [.op (0, 0, false), .op (1, 0, false), .op (2, 0, false)]) (.blk (.loop [5, 6] 2251799813683424 (.seq (.seq (.reg [.op (0, 0, false), .op (1, 0, false), .op (2, 0, false), .op (3, 0, false), .op (4, 0, false)]) (.cond .leaf .leaf)) (.seq (.blk (.seq (.reg [.op (0, 0, false), .op (1, 0, false), .op (2, 0, false), .op (3, 0, false), .op (4, 0, false), .op (5, 0, false), .op (6, 0, false), .op (7, 0, false), .op (8, 0, false), .op (9, 0, false)]) (.seq (.seq (.reg [.op (0, 0, false), .op (1, 0, false), .op (2, 0, false), .op (3, 0, false), .op (4, 0, false), .op (5, 0, false)]) (.cond (.reg [.op (0, 0, false), .op (1, 0, false), .op (2, 0, false), .op (3, 0, false), .op (4, 0, false), .op (5, 0, false), .op (6, 0, false), .op (7, 0, false), .op (8, 0, false), .op (9, 0, false), .op (10, 0, false), .op (11, 0, false), .op (12, 0, false), .op (13, 0, false), .op (14, 0, false)]) .leaf)) (.reg [.op (0, 0, false), .op (1, 0, false), .op (2, 2, false), .op (3, 2, false), .op (4, 0, false)])))) (.reg [.op (0, 0, false), .op (1, 0, false), .op (2, 0, false)])))))) (.seq (.reg [.op (0, 0, false), .op (1, 0, false), .op (2, 0, false), .op (3, 2, false), .op (4, 2, false)]) .leaf))))
theorem I_spec_l02Cut {a0 a1 : Value} {w : World} {K : Value → World → Prop} (h : D_spec_l02Cut a0 a1 w K) : call P f_spec_l02Cut [a0, a1] w K :=
  call_of_vc mixed Tryz.func172 (c := codeOf Tryz.f172) (by kernel_rfl) (by kernel_rfl) (p := P_spec_l02Cut) (by kernel_rfl) (by rw [Tryz.ntmps172]; simp) (by
    have e : D_spec_l02Cut a0 a1 w K = vc P P_spec_l02Cut (codeOf Tryz.f172) (env0 [a0, a1]) w (retX P Tryz.f172.results.toList K) := by kernel_rfl
    exact e ▸ h)

/-- spec.l02Make -/
def D_spec_l02Make (a0 a1 : Value) (w : World) (K : Value → World → Prop) : Prop :=
  alc P 55 w fun x4_1 w2 =>
  bl0 P .len #[53] 3 [a1] w2 fun x7_3 =>
  ∃ I4 : Nat → Value → World → Prop, (∃ m33, I4 m33 x7_3 w2) ∧ ∀ (m7 : Nat) (x5_8 : Value) (junk5 : Env) (w6 : World), I4 m7 x5_8 w6 →
  bin P .gtr 3 false true x5_8 (.int .i64 0) w6 fun x9_9 =>
  ∃ J10 : Value → World → Prop, (∀ (x16_11 : Value) (junk13 : Env) (w12 : World), J10 x16_11 w12 →
  pick x9_9 x16_11 (.bool false) fun x17_14 =>
  cnd x17_14
  (bin P .sub 3 false true x5_8 (.int .i64 1) w12 fun x19_15 =>
  ∃ m16, m16 < m7 ∧ I4 m16 x19_15 w12)
  (bin P .eql 3 false true x5_8 (.int .i64 0) w12 fun x21_17 =>
  cnd x21_17
  (bld P 55 [] w12 fun x22_18 =>
  sto P 55 x4_1 x22_18 w12 fun w20 =>
  ldc P 55 x4_1 w20 fun r21 =>
  K r21 w20)
  (sli P 53 a1 none (some x5_8) none w12 fun x26_22 =>
  call P f_spec_l01Own [x26_22] w12 fun x27_23 w24 =>
  bld P 55 [(0, a0), (1, x27_23)] w24 fun x28_25 =>
  sto P 55 x4_1 x28_25 w24 fun w27 =>
  ldc P 55 x4_1 w27 fun r28 =>
  K r28 w27))) ∧
  grd x9_9 true
  (bin P .sub 3 false true x5_8 (.int .i64 1) w6 fun x13_29 =>
  ixa P 53 a1 x13_29 w6 fun x14_30 =>
  ld P 2 x14_30 w6 fun x15_31 =>
  bin P .eql 2 false true x15_31 (.int .i64 0) w6 fun x16_32 =>
  J10 x16_32 w6)
  (J10 undef w6)
def P_spec_l02Make : Plan := (.seq (.reg [.op (0, 2, false)]) (.seq (.reg [.op (0, 0, false), .op (1, 0, false), .op (2, 0, false)]) (.seq (.blk (.loop [5] 1048352 (.seq (.seq (.reg [.op (0, 0, false), .op (1, 0, false), .op (2, 0, false), .grp 2 true [(3, 0, false), (4, 0, false), (5, 0, false), (6, 0, false), (7, 0, false), (8, 0, false)] [16] 129024, .op (9, 0, false)]) (.cond .leaf .leaf)) (.blk (.reg [.op (0, 0, false), .op (1, 0, false), .op (2, 0, false)]))))) (.seq (.seq (.reg [.op (0, 0, false), .op (1, 0, false)]) (.cond (.seq (.reg [.op (0, 0, false), .op (1, 2, false)]) .leaf) .leaf)) (.seq (.reg [.op (0, 0, false), .op (1, 0, false), .op (2, 0, false), .op (3, 0, false), .op (4, 2, false), .op (5, 0, false), .op (6, 2, false)]) .leaf)))))
theorem I_spec_l02Make {a0 a1 : Value} {w : World} {K : Value → World → Prop} (h : D_spec_l02Make a0 a1 w K) : call P f_spec_l02Make [a0, a1] w K :=
  call_of_vc mixed Tryz.func214 (c := codeOf Tryz.f214) (by kernel_rfl) (by kernel_rfl) (p := P_spec_l02Make) (by kernel_rfl) (by rw [Tryz.ntmps214]; simp) (by
    have e : D_spec_l02Make a0 a1 w K = vc P P_spec_l02Make (codeOf Tryz.f214) (env0 [a0, a1]) w (retX P Tryz.f214.results.toList K) := by kernel_rfl
    exact e ▸ h)

/-- spec.l02Neg -/
def D_spec_l02Neg (a0 : Value) (w : World) (K : Value → World → Prop) : Prop :=
  bx P 55 a0 w fun x1_1 w2 =>
  alc P 55 w2 fun x2_3 w4 =>
  fda P 55 x1_1 0 w4 fun x3_5 =>
  ld P 2 x3_5 w4 fun x4_6 =>
  una P .neg x4_6 w4 fun x5_7 =>
  fda P 55 x1_1 1 w4 fun x6_8 =>
  ld P 53 x6_8 w4 fun x7_9 =>
  call P f_spec_l02Make [x5_7, x7_9] w4 fun x8_10 w11 =>
  sto P 55 x2_3 x8_10 w11 fun w13 =>
  ldc P 55 x2_3 w13 fun r14 =>
  K r14 w13
def P_spec_l02Neg : Plan := (.seq (.reg [.op (0, 2, false), .op (1, 2, false)]) (.seq (.reg [.op (0, 0, false), .op (1, 0, false), .op (2, 0, false), .op (3, 0, false), .op (4, 0, false), .op (5, 2, false), .op (6, 2, false)]) .leaf))
theorem I_spec_l02Neg {a0 : Value} {w : World} {K : Value → World → Prop} (h : D_spec_l02Neg a0 w K) : call P f_spec_l02Neg [a0] w K :=
  call_of_vc mixed Tryz.func215 (c := codeOf Tryz.f215) (by kernel_rfl) (by kernel_rfl) (p := P_spec_l02Neg) (by kernel_rfl) (by rw [Tryz.ntmps215]; simp) (by
    have e : D_spec_l02Neg a0 w K = vc P P_spec_l02Neg (codeOf Tryz.f215) (env0 [a0]) w (retX P Tryz.f215.results.toList K) := by kernel_rfl
    exact e ▸ h)

/-- spec.l02Mul -/
def D_spec_l02Mul (a0 a1 : Value) (w : World) (K : Value → World → Prop) : Prop :=
  bx P 55 a0 w fun x2_1 w2 =>
  bx P 55 a1 w2 fun x3_3 w4 =>
  alc P 55 w4 fun x4_5 w6 =>
  fda P 55 x2_1 1 w6 fun x9_7 =>
  ld P 53 x9_7 w6 fun x10_8 =>
  bl0 P .len #[53] 3 [x10_8] w6 fun x11_9 =>
  fda P 55 x3_3 1 w6 fun x12_10 =>
  ld P 53 x12_10 w6 fun x13_11 =>
  bl0 P .len #[53] 3 [x13_11] w6 fun x14_12 =>
  bin P .add 3 false false x11_9 x14_12 w6 fun x15_13 =>
  bin P .add 3 false true x15_13 (.int .i64 1) w6 fun x16_14 =>
  mks P 53 x16_14 x16_14 w6 fun x17_15 w16 =>
  ∃ I17 : Nat → Value → World → Prop, (∃ m78, I17 m78 (.int .i64 0) w16) ∧ ∀ (m20 : Nat) (x6_21 : Value) (junk18 : Env) (w19 : World), I17 m20 x6_21 w19 →
  fda P 55 x2_1 1 w19 fun x19_22 =>
  ld P 53 x19_22 w19 fun x20_23 =>
  bl0 P .len #[53] 3 [x20_23] w19 fun x21_24 =>
  bin P .lss 3 false false x6_21 x21_24 w19 fun x22_25 =>
  cnd x22_25
  (∃ I26 : Nat → Value → Value → World → Prop, (∃ m67, I26 m67 (.int .i64 0) (.int .i64 0) w19) ∧ ∀ (m29 : Nat) (x7_30 : Value) (x8_31 : Value) (junk27 : Env) (w28 : World), I26 m29 x7_30 x8_31 w28 →
  fda P 55 x3_3 1 w28 fun x26_32 =>
  ld P 53 x26_32 w28 fun x27_33 =>
  bl0 P .len #[53] 3 [x27_33] w28 fun x28_34 =>
  bin P .lss 3 false false x8_31 x28_34 w28 fun x29_35 =>
  cnd x29_35
  (bin P .add 3 false false x6_21 x8_31 w28 fun x36_36 =>
  ixa P 53 x17_15 x36_36 w28 fun x37_37 =>
  ld P 2 x37_37 w28 fun x38_38 =>
  bin P .add 2 false false x7_30 x38_38 w28 fun x39_39 =>
  fda P 55 x2_1 1 w28 fun x40_40 =>
  ld P 53 x40_40 w28 fun x41_41 =>
  ixa P 53 x41_41 x6_21 w28 fun x43_42 =>
  ld P 2 x43_42 w28 fun x44_43 =>
  fda P 55 x3_3 1 w28 fun x45_44 =>
  ld P 53 x45_44 w28 fun x46_45 =>
  ixa P 53 x46_45 x8_31 w28 fun x48_46 =>
  ld P 2 x48_46 w28 fun x49_47 =>
  bin P .mul 2 false false x44_43 x49_47 w28 fun x50_48 =>
  bin P .add 2 false false x39_39 x50_48 w28 fun x51_49 =>
  bin P .add 3 false false x6_21 x8_31 w28 fun x55_50 =>
  bin P .rem 2 false true x51_49 (.int .i64 16777216) w28 fun x57_51 =>
  ixa P 53 x17_15 x55_50 w28 fun x58_52 =>
  sto P 2 x58_52 x57_51 w28 fun w54 =>
  bin P .quo 2 false true x51_49 (.int .i64 16777216) w54 fun x60_55 =>
  bin P .add 3 false true x8_31 (.int .i64 1) w54 fun x31_56 =>
  ∃ m57, m57 < m29 ∧ I26 m57 x60_55 x31_56 w54)
  (fda P 55 x3_3 1 w28 fun x63_58 =>
  ld P 53 x63_58 w28 fun x64_59 =>
  bl0 P .len #[53] 3 [x64_59] w28 fun x65_60 =>
  bin P .add 3 false false x6_21 x65_60 w28 fun x66_61 =>
  ixa P 53 x17_15 x66_61 w28 fun x68_62 =>
  sto P 2 x68_62 x7_30 w28 fun w64 =>
  bin P .add 3 false true x6_21 (.int .i64 1) w64 fun x24_65 =>
  ∃ m66, m66 < m20 ∧ I17 m66 x24_65 w64))
  (fda P 55 x2_1 0 w19 fun x69_68 =>
  ld P 2 x69_68 w19 fun x70_69 =>
  fda P 55 x3_3 0 w19 fun x71_70 =>
  ld P 2 x71_70 w19 fun x72_71 =>
  bin P .mul 2 false false x70_69 x72_71 w19 fun x73_72 =>
  call P f_spec_l02Make [x73_72, x17_15] w19 fun x75_73 w74 =>
  sto P 55 x4_5 x75_73 w74 fun w76 =>
  ldc P 55 x4_5 w76 fun r77 =>
  K r77 w76)
def P_spec_l02Mul : Plan := (.seq (.reg [.op (0, 2, false), .op (1, 2, false), .op (2, 2, false)]) (.seq (.reg [.op (0, 0, false), .op (1, 0, false), .op (2, 0, false), .op (3, 0, false), .op (4, 0, false), .op (5, 0, false), .op (6, 0, false), .op (7, 0, false), .op (8, 2, false), .op (9, 0, false)]) (.seq (.seq (.reg [.op (0, 0, false)]) (.blk (.loop [6] 590295810358705390016 (.seq (.seq (.reg [.op (0, 0, false), .op (1, 0, false), .op (2, 0, false), .op (3, 0, false), .op (4, 0, false)]) (.cond .leaf .leaf)) (.seq (.blk (.seq (.reg [.op (0, 0, false)]) (.seq (.seq (.reg [.op (0, 0, false)]) (.blk (.loop [7, 8] 2305843009180139904 (.seq (.seq (.reg [.op (0, 0, false), .op (1, 0, false), .op (2, 0, false), .op (3, 0, false), .op (4, 0, false)]) (.cond .leaf .leaf)) (.seq (.blk (.seq (.reg [.op (0, 0, false), .op (1, 0, false), .op (2, 0, false), .op (3, 0, false), .op (4, 0, false), .op (5, 0, false), .op (6, 0, false), .op (7, 0, false), .op (8, 0, false), .op (9, 0, false), .op (10, 0, false), .op (11, 0, false), .op (12, 0, false), .op (13, 0, false), .op (14, 0, false), .op (15, 0, false), .op (16, 0, false), .op (17, 0, false), .op (18, 0, false), .op (19, 0, false), .op (20, 0, false)]) (.seq (.reg [.op (0, 0, false), .op (1, 0, false), .op (2, 0, false), .op (3, 0, false), .op (4, 0, false), .op (5, 0, false), .op (6, 0, false), .op (7, 2, false)]) (.reg [.op (0, 0, false), .op (1, 0, false), .op (2, 0, false)])))) (.reg [.op (0, 0, false), .op (1, 0, false), .op (2, 0, false)])))))) (.reg [.op (0, 0, false), .op (1, 0, false), .op (2, 0, false), .op (3, 0, false), .op (4, 0, false), .op (5, 0, false), .op (6, 0, false), .op (7, 0, false), .op (8, 2, false)])))) (.reg [.op (0, 0, false), .op (1, 0, false), .op (2, 0, false)])))))) (.seq (.reg [.op (0, 0, false), .op (1, 0, false), .op (2, 0, false), .op (3, 0, false), .op (4, 0, false), .op (5, 0, false), .op (6, 2, false), .op (7, 2, false)]) .leaf))))
theorem I_spec_l02Mul {a0 a1 : Value} {w : World} {K : Value → World → Prop} (h : D_spec_l02Mul a0 a1 w K) : call P f_spec_l02Mul [a0, a1] w K :=
  call_of_vc mixed Tryz.func216 (c := codeOf Tryz.f216) (by kernel_rfl) (by kernel_rfl) (p := P_spec_l02Mul) (by kernel_rfl) (by rw [Tryz.ntmps216]; simp) (by
    have e : D_spec_l02Mul a0 a1 w K = vc P P_spec_l02Mul (codeOf Tryz.f216) (env0 [a0, a1]) w (retX P Tryz.f216.results.toList K) := by kernel_rfl
    exact e ▸ h)

/-- spec.l02Add -/
def D_spec_l02Add (a0 a1 : Value) (w : World) (K : Value → World → Prop) : Prop :=
  bx P 55 a0 w fun x2_1 w2 =>
  bx P 55 a1 w2 fun x3_3 w4 =>
  alc P 55 w4 fun x4_5 w6 =>
  fda P 55 x2_1 0 w6 fun x6_7 =>
  ld P 2 x6_7 w6 fun x7_8 =>
  bin P .eql 2 false true x7_8 (.int .i64 0) w6 fun x8_9 =>
  cnd x8_9
  (fda P 55 x3_3 0 w6 fun x9_10 =>
  ld P 2 x9_10 w6 fun x10_11 =>
  fda P 55 x3_3 1 w6 fun x11_12 =>
  ld P 53 x11_12 w6 fun x12_13 =>
  call P f_spec_l02Make [x10_11, x12_13] w6 fun x13_14 w15 =>
  sto P 55 x4_5 x13_14 w15 fun w17 =>
  ldc P 55 x4_5 w17 fun r18 =>
  K r18 w17)
  (fda P 55 x3_3 0 w6 fun x15_19 =>
  ld P 2 x15_19 w6 fun x16_20 =>
  bin P .eql 2 false true x16_20 (.int .i64 0) w6 fun x17_21 =>
  cnd x17_21
  (fda P 55 x2_1 0 w6 fun x18_22 =>
  ld P 2 x18_22 w6 fun x19_23 =>
  fda P 55 x2_1 1 w6 fun x20_24 =>
  ld P 53 x20_24 w6 fun x21_25 =>
  call P f_spec_l02Make [x19_23, x21_25] w6 fun x22_26 w27 =>
  sto P 55 x4_5 x22_26 w27 fun w29 =>
  ldc P 55 x4_5 w29 fun r30 =>
  K r30 w29)
  (fda P 55 x2_1 0 w6 fun x24_31 =>
  ld P 2 x24_31 w6 fun x25_32 =>
  fda P 55 x3_3 0 w6 fun x26_33 =>
  ld P 2 x26_33 w6 fun x27_34 =>
  bin P .eql 2 false false x25_32 x27_34 w6 fun x28_35 =>
  cnd x28_35
  (fda P 55 x2_1 0 w6 fun x29_36 =>
  ld P 2 x29_36 w6 fun x30_37 =>
  fda P 55 x2_1 1 w6 fun x31_38 =>
  ld P 53 x31_38 w6 fun x32_39 =>
  fda P 55 x3_3 1 w6 fun x33_40 =>
  ld P 53 x33_40 w6 fun x34_41 =>
  call P f_spec_l02Plus [x32_39, x34_41] w6 fun x35_42 w43 =>
  Ext w6 w43 ∧ call P f_spec_l02Make [x30_37, x35_42] w43 fun x36_44 w45 =>
  sto P 55 x4_5 x36_44 w45 fun w47 =>
  ldc P 55 x4_5 w47 fun r48 =>
  K r48 w47)
  (fda P 55 x2_1 1 w6 fun x38_49 =>
  ld P 53 x38_49 w6 fun x39_50 =>
  fda P 55 x3_3 1 w6 fun x40_51 =>
  ld P 53 x40_51 w6 fun x41_52 =>
  call P f_spec_l02CompareLimbs [x39_50, x41_52] w6 fun x42_53 w54 =>
  bin P .geq 2 false true x42_53 (.int .i64 0) w54 fun x43_55 =>
  cnd x43_55
  (fda P 55 x2_1 0 w54 fun x44_56 =>
  ld P 2 x44_56 w54 fun x45_57 =>
  fda P 55 x2_1 1 w54 fun x46_58 =>
  ld P 53 x46_58 w54 fun x47_59 =>
  fda P 55 x3_3 1 w54 fun x48_60 =>
  ld P 53 x48_60 w54 fun x49_61 =>
  call P f_spec_l02Minus [x47_59, x49_61] w54 fun x50_62 w63 =>
  Ext w54 w63 ∧ call P f_spec_l02Make [x45_57, x50_62] w63 fun x51_64 w65 =>
  sto P 55 x4_5 x51_64 w65 fun w67 =>
  ldc P 55 x4_5 w67 fun r68 =>
  K r68 w67)
  (fda P 55 x3_3 0 w54 fun x52_69 =>
  ld P 2 x52_69 w54 fun x53_70 =>
  fda P 55 x3_3 1 w54 fun x54_71 =>
  ld P 53 x54_71 w54 fun x55_72 =>
  fda P 55 x2_1 1 w54 fun x56_73 =>
  ld P 53 x56_73 w54 fun x57_74 =>
  call P f_spec_l02Minus [x55_72, x57_74] w54 fun x58_75 w76 =>
  Ext w54 w76 ∧ call P f_spec_l02Make [x53_70, x58_75] w76 fun x59_77 w78 =>
  sto P 55 x4_5 x59_77 w78 fun w80 =>
  ldc P 55 x4_5 w80 fun r81 =>
  K r81 w80))))
def P_spec_l02Add : Plan := (.seq (.reg [.op (0, 2, false), .op (1, 2, false), .op (2, 2, false)]) (.seq (.blk (.seq (.reg [.op (0, 0, false), .op (1, 0, false), .op (2, 0, false), .op (3, 0, false)]) (.cond (.seq (.reg [.op (0, 0, false), .op (1, 0, false), .op (2, 0, false), .op (3, 0, false), .op (4, 2, false), .op (5, 2, false)]) .leaf) (.seq (.reg [.op (0, 0, false), .op (1, 0, false), .op (2, 0, false), .op (3, 0, false)]) (.cond (.seq (.reg [.op (0, 0, false), .op (1, 0, false), .op (2, 0, false), .op (3, 0, false), .op (4, 2, false), .op (5, 2, false)]) .leaf) (.seq (.reg [.op (0, 0, false), .op (1, 0, false), .op (2, 0, false), .op (3, 0, false), .op (4, 0, false), .op (5, 0, false)]) (.cond (.seq (.reg [.op (0, 0, false), .op (1, 0, false), .op (2, 0, false), .op (3, 0, false), .op (4, 0, false), .op (5, 0, false), .op (6, 2, true), .op (7, 2, false), .op (8, 2, false)]) .leaf) (.seq (.reg [.op (0, 0, false), .op (1, 0, false), .op (2, 0, false), .op (3, 0, false), .op (4, 2, false), .op (5, 0, false), .op (6, 0, false)]) (.cond (.seq (.reg [.op (0, 0, false), .op (1, 0, false), .op (2, 0, false), .op (3, 0, false), .op (4, 0, false), .op (5, 0, false), .op (6, 2, true), .op (7, 2, false), .op (8, 2, false)]) .leaf) .leaf))))))))) (.seq (.reg [.op (0, 0, false), .op (1, 0, false), .op (2, 0, false), .op (3, 0, false), .op (4, 0, false), .op (5, 0, false), .op (6, 2, true), .op (7, 2, false), .op (8, 2, false)]) .leaf)))
theorem I_spec_l02Add {a0 a1 : Value} {w : World} {K : Value → World → Prop} (h : D_spec_l02Add a0 a1 w K) : call P f_spec_l02Add [a0, a1] w K :=
  call_of_vc mixed Tryz.func217 (c := codeOf Tryz.f217) (by kernel_rfl) (by kernel_rfl) (p := P_spec_l02Add) (by kernel_rfl) (by rw [Tryz.ntmps217]; simp) (by
    have e : D_spec_l02Add a0 a1 w K = vc P P_spec_l02Add (codeOf Tryz.f217) (env0 [a0, a1]) w (retX P Tryz.f217.results.toList K) := by kernel_rfl
    exact e ▸ h)

/-- spec.l02Left -/
def D_spec_l02Left (a0 a1 : Value) (w : World) (K : Value → World → Prop) : Prop :=
  bx P 55 a0 w fun x2_1 w2 =>
  alc P 55 w2 fun x4_3 w4 =>
  bin P .quo 2 false true a1 (.int .i64 24) w4 fun x9_5 =>
  mks P 53 x9_5 x9_5 w4 fun x10_6 w7 =>
  ∃ I8 : Nat → Value → Value → Value → World → Prop, (∃ m46, I8 m46 x10_6 (.int .i64 0) (.int .i64 0) w7) ∧ ∀ (m11 : Nat) (x5_12 : Value) (x6_13 : Value) (x7_14 : Value) (junk9 : Env) (w10 : World), I8 m11 x5_12 x6_13 x7_14 w10 →
  fda P 55 x2_1 1 w10 fun x12_15 =>
  ld P 53 x12_15 w10 fun x13_16 =>
  bl0 P .len #[53] 3 [x13_16] w10 fun x14_17 =>
  bin P .lss 3 false false x7_14 x14_17 w10 fun x15_18 =>
  cnd x15_18
  (fda P 55 x2_1 1 w10 fun x19_19 =>
  ld P 53 x19_19 w10 fun x20_20 =>
  ixa P 53 x20_20 x7_14 w10 fun x22_21 =>
  ld P 2 x22_21 w10 fun x23_22 =>
  bin P .rem 2 false true a1 (.int .i64 24) w10 fun x25_23 =>
  cnv P 2 178 x25_23 w10 fun x26_24 =>
  bin P .shl 2 false false x23_22 x26_24 w10 fun x27_25 =>
  bin P .add 2 false false x6_13 x27_25 w10 fun x28_26 =>
  bin P .rem 2 false true x28_26 (.int .i64 16777216) w10 fun x31_27 =>
  bsl P 53 1 [(0, x31_27)] w10 fun x32_28 w29 =>
  bl2 P .append #[53, 53] 53 [x5_12, x32_28] w29 fun x33_30 w31 =>
  bin P .quo 2 false true x28_26 (.int .i64 16777216) w31 fun x35_32 =>
  bin P .add 3 false true x7_14 (.int .i64 1) w31 fun x17_33 =>
  ∃ m34, m34 < m11 ∧ I8 m34 x33_30 x35_32 x17_33 w31)
  (fda P 55 x2_1 0 w10 fun x36_35 =>
  ld P 2 x36_35 w10 fun x37_36 =>
  bsl P 53 1 [(0, x6_13)] w10 fun x40_37 w38 =>
  Ext w10 w38 ∧ bl2 P .append #[53, 53] 53 [x5_12, x40_37] w38 fun x41_39 w40 =>
  (fda P 55 x2_1 0 w40 fun z => z = x36_35) ∧ (ld P 2 x36_35 w40 fun z => z = x37_36) ∧ call P f_spec_l02Make [x37_36, x41_39] w40 fun x42_41 w42 =>
  sto P 55 x4_3 x42_41 w42 fun w44 =>
  ldc P 55 x4_3 w44 fun r45 =>
  K r45 w44)
def P_spec_l02Left : Plan := (.seq (.reg [.op (0, 2, false), .op (1, 2, false)]) (.seq (.reg [.op (0, 0, false), .op (1, 0, false), .op (2, 2, false), .op (3, 0, false)]) (.seq (.reg [.op (0, 0, false)]) (.seq (.seq (.reg [.op (0, 0, false)]) (.blk (.loop [5, 6, 7] 68719474912 (.seq (.seq (.reg [.op (0, 0, false), .op (1, 0, false), .op (2, 0, false), .op (3, 0, false), .op (4, 0, false)]) (.cond .leaf .leaf)) (.seq (.blk (.seq (.reg [.op (0, 0, false), .op (1, 0, false), .op (2, 0, false), .op (3, 0, false), .op (4, 0, false), .op (5, 0, false), .op (6, 0, false), .op (7, 0, false), .op (8, 0, false), .op (9, 0, false), .op (10, 0, false), .op (11, 0, false)]) (.seq (.reg [.op (0, 0, false), .op (1, 0, false), .op (2, 0, false), .op (3, 2, false), .op (4, 2, false), .op (5, 0, false)]) (.reg [.op (0, 0, false), .op (1, 0, false), .op (2, 0, false)])))) (.reg [.op (0, 0, false), .op (1, 0, false), .op (2, 0, false)])))))) (.seq (.reg [.op (0, 0, false), .op (1, 0, false), .op (2, 0, false), .op (3, 0, false), .op (4, 2, true), .op (5, 5, false), .op (6, 2, false), .op (7, 2, false)]) .leaf)))))
theorem I_spec_l02Left {a0 a1 : Value} {w : World} {K : Value → World → Prop} (h : D_spec_l02Left a0 a1 w K) : call P f_spec_l02Left [a0, a1] w K :=
  call_of_vc mixed Tryz.func218 (c := codeOf Tryz.f218) (by kernel_rfl) (by kernel_rfl) (p := P_spec_l02Left) (by kernel_rfl) (by rw [Tryz.ntmps218]; simp) (by
    have e : D_spec_l02Left a0 a1 w K = vc P P_spec_l02Left (codeOf Tryz.f218) (env0 [a0, a1]) w (retX P Tryz.f218.results.toList K) := by kernel_rfl
    exact e ▸ h)

/-- spec.l02Bit -/
def D_spec_l02Bit (a0 a1 : Value) (w : World) (K : Value → World → Prop) : Prop :=
  bx P 55 a0 w fun x2_1 w2 =>
  bin P .quo 2 false true a1 (.int .i64 24) w2 fun x6_3 =>
  fda P 55 x2_1 1 w2 fun x7_4 =>
  ld P 53 x7_4 w2 fun x8_5 =>
  bl0 P .len #[53] 3 [x8_5] w2 fun x9_6 =>
  bin P .geq 2 false false x6_3 x9_6 w2 fun x10_7 =>
  cnd x10_7
  (K (.int .i64 0) w2)
  (fda P 55 x2_1 1 w2 fun x11_8 =>
  ld P 53 x11_8 w2 fun x12_9 =>
  bin P .quo 2 false true a1 (.int .i64 24) w2 fun x14_10 =>
  ixa P 53 x12_9 x14_10 w2 fun x15_11 =>
  ld P 2 x15_11 w2 fun x16_12 =>
  bin P .rem 2 false true a1 (.int .i64 24) w2 fun x18_13 =>
  cnv P 2 178 x18_13 w2 fun x19_14 =>
  bin P .shr 2 false false x16_12 x19_14 w2 fun x20_15 =>
  bin P .and 2 false true x20_15 (.int .i64 1) w2 fun x21_16 =>
  K x21_16 w2)
def P_spec_l02Bit : Plan := (.seq (.reg [.op (0, 2, false), .op (1, 0, false)]) (.seq (.seq (.reg [.op (0, 0, false), .op (1, 0, false), .op (2, 0, false), .op (3, 0, false), .op (4, 0, false), .op (5, 0, false)]) (.cond (.seq (.reg [.op (0, 0, false)]) .leaf) .leaf)) (.seq (.reg [.op (0, 0, false), .op (1, 0, false), .op (2, 0, false), .op (3, 0, false), .op (4, 0, false), .op (5, 0, false), .op (6, 0, false), .op (7, 0, false), .op (8, 0, false), .op (9, 0, false), .op (10, 0, false), .op (11, 0, false)]) .leaf)))
theorem I_spec_l02Bit {a0 a1 : Value} {w : World} {K : Value → World → Prop} (h : D_spec_l02Bit a0 a1 w K) : call P f_spec_l02Bit [a0, a1] w K :=
  call_of_vc mixed Tryz.func219 (c := codeOf Tryz.f219) (by kernel_rfl) (by kernel_rfl) (p := P_spec_l02Bit) (by kernel_rfl) (by rw [Tryz.ntmps219]; simp) (by
    have e : D_spec_l02Bit a0 a1 w K = vc P P_spec_l02Bit (codeOf Tryz.f219) (env0 [a0, a1]) w (retX P Tryz.f219.results.toList K) := by kernel_rfl
    exact e ▸ h)

/-- spec.l02Read -/
def D_spec_l02Read (a0 : Value) (w : World) (K : Value → World → Prop) : Prop :=
  alc P 55 w fun x2_1 w2 =>
  ∃ J3 : Value → Value → World → Prop, (∀ (x4_6 : Value) (x5_7 : Value) (junk4 : Env) (w5 : World), J3 x4_6 x5_7 w5 →
  bl0 P .len #[9] 3 [x5_7] w5 fun x23_8 =>
  bin P .eql 3 false true x23_8 (.int .i64 0) w5 fun x24_9 =>
  ∃ J10 : Value → World → Prop, (∀ (x29_11 : Value) (junk13 : Env) (w12 : World), J10 x29_11 w12 →
  ∃ J14 : Value → World → Prop, (∀ (x33_15 : Value) (junk17 : Env) (w16 : World), J14 x33_15 w16 →
  ∃ J18 : Value → World → Prop, (∀ (x35_19 : Value) (junk21 : Env) (w20 : World), J18 x35_19 w20 →
  ∃ J22 : Value → World → Prop, (∀ (x36_23 : Value) (junk25 : Env) (w24 : World), J22 x36_23 w24 →
  ∃ J26 : Value → World → Prop, (∀ (x37_27 : Value) (junk29 : Env) (w28 : World), J26 x37_27 w28 →
  pick x24_9 (.bool true) x37_27 fun x38_30 =>
  cnd x38_30
  (bld P 55 [] w28 fun x39_31 =>
  sto P 55 x2_1 x39_31 w28 fun w33 =>
  ldc P 55 x2_1 w33 fun r34 =>
  K (.tuple #[r34, (.bool false)]) w33)
  (∃ I35 : Nat → Value → World → Prop, (∃ m111, I35 m111 (.int .i64 0) w28) ∧ ∀ (m38 : Nat) (x6_39 : Value) (junk36 : Env) (w37 : World), I35 m38 x6_39 w37 →
  bl0 P .len #[9] 3 [x5_7] w37 fun x42_40 =>
  bin P .lss 3 false false x6_39 x42_40 w37 fun x43_41 =>
  cnd x43_41
  (idx P 9 x5_7 x6_39 w37 fun x48_42 =>
  bin P .lss 5 false true x48_42 (.int .u8 48) w37 fun x49_43 =>
  ∃ J44 : Value → World → Prop, (∀ (x54_45 : Value) (junk47 : Env) (w46 : World), J44 x54_45 w46 →
  pick x49_43 (.bool true) x54_45 fun x55_48 =>
  cnd x55_48
  (bld P 55 [] w46 fun x56_49 =>
  sto P 55 x2_1 x56_49 w46 fun w51 =>
  ldc P 55 x2_1 w51 fun r52 =>
  K (.tuple #[r52, (.bool false)]) w51)
  (bin P .add 3 false true x6_39 (.int .i64 1) w46 fun x45_53 =>
  ∃ m54, m54 < m38 ∧ I35 m54 x45_53 w46)) ∧
  grd x49_43 false
  (idx P 9 x5_7 x6_39 w37 fun x53_55 =>
  bin P .gtr 5 false true x53_55 (.int .u8 57) w37 fun x54_56 =>
  J44 x54_56 w37)
  (J44 undef w37))
  (bsl P 53 0 [] w37 fun x57_57 w58 =>
  ∃ I59 : Nat → Value → Value → World → Prop, (∃ m110, I59 m110 x57_57 (.int .i64 0) w58) ∧ ∀ (m62 : Nat) (x7_63 : Value) (x8_64 : Value) (junk60 : Env) (w61 : World), I59 m62 x7_63 x8_64 w61 →
  bl0 P .len #[9] 3 [x5_7] w61 fun x60_65 =>
  bin P .lss 3 false false x8_64 x60_65 w61 fun x61_66 =>
  ∃ J67 : Value → World → Prop, (∀ (x64_68 : Value) (junk70 : Env) (w69 : World), J67 x64_68 w69 →
  pick x61_66 x64_68 (.bool false) fun x65_71 =>
  cnd x65_71
  (idx P 9 x5_7 x8_64 w69 fun x70_72 =>
  bin P .sub 5 false true x70_72 (.int .u8 48) w69 fun x71_73 =>
  cnv P 5 2 x71_73 w69 fun x72_74 =>
  ∃ I75 : Nat → Value → Value → World → Prop, (∃ m103, I75 m103 x72_74 (.int .i64 0) w69) ∧ ∀ (m78 : Nat) (x9_79 : Value) (x10_80 : Value) (junk76 : Env) (w77 : World), I75 m78 x9_79 x10_80 w77 →
  bl0 P .len #[53] 3 [x7_63] w77 fun x75_81 =>
  bin P .lss 3 false false x10_80 x75_81 w77 fun x76_82 =>
  cnd x76_82
  (ixa P 53 x7_63 x10_80 w77 fun x82_83 =>
  ld P 2 x82_83 w77 fun x83_84 =>
  bin P .mul 2 true false (.int .i64 10) x83_84 w77 fun x84_85 =>
  bin P .add 2 false false x9_79 x84_85 w77 fun x85_86 =>
  bin P .rem 2 false true x85_86 (.int .i64 16777216) w77 fun x89_87 =>
  ixa P 53 x7_63 x10_80 w77 fun x90_88 =>
  sto P 2 x90_88 x89_87 w77 fun w90 =>
  bin P .quo 2 false true x85_86 (.int .i64 16777216) w90 fun x92_91 =>
  bin P .add 3 false true x10_80 (.int .i64 1) w90 fun x78_92 =>
  ∃ m93, m93 < m78 ∧ I75 m93 x92_91 x78_92 w90)
  (bin P .gtr 2 false true x9_79 (.int .i64 0) w77 fun x94_94 =>
  cnd x94_94
  (bsl P 53 1 [(0, x9_79)] w77 fun x97_95 w96 =>
  bl2 P .append #[53, 53] 53 [x7_63, x97_95] w96 fun x98_97 w98 =>
  bin P .add 3 false true x8_64 (.int .i64 1) w98 fun x67_99 =>
  ∃ m100, m100 < m62 ∧ I59 m100 x98_97 x67_99 w98)
  (bin P .add 3 false true x8_64 (.int .i64 1) w77 fun x67_101 =>
  ∃ m102, m102 < m62 ∧ I59 m102 x7_63 x67_101 w77)))
  (call P f_spec_l02Make [x4_6, x7_63] w69 fun x101_104 w105 =>
  sto P 55 x2_1 x101_104 w105 fun w107 =>
  ldc P 55 x2_1 w107 fun r108 =>
  K (.tuple #[r108, (.bool true)]) w107)) ∧
  grd x61_66 true
  (bin P .lss 3 false true x8_64 (.int .i64 1000) w61 fun x64_109 =>
  J67 x64_109 w61)
  (J67 undef w61)))) ∧
  grd x24_9 false
  (pick x29_11 x36_23 (.bool false) fun x37_112 =>
  J26 x37_112 w24)
  (J26 undef w24)) ∧
  grd x29_11 true
  (pick x33_15 (.bool true) x35_19 fun x36_113 =>
  J22 x36_113 w20)
  (J22 undef w20)) ∧
  grd x33_15 false
  (bin P .lss 2 false true x4_6 (.int .i64 0) w16 fun x35_114 =>
  J18 x35_114 w16)
  (J18 undef w16)) ∧
  grd x29_11 true
  (bl0 P .len #[9] 3 [x5_7] w12 fun x31_115 =>
  bin P .gtr 3 false true x31_115 (.int .i64 1) w12 fun x32_116 =>
  J14 x32_116 w12)
  (J14 undef w12)) ∧
  grd x24_9 false
  (idx P 9 x5_7 (.int .i64 0) w5 fun x27_117 =>
  bin P .eql 5 false true x27_117 (.int .u8 48) w5 fun x28_118 =>
  J10 x28_118 w5)
  (J10 undef w5)) ∧
  (bl0 P .len #[9] 3 [a0] w2 fun x13_119 =>
  bin P .gtr 3 false true x13_119 (.int .i64 0) w2 fun x14_120 =>
  ∃ J121 : Value → World → Prop, (∀ (x18_122 : Value) (junk124 : Env) (w123 : World), J121 x18_122 w123 →
  pick x14_120 x18_122 (.bool false) fun x19_125 =>
  cnd x19_125
  (sli P 9 a0 (some (.int .i64 1)) none none w123 fun x21_126 =>
  J3 (.int .i64 (-1)) x21_126 w123)
  (J3 (.int .i64 1) a0 w123)) ∧
  grd x14_120 true
  (idx P 9 a0 (.int .i64 0) w2 fun x17_127 =>
  bin P .eql 5 false true x17_127 (.int .u8 45) w2 fun x18_128 =>
  J121 x18_128 w2)
  (J121 undef w2))
def P_spec_l02Read : Plan := (.seq (.reg [.op (0, 2, false), .op (1, 0, false)]) (.seq (.reg [.op (0, 0, false), .op (1, 0, false), .op (2, 0, false)]) (.cut [4, 5] 4190256 (.seq (.reg [.op (0, 0, false), .op (1, 0, false), .op (2, 0, false), .op (3, 0, false), .grp 3 true [(4, 0, false), (5, 0, false), (6, 0, false)] [18] 458752, .op (7, 0, false)]) (.cond (.seq (.reg [.op (0, 0, false)]) (.reg [.op (0, 0, false), .op (1, 0, false), .op (2, 0, false)])) .leaf)) (.seq (.seq (.reg [.op (0, 0, false), .op (1, 0, false), .op (2, 0, false), .op (3, 0, false), .grp 3 false [(4, 0, false), (5, 0, false), (6, 0, false), (7, 0, false)] [29] 1006632960, .grp 7 true [(8, 0, false), (9, 0, false), (10, 0, false), (11, 0, false)] [33] 16106127360, .grp 11 false [(12, 0, false), (13, 0, false)] [35] 51539607552, .grp 7 true [(14, 0, false)] [36] 68719476736, .grp 3 false [(15, 0, false)] [37] 137438953472, .op (16, 0, false)]) (.cond (.seq (.reg [.op (0, 0, false), .op (1, 2, false), .op (2, 0, false)]) .leaf) .leaf)) (.seq (.seq (.reg [.op (0, 0, false)]) (.blk (.loop [6] 144114088564228168 (.seq (.seq (.reg [.op (0, 0, false), .op (1, 0, false), .op (2, 0, false), .op (3, 0, false)]) (.cond .leaf .leaf)) (.seq (.blk (.seq (.reg [.op (0, 0, false), .op (1, 0, false), .op (2, 0, false), .op (3, 0, false), .op (4, 0, false), .grp 4 false [(5, 0, false), (6, 0, false), (7, 0, false), (8, 0, false)] [54] 33776997205278720, .op (9, 0, false)]) (.cond (.seq (.reg [.op (0, 0, false), .op (1, 2, false), .op (2, 0, false)]) .leaf) .leaf))) (.reg [.op (0, 0, false), .op (1, 0, false), .op (2, 0, false)])))))) (.seq (.reg [.op (0, 2, false), .op (1, 0, false)]) (.seq (.seq (.reg [.op (0, 0, false)]) (.blk (.loop [7, 8] 633825300113826470372199892864 (.seq (.seq (.reg [.op (0, 0, false), .op (1, 0, false), .op (2, 0, false), .op (3, 0, false), .op (4, 0, false), .grp 4 true [(5, 0, false), (6, 0, false)] [64] 27670116110564327424, .op (7, 0, false)]) (.cond .leaf .leaf)) (.seq (.blk (.seq (.reg [.op (0, 0, false), .op (1, 0, false), .op (2, 0, false), .op (3, 0, false), .op (4, 0, false), .op (5, 0, false)]) (.seq (.seq (.reg [.op (0, 0, false)]) (.blk (.loop [9, 10] 9903510869550076459902567936 (.seq (.seq (.reg [.op (0, 0, false), .op (1, 0, false), .op (2, 0, false), .op (3, 0, false)]) (.cond .leaf .leaf)) (.seq (.blk (.seq (.reg [.op (0, 0, false), .op (1, 0, false), .op (2, 0, false), .op (3, 0, false), .op (4, 0, false), .op (5, 0, false), .op (6, 0, false), .op (7, 0, false)]) (.seq (.reg [.op (0, 0, false), .op (1, 0, false), .op (2, 0, false), .op (3, 0, false), .op (4, 0, false), .op (5, 2, false)]) (.reg [.op (0, 0, false), .op (1, 0, false), .op (2, 0, false)])))) (.reg [.op (0, 0, false), .op (1, 0, false), .op (2, 0, false)])))))) (.seq (.reg [.op (0, 0, false), .op (1, 0, false)]) (.cond (.reg [.op (0, 0, false), .op (1, 0, false), .op (2, 2, false), .op (3, 2, false), .op (4, 0, false)]) .leaf))))) (.reg [.op (0, 0, false), .op (1, 0, false), .op (2, 0, false)])))))) (.seq (.reg [.op (0, 0, false), .op (1, 0, false), .op (2, 2, false), .op (3, 2, false), .op (4, 0, false)]) .leaf))))))))
theorem I_spec_l02Read {a0 : Value} {w : World} {K : Value → World → Prop} (h : D_spec_l02Read a0 w K) : call P f_spec_l02Read [a0] w K :=
  call_of_vc mixed Tryz.func235 (c := codeOf Tryz.f235) (by kernel_rfl) (by kernel_rfl) (p := P_spec_l02Read) (by kernel_rfl) (by rw [Tryz.ntmps235]; simp) (by
    have e : D_spec_l02Read a0 w K = vc P P_spec_l02Read (codeOf Tryz.f235) (env0 [a0]) w (retX P Tryz.f235.results.toList K) := by kernel_rfl
    exact e ▸ h)

/-- spec.l02Length -/
def D_spec_l02Length (a0 : Value) (w : World) (K : Value → World → Prop) : Prop :=
  bx P 55 a0 w fun x1_1 w2 =>
  fda P 55 x1_1 1 w2 fun x6_3 =>
  ld P 53 x6_3 w2 fun x7_4 =>
  bl0 P .len #[53] 3 [x7_4] w2 fun x8_5 =>
  bin P .eql 2 false true x8_5 (.int .i64 0) w2 fun x10_6 =>
  cnd x10_6
  (K (.int .i64 0) w2)
  (bin P .sub 2 false true x8_5 (.int .i64 1) w2 fun x12_7 =>
  bin P .mul 2 false true x12_7 (.int .i64 24) w2 fun x13_8 =>
  fda P 55 x1_1 1 w2 fun x14_9 =>
  ld P 53 x14_9 w2 fun x15_10 =>
  bin P .sub 2 false true x8_5 (.int .i64 1) w2 fun x17_11 =>
  ixa P 53 x15_10 x17_11 w2 fun x18_12 =>
  ld P 2 x18_12 w2 fun x19_13 =>
  ∃ I14 : Nat → Value → Value → World → Prop, (∃ m24, I14 m24 x13_8 x19_13 w2) ∧ ∀ (m17 : Nat) (x4_18 : Value) (x5_19 : Value) (junk15 : Env) (w16 : World), I14 m17 x4_18 x5_19 w16 →
  bin P .gtr 2 false true x5_19 (.int .i64 0) w16 fun x21_20 =>
  cnd x21_20
  (bin P .add 2 false true x4_18 (.int .i64 1) w16 fun x25_21 =>
  bin P .quo 2 false true x5_19 (.int .i64 2) w16 fun x23_22 =>
  ∃ m23, m23 < m17 ∧ I14 m23 x25_21 x23_22 w16)
  (K x4_18 w16))
def P_spec_l02Length : Plan := (.seq (.reg [.op (0, 2, false), .op (1, 0, false)]) (.seq (.reg [.op (0, 0, false), .op (1, 0, false), .op (2, 0, false), .op (3, 0, false)]) (.seq (.seq (.reg [.op (0, 0, false), .op (1, 0, false)]) (.cond (.seq (.reg [.op (0, 0, false)]) .leaf) .leaf)) (.seq (.reg [.op (0, 0, false), .op (1, 0, false), .op (2, 0, false), .op (3, 0, false)]) (.seq (.seq (.reg [.op (0, 0, false), .op (1, 0, false), .op (2, 0, false), .op (3, 0, false), .op (4, 0, false), .op (5, 0, false), .op (6, 0, false)]) (.blk (.loop [4, 5] 66060336 (.seq (.seq (.reg [.op (0, 0, false), .op (1, 0, false)]) (.cond .leaf .leaf)) (.seq (.blk (.reg [.op (0, 0, false), .op (1, 0, false), .op (2, 0, false)])) (.reg [.op (0, 0, false), .op (1, 0, false), .op (2, 0, false)])))))) (.seq (.reg [.op (0, 0, false), .op (1, 0, false)]) .leaf))))))
theorem I_spec_l02Length {a0 : Value} {w : World} {K : Value → World → Prop} (h : D_spec_l02Length a0 w K) : call P f_spec_l02Length [a0] w K :=
  call_of_vc mixed Tryz.func237 (c := codeOf Tryz.f237) (by kernel_rfl) (by kernel_rfl) (p := P_spec_l02Length) (by kernel_rfl) (by rw [Tryz.ntmps237]; simp) (by
    have e : D_spec_l02Length a0 w K = vc P P_spec_l02Length (codeOf Tryz.f237) (env0 [a0]) w (retX P Tryz.f237.results.toList K) := by kernel_rfl
    exact e ▸ h)

/-- spec.l02Plus -/
def D_spec_l02Plus (a0 a1 : Value) (w : World) (K : Value → World → Prop) : Prop :=
  bsl P 53 0 [] w fun x8_1 w2 =>
  ∃ I3 : Nat → Value → Value → Value → World → Prop, (∃ m51, I3 m51 x8_1 (.int .i64 0) (.int .i64 0) w2) ∧ ∀ (m6 : Nat) (x5_7 : Value) (x6_8 : Value) (x7_9 : Value) (junk4 : Env) (w5 : World), I3 m6 x5_7 x6_8 x7_9 w5 →
  bl0 P .len #[53] 3 [a0] w5 fun x11_10 =>
  bin P .lss 3 false false x7_9 x11_10 w5 fun x12_11 =>
  ∃ J12 : Value → World → Prop, (∀ (x17_13 : Value) (junk15 : Env) (w14 : World), J12 x17_13 w14 →
  pick x12_11 (.bool true) x17_13 fun x18_16 =>
  ∃ J17 : Value → World → Prop, (∀ (x21_18 : Value) (junk20 : Env) (w19 : World), J17 x21_18 w19 →
  pick x18_16 (.bool true) x21_18 fun x22_21 =>
  cnd x22_21
  (∃ J22 : Value → World → Prop, (∀ (x6_25 : Value) (junk23 : Env) (w24 : World), J22 x6_25 w24 →
  ∃ J26 : Value → World → Prop, (∀ (x6_29 : Value) (junk27 : Env) (w28 : World), J26 x6_29 w28 →
  bin P .rem 2 false true x6_29 (.int .i64 16777216) w28 fun x47_30 =>
  bsl P 53 1 [(0, x47_30)] w28 fun x48_31 w32 =>
  bl2 P .append #[53, 53] 53 [x5_7, x48_31] w32 fun x49_33 w34 =>
  bin P .quo 2 false true x6_29 (.int .i64 16777216) w34 fun x51_35 =>
  bin P .add 3 false true x7_9 (.int .i64 1) w34 fun x24_36 =>
  ∃ m37, m37 < m6 ∧ I3 m37 x49_33 x51_35 x24_36 w34) ∧
  (bl0 P .len #[53] 3 [a1] w24 fun x37_38 =>
  bin P .lss 3 false false x7_9 x37_38 w24 fun x38_39 =>
  cnd x38_39
  (ixa P 53 a1 x7_9 w24 fun x42_40 =>
  ld P 2 x42_40 w24 fun x43_41 =>
  bin P .add 2 false false x6_25 x43_41 w24 fun x44_42 =>
  J26 x44_42 w24)
  (J26 x6_25 w24))) ∧
  (bl0 P .len #[53] 3 [a0] w19 fun x27_43 =>
  bin P .lss 3 false false x7_9 x27_43 w19 fun x28_44 =>
  cnd x28_44
  (ixa P 53 a0 x7_9 w19 fun x32_45 =>
  ld P 2 x32_45 w19 fun x33_46 =>
  bin P .add 2 false false x6_8 x33_46 w19 fun x34_47 =>
  J22 x34_47 w19)
  (J22 x6_8 w19)))
  (K x5_7 w19)) ∧
  grd x18_16 false
  (bin P .gtr 2 false true x6_8 (.int .i64 0) w14 fun x21_48 =>
  J17 x21_48 w14)
  (J17 undef w14)) ∧
  grd x12_11 false
  (bl0 P .len #[53] 3 [a1] w5 fun x16_49 =>
  bin P .lss 3 false false x7_9 x16_49 w5 fun x17_50 =>
  J12 x17_50 w5)
  (J12 undef w5)
def P_spec_l02Plus : Plan := (.seq (.reg [.op (0, 0, false)]) (.seq (.reg [.op (0, 2, false), .op (1, 0, false), .op (2, 0, false)]) (.seq (.seq (.reg [.op (0, 0, false)]) (.blk (.loop [5, 6, 7] 4503599627370208 (.seq (.seq (.reg [.op (0, 0, false), .op (1, 0, false), .op (2, 0, false), .op (3, 0, false), .op (4, 0, false), .grp 4 false [(5, 0, false), (6, 0, false), (7, 0, false), (8, 0, false)] [17] 245760, .op (9, 0, false), .op (10, 0, false), .grp 10 false [(11, 0, false), (12, 0, false)] [21] 3145728, .op (13, 0, false)]) (.cond .leaf .leaf)) (.seq (.blk (.cut [6] 34326184000 (.seq (.reg [.op (0, 0, false), .op (1, 0, false), .op (2, 0, false), .op (3, 0, false)]) (.cond (.reg [.op (0, 0, false), .op (1, 0, false), .op (2, 0, false), .op (3, 0, false), .op (4, 0, false), .op (5, 0, false), .op (6, 0, false)]) .leaf)) (.cut [6] 35150012350528 (.seq (.reg [.op (0, 0, false), .op (1, 0, false), .op (2, 0, false), .op (3, 0, false)]) (.cond (.reg [.op (0, 0, false), .op (1, 0, false), .op (2, 0, false), .op (3, 0, false), .op (4, 0, false), .op (5, 0, false), .op (6, 0, false)]) .leaf)) (.seq (.reg [.op (0, 0, false), .op (1, 0, false), .op (2, 0, false), .op (3, 2, false), .op (4, 2, false), .op (5, 0, false)]) (.reg [.op (0, 0, false), .op (1, 0, false), .op (2, 0, false)]))))) (.reg [.op (0, 0, false), .op (1, 0, false), .op (2, 0, false)])))))) (.seq (.reg [.op (0, 0, false), .op (1, 0, false)]) .leaf))))
theorem I_spec_l02Plus {a0 a1 : Value} {w : World} {K : Value → World → Prop} (h : D_spec_l02Plus a0 a1 w K) : call P f_spec_l02Plus [a0, a1] w K :=
  call_of_vc mixed Tryz.func252 (c := codeOf Tryz.f252) (by kernel_rfl) (by kernel_rfl) (p := P_spec_l02Plus) (by kernel_rfl) (by rw [Tryz.ntmps252]; simp) (by
    have e : D_spec_l02Plus a0 a1 w K = vc P P_spec_l02Plus (codeOf Tryz.f252) (env0 [a0, a1]) w (retX P Tryz.f252.results.toList K) := by kernel_rfl
    exact e ▸ h)

/-- spec.l02CompareLimbs -/
def D_spec_l02CompareLimbs (a0 a1 : Value) (w : World) (K : Value → World → Prop) : Prop :=
  bl0 P .len #[53] 3 [a0] w fun x7_1 =>
  bl0 P .len #[53] 3 [a1] w fun x9_2 =>
  bin P .neq 3 false false x7_1 x9_2 w fun x10_3 =>
  cnd x10_3
  (bl0 P .len #[53] 3 [a0] w fun x12_4 =>
  bl0 P .len #[53] 3 [a1] w fun x14_5 =>
  bin P .lss 3 false false x12_4 x14_5 w fun x15_6 =>
  cnd x15_6
  (K (.int .i64 (-1)) w)
  (K (.int .i64 1) w))
  (bl0 P .len #[53] 3 [a0] w fun x17_7 =>
  bin P .sub 3 false true x17_7 (.int .i64 1) w fun x18_8 =>
  ∃ I9 : Nat → Value → World → Prop, (∃ m27, I9 m27 x18_8 w) ∧ ∀ (m12 : Nat) (x5_13 : Value) (junk10 : Env) (w11 : World), I9 m12 x5_13 w11 →
  bin P .geq 3 false true x5_13 (.int .i64 0) w11 fun x20_14 =>
  cnd x20_14
  (ixa P 53 a0 x5_13 w11 fun x25_15 =>
  ld P 2 x25_15 w11 fun x26_16 =>
  ixa P 53 a1 x5_13 w11 fun x29_17 =>
  ld P 2 x29_17 w11 fun x30_18 =>
  bin P .neq 2 false false x26_16 x30_18 w11 fun x31_19 =>
  cnd x31_19
  (ixa P 53 a0 x5_13 w11 fun x34_20 =>
  ld P 2 x34_20 w11 fun x35_21 =>
  ixa P 53 a1 x5_13 w11 fun x38_22 =>
  ld P 2 x38_22 w11 fun x39_23 =>
  bin P .lss 2 false false x35_21 x39_23 w11 fun x40_24 =>
  cnd x40_24
  (K (.int .i64 (-1)) w11)
  (K (.int .i64 1) w11))
  (bin P .sub 3 false true x5_13 (.int .i64 1) w11 fun x22_25 =>
  ∃ m26, m26 < m12 ∧ I9 m26 x22_25 w11))
  (K (.int .i64 0) w11))
def P_spec_l02CompareLimbs : Plan := (.seq (.reg [.op (0, 0, false)]) (.seq (.seq (.reg [.op (0, 0, false), .op (1, 0, false), .op (2, 0, false), .op (3, 0, false), .op (4, 0, false)]) (.cond (.seq (.seq (.reg [.op (0, 0, false), .op (1, 0, false), .op (2, 0, false), .op (3, 0, false), .op (4, 0, false)]) (.cond (.seq (.reg [.op (0, 0, false)]) .leaf) .leaf)) (.seq (.reg [.op (0, 0, false)]) .leaf)) .leaf)) (.seq (.seq (.reg [.op (0, 0, false), .op (1, 0, false), .op (2, 0, false), .op (3, 0, false)]) (.blk (.loop [5] 2199022731312 (.seq (.seq (.reg [.op (0, 0, false), .op (1, 0, false)]) (.cond .leaf .leaf)) (.seq (.blk (.seq (.reg [.op (0, 0, false), .op (1, 0, false), .op (2, 0, false), .op (3, 0, false), .op (4, 0, false), .op (5, 0, false), .op (6, 0, false), .op (7, 0, false), .op (8, 0, false)]) (.cond (.seq (.seq (.reg [.op (0, 0, false), .op (1, 0, false), .op (2, 0, false), .op (3, 0, false), .op (4, 0, false), .op (5, 0, false), .op (6, 0, false), .op (7, 0, false), .op (8, 0, false)]) (.cond (.seq (.reg [.op (0, 0, false)]) .leaf) .leaf)) (.seq (.reg [.op (0, 0, false)]) .leaf)) .leaf))) (.reg [.op (0, 0, false), .op (1, 0, false), .op (2, 0, false)])))))) (.seq (.reg [.op (0, 0, false)]) .leaf))))
theorem I_spec_l02CompareLimbs {a0 a1 : Value} {w : World} {K : Value → World → Prop} (h : D_spec_l02CompareLimbs a0 a1 w K) : call P f_spec_l02CompareLimbs [a0, a1] w K :=
  call_of_vc mixed Tryz.func253 (c := codeOf Tryz.f253) (by kernel_rfl) (by kernel_rfl) (p := P_spec_l02CompareLimbs) (by kernel_rfl) (by rw [Tryz.ntmps253]; simp) (by
    have e : D_spec_l02CompareLimbs a0 a1 w K = vc P P_spec_l02CompareLimbs (codeOf Tryz.f253) (env0 [a0, a1]) w (retX P Tryz.f253.results.toList K) := by kernel_rfl
    exact e ▸ h)

/-- spec.l02Minus -/
def D_spec_l02Minus (a0 a1 : Value) (w : World) (K : Value → World → Prop) : Prop :=
  bsl P 53 0 [] w fun x9_1 w2 =>
  ∃ I3 : Nat → Value → Value → Value → World → Prop, (∃ m38, I3 m38 x9_1 (.int .i64 0) (.int .i64 0) w2) ∧ ∀ (m6 : Nat) (x5_7 : Value) (x6_8 : Value) (x7_9 : Value) (junk4 : Env) (w5 : World), I3 m6 x5_7 x6_8 x7_9 w5 →
  bl0 P .len #[53] 3 [a0] w5 fun x12_10 =>
  bin P .lss 3 false false x7_9 x12_10 w5 fun x13_11 =>
  cnd x13_11
  (ixa P 53 a0 x7_9 w5 fun x18_12 =>
  ld P 2 x18_12 w5 fun x19_13 =>
  bin P .sub 2 false false x19_13 x6_8 w5 fun x21_14 =>
  ∃ J15 : Value → World → Prop, (∀ (x8_18 : Value) (junk16 : Env) (w17 : World), J15 x8_18 w17 →
  bin P .lss 2 false true x8_18 (.int .i64 0) w17 fun x33_19 =>
  cnd x33_19
  (bin P .add 2 false true x8_18 (.int .i64 16777216) w17 fun x35_20 =>
  bsl P 53 1 [(0, x35_20)] w17 fun x38_21 w22 =>
  bl2 P .append #[53, 53] 53 [x5_7, x38_21] w22 fun x39_23 w24 =>
  bin P .add 3 false true x7_9 (.int .i64 1) w24 fun x15_25 =>
  ∃ m26, m26 < m6 ∧ I3 m26 x39_23 (.int .i64 1) x15_25 w24)
  (bsl P 53 1 [(0, x8_18)] w17 fun x38_27 w28 =>
  bl2 P .append #[53, 53] 53 [x5_7, x38_27] w28 fun x39_29 w30 =>
  bin P .add 3 false true x7_9 (.int .i64 1) w30 fun x15_31 =>
  ∃ m32, m32 < m6 ∧ I3 m32 x39_29 (.int .i64 0) x15_31 w30)) ∧
  (bl0 P .len #[53] 3 [a1] w5 fun x24_33 =>
  bin P .lss 3 false false x7_9 x24_33 w5 fun x25_34 =>
  cnd x25_34
  (ixa P 53 a1 x7_9 w5 fun x29_35 =>
  ld P 2 x29_35 w5 fun x30_36 =>
  bin P .sub 2 false false x21_14 x30_36 w5 fun x31_37 =>
  J15 x31_37 w5)
  (J15 x21_14 w5)))
  (K x5_7 w5)
def P_spec_l02Minus : Plan := (.seq (.reg [.op (0, 0, false)]) (.seq (.reg [.op (0, 2, false), .op (1, 0, false), .op (2, 0, false)]) (.seq (.seq (.reg [.op (0, 0, false)]) (.blk (.loop [5, 6, 7] 1099511627232 (.seq (.seq (.reg [.op (0, 0, false), .op (1, 0, false), .op (2, 0, false), .op (3, 0, false)]) (.cond .leaf .leaf)) (.seq (.blk (.seq (.reg [.op (0, 0, false), .op (1, 0, false), .op (2, 0, false), .op (3, 0, false), .op (4, 0, false), .op (5, 0, false), .op (6, 0, false)]) (.cut [8] 4290773248 (.seq (.reg [.op (0, 0, false), .op (1, 0, false), .op (2, 0, false), .op (3, 0, false)]) (.cond (.reg [.op (0, 0, false), .op (1, 0, false), .op (2, 0, false), .op (3, 0, false), .op (4, 0, false), .op (5, 0, false), .op (6, 0, false)]) .leaf)) (.seq (.reg [.op (0, 0, false)]) (.seq (.seq (.reg [.op (0, 0, false), .op (1, 0, false)]) (.cond (.seq (.reg [.op (0, 0, false), .op (1, 0, false), .op (2, 0, false)]) (.reg [.op (0, 0, false)])) .leaf)) (.reg [.op (0, 0, false), .op (1, 0, false), .op (2, 2, false), .op (3, 2, false), .op (4, 0, false)])))))) (.reg [.op (0, 0, false), .op (1, 0, false), .op (2, 0, false)])))))) (.seq (.reg [.op (0, 0, false), .op (1, 0, false)]) .leaf))))
theorem I_spec_l02Minus {a0 a1 : Value} {w : World} {K : Value → World → Prop} (h : D_spec_l02Minus a0 a1 w K) : call P f_spec_l02Minus [a0, a1] w K :=
  call_of_vc mixed Tryz.func254 (c := codeOf Tryz.f254) (by kernel_rfl) (by kernel_rfl) (p := P_spec_l02Minus) (by kernel_rfl) (by rw [Tryz.ntmps254]; simp) (by
    have e : D_spec_l02Minus a0 a1 w K = vc P P_spec_l02Minus (codeOf Tryz.f254) (env0 [a0, a1]) w (retX P Tryz.f254.results.toList K) := by kernel_rfl
    exact e ▸ h)

end Go.Proofs.YtjompmflommadaaGreatDoor

/- Written by a program (gen.py): what is left to show of each function's call. -/
set_option linter.unusedVariables false
set_option maxRecDepth 20000
namespace Go.Proofs.YtjompmflommadaaGreatDoor
open Go Go.Vc

/-- spec.l03Of -/
def D_spec_l03Of (a0 : Value) (w : World) (K : Value → World → Prop) : Prop :=
  alc P 57 w fun x2_1 w2 =>
  call P f_spec_l01Parts [a0] w2 fun x7_3 w4 =>
  xtr P x7_3 0 w4 fun x8_5 =>
  xtr P x7_3 1 w4 fun x9_6 =>
  bin P .lss 66 false true a0 (.float .f32 0) w4 fun x11_7 =>
  cnd x11_7
  (una P .neg x8_5 w4 fun x13_8 =>
  call P f_spec_l02Of [x13_8] w4 fun x15_9 w10 =>
  call P f_spec_l03Make [x15_9, x9_6] w10 fun x17_11 w12 =>
  sto P 57 x2_1 x17_11 w12 fun w14 =>
  ldc P 57 x2_1 w14 fun r15 =>
  K r15 w14)
  (call P f_spec_l02Of [x8_5] w4 fun x15_16 w17 =>
  call P f_spec_l03Make [x15_16, x9_6] w17 fun x17_18 w19 =>
  sto P 57 x2_1 x17_18 w19 fun w21 =>
  ldc P 57 x2_1 w21 fun r22 =>
  K r22 w21)
def P_spec_l03Of : Plan := (.seq (.reg [.op (0, 2, false)]) (.seq (.reg [.op (0, 0, false), .op (1, 2, false), .op (2, 0, false), .op (3, 0, false), .op (4, 0, false), .op (5, 0, false), .op (6, 0, false)]) (.seq (.seq (.reg [.op (0, 0, false), .op (1, 0, false)]) (.cond (.reg [.op (0, 0, false), .op (1, 0, false), .op (2, 0, false)]) .leaf)) (.seq (.reg [.op (0, 0, false), .op (1, 2, false), .op (2, 0, false), .op (3, 2, false), .op (4, 2, false)]) .leaf))))
theorem I_spec_l03Of {a0 : Value} {w : World} {K : Value → World → Prop} (h : D_spec_l03Of a0 w K) : call P f_spec_l03Of [a0] w K :=
  call_of_vc mixed Tryz.func118 (c := codeOf Tryz.f118) (by kernel_rfl) (by kernel_rfl) (p := P_spec_l03Of) (by kernel_rfl) (by rw [Tryz.ntmps118]; simp) (by
    have e : D_spec_l03Of a0 w K = vc P P_spec_l03Of (codeOf Tryz.f118) (env0 [a0]) w (retX P Tryz.f118.results.toList K) := by kernel_rfl
    exact e ▸ h)

/-- spec.l03Is -/
def D_spec_l03Is (a0 : Value) (w : World) (K : Value → World → Prop) : Prop :=
  bx P 57 a0 w fun x1_1 w2 =>
  fda P 57 x1_1 0 w2 fun x3_3 =>
  ld P 55 x3_3 w2 fun x4_4 =>
  call P f_spec_l02Is [x4_4] w2 fun x5_5 w6 =>
  una P .not x5_5 w6 fun x6_7 =>
  ∃ J8 : Value → World → Prop, (∀ (x11_9 : Value) (junk11 : Env) (w10 : World), J8 x11_9 w10 →
  pick x6_7 (.bool true) x11_9 fun x12_12 =>
  cnd x12_12
  (K (.bool false) w10)
  (fda P 57 x1_1 0 w10 fun x13_13 =>
  fda P 55 x13_13 0 w10 fun x14_14 =>
  ld P 2 x14_14 w10 fun x15_15 =>
  bin P .eql 2 false true x15_15 (.int .i64 0) w10 fun x16_16 =>
  cnd x16_16
  (fda P 57 x1_1 1 w10 fun x17_17 =>
  ld P 2 x17_17 w10 fun x18_18 =>
  bin P .eql 2 false true x18_18 (.int .i64 0) w10 fun x19_19 =>
  K x19_19 w10)
  (fda P 57 x1_1 0 w10 fun x20_20 =>
  fda P 55 x20_20 1 w10 fun x21_21 =>
  ld P 53 x21_21 w10 fun x22_22 =>
  ixa P 53 x22_22 (.int .i64 0) w10 fun x23_23 =>
  ld P 2 x23_23 w10 fun x24_24 =>
  bin P .rem 2 false true x24_24 (.int .i64 2) w10 fun x25_25 =>
  bin P .eql 2 false true x25_25 (.int .i64 1) w10 fun x26_26 =>
  K x26_26 w10))) ∧
  grd x6_7 false
  (fda P 57 x1_1 1 w6 fun x8_27 =>
  ld P 2 x8_27 w6 fun x9_28 =>
  call P f_spec_l01In [x9_28, (.int .i64 (-3000)), (.int .i64 3000)] w6 fun x10_29 w30 =>
  una P .not x10_29 w30 fun x11_31 =>
  J8 x11_31 w30)
  (J8 undef w6)
def P_spec_l03Is : Plan := (.seq (.reg [.op (0, 2, false), .op (1, 0, false)]) (.seq (.seq (.reg [.op (0, 0, false), .op (1, 0, false), .op (2, 2, false), .op (3, 0, false), .op (4, 0, false), .grp 4 false [(5, 0, false), (6, 0, false), (7, 2, false), (8, 0, false)] [11] 3840, .op (9, 0, false)]) (.cond (.seq (.reg [.op (0, 0, false)]) .leaf) .leaf)) (.seq (.seq (.reg [.op (0, 0, false), .op (1, 0, false), .op (2, 0, false), .op (3, 0, false)]) (.cond (.seq (.reg [.op (0, 0, false), .op (1, 0, false), .op (2, 0, false), .op (3, 0, false)]) .leaf) .leaf)) (.seq (.reg [.op (0, 0, false), .op (1, 0, false), .op (2, 0, false), .op (3, 0, false), .op (4, 0, false), .op (5, 0, false), .op (6, 0, false), .op (7, 0, false)]) .leaf))))
theorem I_spec_l03Is {a0 : Value} {w : World} {K : Value → World → Prop} (h : D_spec_l03Is a0 w K) : call P f_spec_l03Is [a0] w K :=
  call_of_vc mixed Tryz.func120 (c := codeOf Tryz.f120) (by kernel_rfl) (by kernel_rfl) (p := P_spec_l03Is) (by kernel_rfl) (by rw [Tryz.ntmps120]; simp) (by
    have e : D_spec_l03Is a0 w K = vc P P_spec_l03Is (codeOf Tryz.f120) (env0 [a0]) w (retX P Tryz.f120.results.toList K) := by kernel_rfl
    exact e ▸ h)

/-- spec.l03Make -/
def D_spec_l03Make (a0 a1 : Value) (w : World) (K : Value → World → Prop) : Prop :=
  bx P 55 a0 w fun x2_1 w2 =>
  alc P 57 w2 fun x4_3 w4 =>
  fda P 55 x2_1 0 w4 fun x6_5 =>
  ld P 2 x6_5 w4 fun x7_6 =>
  bin P .eql 2 false true x7_6 (.int .i64 0) w4 fun x8_7 =>
  cnd x8_7
  (bld P 57 [] w4 fun x9_8 =>
  sto P 57 x4_3 x9_8 w4 fun w10 =>
  ldc P 57 x4_3 w10 fun r11 =>
  K r11 w10)
  (ld P 55 x2_1 w4 fun x10_12 =>
  call P f_spec_l02Twos [x10_12] w4 fun x11_13 w14 =>
  ld P 55 x2_1 w14 fun x12_15 =>
  call P f_spec_l02Cut [x12_15, x11_13] w14 fun x14_16 w17 =>
  bin P .add 2 false false a1 x11_13 w17 fun x17_18 =>
  bld P 57 [(0, x14_16), (1, x17_18)] w17 fun x18_19 =>
  sto P 57 x4_3 x18_19 w17 fun w21 =>
  ldc P 57 x4_3 w21 fun r22 =>
  K r22 w21)
def P_spec_l03Make : Plan := (.seq (.reg [.op (0, 2, false), .op (1, 2, false)]) (.seq (.seq (.reg [.op (0, 0, false), .op (1, 0, false), .op (2, 0, false)]) (.cond (.seq (.reg [.op (0, 0, false), .op (1, 2, false)]) .leaf) .leaf)) (.seq (.reg [.op (0, 0, false), .op (1, 2, false), .op (2, 0, false)]) (.seq (.reg [.op (0, 0, false), .op (1, 0, false), .op (2, 2, false), .op (3, 0, false), .op (4, 0, false), .op (5, 0, false), .op (6, 0, false), .op (7, 2, false)]) .leaf))))
theorem I_spec_l03Make {a0 a1 : Value} {w : World} {K : Value → World → Prop} (h : D_spec_l03Make a0 a1 w K) : call P f_spec_l03Make [a0, a1] w K :=
  call_of_vc mixed Tryz.func121 (c := codeOf Tryz.f121) (by kernel_rfl) (by kernel_rfl) (p := P_spec_l03Make) (by kernel_rfl) (by rw [Tryz.ntmps121]; simp) (by
    have e : D_spec_l03Make a0 a1 w K = vc P P_spec_l03Make (codeOf Tryz.f121) (env0 [a0, a1]) w (retX P Tryz.f121.results.toList K) := by kernel_rfl
    exact e ▸ h)

/-- spec.l03Compare -/
def D_spec_l03Compare (a0 a1 : Value) (w : World) (K : Value → World → Prop) : Prop :=
  bx P 57 a0 w fun x2_1 w2 =>
  bx P 57 a1 w2 fun x3_3 w4 =>
  ld P 57 x2_1 w4 fun x5_5 =>
  ld P 57 x3_3 w4 fun x6_6 =>
  call P f_spec_l03Sub [x5_5, x6_6] w4 fun x7_7 w8 =>
  fld P 57 x7_7 0 w8 fun x8_9 =>
  fld P 55 x8_9 0 w8 fun x9_10 =>
  K x9_10 w8
def P_spec_l03Compare : Plan := (.seq (.reg [.op (0, 2, false), .op (1, 2, false), .op (2, 0, false)]) (.seq (.reg [.op (0, 0, false), .op (1, 0, false), .op (2, 2, false), .op (3, 0, false), .op (4, 0, false), .op (5, 0, false)]) .leaf))
theorem I_spec_l03Compare {a0 a1 : Value} {w : World} {K : Value → World → Prop} (h : D_spec_l03Compare a0 a1 w K) : call P f_spec_l03Compare [a0, a1] w K :=
  call_of_vc mixed Tryz.func147 (c := codeOf Tryz.f147) (by kernel_rfl) (by kernel_rfl) (p := P_spec_l03Compare) (by kernel_rfl) (by rw [Tryz.ntmps147]; simp) (by
    have e : D_spec_l03Compare a0 a1 w K = vc P P_spec_l03Compare (codeOf Tryz.f147) (env0 [a0, a1]) w (retX P Tryz.f147.results.toList K) := by kernel_rfl
    exact e ▸ h)

/-- spec.l03Neg -/
def D_spec_l03Neg (a0 : Value) (w : World) (K : Value → World → Prop) : Prop :=
  bx P 57 a0 w fun x1_1 w2 =>
  alc P 57 w2 fun x2_3 w4 =>
  fda P 57 x1_1 0 w4 fun x3_5 =>
  ld P 55 x3_5 w4 fun x4_6 =>
  fda P 57 x1_1 1 w4 fun x6_7 =>
  ld P 2 x6_7 w4 fun x7_8 =>
  call P f_spec_l02Neg [x4_6] w4 fun x5_9 w10 =>
  Ext w4 w10 ∧ bld P 57 [(0, x5_9), (1, x7_8)] w10 fun x8_11 =>
  sto P 57 x2_3 x8_11 w10 fun w13 =>
  ldc P 57 x2_3 w13 fun r14 =>
  K r14 w13
def P_spec_l03Neg : Plan := (.seq (.reg [.op (0, 2, false), .op (1, 2, false)]) (.seq (.reg [.op (0, 0, false), .op (1, 0, false), .op (3, 0, false), .op (4, 0, false), .op (2, 2, true), .op (5, 0, false), .op (6, 2, false)]) .leaf))
theorem I_spec_l03Neg {a0 : Value} {w : World} {K : Value → World → Prop} (h : D_spec_l03Neg a0 w K) : call P f_spec_l03Neg [a0] w K :=
  call_of_vc mixed Tryz.func165 (c := codeOf Tryz.f165) (by kernel_rfl) (by kernel_rfl) (p := P_spec_l03Neg) (by kernel_rfl) (by rw [Tryz.ntmps165]; simp) (by
    have e : D_spec_l03Neg a0 w K = vc P P_spec_l03Neg (codeOf Tryz.f165) (env0 [a0]) w (retX P Tryz.f165.results.toList K) := by kernel_rfl
    exact e ▸ h)

/-- spec.l03Mul -/
def D_spec_l03Mul (a0 a1 : Value) (w : World) (K : Value → World → Prop) : Prop :=
  bx P 57 a0 w fun x2_1 w2 =>
  bx P 57 a1 w2 fun x3_3 w4 =>
  alc P 57 w4 fun x4_5 w6 =>
  fda P 57 x2_1 0 w6 fun x5_7 =>
  ld P 55 x5_7 w6 fun x6_8 =>
  fda P 57 x3_3 0 w6 fun x7_9 =>
  ld P 55 x7_9 w6 fun x8_10 =>
  fda P 57 x2_1 1 w6 fun x10_11 =>
  ld P 2 x10_11 w6 fun x11_12 =>
  fda P 57 x3_3 1 w6 fun x12_13 =>
  ld P 2 x12_13 w6 fun x13_14 =>
  bin P .add 2 false false x11_12 x13_14 w6 fun x14_15 =>
  call P f_spec_l02Mul [x6_8, x8_10] w6 fun x9_16 w17 =>
  Ext w6 w17 ∧ call P f_spec_l03Make [x9_16, x14_15] w17 fun x15_18 w19 =>
  sto P 57 x4_5 x15_18 w19 fun w21 =>
  ldc P 57 x4_5 w21 fun r22 =>
  K r22 w21
def P_spec_l03Mul : Plan := (.seq (.reg [.op (0, 2, false), .op (1, 2, false), .op (2, 2, false)]) (.seq (.reg [.op (0, 0, false), .op (1, 0, false), .op (2, 0, false), .op (3, 0, false), .op (5, 0, false), .op (6, 0, false), .op (7, 0, false), .op (8, 0, false), .op (9, 0, false), .op (4, 2, true), .op (10, 2, false), .op (11, 2, false)]) .leaf))
theorem I_spec_l03Mul {a0 a1 : Value} {w : World} {K : Value → World → Prop} (h : D_spec_l03Mul a0 a1 w K) : call P f_spec_l03Mul [a0, a1] w K :=
  call_of_vc mixed Tryz.func166 (c := codeOf Tryz.f166) (by kernel_rfl) (by kernel_rfl) (p := P_spec_l03Mul) (by kernel_rfl) (by rw [Tryz.ntmps166]; simp) (by
    have e : D_spec_l03Mul a0 a1 w K = vc P P_spec_l03Mul (codeOf Tryz.f166) (env0 [a0, a1]) w (retX P Tryz.f166.results.toList K) := by kernel_rfl
    exact e ▸ h)

/-- spec.l03Add -/
def D_spec_l03Add (a0 a1 : Value) (w : World) (K : Value → World → Prop) : Prop :=
  bx P 57 a0 w fun x2_1 w2 =>
  bx P 57 a1 w2 fun x3_3 w4 =>
  alc P 57 w4 fun x4_5 w6 =>
  fda P 57 x2_1 0 w6 fun x6_7 =>
  fda P 55 x6_7 0 w6 fun x7_8 =>
  ld P 2 x7_8 w6 fun x8_9 =>
  bin P .eql 2 false true x8_9 (.int .i64 0) w6 fun x9_10 =>
  cnd x9_10
  (fda P 57 x3_3 0 w6 fun x10_11 =>
  ld P 55 x10_11 w6 fun x11_12 =>
  fda P 57 x3_3 1 w6 fun x12_13 =>
  ld P 2 x12_13 w6 fun x13_14 =>
  call P f_spec_l03Make [x11_12, x13_14] w6 fun x14_15 w16 =>
  sto P 57 x4_5 x14_15 w16 fun w18 =>
  ldc P 57 x4_5 w18 fun r19 =>
  K r19 w18)
  (fda P 57 x3_3 0 w6 fun x15_20 =>
  fda P 55 x15_20 0 w6 fun x16_21 =>
  ld P 2 x16_21 w6 fun x17_22 =>
  bin P .eql 2 false true x17_22 (.int .i64 0) w6 fun x18_23 =>
  cnd x18_23
  (fda P 57 x2_1 0 w6 fun x19_24 =>
  ld P 55 x19_24 w6 fun x20_25 =>
  fda P 57 x2_1 1 w6 fun x21_26 =>
  ld P 2 x21_26 w6 fun x22_27 =>
  call P f_spec_l03Make [x20_25, x22_27] w6 fun x23_28 w29 =>
  sto P 57 x4_5 x23_28 w29 fun w31 =>
  ldc P 57 x4_5 w31 fun r32 =>
  K r32 w31)
  (fda P 57 x2_1 1 w6 fun x24_33 =>
  ld P 2 x24_33 w6 fun x25_34 =>
  fda P 57 x3_3 1 w6 fun x26_35 =>
  ld P 2 x26_35 w6 fun x27_36 =>
  bl0 P .min #[2, 2] 2 [x25_34, x27_36] w6 fun x28_37 =>
  fda P 57 x2_1 0 w6 fun x29_38 =>
  ld P 55 x29_38 w6 fun x30_39 =>
  fda P 57 x2_1 1 w6 fun x31_40 =>
  ld P 2 x31_40 w6 fun x32_41 =>
  bin P .sub 2 false false x32_41 x28_37 w6 fun x34_42 =>
  fda P 57 x3_3 0 w6 fun x36_43 =>
  ld P 55 x36_43 w6 fun x37_44 =>
  fda P 57 x3_3 1 w6 fun x38_45 =>
  ld P 2 x38_45 w6 fun x39_46 =>
  bin P .sub 2 false false x39_46 x28_37 w6 fun x41_47 =>
  call P f_spec_l02Left [x30_39, x34_42] w6 fun x35_48 w49 =>
  Ext w6 w49 ∧ call P f_spec_l02Left [x37_44, x41_47] w49 fun x42_50 w51 =>
  call P f_spec_l02Add [x35_48, x42_50] w51 fun x43_52 w53 =>
  call P f_spec_l03Make [x43_52, x28_37] w53 fun x45_54 w55 =>
  sto P 57 x4_5 x45_54 w55 fun w57 =>
  ldc P 57 x4_5 w57 fun r58 =>
  K r58 w57))
def P_spec_l03Add : Plan := (.seq (.reg [.op (0, 2, false), .op (1, 2, false), .op (2, 2, false)]) (.seq (.seq (.reg [.op (0, 0, false), .op (1, 0, false), .op (2, 0, false), .op (3, 0, false)]) (.cond (.seq (.reg [.op (0, 0, false), .op (1, 0, false), .op (2, 0, false), .op (3, 0, false), .op (4, 2, false), .op (5, 2, false)]) .leaf) .leaf)) (.seq (.seq (.reg [.op (0, 0, false), .op (1, 0, false), .op (2, 0, false), .op (3, 0, false)]) (.cond (.seq (.reg [.op (0, 0, false), .op (1, 0, false), .op (2, 0, false), .op (3, 0, false), .op (4, 2, false), .op (5, 2, false)]) .leaf) .leaf)) (.seq (.reg [.op (0, 0, false), .op (1, 0, false), .op (2, 0, false), .op (3, 0, false), .op (4, 0, false), .op (5, 0, false)]) (.seq (.reg [.op (0, 0, false), .op (1, 0, false), .op (2, 0, false), .op (3, 0, false), .op (4, 0, false), .op (5, 0, false), .op (7, 0, false), .op (8, 0, false), .op (9, 0, false), .op (10, 0, false), .op (11, 0, false), .op (12, 0, false), .op (15, 0, false), .op (6, 2, true), .op (13, 2, false), .op (14, 2, false), .op (16, 2, false), .op (17, 2, false)]) .leaf)))))
theorem I_spec_l03Add {a0 a1 : Value} {w : World} {K : Value → World → Prop} (h : D_spec_l03Add a0 a1 w K) : call P f_spec_l03Add [a0, a1] w K :=
  call_of_vc mixed Tryz.func168 (c := codeOf Tryz.f168) (by kernel_rfl) (by kernel_rfl) (p := P_spec_l03Add) (by kernel_rfl) (by rw [Tryz.ntmps168]; simp) (by
    have e : D_spec_l03Add a0 a1 w K = vc P P_spec_l03Add (codeOf Tryz.f168) (env0 [a0, a1]) w (retX P Tryz.f168.results.toList K) := by kernel_rfl
    exact e ▸ h)

/-- spec.l03Sub -/
def D_spec_l03Sub (a0 a1 : Value) (w : World) (K : Value → World → Prop) : Prop :=
  bx P 57 a0 w fun x2_1 w2 =>
  bx P 57 a1 w2 fun x3_3 w4 =>
  alc P 57 w4 fun x4_5 w6 =>
  ld P 57 x2_1 w6 fun x5_7 =>
  ld P 57 x3_3 w6 fun x6_8 =>
  call P f_spec_l03Neg [x6_8] w6 fun x7_9 w10 =>
  Ext w6 w10 ∧ call P f_spec_l03Add [x5_7, x7_9] w10 fun x8_11 w12 =>
  sto P 57 x4_5 x8_11 w12 fun w14 =>
  ldc P 57 x4_5 w14 fun r15 =>
  K r15 w14
def P_spec_l03Sub : Plan := (.seq (.reg [.op (0, 2, false), .op (1, 2, false), .op (2, 2, false)]) (.seq (.reg [.op (0, 0, false), .op (1, 0, false), .op (2, 2, true), .op (3, 2, false), .op (4, 2, false)]) .leaf))
theorem I_spec_l03Sub {a0 a1 : Value} {w : World} {K : Value → World → Prop} (h : D_spec_l03Sub a0 a1 w K) : call P f_spec_l03Sub [a0, a1] w K :=
  call_of_vc mixed Tryz.func169 (c := codeOf Tryz.f169) (by kernel_rfl) (by kernel_rfl) (p := P_spec_l03Sub) (by kernel_rfl) (by rw [Tryz.ntmps169]; simp) (by
    have e : D_spec_l03Sub a0 a1 w K = vc P P_spec_l03Sub (codeOf Tryz.f169) (env0 [a0, a1]) w (retX P Tryz.f169.results.toList K) := by kernel_rfl
    exact e ▸ h)

/-- spec.l03Read -/
def D_spec_l03Read (a0 : Value) (w : World) (K : Value → World → Prop) : Prop :=
  alc P 57 w fun x2_1 w2 =>
  ∃ I3 : Nat → Value → World → Prop, (∃ m107, I3 m107 (.int .i64 0) w2) ∧ ∀ (m6 : Nat) (x4_7 : Value) (junk4 : Env) (w5 : World), I3 m6 x4_7 w5 →
  bl0 P .len #[9] 3 [a0] w5 fun x12_8 =>
  bin P .lss 3 false false x4_7 x12_8 w5 fun x13_9 =>
  ∃ J10 : Value → World → Prop, (∀ (x18_11 : Value) (junk13 : Env) (w12 : World), J10 x18_11 w12 →
  pick x13_9 x18_11 (.bool false) fun x19_14 =>
  cnd x19_14
  (bin P .add 3 false true x4_7 (.int .i64 1) w12 fun x21_15 =>
  ∃ m16, m16 < m6 ∧ I3 m16 x21_15 w12)
  (bl0 P .len #[9] 3 [a0] w12 fun x24_17 =>
  bin P .eql 3 false false x4_7 x24_17 w12 fun x25_18 =>
  cnd x25_18
  (bld P 57 [] w12 fun x26_19 =>
  sto P 57 x2_1 x26_19 w12 fun w21 =>
  ldc P 57 x2_1 w21 fun r22 =>
  K (.tuple #[r22, (.bool false)]) w21)
  (sli P 9 a0 none (some x4_7) none w12 fun x30_23 =>
  call P f_spec_l02Read [x30_23] w12 fun x31_24 w25 =>
  xtr P x31_24 0 w25 fun x32_26 =>
  xtr P x31_24 1 w25 fun x33_27 =>
  alc P 55 w25 fun x5_28 w29 =>
  sto P 55 x5_28 x32_26 w29 fun w31 =>
  bin P .add 3 false true x4_7 (.int .i64 1) w31 fun x37_32 =>
  sli P 9 a0 (some x37_32) none none w31 fun x38_33 =>
  call P f_spec_l02Read [x38_33] w31 fun x39_34 w35 =>
  xtr P x39_34 0 w35 fun x40_36 =>
  xtr P x39_34 1 w35 fun x41_37 =>
  alc P 55 w35 fun x7_38 w39 =>
  sto P 55 x7_38 x40_36 w39 fun w41 =>
  una P .not x33_27 w41 fun x43_42 =>
  ∃ J43 : Value → World → Prop, (∀ (x46_44 : Value) (junk46 : Env) (w45 : World), J43 x46_44 w45 →
  pick x43_42 (.bool true) x46_44 fun x47_47 =>
  ∃ J48 : Value → World → Prop, (∀ (x51_49 : Value) (junk51 : Env) (w50 : World), J48 x51_49 w50 →
  pick x47_47 (.bool true) x51_49 fun x52_52 =>
  ∃ J53 : Value → World → Prop, (∀ (x57_54 : Value) (junk56 : Env) (w55 : World), J53 x57_54 w55 →
  pick x52_52 (.bool true) x57_54 fun x58_57 =>
  cnd x58_57
  (bld P 57 [] w55 fun x59_58 =>
  sto P 57 x2_1 x59_58 w55 fun w60 =>
  ldc P 57 x2_1 w60 fun r61 =>
  K (.tuple #[r61, (.bool false)]) w60)
  (ld P 55 x5_28 w55 fun x60_62 =>
  bld P 57 [(0, x60_62)] w55 fun x61_63 =>
  alc P 57 w55 fun x9_64 w65 =>
  sto P 57 x9_64 x61_63 w65 fun w67 =>
  fda P 55 x7_38 1 w67 fun x62_68 =>
  ld P 53 x62_68 w67 fun x63_69 =>
  bl0 P .len #[53] 3 [x63_69] w67 fun x64_70 =>
  bin P .eql 3 false true x64_70 (.int .i64 1) w67 fun x65_71 =>
  cnd x65_71
  (fda P 55 x7_38 0 w67 fun x66_72 =>
  ld P 2 x66_72 w67 fun x67_73 =>
  fda P 55 x7_38 1 w67 fun x68_74 =>
  ld P 53 x68_74 w67 fun x69_75 =>
  ixa P 53 x69_75 (.int .i64 0) w67 fun x70_76 =>
  ld P 2 x70_76 w67 fun x71_77 =>
  bin P .mul 2 false false x67_73 x71_77 w67 fun x72_78 =>
  fda P 57 x9_64 1 w67 fun x73_79 =>
  sto P 2 x73_79 x72_78 w67 fun w81 =>
  ld P 57 x9_64 w81 fun x74_82 =>
  ld P 57 x9_64 w81 fun x75_83 =>
  call P f_spec_l03Is [x75_83] w81 fun x76_84 w85 =>
  Ext w81 w85 ∧ sto P 57 x2_1 x74_82 w85 fun w87 =>
  ldc P 57 x2_1 w87 fun r88 =>
  K (.tuple #[r88, x76_84]) w87)
  (ld P 57 x9_64 w67 fun x74_89 =>
  ld P 57 x9_64 w67 fun x75_90 =>
  call P f_spec_l03Is [x75_90] w67 fun x76_91 w92 =>
  Ext w67 w92 ∧ sto P 57 x2_1 x74_89 w92 fun w94 =>
  ldc P 57 x2_1 w94 fun r95 =>
  K (.tuple #[r95, x76_91]) w94))) ∧
  grd x52_52 false
  (fda P 55 x7_38 1 w50 fun x54_96 =>
  ld P 53 x54_96 w50 fun x55_97 =>
  bl0 P .len #[53] 3 [x55_97] w50 fun x56_98 =>
  bin P .gtr 3 false true x56_98 (.int .i64 1) w50 fun x57_99 =>
  J53 x57_99 w50)
  (J53 undef w50)) ∧
  grd x47_47 false
  (ld P 55 x5_28 w45 fun x49_100 =>
  call P f_spec_l02Is [x49_100] w45 fun x50_101 w102 =>
  una P .not x50_101 w102 fun x51_103 =>
  J48 x51_103 w102)
  (J48 undef w45)) ∧
  grd x43_42 false
  (una P .not x41_37 w41 fun x46_104 =>
  J43 x46_104 w41)
  (J43 undef w41)))) ∧
  grd x13_9 true
  (idx P 9 a0 x4_7 w5 fun x17_105 =>
  bin P .neq 5 false true x17_105 (.int .u8 112) w5 fun x18_106 =>
  J10 x18_106 w5)
  (J10 undef w5)
def P_spec_l03Read : Plan := (.seq (.reg [.op (0, 2, false), .op (1, 0, false)]) (.seq (.reg [.op (0, 0, false)]) (.seq (.blk (.loop [4] 4193296 (.seq (.seq (.reg [.op (0, 0, false), .op (1, 0, false), .op (2, 0, false), .op (3, 0, false), .op (4, 0, false), .grp 4 true [(5, 0, false), (6, 0, false), (7, 0, false), (8, 0, false)] [18] 491520, .op (9, 0, false)]) (.cond .leaf .leaf)) (.blk (.reg [.op (0, 0, false), .op (1, 0, false), .op (2, 0, false)]))))) (.seq (.seq (.reg [.op (0, 0, false), .op (1, 0, false), .op (2, 0, false), .op (3, 0, false)]) (.cond (.seq (.reg [.op (0, 0, false), .op (1, 2, false), .op (2, 0, false)]) .leaf) .leaf)) (.seq (.reg [.op (0, 0, false), .op (1, 0, false), .op (2, 0, false), .op (3, 2, false), .op (4, 0, false), .op (5, 0, false), .op (6, 0, false), .op (7, 2, false), .op (8, 2, false), .op (9, 0, false)]) (.seq (.reg [.op (0, 0, false), .op (1, 0, false), .op (2, 0, false), .op (3, 0, false), .op (4, 2, false), .op (5, 0, false), .op (6, 0, false), .op (7, 0, false), .op (8, 2, false), .op (9, 2, false), .op (10, 0, false)]) (.seq (.seq (.reg [.op (0, 0, false), .op (1, 0, false), .op (2, 0, false), .grp 2 false [(3, 0, false), (4, 0, false)] [46] 105553116266496, .op (5, 0, false), .op (6, 0, false), .grp 6 false [(7, 0, false), (8, 2, false), (9, 0, false)] [51] 3940649673949184, .op (10, 0, false), .op (11, 0, false), .grp 11 false [(12, 0, false), (13, 0, false), (14, 0, false), (15, 0, false)] [57] 270215977642229760, .op (16, 0, false)]) (.cond (.seq (.reg [.op (0, 0, false), .op (1, 2, false), .op (2, 0, false)]) .leaf) .leaf)) (.seq (.reg [.op (0, 0, false), .op (1, 0, false), .op (2, 2, false), .op (3, 2, false)]) (.seq (.seq (.reg [.op (0, 0, false), .op (1, 0, false), .op (2, 0, false), .op (3, 0, false)]) (.cond (.reg [.op (0, 0, false), .op (1, 0, false), .op (2, 0, false), .op (3, 0, false), .op (4, 0, false), .op (5, 0, false), .op (6, 0, false), .op (7, 0, false), .op (8, 2, false)]) .leaf)) (.seq (.reg [.op (0, 0, false), .op (1, 0, false), .op (2, 2, true), .op (3, 2, false), .op (4, 0, false)]) .leaf))))))))))
theorem I_spec_l03Read {a0 : Value} {w : World} {K : Value → World → Prop} (h : D_spec_l03Read a0 w K) : call P f_spec_l03Read [a0] w K :=
  call_of_vc mixed Tryz.func191 (c := codeOf Tryz.f191) (by kernel_rfl) (by kernel_rfl) (p := P_spec_l03Read) (by kernel_rfl) (by rw [Tryz.ntmps191]; simp) (by
    have e : D_spec_l03Read a0 w K = vc P P_spec_l03Read (codeOf Tryz.f191) (env0 [a0]) w (retX P Tryz.f191.results.toList K) := by kernel_rfl
    exact e ▸ h)

/-- spec.l03Round -/
def D_spec_l03Round (a0 a1 : Value) (w : World) (K : Value → World → Prop) : Prop :=
  bx P 57 a0 w fun x2_1 w2 =>
  fda P 57 x2_1 0 w2 fun x13_3 =>
  fda P 55 x13_3 0 w2 fun x14_4 =>
  ld P 2 x14_4 w2 fun x15_5 =>
  bin P .eql 2 false true x15_5 (.int .i64 0) w2 fun x16_6 =>
  cnd x16_6
  (K (.tuple #[(.float .f32 0), (.int .i64 0)]) w2)
  (ld P 57 x2_1 w2 fun x18_7 =>
  call P f_spec_l03Multiple [x18_7, a1] w2 fun x20_8 w9 =>
  xtr P x20_8 0 w9 fun x21_10 =>
  xtr P x20_8 1 w9 fun x22_11 =>
  xtr P x20_8 2 w9 fun x23_12 =>
  alc P 55 w9 fun x6_13 w14 =>
  sto P 55 x6_13 x21_10 w14 fun w16 =>
  ld P 55 x6_13 w16 fun x24_17 =>
  call P f_spec_l02Length [x24_17] w16 fun x25_18 w19 =>
  bin P .add 2 false false x25_18 x22_11 w19 fun x27_20 =>
  bin P .gtr 2 false true x27_20 (.int .i64 128) w19 fun x28_21 =>
  cnd x28_21
  (fda P 57 x2_1 0 w19 fun x29_22 =>
  fda P 55 x29_22 0 w19 fun x30_23 =>
  ld P 2 x30_23 w19 fun x31_24 =>
  call P f_spec_l03Over [x31_24, a1] w19 fun x33_25 w26 =>
  K (.tuple #[x33_25, (.int .i64 5)]) w26)
  (fda P 55 x6_13 1 w19 fun x34_27 =>
  ld P 53 x34_27 w19 fun x35_28 =>
  bl0 P .len #[53] 3 [x35_28] w19 fun x36_29 =>
  bin P .sub 3 false true x36_29 (.int .i64 1) w19 fun x37_30 =>
  ∃ I31 : Nat → Value → Value → World → Prop, (∃ m70, I31 m70 (.float .f64 0) x37_30 w19) ∧ ∀ (m34 : Nat) (x9_35 : Value) (x10_36 : Value) (junk32 : Env) (w33 : World), I31 m34 x9_35 x10_36 w33 →
  bin P .geq 3 false true x10_36 (.int .i64 0) w33 fun x39_37 =>
  cnd x39_37
  (rbin P .mul 117 false true x9_35 (.float .f64 4715268809856909312) w33 fun x43_38 =>
  fda P 55 x6_13 1 w33 fun x44_39 =>
  ld P 53 x44_39 w33 fun x45_40 =>
  ixa P 53 x45_40 x10_36 w33 fun x47_41 =>
  ld P 2 x47_41 w33 fun x48_42 =>
  cnv P 2 117 x48_42 w33 fun x49_43 =>
  rbin P .add 117 false false x43_38 x49_43 w33 fun x50_44 =>
  bin P .sub 3 false true x10_36 (.int .i64 1) w33 fun x41_45 =>
  ∃ m46, m46 < m34 ∧ I31 m46 x50_44 x41_45 w33)
  (call P f_spec_l01Twos [x9_35, x22_11] w33 fun x53_47 w48 =>
  rcnv P 117 66 x53_47 w48 fun x54_49 =>
  ∃ J50 : Value → World → Prop, (∀ (x12_53 : Value) (junk51 : Env) (w52 : World), J50 x12_53 w52 →
  fda P 57 x2_1 0 w52 fun x66_54 =>
  fda P 55 x66_54 0 w52 fun x67_55 =>
  ld P 2 x67_55 w52 fun x68_56 =>
  bin P .lss 2 false true x68_56 (.int .i64 0) w52 fun x69_57 =>
  cnd x69_57
  (call P f_spec_l01Turned [x54_49] w52 fun x71_58 w59 =>
  K (.tuple #[x71_58, x12_53]) w59)
  (K (.tuple #[x54_49, x12_53]) w52)) ∧
  (una P .not x23_12 w48 fun x56_60 =>
  cnd x56_60
  (fda P 57 x2_1 0 w48 fun x57_61 =>
  ld P 55 x57_61 w48 fun x58_62 =>
  fda P 57 x2_1 1 w48 fun x60_63 =>
  ld P 2 x60_63 w48 fun x61_64 =>
  call P f_spec_l02Length [x58_62] w48 fun x59_65 w66 =>
  Ext w48 w66 ∧ bin P .add 2 false false x59_65 x61_64 w66 fun x62_67 =>
  bin P .leq 2 false true x62_67 (.int .i64 (-126)) w66 fun x63_68 =>
  cnd x63_68
  (bin P .add 2 false true (.int .i64 1) (.int .i64 2) w66 fun x65_69 =>
  J50 x65_69 w66)
  (J50 (.int .i64 1) w66))
  (J50 (.int .i64 0) w48)))))
def P_spec_l03Round : Plan := (.seq (.reg [.op (0, 2, false), .op (1, 0, false), .op (2, 0, false)]) (.seq (.seq (.reg [.op (0, 0, false), .op (1, 0, false), .op (2, 0, false), .op (3, 0, false)]) (.cond (.seq (.reg [.op (0, 0, false), .op (1, 0, false)]) .leaf) .leaf)) (.seq (.reg [.op (0, 0, false), .op (1, 0, false), .op (2, 2, false), .op (3, 0, false), .op (4, 0, false), .op (5, 0, false), .op (6, 0, false), .op (7, 2, false), .op (8, 2, false), .op (9, 0, false), .op (10, 0, false)]) (.seq (.seq (.reg [.op (0, 0, false), .op (1, 2, false), .op (2, 0, false), .op (3, 0, false), .op (4, 0, false)]) (.cond (.seq (.reg [.op (0, 0, false), .op (1, 0, false), .op (2, 0, false), .op (3, 0, false), .op (4, 2, false), .op (5, 0, false), .op (6, 0, false)]) .leaf) .leaf)) (.seq (.reg [.op (0, 0, false)]) (.seq (.seq (.reg [.op (0, 0, false), .op (1, 0, false), .op (2, 0, false), .op (3, 0, false), .op (4, 0, false)]) (.blk (.loop [9, 10] 2251524935779840 (.seq (.seq (.reg [.op (0, 0, false), .op (1, 0, false)]) (.cond .leaf .leaf)) (.seq (.blk (.reg [.op (0, 0, false), .op (1, 1, false), .op (2, 0, false), .op (3, 0, false), .op (4, 0, false), .op (5, 0, false), .op (6, 0, false), .op (7, 0, false), .op (8, 1, false), .op (9, 0, false)])) (.reg [.op (0, 0, false), .op (1, 0, false), .op (2, 0, false)])))))) (.seq (.reg [.op (0, 0, false), .op (1, 0, false), .op (2, 2, false), .op (3, 1, false), .op (4, 0, false), .op (5, 0, false)]) (.cut [12] 73750947497819246592 (.seq (.reg [.op (0, 0, false), .op (1, 0, false)]) (.cond (.seq (.reg [.op (0, 0, false)]) (.seq (.reg [.op (0, 0, false), .op (1, 0, false), .op (3, 0, false), .op (4, 0, false), .op (2, 2, true), .op (5, 0, false), .op (6, 0, false)]) (.cond (.reg [.op (0, 0, false), .op (1, 0, false), .op (2, 0, false)]) .leaf))) .leaf)) (.seq (.seq (.reg [.op (0, 0, false), .op (1, 0, false), .op (2, 0, false), .op (3, 0, false)]) (.cond (.reg [.op (0, 0, false), .op (1, 2, false), .op (2, 0, false)]) .leaf)) (.seq (.reg [.op (0, 0, false), .op (1, 0, false), .op (2, 0, false), .op (3, 0, false)]) .leaf))))))))))
theorem I_spec_l03Round {a0 a1 : Value} {w : World} {K : Value → World → Prop} (h : D_spec_l03Round a0 a1 w K) : call P f_spec_l03Round [a0, a1] w K :=
  call_of_vc mixed Tryz.func192 (c := codeOf Tryz.f192) (by kernel_rfl) (by kernel_rfl) (p := P_spec_l03Round) (by kernel_rfl) (by rw [Tryz.ntmps192]; simp) (by
    have e : D_spec_l03Round a0 a1 w K = vc P P_spec_l03Round (codeOf Tryz.f192) (env0 [a0, a1]) w (retX P Tryz.f192.results.toList K) := by kernel_rfl
    exact e ▸ h)

/-- spec.l03Multiple -/
def D_spec_l03Multiple (a0 a1 : Value) (w : World) (K : Value → World → Prop) : Prop :=
  bx P 57 a0 w fun x2_1 w2 =>
  alc P 55 w2 fun x4_3 w4 =>
  fda P 57 x2_1 0 w4 fun x12_5 =>
  ld P 55 x12_5 w4 fun x13_6 =>
  call P f_spec_l02Abs [x13_6] w4 fun x14_7 w8 =>
  alc P 55 w8 fun x7_9 w10 =>
  sto P 55 x7_9 x14_7 w10 fun w12 =>
  ld P 55 x7_9 w12 fun x15_13 =>
  fda P 57 x2_1 1 w12 fun x17_14 =>
  ld P 2 x17_14 w12 fun x18_15 =>
  call P f_spec_l02Length [x15_13] w12 fun x16_16 w17 =>
  Ext w12 w17 ∧ bin P .add 2 false false x16_16 x18_15 w17 fun x19_18 =>
  bin P .sub 2 false true x19_18 (.int .i64 24) w17 fun x20_19 =>
  bl0 P .max #[2, 2] 2 [x20_19, (.int .i64 (-149))] w17 fun x21_20 =>
  fda P 57 x2_1 1 w17 fun x23_21 =>
  ld P 2 x23_21 w17 fun x24_22 =>
  bin P .sub 2 false false x21_20 x24_22 w17 fun x25_23 =>
  bin P .leq 2 false true x25_23 (.int .i64 0) w17 fun x27_24 =>
  cnd x27_24
  (ld P 55 x7_9 w17 fun x28_25 =>
  una P .neg x25_23 w17 fun x30_26 =>
  call P f_spec_l02Left [x28_25, x30_26] w17 fun x31_27 w28 =>
  sto P 55 x4_3 x31_27 w28 fun w30 =>
  ldc P 55 x4_3 w30 fun r31 =>
  K (.tuple #[r31, x21_20, (.bool true)]) w30)
  (ld P 55 x7_9 w17 fun x33_32 =>
  call P f_spec_l02Cut [x33_32, x25_23] w17 fun x35_33 w34 =>
  alc P 55 w34 fun x10_35 w36 =>
  sto P 55 x10_35 x35_33 w36 fun w38 =>
  ∃ J39 : Value → World → Prop, (∀ (x11_42 : Value) (junk40 : Env) (w41 : World), J39 x11_42 w41 →
  cnd x11_42
  (ld P 55 x10_35 w41 fun x68_43 =>
  call P f_spec_l02Of [(.int .i64 1)] w41 fun x69_44 w45 =>
  Ext w41 w45 ∧ call P f_spec_l02Add [x68_43, x69_44] w45 fun x70_46 w47 =>
  sto P 55 x10_35 x70_46 w47 fun w49 =>
  ld P 55 x10_35 w49 fun x71_50 =>
  sto P 55 x4_3 x71_50 w49 fun w52 =>
  ldc P 55 x4_3 w52 fun r53 =>
  K (.tuple #[r53, x21_20, (.bool false)]) w52)
  (ld P 55 x10_35 w41 fun x71_54 =>
  sto P 55 x4_3 x71_54 w41 fun w56 =>
  ldc P 55 x4_3 w56 fun r57 =>
  K (.tuple #[r57, x21_20, (.bool false)]) w56)) ∧
  (bin P .eql 2 false true a1 (.int .i64 0) w38 fun x38_58 =>
  cnd x38_58
  (ld P 55 x7_9 w38 fun x39_59 =>
  bin P .sub 2 false true x25_23 (.int .i64 1) w38 fun x41_60 =>
  call P f_spec_l02Bit [x39_59, x41_60] w38 fun x42_61 w62 =>
  bin P .eql 2 false true x42_61 (.int .i64 1) w62 fun x43_63 =>
  ∃ J64 : Value → World → Prop, (∀ (x47_65 : Value) (junk67 : Env) (w66 : World), J64 x47_65 w66 →
  ∃ J68 : Value → World → Prop, (∀ (x50_69 : Value) (junk71 : Env) (w70 : World), J68 x50_69 w70 →
  ∃ J72 : Value → World → Prop, (∀ (x51_73 : Value) (junk75 : Env) (w74 : World), J72 x51_73 w74 →
  pick x43_63 x51_73 (.bool false) fun x52_76 =>
  J39 x52_76 w74) ∧
  grd x43_63 true
  (pick x47_65 (.bool true) x50_69 fun x51_77 =>
  J72 x51_77 w70)
  (J72 undef w70)) ∧
  grd x47_65 false
  (ld P 55 x10_35 w66 fun x48_78 =>
  call P f_spec_l02Bit [x48_78, (.int .i64 0)] w66 fun x49_79 w80 =>
  bin P .eql 2 false true x49_79 (.int .i64 1) w80 fun x50_81 =>
  J68 x50_81 w80)
  (J68 undef w66)) ∧
  grd x43_63 true
  (bin P .gtr 2 false true x25_23 (.int .i64 1) w62 fun x46_82 =>
  J64 x46_82 w62)
  (J64 undef w62))
  (bin P .eql 2 false true a1 (.int .i64 1) w38 fun x54_83 =>
  cnd x54_83
  (fda P 57 x2_1 0 w38 fun x55_84 =>
  fda P 55 x55_84 0 w38 fun x56_85 =>
  ld P 2 x56_85 w38 fun x57_86 =>
  bin P .lss 2 false true x57_86 (.int .i64 0) w38 fun x58_87 =>
  J39 x58_87 w38)
  (bin P .eql 2 false true a1 (.int .i64 2) w38 fun x60_88 =>
  cnd x60_88
  (fda P 57 x2_1 0 w38 fun x61_89 =>
  fda P 55 x61_89 0 w38 fun x62_90 =>
  ld P 2 x62_90 w38 fun x63_91 =>
  bin P .gtr 2 false true x63_91 (.int .i64 0) w38 fun x64_92 =>
  J39 x64_92 w38)
  (bin P .eql 2 false true a1 (.int .i64 4) w38 fun x66_93 =>
  cnd x66_93
  (J39 (.bool true) w38)
  (J39 (.bool false) w38))))))
def P_spec_l03Multiple : Plan := (.seq (.reg [.op (0, 2, false), .op (1, 2, false), .op (2, 0, false), .op (3, 0, false)]) (.seq (.reg [.op (0, 0, false), .op (1, 0, false), .op (2, 2, false), .op (3, 2, false), .op (4, 2, false)]) (.seq (.reg [.op (0, 0, false), .op (2, 0, false), .op (3, 0, false), .op (1, 2, true), .op (4, 0, false), .op (5, 0, false), .op (6, 0, false), .op (7, 0, false)]) (.seq (.reg [.op (0, 0, false), .op (1, 0, false), .op (2, 0, false), .op (3, 0, false), .op (4, 0, false)]) (.seq (.seq (.reg [.op (0, 0, false), .op (1, 0, false)]) (.cond (.seq (.reg [.op (0, 0, false), .op (1, 0, false), .op (2, 0, false), .op (3, 2, false), .op (4, 0, false), .op (5, 2, false), .op (6, 0, false), .op (7, 0, false)]) .leaf) .leaf)) (.seq (.reg [.op (0, 0, false), .op (1, 0, false), .op (2, 2, false), .op (3, 2, false), .op (4, 2, false), .op (5, 0, false)]) (.cut [11] 147573952520956938240 (.seq (.reg [.op (0, 0, false)]) (.blk (.seq (.reg [.op (0, 0, false), .op (1, 0, false)]) (.cond (.reg [.op (0, 0, false), .op (1, 0, false), .op (2, 0, false), .op (3, 2, false), .op (4, 0, false), .op (5, 0, false), .grp 5 true [(6, 0, false), (7, 0, false), (8, 0, false)] [47] 246290604621824, .grp 8 false [(9, 0, false), (10, 2, false), (11, 0, false)] [50] 1970324836974592, .grp 5 true [(12, 0, false)] [51] 2251799813685248, .op (13, 0, false), .op (14, 0, false)]) (.seq (.reg [.op (0, 0, false), .op (1, 0, false)]) (.cond (.reg [.op (0, 0, false), .op (1, 0, false), .op (2, 0, false), .op (3, 0, false), .op (4, 0, false)]) (.seq (.reg [.op (0, 0, false), .op (1, 0, false)]) (.cond (.reg [.op (0, 0, false), .op (1, 0, false), .op (2, 0, false), .op (3, 0, false), .op (4, 0, false)]) (.seq (.reg [.op (0, 0, false), .op (1, 0, false)]) (.cond (.reg [.op (0, 0, false)]) .leaf)))))))))) (.seq (.seq (.reg [.op (0, 0, false)]) (.cond (.reg [.op (0, 0, false), .op (1, 2, true), .op (2, 2, false), .op (3, 2, false)]) .leaf)) (.seq (.reg [.op (0, 0, false), .op (1, 0, false), .op (2, 2, false), .op (3, 0, false), .op (4, 0, false)]) .leaf)))))))))
theorem I_spec_l03Multiple {a0 a1 : Value} {w : World} {K : Value → World → Prop} (h : D_spec_l03Multiple a0 a1 w K) : call P f_spec_l03Multiple [a0, a1] w K :=
  call_of_vc mixed Tryz.func236 (c := codeOf Tryz.f236) (by kernel_rfl) (by kernel_rfl) (p := P_spec_l03Multiple) (by kernel_rfl) (by rw [Tryz.ntmps236]; simp) (by
    have e : D_spec_l03Multiple a0 a1 w K = vc P P_spec_l03Multiple (codeOf Tryz.f236) (env0 [a0, a1]) w (retX P Tryz.f236.results.toList K) := by kernel_rfl
    exact e ▸ h)

/-- spec.l03Over -/
def D_spec_l03Over (a0 a1 : Value) (w : World) (K : Value → World → Prop) : Prop :=
  call P f_spec_l01Huge [] w fun x6_1 w2 =>
  ∃ J3 : Value → World → Prop, (∀ (x5_6 : Value) (junk4 : Env) (w5 : World), J3 x5_6 w5 →
  bin P .lss 2 false true a0 (.int .i64 0) w5 fun x27_7 =>
  cnd x27_7
  (una P .neg x5_6 w5 fun x29_8 =>
  K x29_8 w5)
  (K x5_6 w5)) ∧
  (bin P .eql 2 false true a1 (.int .i64 3) w2 fun x8_9 =>
  ∃ J10 : Value → World → Prop, (∀ (x12_11 : Value) (junk13 : Env) (w12 : World), J10 x12_11 w12 →
  ∃ J14 : Value → World → Prop, (∀ (x14_15 : Value) (junk17 : Env) (w16 : World), J14 x14_15 w16 →
  ∃ J18 : Value → World → Prop, (∀ (x15_19 : Value) (junk21 : Env) (w20 : World), J18 x15_19 w20 →
  pick x8_9 (.bool true) x15_19 fun x16_22 =>
  ∃ J23 : Value → World → Prop, (∀ (x20_24 : Value) (junk26 : Env) (w25 : World), J23 x20_24 w25 →
  ∃ J27 : Value → World → Prop, (∀ (x22_28 : Value) (junk30 : Env) (w29 : World), J27 x22_28 w29 →
  ∃ J31 : Value → World → Prop, (∀ (x23_32 : Value) (junk34 : Env) (w33 : World), J31 x23_32 w33 →
  pick x16_22 (.bool true) x23_32 fun x24_35 =>
  cnd x24_35
  (call P f_spec_l01At [(.int .i64 2139095039)] w33 fun x25_36 w37 =>
  J3 x25_36 w37)
  (J3 x6_1 w33)) ∧
  grd x16_22 false
  (pick x20_24 x22_28 (.bool false) fun x23_38 =>
  J31 x23_38 w29)
  (J31 undef w29)) ∧
  grd x20_24 true
  (bin P .lss 2 false true a0 (.int .i64 0) w25 fun x22_39 =>
  J27 x22_39 w25)
  (J27 undef w25)) ∧
  grd x16_22 false
  (bin P .eql 2 false true a1 (.int .i64 2) w20 fun x19_40 =>
  J23 x19_40 w20)
  (J23 undef w20)) ∧
  grd x8_9 false
  (pick x12_11 x14_15 (.bool false) fun x15_41 =>
  J18 x15_41 w16)
  (J18 undef w16)) ∧
  grd x12_11 true
  (bin P .gtr 2 false true a0 (.int .i64 0) w12 fun x14_42 =>
  J14 x14_42 w12)
  (J14 undef w12)) ∧
  grd x8_9 false
  (bin P .eql 2 false true a1 (.int .i64 1) w2 fun x11_43 =>
  J10 x11_43 w2)
  (J10 undef w2))
def P_spec_l03Over : Plan := (.seq (.reg [.op (0, 0, false)]) (.seq (.reg [.op (0, 2, false), .op (1, 0, false)]) (.cut [5] 67108768 (.seq (.reg [.op (0, 0, false), .op (1, 0, false), .op (2, 0, false), .grp 2 false [(3, 0, false), (4, 0, false), (5, 0, false)] [12] 7168, .grp 5 true [(6, 0, false), (7, 0, false)] [14] 24576, .grp 2 false [(8, 0, false)] [15] 32768, .op (9, 0, false), .op (10, 0, false), .grp 10 false [(11, 0, false), (12, 0, false), (13, 0, false)] [20] 1835008, .grp 13 true [(14, 0, false), (15, 0, false)] [22] 6291456, .grp 10 false [(16, 0, false)] [23] 8388608, .op (17, 0, false)]) (.cond (.reg [.op (0, 2, false), .op (1, 0, false)]) .leaf)) (.seq (.seq (.reg [.op (0, 0, false), .op (1, 0, false)]) (.cond (.seq (.reg [.op (0, 0, false), .op (1, 0, false), .op (2, 0, false)]) .leaf) .leaf)) (.seq (.reg [.op (0, 0, false), .op (1, 0, false)]) .leaf)))))
theorem I_spec_l03Over {a0 a1 : Value} {w : World} {K : Value → World → Prop} (h : D_spec_l03Over a0 a1 w K) : call P f_spec_l03Over [a0, a1] w K :=
  call_of_vc mixed Tryz.func238 (c := codeOf Tryz.f238) (by kernel_rfl) (by kernel_rfl) (p := P_spec_l03Over) (by kernel_rfl) (by rw [Tryz.ntmps238]; simp) (by
    have e : D_spec_l03Over a0 a1 w K = vc P P_spec_l03Over (codeOf Tryz.f238) (env0 [a0, a1]) w (retX P Tryz.f238.results.toList K) := by kernel_rfl
    exact e ▸ h)

end Go.Proofs.YtjompmflommadaaGreatDoor

/- Written by a program (gen.py): what is left to show of each function's call. -/
set_option linter.unusedVariables false
set_option maxRecDepth 20000
namespace Go.Proofs.YtjompmflommadaaGreatDoor
open Go Go.Vc

/-- math.Ldexp -/
def D_math_Ldexp (a0 a1 : Value) (w : World) (K : Value → World → Prop) : Prop :=
  cnd (.bool false)
  (call P f_math_archLdexp [a0, a1] w fun x7_1 w2 =>
  K x7_1 w2)
  (call P f_math_ldexp [a0, a1] w fun x10_3 w4 =>
  K x10_3 w4)
def P_math_Ldexp : Plan := (.seq (.reg [.op (0, 0, false)]) (.seq (.cond (.seq (.reg [.op (0, 0, false), .op (1, 0, false), .op (2, 2, false), .op (3, 0, false)]) .leaf) .leaf) (.seq (.reg [.op (0, 0, false), .op (1, 0, false), .op (2, 2, false), .op (3, 0, false)]) .leaf)))
theorem I_math_Ldexp {a0 a1 : Value} {w : World} {K : Value → World → Prop} (h : D_math_Ldexp a0 a1 w K) : call P f_math_Ldexp [a0, a1] w K :=
  call_of_vc mixed Tryz.func267 (c := codeOf Tryz.f267) (by kernel_rfl) (by kernel_rfl) (p := P_math_Ldexp) (by kernel_rfl) (by rw [Tryz.ntmps267]; simp) (by
    have e : D_math_Ldexp a0 a1 w K = vc P P_math_Ldexp (codeOf Tryz.f267) (env0 [a0, a1]) w (retX P Tryz.f267.results.toList K) := by kernel_rfl
    exact e ▸ h)

/-- math.Inf -/
def D_math_Inf (a0 : Value) (w : World) (K : Value → World → Prop) : Prop :=
  bin P .geq 3 false true a0 (.int .i64 0) w fun x5_1 =>
  cnd x5_1
  (call P f_math_Float64frombits [(.int .u64 9218868437227405312)] w fun x7_2 w3 =>
  K x7_2 w3)
  (call P f_math_Float64frombits [(.int .u64 18442240474082181120)] w fun x7_4 w5 =>
  K x7_4 w5)
def P_math_Inf : Plan := (.seq (.reg [.op (0, 0, false)]) (.seq (.reg [.op (0, 0, false)]) (.seq (.seq (.reg [.op (0, 0, false), .op (1, 0, false)]) (.cond (.reg [.op (0, 0, false)]) (.reg [.op (0, 0, false)]))) (.seq (.reg [.op (0, 0, false), .op (1, 2, false), .op (2, 0, false)]) .leaf))))
theorem I_math_Inf {a0 : Value} {w : World} {K : Value → World → Prop} (h : D_math_Inf a0 w K) : call P f_math_Inf [a0] w K :=
  call_of_vc mixed Tryz.func282 (c := codeOf Tryz.f282) (by kernel_rfl) (by kernel_rfl) (p := P_math_Inf) (by kernel_rfl) (by rw [Tryz.ntmps282]; simp) (by
    have e : D_math_Inf a0 w K = vc P P_math_Inf (codeOf Tryz.f282) (env0 [a0]) w (retX P Tryz.f282.results.toList K) := by kernel_rfl
    exact e ▸ h)

/-- math.ldexp -/
def D_math_ldexp (a0 a1 : Value) (w : World) (K : Value → World → Prop) : Prop :=
  bin P .eql 117 false true a0 (.float .f64 0) w fun x10_1 =>
  cnd x10_1
  (K a0 w)
  (call P f_math_IsInf [a0, (.int .i64 0)] w fun x14_2 w3 =>
  ∃ J4 : Value → World → Prop, (∀ (x17_5 : Value) (junk7 : Env) (w6 : World), J4 x17_5 w6 →
  pick x14_2 (.bool true) x17_5 fun x18_8 =>
  cnd x18_8
  (K a0 w6)
  (call P f_math_normalize [a0] w6 fun x22_9 w10 =>
  xtr P x22_9 0 w10 fun x23_11 =>
  xtr P x22_9 1 w10 fun x24_12 =>
  bin P .add 3 false false a1 x24_12 w10 fun x27_13 =>
  call P f_math_Float64bits [x23_11] w10 fun x29_14 w15 =>
  bin P .shr 178 false true x29_14 (.int .u64 52) w15 fun x32_16 =>
  cnv P 178 3 x32_16 w15 fun x33_17 =>
  bin P .and 3 false true x33_17 (.int .i64 2047) w15 fun x34_18 =>
  bin P .sub 3 false true x34_18 (.int .i64 1023) w15 fun x35_19 =>
  bin P .add 3 false false x27_13 x35_19 w15 fun x36_20 =>
  bin P .lss 3 false true x36_20 (.int .i64 (-1075)) w15 fun x38_21 =>
  cnd x38_21
  (call P f_math_Copysign [(.float .f64 0), x23_11] w15 fun x40_22 w23 =>
  K x40_22 w23)
  (bin P .gtr 3 false true x36_20 (.int .i64 1023) w15 fun x42_24 =>
  cnd x42_24
  (bin P .lss 117 false true x23_11 (.float .f64 0) w15 fun x44_25 =>
  cnd x44_25
  (call P f_math_Inf [(.int .i64 (-1))] w15 fun x45_26 w27 =>
  K x45_26 w27)
  (call P f_math_Inf [(.int .i64 1)] w15 fun x46_28 w29 =>
  K x46_28 w29))
  (∃ J30 : Value → Value → World → Prop, (∀ (x1_33 : Value) (x7_34 : Value) (junk31 : Env) (w32 : World), J30 x1_33 x7_34 w32 →
  bin P .andNot 178 false true x29_14 (.int .u64 9218868437227405312) w32 fun x52_35 =>
  bin P .add 3 false true x1_33 (.int .i64 1023) w32 fun x55_36 =>
  cnv P 3 178 x55_36 w32 fun x56_37 =>
  bin P .shl 178 false true x56_37 (.int .u64 52) w32 fun x57_38 =>
  bin P .or 178 false false x52_35 x57_38 w32 fun x58_39 =>
  call P f_math_Float64frombits [x58_39] w32 fun x61_40 w41 =>
  rbin P .mul 117 false false x7_34 x61_40 w41 fun x62_42 =>
  K x62_42 w41) ∧
  (bin P .lss 3 false true x36_20 (.int .i64 (-1022)) w15 fun x48_43 =>
  cnd x48_43
  (bin P .add 3 false true x36_20 (.int .i64 53) w15 fun x50_44 =>
  J30 x50_44 (.float .f64 4368491638549381120) w15)
  (J30 x36_20 (.float .f64 4607182418800017408) w15)))))) ∧
  grd x14_2 false
  (call P f_math_IsNaN [a0] w3 fun x17_45 w46 =>
  J4 x17_45 w46)
  (J4 undef w3))
def P_math_ldexp : Plan := (.seq (.reg [.op (0, 0, false)]) (.seq (.blk (.seq (.reg [.op (0, 0, false), .op (1, 0, false), .op (2, 0, false)]) (.cond (.seq (.reg [.op (0, 0, false), .op (1, 0, false)]) .leaf) (.seq (.reg [.op (0, 0, false), .op (1, 2, false), .op (2, 0, false), .grp 2 false [(3, 0, false), (4, 2, false)] [17] 196608, .op (5, 0, false), .op (6, 0, false)]) (.cond (.seq (.reg [.op (0, 0, false), .op (1, 0, false)]) .leaf) .leaf))))) (.seq (.reg [.op (0, 0, false), .op (1, 2, false), .op (2, 0, false), .op (3, 0, false), .op (4, 0, false), .op (5, 0, false), .op (6, 0, false)]) (.seq (.reg [.op (0, 0, false), .op (1, 0, false), .op (2, 0, false), .op (3, 0, false)]) (.seq (.reg [.op (0, 0, false), .op (1, 2, false), .op (2, 0, false)]) (.seq (.reg [.op (0, 0, false), .op (1, 0, false), .op (2, 0, false), .op (3, 0, false), .op (4, 0, false), .op (5, 0, false), .op (6, 0, false), .op (7, 0, false)]) (.seq (.seq (.reg [.op (0, 0, false), .op (1, 0, false)]) (.cond (.seq (.reg [.op (0, 0, false), .op (1, 2, false), .op (2, 0, false)]) .leaf) .leaf)) (.seq (.seq (.reg [.op (0, 0, false), .op (1, 0, false)]) (.cond (.seq (.seq (.reg [.op (0, 0, false), .op (1, 0, false)]) (.cond (.seq (.reg [.op (0, 2, false), .op (1, 0, false)]) .leaf) .leaf)) (.seq (.reg [.op (0, 2, false), .op (1, 0, false)]) .leaf)) .leaf)) (.seq (.reg [.op (0, 0, false)]) (.cut [1, 7] 2111062325330050 (.seq (.reg [.op (0, 0, false), .op (1, 0, false)]) (.cond (.seq (.reg [.op (0, 0, false), .op (1, 0, false), .op (2, 0, false)]) (.reg [.op (0, 0, false)])) .leaf)) (.seq (.reg [.op (0, 0, false), .op (1, 0, false), .op (2, 0, false)]) (.seq (.reg [.op (0, 0, false), .op (1, 0, false), .op (2, 0, false), .op (3, 0, false), .op (4, 0, false), .op (5, 0, false), .op (6, 0, false)]) (.seq (.reg [.op (0, 0, false), .op (1, 0, false), .op (2, 2, false), .op (3, 1, false), .op (4, 0, false)]) .leaf)))))))))))))
theorem I_math_ldexp {a0 a1 : Value} {w : World} {K : Value → World → Prop} (h : D_math_ldexp a0 a1 w K) : call P f_math_ldexp [a0, a1] w K :=
  call_of_vc mixed Tryz.func284 (c := codeOf Tryz.f284) (by kernel_rfl) (by kernel_rfl) (p := P_math_ldexp) (by kernel_rfl) (by rw [Tryz.ntmps284]; simp) (by
    have e : D_math_ldexp a0 a1 w K = vc P P_math_ldexp (codeOf Tryz.f284) (env0 [a0, a1]) w (retX P Tryz.f284.results.toList K) := by kernel_rfl
    exact e ▸ h)

/-- math.IsInf -/
def D_math_IsInf (a0 a1 : Value) (w : World) (K : Value → World → Prop) : Prop :=
  bin P .eql 3 false true a1 (.int .i64 0) w fun x6_1 =>
  cnd x6_1
  (call P f_math_Abs [a0] w fun x8_2 w3 =>
  bin P .gtr 117 false true x8_2 (.float .f64 9218868437227405311) w3 fun x14_4 =>
  K x14_4 w3)
  (bin P .lss 3 false true a1 (.int .i64 0) w fun x10_5 =>
  cnd x10_5
  (una P .neg a0 w fun x12_6 =>
  bin P .gtr 117 false true x12_6 (.float .f64 9218868437227405311) w fun x14_7 =>
  K x14_7 w)
  (bin P .gtr 117 false true a0 (.float .f64 9218868437227405311) w fun x14_8 =>
  K x14_8 w))
def P_math_IsInf : Plan := (.seq (.reg [.op (0, 0, false)]) (.seq (.seq (.reg [.op (0, 0, false), .op (1, 0, false)]) (.cond (.reg [.op (0, 0, false), .op (1, 2, false), .op (2, 0, false)]) (.seq (.reg [.op (0, 0, false), .op (1, 0, false)]) (.cond (.reg [.op (0, 0, false), .op (1, 0, false), .op (2, 0, false)]) .leaf)))) (.seq (.reg [.op (0, 0, false), .op (1, 0, false), .op (2, 0, false)]) .leaf)))
theorem I_math_IsInf {a0 a1 : Value} {w : World} {K : Value → World → Prop} (h : D_math_IsInf a0 a1 w K) : call P f_math_IsInf [a0, a1] w K :=
  call_of_vc mixed Tryz.func293 (c := codeOf Tryz.f293) (by kernel_rfl) (by kernel_rfl) (p := P_math_IsInf) (by kernel_rfl) (by rw [Tryz.ntmps293]; simp) (by
    have e : D_math_IsInf a0 a1 w K = vc P P_math_IsInf (codeOf Tryz.f293) (env0 [a0, a1]) w (retX P Tryz.f293.results.toList K) := by kernel_rfl
    exact e ▸ h)

/-- math.IsNaN -/
def D_math_IsNaN (a0 : Value) (w : World) (K : Value → World → Prop) : Prop :=
  bin P .neq 117 false false a0 a0 w fun x5_1 =>
  K x5_1 w
def P_math_IsNaN : Plan := (.seq (.reg [.op (0, 0, false)]) (.seq (.reg [.op (0, 0, false), .op (1, 0, false), .op (2, 0, false), .op (3, 0, false)]) .leaf))
theorem I_math_IsNaN {a0 : Value} {w : World} {K : Value → World → Prop} (h : D_math_IsNaN a0 w K) : call P f_math_IsNaN [a0] w K :=
  call_of_vc mixed Tryz.func294 (c := codeOf Tryz.f294) (by kernel_rfl) (by kernel_rfl) (p := P_math_IsNaN) (by kernel_rfl) (by rw [Tryz.ntmps294]; simp) (by
    have e : D_math_IsNaN a0 w K = vc P P_math_IsNaN (codeOf Tryz.f294) (env0 [a0]) w (retX P Tryz.f294.results.toList K) := by kernel_rfl
    exact e ▸ h)

/-- math.normalize -/
def D_math_normalize (a0 : Value) (w : World) (K : Value → World → Prop) : Prop :=
  call P f_math_Abs [a0] w fun x5_1 w2 =>
  bin P .lss 117 false true x5_1 (.float .f64 4503599627370496) w2 fun x6_3 =>
  cnd x6_3
  (rbin P .mul 117 false true a0 (.float .f64 4841369599423283200) w2 fun x8_4 =>
  K (.tuple #[x8_4, (.int .i64 (-52))]) w2)
  (K (.tuple #[a0, (.int .i64 0)]) w2)
def P_math_normalize : Plan := (.seq (.reg [.op (0, 0, false), .op (1, 0, false)]) (.seq (.seq (.reg [.op (0, 0, false), .op (1, 2, false), .op (2, 0, false)]) (.cond (.seq (.reg [.op (0, 0, false), .op (1, 1, false), .op (2, 0, false), .op (3, 0, false)]) .leaf) .leaf)) (.seq (.reg [.op (0, 0, false), .op (1, 0, false), .op (2, 0, false)]) .leaf)))
theorem I_math_normalize {a0 : Value} {w : World} {K : Value → World → Prop} (h : D_math_normalize a0 w K) : call P f_math_normalize [a0] w K :=
  call_of_vc mixed Tryz.func295 (c := codeOf Tryz.f295) (by kernel_rfl) (by kernel_rfl) (p := P_math_normalize) (by kernel_rfl) (by rw [Tryz.ntmps295]; simp) (by
    have e : D_math_normalize a0 w K = vc P P_math_normalize (codeOf Tryz.f295) (env0 [a0]) w (retX P Tryz.f295.results.toList K) := by kernel_rfl
    exact e ▸ h)

/-- math.Abs -/
def D_math_Abs (a0 : Value) (w : World) (K : Value → World → Prop) : Prop :=
  call P f_math_Float64bits [a0] w fun x4_1 w2 =>
  bin P .andNot 178 false true x4_1 (.int .u64 9223372036854775808) w2 fun x5_3 =>
  call P f_math_Float64frombits [x5_3] w2 fun x6_4 w5 =>
  K x6_4 w5
def P_math_Abs : Plan := (.seq (.reg [.op (0, 0, false)]) (.seq (.reg [.op (0, 0, false), .op (1, 2, false), .op (2, 0, false), .op (3, 2, false), .op (4, 0, false)]) .leaf))
theorem I_math_Abs {a0 : Value} {w : World} {K : Value → World → Prop} (h : D_math_Abs a0 w K) : call P f_math_Abs [a0] w K :=
  call_of_vc mixed Tryz.func301 (c := codeOf Tryz.f301) (by kernel_rfl) (by kernel_rfl) (p := P_math_Abs) (by kernel_rfl) (by rw [Tryz.ntmps301]; simp) (by
    have e : D_math_Abs a0 w K = vc P P_math_Abs (codeOf Tryz.f301) (env0 [a0]) w (retX P Tryz.f301.results.toList K) := by kernel_rfl
    exact e ▸ h)

end Go.Proofs.YtjompmflommadaaGreatDoor

/- Written by a program (gen.py): what is left to show of each function's call. -/
set_option linter.unusedVariables false
set_option maxRecDepth 20000
namespace Go.Proofs.YtjompmflommadaaGreatDoor
open Go Go.Vc

/-- spec.l06Float -/
def D_spec_l06Float (a0 : Value) (w : World) (K : Value → World → Prop) : Prop :=
  call P f_spec_l03Read [a0] w fun x10_1 w2 =>
  xtr P x10_1 0 w2 fun x11_3 =>
  xtr P x10_1 1 w2 fun x12_4 =>
  alc P 57 w2 fun x4_5 w6 =>
  sto P 57 x4_5 x11_3 w6 fun w8 =>
  una P .not x12_4 w8 fun x14_9 =>
  cnd x14_9
  (K (.tuple #[(.float .f32 0), (.bool false)]) w8)
  (ld P 57 x4_5 w8 fun x16_10 =>
  call P f_spec_l03Round [x16_10, (.int .i64 0)] w8 fun x17_11 w12 =>
  xtr P x17_11 0 w12 fun x18_13 =>
  xtr P x17_11 1 w12 fun x19_14 =>
  bin P .eql 2 false true x19_14 (.int .i64 0) w12 fun x22_15 =>
  K (.tuple #[x18_13, x22_15]) w12)
def P_spec_l06Float : Plan := (.seq (.reg [.op (0, 0, false), .op (1, 0, false)]) (.seq (.reg [.op (0, 0, false), .op (1, 2, false), .op (2, 0, false), .op (3, 0, false), .op (4, 0, false), .op (5, 2, false), .op (6, 2, false), .op (7, 0, false)]) (.seq (.seq (.reg [.op (0, 0, false), .op (1, 0, false)]) (.cond (.seq (.reg [.op (0, 0, false), .op (1, 0, false)]) .leaf) .leaf)) (.seq (.reg [.op (0, 0, false), .op (1, 2, false), .op (2, 0, false), .op (3, 0, false), .op (4, 0, false), .op (5, 0, false), .op (6, 0, false)]) (.seq (.reg [.op (0, 0, false), .op (1, 0, false), .op (2, 0, false), .op (3, 0, false), .op (4, 0, false)]) .leaf)))))
theorem I_spec_l06Float {a0 : Value} {w : World} {K : Value → World → Prop} (h : D_spec_l06Float a0 w K) : call P f_spec_l06Float [a0] w K :=
  call_of_vc mixed Tryz.func141 (c := codeOf Tryz.f141) (by kernel_rfl) (by kernel_rfl) (p := P_spec_l06Float) (by kernel_rfl) (by rw [Tryz.ntmps141]; simp) (by
    have e : D_spec_l06Float a0 w K = vc P P_spec_l06Float (codeOf Tryz.f141) (env0 [a0]) w (retX P Tryz.f141.results.toList K) := by kernel_rfl
    exact e ▸ h)

end Go.Proofs.YtjompmflommadaaGreatDoor

/- Written by a program (gen.py): what is left to show of each function's call. -/
set_option linter.unusedVariables false
set_option maxRecDepth 20000
namespace Go.Proofs.YtjompmflommadaaGreatDoor
open Go Go.Vc

/-- impl.parseFloat -/
def D_impl_parseFloat (a0 : Value) (w : World) (K : Value → World → Prop) : Prop :=
  call P f_impl_ParseDyadic [a0] w fun x11_1 w2 =>
  xtr P x11_1 0 w2 fun x12_3 =>
  xtr P x11_1 1 w2 fun x13_4 =>
  alc P 57 w2 fun x4_5 w6 =>
  sto P 57 x4_5 x12_3 w6 fun w8 =>
  bin P .neq 2 false true x13_4 (.int .i64 0) w8 fun x15_9 =>
  cnd x15_9
  (K (.tuple #[(.float .f32 0), (.bool false)]) w8)
  (ld P 57 x4_5 w8 fun x17_10 =>
  call P f_impl_RoundDyadic [x17_10, (.int .i64 0)] w8 fun x18_11 w12 =>
  xtr P x18_11 0 w12 fun x19_13 =>
  xtr P x18_11 1 w12 fun x20_14 =>
  xtr P x18_11 2 w12 fun x21_15 =>
  bin P .eql 2 false true x20_14 (.int .i64 0) w12 fun x24_16 =>
  K (.tuple #[x19_13, x24_16]) w12)
def P_impl_parseFloat : Plan := (.seq (.reg [.op (0, 0, false), .op (1, 0, false)]) (.seq (.reg [.op (0, 0, false), .op (1, 2, false), .op (2, 0, false), .op (3, 0, false), .op (4, 0, false), .op (5, 2, false), .op (6, 2, false), .op (7, 0, false)]) (.seq (.seq (.reg [.op (0, 0, false), .op (1, 0, false)]) (.cond (.seq (.reg [.op (0, 0, false), .op (1, 0, false)]) .leaf) .leaf)) (.seq (.reg [.op (0, 0, false), .op (1, 2, false), .op (2, 0, false), .op (3, 0, false), .op (4, 0, false), .op (5, 0, false), .op (6, 0, false), .op (7, 0, false), .op (8, 0, false)]) (.seq (.reg [.op (0, 0, false), .op (1, 0, false), .op (2, 0, false), .op (3, 0, false), .op (4, 0, false)]) .leaf)))))
theorem I_impl_parseFloat {a0 : Value} {w : World} {K : Value → World → Prop} (h : D_impl_parseFloat a0 w K) : call P f_impl_parseFloat [a0] w K :=
  call_of_vc mixed Tryz.func129 (c := codeOf Tryz.f129) (by kernel_rfl) (by kernel_rfl) (p := P_impl_parseFloat) (by kernel_rfl) (by rw [Tryz.ntmps129]; simp) (by
    have e : D_impl_parseFloat a0 w K = vc P P_impl_parseFloat (codeOf Tryz.f129) (env0 [a0]) w (retX P Tryz.f129.results.toList K) := by kernel_rfl
    exact e ▸ h)

end Go.Proofs.YtjompmflommadaaGreatDoor

/- Written by a program (gen.py): what is left to show of each function's call. -/
set_option linter.unusedVariables false
set_option maxRecDepth 20000
namespace Go.Proofs.YtjompmflommadaaGreatDoor
open Go Go.Vc

/-- impl.IsProgram -/
def D_impl_IsProgram (a0 : Value) (w : World) (K : Value → World → Prop) : Prop :=
  bx P 27 a0 w fun x1_1 w2 =>
  fda P 27 x1_1 0 w2 fun x6_3 =>
  ld P 22 x6_3 w2 fun x7_4 =>
  call P f_impl_depthOf [x7_4] w2 fun x8_5 w6 =>
  xtr P x8_5 0 w6 fun x9_7 =>
  xtr P x8_5 1 w6 fun x10_8 =>
  K x10_8 w6
def P_impl_IsProgram : Plan := (.seq (.reg [.op (0, 2, false), .op (1, 0, false)]) (.seq (.reg [.op (0, 0, false), .op (1, 0, false), .op (2, 2, false), .op (3, 0, false), .op (4, 0, false), .op (5, 0, false), .op (6, 0, false), .op (7, 0, false)]) (.seq (.reg [.op (0, 0, false), .op (1, 0, false)]) .leaf)))
theorem I_impl_IsProgram {a0 : Value} {w : World} {K : Value → World → Prop} (h : D_impl_IsProgram a0 w K) : call P f_impl_IsProgram [a0] w K :=
  call_of_vc mixed Tryz.func15 (c := codeOf Tryz.f15) (by kernel_rfl) (by kernel_rfl) (p := P_impl_IsProgram) (by kernel_rfl) (by rw [Tryz.ntmps15]; simp) (by
    have e : D_impl_IsProgram a0 w K = vc P P_impl_IsProgram (codeOf Tryz.f15) (env0 [a0]) w (retX P Tryz.f15.results.toList K) := by kernel_rfl
    exact e ▸ h)

/-- impl.RunExact -/
def D_impl_RunExact (a0 a1 : Value) (w : World) (K : Value → World → Prop) : Prop :=
  bx P 27 a0 w fun x2_1 w2 =>
  alc P 57 w2 fun x4_3 w4 =>
  ld P 27 x2_1 w4 fun x12_5 =>
  bl0 P .len #[52] 3 [a1] w4 fun x16_6 =>
  call P f_impl_areFinite [a1] w4 fun x14_7 w8 =>
  Ext w4 w8 ∧ call P f_impl_asked [x12_5, x14_7, x16_6] w8 fun x17_9 w10 =>
  bin P .neq 2 false true x17_9 (.int .i64 0) w10 fun x19_11 =>
  cnd x19_11
  (bld P 57 [] w10 fun x20_12 =>
  sto P 57 x4_3 x20_12 w10 fun w14 =>
  ldc P 57 x4_3 w14 fun r15 =>
  K (.tuple #[r15, x17_9]) w14)
  (bsl P 102 0 [] w10 fun x22_16 w17 =>
  bl0 P .len #[52] 3 [a1] w17 fun x24_18 =>
  ∃ I19 : Nat → Value → Value → World → Prop, (∃ m61, I19 m61 x22_16 (.int .i64 0) w17) ∧ ∀ (m22 : Nat) (x7_23 : Value) (x25_24 : Value) (junk20 : Env) (w21 : World), I19 m22 x7_23 x25_24 w21 →
  bin P .lss 3 false false x25_24 x24_18 w21 fun x26_25 =>
  cnd x26_25
  (ixa P 52 a1 x25_24 w21 fun x27_26 =>
  ld P 66 x27_26 w21 fun x28_27 =>
  call P f_impl_numOf [x28_27] w21 fun x31_28 w29 =>
  call P f_impl_num_odd [x31_28] w29 fun x32_30 w31 =>
  bsl P 102 1 [(0, x32_30)] w31 fun x33_32 w33 =>
  bl2 P .append #[102, 102] 102 [x7_23, x33_32] w33 fun x34_34 w35 =>
  bin P .add 3 false true x25_24 (.int .i64 1) w35 fun x35_36 =>
  ∃ m37, m37 < m22 ∧ I19 m37 x34_34 x35_36 w35)
  (ld P 27 x2_1 w21 fun x37_38 =>
  bld P 113 [(0, (.func (.func 81) #[] #[])), (1, (.func (.func 82) #[] #[])), (2, (.func (.func 83) #[] #[]))] w21 fun x39_39 =>
  call P f_impl_run_impl_num [x37_38, x7_23, x39_39] w21 fun x40_40 w41 =>
  xtr P x40_40 0 w41 fun x41_42 =>
  xtr P x40_40 1 w41 fun x42_43 =>
  alc P 105 w41 fun x10_44 w45 =>
  sto P 105 x10_44 x41_42 w45 fun w47 =>
  bin P .neq 2 false true x42_43 (.int .i64 0) w47 fun x44_48 =>
  cnd x44_48
  (bld P 57 [] w47 fun x45_49 =>
  sto P 57 x4_3 x45_49 w47 fun w51 =>
  ldc P 57 x4_3 w51 fun r52 =>
  K (.tuple #[r52, x42_43]) w51)
  (ld P 105 x10_44 w47 fun x47_53 =>
  call P f_impl_num_dyadic [x47_53] w47 fun x48_54 w55 =>
  xtr P x48_54 0 w55 fun x49_56 =>
  xtr P x48_54 1 w55 fun x50_57 =>
  sto P 57 x4_3 x49_56 w55 fun w59 =>
  ldc P 57 x4_3 w59 fun r60 =>
  K (.tuple #[r60, x50_57]) w59)))
def P_impl_RunExact : Plan := (.seq (.reg [.op (0, 2, false), .op (1, 2, false), .op (2, 0, false)]) (.seq (.seq (.reg [.op (0, 0, false), .op (1, 0, false), .op (3, 0, false), .op (4, 0, false), .op (2, 2, true), .op (5, 2, false), .op (6, 0, false)]) (.seq (.reg [.op (0, 0, false), .op (1, 0, false)]) (.cond (.seq (.reg [.op (0, 0, false), .op (1, 0, false), .op (2, 2, false), .op (3, 0, false)]) .leaf) .leaf))) (.seq (.reg [.op (0, 2, false), .op (1, 0, false)]) (.seq (.seq (.reg [.op (0, 0, false), .op (1, 0, false), .op (2, 0, false)]) (.blk (.loop [7, 25] 68685922944 (.seq (.reg [.op (0, 0, false)]) (.seq (.cond .leaf .leaf) (.seq (.blk (.seq (.reg [.op (0, 0, false), .op (1, 0, false), .op (2, 0, false)]) (.reg [.op (0, 0, false), .op (1, 0, false), .op (2, 2, false), .op (3, 2, false), .op (4, 2, false), .op (5, 2, false), .op (6, 0, false)]))) (.reg [.op (0, 0, false), .op (1, 0, false)]))))))) (.seq (.reg [.op (0, 0, false), .op (1, 0, false), .op (2, 0, false), .op (3, 2, false), .op (4, 0, false), .op (5, 0, false), .op (6, 0, false), .op (7, 2, false), .op (8, 2, false), .op (9, 0, false)]) (.seq (.seq (.reg [.op (0, 0, false), .op (1, 0, false)]) (.cond (.seq (.reg [.op (0, 0, false), .op (1, 0, false), .op (2, 2, false), .op (3, 0, false)]) .leaf) .leaf)) (.seq (.reg [.op (0, 0, false), .op (1, 2, false), .op (2, 0, false), .op (3, 0, false), .op (4, 2, false), .op (5, 0, false)]) .leaf)))))))
theorem I_impl_RunExact {a0 a1 : Value} {w : World} {K : Value → World → Prop} (h : D_impl_RunExact a0 a1 w K) : call P f_impl_RunExact [a0, a1] w K :=
  call_of_vc mixed Tryz.func34 (c := codeOf Tryz.f34) (by kernel_rfl) (by kernel_rfl) (p := P_impl_RunExact) (by kernel_rfl) (by rw [Tryz.ntmps34]; simp) (by
    have e : D_impl_RunExact a0 a1 w K = vc P P_impl_RunExact (codeOf Tryz.f34) (env0 [a0, a1]) w (retX P Tryz.f34.results.toList K) := by kernel_rfl
    exact e ▸ h)

/-- impl.depthOf -/
def D_impl_depthOf (a0 : Value) (w : World) (K : Value → World → Prop) : Prop :=
  bl0 P .len #[22] 3 [a0] w fun x10_1 =>
  bin P .lss 3 false true x10_1 (.int .i64 1) w fun x11_2 =>
  ∃ J3 : Value → World → Prop, (∀ (x15_4 : Value) (junk6 : Env) (w5 : World), J3 x15_4 w5 →
  pick x11_2 (.bool true) x15_4 fun x16_7 =>
  cnd x16_7
  (K (.tuple #[(.int .i64 0), (.bool false)]) w5)
  (bl0 P .len #[22] 3 [a0] w5 fun x18_8 =>
  ∃ I9 : Nat → Value → Value → Value → World → Prop, (∃ m40, I9 m40 (.int .i64 0) (.int .i64 0) (.int .i64 0) w5) ∧ ∀ (m12 : Nat) (x4_13 : Value) (x5_14 : Value) (x19_15 : Value) (junk10 : Env) (w11 : World), I9 m12 x4_13 x5_14 x19_15 w11 →
  bin P .lss 3 false false x19_15 x18_8 w11 fun x20_16 =>
  cnd x20_16
  (ixa P 22 a0 x19_15 w11 fun x21_17 =>
  ld P 9 x21_17 w11 fun x22_18 =>
  call P f_impl_form [x22_18] w11 fun x24_19 w20 =>
  bin P .lss 3 false true x24_19 (.int .i64 0) w20 fun x26_21 =>
  ∃ J22 : Value → World → Prop, (∀ (x30_23 : Value) (junk25 : Env) (w24 : World), J22 x30_23 w24 →
  pick x26_21 (.bool true) x30_23 fun x31_26 =>
  cnd x31_26
  (K (.tuple #[(.int .i64 0), (.bool false)]) w24)
  (bin P .sub 3 true false (.int .i64 1) x24_19 w24 fun x34_27 =>
  bin P .add 3 false false x4_13 x34_27 w24 fun x35_28 =>
  bl0 P .max #[3, 3] 3 [x5_14, x35_28] w24 fun x38_29 =>
  bin P .add 3 false true x19_15 (.int .i64 1) w24 fun x39_30 =>
  ∃ m31, m31 < m12 ∧ I9 m31 x35_28 x38_29 x39_30 w24)) ∧
  grd x26_21 false
  (bin P .lss 3 false false x4_13 x24_19 w20 fun x30_32 =>
  J22 x30_32 w20)
  (J22 undef w20))
  (bin P .eql 3 false true x4_13 (.int .i64 1) w11 fun x42_33 =>
  ∃ J34 : Value → World → Prop, (∀ (x45_35 : Value) (junk37 : Env) (w36 : World), J34 x45_35 w36 →
  pick x42_33 x45_35 (.bool false) fun x46_38 =>
  K (.tuple #[x5_14, x46_38]) w36) ∧
  grd x42_33 true
  (bin P .leq 3 false true x5_14 (.int .i64 16) w11 fun x45_39 =>
  J34 x45_39 w11)
  (J34 undef w11)))) ∧
  grd x11_2 false
  (bl0 P .len #[22] 3 [a0] w fun x14_41 =>
  bin P .gtr 3 false true x14_41 (.int .i64 60) w fun x15_42 =>
  J3 x15_42 w)
  (J3 undef w)
def P_impl_depthOf : Plan := (.seq (.reg [.op (0, 0, false), .op (1, 0, false)]) (.seq (.seq (.reg [.op (0, 0, false), .op (1, 0, false), .op (2, 0, false), .op (3, 0, false), .grp 3 false [(4, 0, false), (5, 0, false), (6, 0, false)] [15] 57344, .op (7, 0, false)]) (.cond (.seq (.reg [.op (0, 0, false), .op (1, 0, false)]) .leaf) .leaf)) (.seq (.reg [.op (0, 0, false), .op (1, 0, false)]) (.seq (.seq (.reg [.op (0, 0, false), .op (1, 0, false), .op (2, 0, false)]) (.blk (.loop [4, 5, 19] 1099511103932 (.seq (.reg [.op (0, 0, false)]) (.seq (.cond .leaf .leaf) (.seq (.blk (.seq (.reg [.op (0, 0, false), .op (1, 0, false), .op (2, 0, false)]) (.seq (.reg [.op (0, 0, false), .op (1, 2, false), .op (2, 0, false)]) (.seq (.seq (.reg [.op (0, 0, false), .op (1, 0, false), .op (2, 0, false), .grp 2 false [(3, 0, false), (4, 0, false), (5, 0, false)] [30] 1879048192, .op (6, 0, false)]) (.cond (.seq (.reg [.op (0, 0, false), .op (1, 0, false)]) .leaf) .leaf)) (.seq (.reg [.op (0, 0, false), .op (1, 0, false), .op (2, 0, false), .op (3, 0, false), .op (4, 0, false)]) (.reg [.op (0, 0, false), .op (1, 0, false), .op (2, 0, false), .op (3, 0, false)])))))) (.reg [.op (0, 0, false), .op (1, 0, false)]))))))) (.seq (.reg [.op (0, 0, false), .op (1, 0, false), .op (2, 0, false), .op (3, 0, false), .grp 3 true [(4, 0, false), (5, 0, false)] [45] 52776558133248, .op (6, 0, false), .op (7, 0, false), .op (8, 0, false)]) .leaf)))))
theorem I_impl_depthOf {a0 : Value} {w : World} {K : Value → World → Prop} (h : D_impl_depthOf a0 w K) : call P f_impl_depthOf [a0] w K :=
  call_of_vc mixed Tryz.func54 (c := codeOf Tryz.f54) (by kernel_rfl) (by kernel_rfl) (p := P_impl_depthOf) (by kernel_rfl) (by rw [Tryz.ntmps54]; simp) (by
    have e : D_impl_depthOf a0 w K = vc P P_impl_depthOf (codeOf Tryz.f54) (env0 [a0]) w (retX P Tryz.f54.results.toList K) := by kernel_rfl
    exact e ▸ h)

/-- impl.needs -/
def D_impl_needs (a0 : Value) (w : World) (K : Value → World → Prop) : Prop :=
  bx P 27 a0 w fun x1_1 w2 =>
  fda P 27 x1_1 0 w2 fun x6_3 =>
  ld P 22 x6_3 w2 fun x7_4 =>
  bl0 P .len #[22] 3 [x7_4] w2 fun x8_5 =>
  ∃ I6 : Nat → Value → Value → World → Prop, (∃ m21, I6 m21 (.int .i64 0) (.int .i64 0) w2) ∧ ∀ (m9 : Nat) (x3_10 : Value) (x9_11 : Value) (junk7 : Env) (w8 : World), I6 m9 x3_10 x9_11 w8 →
  bin P .lss 3 false false x9_11 x8_5 w8 fun x10_12 =>
  cnd x10_12
  (ixa P 22 x7_4 x9_11 w8 fun x11_13 =>
  ld P 9 x11_13 w8 fun x12_14 =>
  call P f_impl_variable [x12_14] w8 fun x15_15 w16 =>
  bin P .add 3 false true x15_15 (.int .i64 1) w16 fun x16_17 =>
  bl0 P .max #[3, 3] 3 [x3_10, x16_17] w16 fun x17_18 =>
  bin P .add 3 false true x9_11 (.int .i64 1) w16 fun x18_19 =>
  ∃ m20, m20 < m9 ∧ I6 m20 x17_18 x18_19 w16)
  (K x3_10 w8)
def P_impl_needs : Plan := (.seq (.reg [.op (0, 2, false), .op (1, 0, false)]) (.seq (.reg [.op (0, 0, false)]) (.seq (.seq (.reg [.op (0, 0, false), .op (1, 0, false), .op (2, 0, false), .op (3, 0, false)]) (.blk (.loop [3, 9] 523816 (.seq (.reg [.op (0, 0, false)]) (.seq (.cond .leaf .leaf) (.seq (.blk (.seq (.reg [.op (0, 0, false), .op (1, 0, false), .op (2, 0, false)]) (.reg [.op (0, 0, false), .op (1, 0, false), .op (2, 2, false), .op (3, 0, false), .op (4, 0, false), .op (5, 0, false)]))) (.reg [.op (0, 0, false), .op (1, 0, false)]))))))) (.seq (.reg [.op (0, 0, false), .op (1, 0, false)]) .leaf))))
theorem I_impl_needs {a0 : Value} {w : World} {K : Value → World → Prop} (h : D_impl_needs a0 w K) : call P f_impl_needs [a0] w K :=
  call_of_vc mixed Tryz.func58 (c := codeOf Tryz.f58) (by kernel_rfl) (by kernel_rfl) (p := P_impl_needs) (by kernel_rfl) (by rw [Tryz.ntmps58]; simp) (by
    have e : D_impl_needs a0 w K = vc P P_impl_needs (codeOf Tryz.f58) (env0 [a0]) w (retX P Tryz.f58.results.toList K) := by kernel_rfl
    exact e ▸ h)

/-- impl.asked -/
def D_impl_asked (a0 a1 a2 : Value) (w : World) (K : Value → World → Prop) : Prop :=
  bx P 27 a0 w fun x3_1 w2 =>
  ld P 27 x3_1 w2 fun x8_3 =>
  call P f_impl_IsProgram [x8_3] w2 fun x9_4 w5 =>
  una P .not x9_4 w5 fun x10_6 =>
  ∃ J7 : Value → World → Prop, (∀ (x13_8 : Value) (junk10 : Env) (w9 : World), J7 x13_8 w9 →
  pick x10_6 (.bool true) x13_8 fun x14_11 =>
  cnd x14_11
  (K (.int .i64 1) w9)
  (ld P 27 x3_1 w9 fun x17_12 =>
  call P f_impl_needs [x17_12] w9 fun x18_13 w14 =>
  bin P .lss 3 false false a2 x18_13 w14 fun x19_15 =>
  ∃ J16 : Value → World → Prop, (∀ (x22_17 : Value) (junk19 : Env) (w18 : World), J16 x22_17 w18 →
  pick x19_15 (.bool true) x22_17 fun x23_20 =>
  cnd x23_20
  (K (.int .i64 2) w18)
  (K (.int .i64 0) w18)) ∧
  grd x19_15 false
  (bin P .gtr 3 false true a2 (.int .i64 3) w14 fun x22_21 =>
  J16 x22_21 w14)
  (J16 undef w14))) ∧
  grd x10_6 false
  (una P .not a1 w5 fun x13_22 =>
  J7 x13_22 w5)
  (J7 undef w5)
def P_impl_asked : Plan := (.seq (.reg [.op (0, 2, false), .op (1, 0, false)]) (.seq (.blk (.seq (.reg [.op (0, 0, false), .op (1, 2, false), .op (2, 0, false), .op (3, 0, false), .grp 3 false [(4, 0, false), (5, 0, false)] [13] 12288, .op (6, 0, false), .op (7, 0, false)]) (.cond (.seq (.reg [.op (0, 0, false)]) .leaf) (.seq (.reg [.op (0, 0, false), .op (1, 0, false), .op (2, 2, false), .op (3, 0, false), .op (4, 0, false), .grp 4 false [(5, 0, false), (6, 0, false)] [22] 6291456, .op (7, 0, false), .op (8, 0, false)]) (.cond (.seq (.reg [.op (0, 0, false)]) .leaf) .leaf))))) (.seq (.reg [.op (0, 0, false)]) .leaf)))
theorem I_impl_asked {a0 a1 a2 : Value} {w : World} {K : Value → World → Prop} (h : D_impl_asked a0 a1 a2 w K) : call P f_impl_asked [a0, a1, a2] w K :=
  call_of_vc mixed Tryz.func76 (c := codeOf Tryz.f76) (by kernel_rfl) (by kernel_rfl) (p := P_impl_asked) (by kernel_rfl) (by rw [Tryz.ntmps76]; simp) (by
    have e : D_impl_asked a0 a1 a2 w K = vc P P_impl_asked (codeOf Tryz.f76) (env0 [a0, a1, a2]) w (retX P Tryz.f76.results.toList K) := by kernel_rfl
    exact e ▸ h)

/-- impl.run[impl.num] -/
def D_impl_run_impl_num (a0 a1 a2 : Value) (w : World) (K : Value → World → Prop) : Prop :=
  bx P 27 a0 w fun x3_1 w2 =>
  bx P 113 a2 w2 fun x5_3 w4 =>
  alc P 105 w4 fun x6_5 w6 =>
  alc P 105 w6 fun x19_7 w8 =>
  nch x19_7 fun x20_9 =>
  ld P 105 x20_9 w8 fun x21_10 =>
  alc P 105 w8 fun x8_11 w12 =>
  sto P 105 x8_11 x21_10 w12 fun w14 =>
  bsl P 102 0 [] w14 fun x22_15 w16 =>
  fda P 27 x3_1 0 w16 fun x23_17 =>
  ld P 22 x23_17 w16 fun x24_18 =>
  bl0 P .len #[22] 3 [x24_18] w16 fun x25_19 =>
  ∃ I20 : Nat → Value → Value → World → Prop, (∃ m117, I20 m117 x22_15 (.int .i64 0) w16) ∧ ∀ (m23 : Nat) (x9_24 : Value) (x26_25 : Value) (junk21 : Env) (w22 : World), I20 m23 x9_24 x26_25 w22 →
  bin P .lss 3 false false x26_25 x25_19 w22 fun x27_26 =>
  cnd x27_26
  (ixa P 22 x24_18 x26_25 w22 fun x28_27 =>
  ld P 9 x28_27 w22 fun x29_28 =>
  call P f_impl_variable [x29_28] w22 fun x31_29 w30 =>
  bin P .geq 3 false true x31_29 (.int .i64 0) w30 fun x33_31 =>
  cnd x33_31
  (ixa P 102 a1 x31_29 w30 fun x37_32 =>
  ld P 105 x37_32 w30 fun x38_33 =>
  bsl P 102 1 [(0, x38_33)] w30 fun x39_34 w35 =>
  bl2 P .append #[102, 102] 102 [x9_24, x39_34] w35 fun x40_36 w37 =>
  bin P .add 3 false true x26_25 (.int .i64 1) w37 fun x101_38 =>
  ∃ m39, m39 < m23 ∧ I20 m39 x40_36 x101_38 w37)
  (call P f_impl_form [x29_28] w30 fun x42_40 w41 =>
  bin P .eql 3 false true x42_40 (.int .i64 0) w41 fun x44_42 =>
  cnd x44_42
  (call P f_impl_parseFloat [x29_28] w41 fun x47_43 w44 =>
  xtr P x47_43 0 w44 fun x48_45 =>
  xtr P x47_43 1 w44 fun x49_46 =>
  fda P 113 x5_3 0 w44 fun x51_47 =>
  ld P 106 x51_47 w44 fun x52_48 =>
  callv P x52_48 [x48_45] w44 fun x54_49 w50 =>
  bsl P 102 1 [(0, x54_49)] w50 fun x55_51 w52 =>
  bl2 P .append #[102, 102] 102 [x9_24, x55_51] w52 fun x56_53 w54 =>
  bin P .add 3 false true x26_25 (.int .i64 1) w54 fun x101_55 =>
  ∃ m56, m56 < m23 ∧ I20 m56 x56_53 x101_55 w54)
  (bl0 P .len #[102] 3 [x9_24] w41 fun x59_57 =>
  bin P .sub 3 false true x59_57 (.int .i64 1) w41 fun x60_58 =>
  ixa P 102 x9_24 x60_58 w41 fun x61_59 =>
  ld P 105 x61_59 w41 fun x62_60 =>
  alc P 105 w41 fun x16_61 w62 =>
  sto P 105 x16_61 x62_60 w62 fun w64 =>
  ld P 105 x8_11 w64 fun x63_65 =>
  alc P 105 w64 fun x17_66 w67 =>
  sto P 105 x17_66 x63_65 w67 fun w69 =>
  ∃ J70 : Value → World → Prop, (∀ (x18_73 : Value) (junk71 : Env) (w72 : World), J70 x18_73 w72 →
  bin P .neq 2 false true x18_73 (.int .i64 0) w72 fun x89_74 =>
  cnd x89_74
  (ld P 105 x8_11 w72 fun x90_75 =>
  sto P 105 x6_5 x90_75 w72 fun w77 =>
  ldc P 105 x6_5 w77 fun r78 =>
  K (.tuple #[r78, x18_73]) w77)
  (bl0 P .len #[102] 3 [x9_24] w72 fun x94_79 =>
  bin P .sub 3 false false x94_79 x42_40 w72 fun x96_80 =>
  sli P 102 x9_24 none (some x96_80) none w72 fun x97_81 =>
  ld P 105 x17_66 w72 fun x98_82 =>
  bsl P 102 1 [(0, x98_82)] w72 fun x99_83 w84 =>
  Ext w72 w84 ∧ bl2 P .append #[102, 102] 102 [x97_81, x99_83] w84 fun x100_85 w86 =>
  bin P .add 3 false true x26_25 (.int .i64 1) w86 fun x101_87 =>
  ∃ m88, m88 < m23 ∧ I20 m88 x100_85 x101_87 w86)) ∧
  (bin P .eql 3 false true x42_40 (.int .i64 1) w69 fun x65_89 =>
  cnd x65_89
  (fda P 113 x5_3 1 w69 fun x67_90 =>
  ld P 110 x67_90 w69 fun x68_91 =>
  ld P 105 x16_61 w69 fun x70_92 =>
  callv P x68_91 [x29_28, x70_92] w69 fun x71_93 w94 =>
  xtr P x71_93 0 w94 fun x72_95 =>
  xtr P x71_93 1 w94 fun x73_96 =>
  sto P 105 x17_66 x72_95 w94 fun w98 =>
  J70 x73_96 w98)
  (fda P 113 x5_3 2 w69 fun x75_99 =>
  ld P 111 x75_99 w69 fun x76_100 =>
  bl0 P .len #[102] 3 [x9_24] w69 fun x80_101 =>
  bin P .sub 3 false true x80_101 (.int .i64 2) w69 fun x81_102 =>
  ixa P 102 x9_24 x81_102 w69 fun x82_103 =>
  ld P 105 x82_103 w69 fun x83_104 =>
  ld P 105 x16_61 w69 fun x84_105 =>
  callv P x76_100 [x29_28, x83_104, x84_105] w69 fun x85_106 w107 =>
  xtr P x85_106 0 w107 fun x86_108 =>
  xtr P x85_106 1 w107 fun x87_109 =>
  sto P 105 x17_66 x86_108 w107 fun w111 =>
  (xtr P x85_106 1 w111 fun z => z = x87_109) ∧ J70 x87_109 w111)))))
  (ixa P 102 x9_24 (.int .i64 0) w22 fun x103_112 =>
  ld P 105 x103_112 w22 fun x104_113 =>
  sto P 105 x6_5 x104_113 w22 fun w115 =>
  ldc P 105 x6_5 w115 fun r116 =>
  K (.tuple #[r116, (.int .i64 0)]) w115)
def P_impl_run_impl_num : Plan := (.seq (.reg [.op (0, 2, false), .op (1, 2, false), .op (2, 2, false), .op (3, 0, false)]) (.seq (.reg [.op (0, 2, false), .op (1, 0, false), .op (2, 0, false), .op (3, 2, false), .op (4, 2, false)]) (.seq (.reg [.op (0, 2, false), .op (1, 0, false)]) (.seq (.seq (.reg [.op (0, 0, false), .op (1, 0, false), .op (2, 0, false), .op (3, 0, false)]) (.blk (.loop [9, 26] 5070602400912917605986746235520 (.seq (.reg [.op (0, 0, false)]) (.seq (.cond .leaf .leaf) (.seq (.blk (.seq (.reg [.op (0, 0, false), .op (1, 0, false), .op (2, 0, false)]) (.seq (.seq (.reg [.op (0, 0, false), .op (1, 2, false), .op (2, 0, false)]) (.seq (.reg [.op (0, 0, false), .op (1, 0, false)]) (.cond (.seq (.reg [.op (0, 0, false), .op (1, 0, false), .op (2, 0, false), .op (3, 0, false), .op (4, 0, false), .op (5, 2, false), .op (6, 2, false), .op (7, 0, false)]) .leaf) .leaf))) (.seq (.reg [.op (0, 0, false), .op (1, 2, false), .op (2, 0, false)]) (.seq (.seq (.reg [.op (0, 0, false), .op (1, 0, false)]) (.cond (.seq (.reg [.op (0, 0, false), .op (1, 2, false), .op (2, 0, false), .op (3, 0, false), .op (4, 0, false), .op (5, 0, false), .op (6, 0, false)]) (.seq (.reg [.op (0, 0, false), .op (1, 0, false), .op (2, 0, false), .op (3, 0, false), .op (4, 2, false), .op (5, 2, false), .op (6, 2, false), .op (7, 0, false)]) .leaf)) .leaf)) (.seq (.reg [.op (0, 0, false), .op (1, 0, false), .op (2, 0, false), .op (3, 0, false), .op (4, 0, false), .op (5, 0, false), .op (6, 2, false), .op (7, 2, false)]) (.seq (.reg [.op (0, 0, false), .op (1, 2, false), .op (2, 2, false), .op (3, 0, false)]) (.cut [18] 309484991374600995015491584 (.seq (.reg [.op (0, 0, false), .op (1, 0, false)]) (.cond (.reg [.op (0, 0, false), .op (1, 0, false), .op (2, 0, false), .op (3, 0, false), .op (4, 2, false), .op (5, 0, false), .op (6, 0, false), .op (7, 0, false), .op (8, 2, false), .op (9, 0, false)]) (.reg [.op (0, 0, false), .op (1, 0, false), .op (2, 0, false), .op (3, 0, false), .op (4, 0, false), .op (5, 0, false), .op (6, 0, false), .op (7, 0, false), .op (8, 0, false), .op (9, 0, false), .op (10, 2, false), .op (11, 0, false), .op (12, 0, false), .op (13, 0, false), .op (14, 8194, false), .op (15, 0, false)]))) (.seq (.seq (.reg [.op (0, 0, false), .op (1, 0, false)]) (.cond (.seq (.reg [.op (0, 0, false), .op (1, 0, false), .op (2, 2, false), .op (3, 0, false)]) .leaf) .leaf)) (.reg [.op (0, 0, false), .op (1, 0, false), .op (2, 0, false), .op (3, 0, false), .op (4, 0, false), .op (5, 0, false), .op (6, 0, false), .op (7, 2, true), .op (8, 2, false), .op (9, 0, false)])))))))))) (.reg [.op (0, 0, false), .op (1, 0, false)]))))))) (.seq (.reg [.op (0, 0, false), .op (1, 0, false), .op (2, 0, false), .op (3, 2, false), .op (4, 0, false)]) .leaf)))))
theorem I_impl_run_impl_num {a0 a1 a2 : Value} {w : World} {K : Value → World → Prop} (h : D_impl_run_impl_num a0 a1 a2 w K) : call P f_impl_run_impl_num [a0, a1, a2] w K :=
  call_of_vc mixed Tryz.func80 (c := codeOf Tryz.f80) (by kernel_rfl) (by kernel_rfl) (p := P_impl_run_impl_num) (by kernel_rfl) (by rw [Tryz.ntmps80]; simp) (by
    have e : D_impl_run_impl_num a0 a1 a2 w K = vc P P_impl_run_impl_num (codeOf Tryz.f80) (env0 [a0, a1, a2]) w (retX P Tryz.f80.results.toList K) := by kernel_rfl
    exact e ▸ h)

/-- impl.RunExact$1 -/
def D_impl_RunExact_1 (a0 : Value) (w : World) (K : Value → World → Prop) : Prop :=
  alc P 105 w fun x2_1 w2 =>
  call P f_impl_numOf [a0] w2 fun x4_3 w4 =>
  call P f_impl_num_odd [x4_3] w4 fun x5_5 w6 =>
  sto P 105 x2_1 x5_5 w6 fun w8 =>
  ldc P 105 x2_1 w8 fun r9 =>
  K r9 w8
def P_impl_RunExact_1 : Plan := (.seq (.reg [.op (0, 2, false)]) (.seq (.reg [.op (0, 0, false), .op (1, 2, false), .op (2, 2, false), .op (3, 2, false)]) .leaf))
theorem I_impl_RunExact_1 {a0 : Value} {w : World} {K : Value → World → Prop} (h : D_impl_RunExact_1 a0 w K) : call P f_impl_RunExact_1 [a0] w K :=
  call_of_vc mixed Tryz.func81 (c := codeOf Tryz.f81) (by kernel_rfl) (by kernel_rfl) (p := P_impl_RunExact_1) (by kernel_rfl) (by rw [Tryz.ntmps81]; simp) (by
    have e : D_impl_RunExact_1 a0 w K = vc P P_impl_RunExact_1 (codeOf Tryz.f81) (env0 [a0]) w (retX P Tryz.f81.results.toList K) := by kernel_rfl
    exact e ▸ h)

/-- impl.exactOne -/
def D_impl_exactOne (a0 a1 : Value) (w : World) (K : Value → World → Prop) : Prop :=
  bx P 105 a1 w fun x3_1 w2 =>
  alc P 105 w2 fun x4_3 w4 =>
  bin P .eql 9 false true a0 (.string ⟨#[110, 101, 103]⟩) w4 fun x8_5 =>
  cnd x8_5
  (ld P 105 x3_1 w4 fun x9_6 =>
  call P f_impl_num_neg [x9_6] w4 fun x10_7 w8 =>
  sto P 105 x4_3 x10_7 w8 fun w10 =>
  ldc P 105 x4_3 w10 fun r11 =>
  K (.tuple #[r11, (.int .i64 0)]) w10)
  (bin P .eql 9 false true a0 (.string ⟨#[115, 113, 114]⟩) w4 fun x12_12 =>
  cnd x12_12
  (ld P 105 x3_1 w4 fun x13_13 =>
  ld P 105 x3_1 w4 fun x14_14 =>
  call P f_impl_num_mul [x13_13, x14_14] w4 fun x15_15 w16 =>
  call P f_impl_kept [x15_15] w16 fun x16_17 w18 =>
  xtr P x16_17 0 w18 fun x17_19 =>
  xtr P x16_17 1 w18 fun x18_20 =>
  sto P 105 x4_3 x17_19 w18 fun w22 =>
  ldc P 105 x4_3 w22 fun r23 =>
  K (.tuple #[r23, x18_20]) w22)
  (bin P .eql 9 false true a0 (.string ⟨#[97, 98, 115]⟩) w4 fun x20_24 =>
  cnd x20_24
  (ld P 105 x3_1 w4 fun x21_25 =>
  call P f_impl_num_abs [x21_25] w4 fun x22_26 w27 =>
  sto P 105 x4_3 x22_26 w27 fun w29 =>
  ldc P 105 x4_3 w29 fun r30 =>
  K (.tuple #[r30, (.int .i64 0)]) w29)
  (bld P 105 [] w4 fun x23_31 =>
  sto P 105 x4_3 x23_31 w4 fun w33 =>
  ldc P 105 x4_3 w33 fun r34 =>
  K (.tuple #[r34, (.int .i64 5)]) w33)))
def P_impl_exactOne : Plan := (.seq (.reg [.op (0, 2, false), .op (1, 2, false), .op (2, 0, false)]) (.seq (.seq (.reg [.op (0, 0, false)]) (.blk (.seq (.reg [.op (0, 0, false), .op (1, 0, false)]) (.cond (.seq (.reg [.op (0, 0, false), .op (1, 2, false), .op (2, 2, false), .op (3, 0, false)]) .leaf) (.seq (.reg [.op (0, 0, false), .op (1, 0, false)]) (.cond (.seq (.reg [.op (0, 0, false), .op (1, 0, false), .op (2, 2, false), .op (3, 2, false), .op (4, 0, false), .op (5, 0, false), .op (6, 2, false), .op (7, 0, false)]) .leaf) (.seq (.reg [.op (0, 0, false), .op (1, 0, false)]) (.cond (.seq (.reg [.op (0, 0, false), .op (1, 2, false), .op (2, 2, false), .op (3, 0, false)]) .leaf) .leaf)))))))) (.seq (.reg [.op (0, 0, false), .op (1, 2, false), .op (2, 0, false)]) .leaf)))
theorem I_impl_exactOne {a0 a1 : Value} {w : World} {K : Value → World → Prop} (h : D_impl_exactOne a0 a1 w K) : call P f_impl_exactOne [a0, a1] w K :=
  call_of_vc mixed Tryz.func82 (c := codeOf Tryz.f82) (by kernel_rfl) (by kernel_rfl) (p := P_impl_exactOne) (by kernel_rfl) (by rw [Tryz.ntmps82]; simp) (by
    have e : D_impl_exactOne a0 a1 w K = vc P P_impl_exactOne (codeOf Tryz.f82) (env0 [a0, a1]) w (retX P Tryz.f82.results.toList K) := by kernel_rfl
    exact e ▸ h)

/-- impl.exactTwo -/
def D_impl_exactTwo (a0 a1 a2 : Value) (w : World) (K : Value → World → Prop) : Prop :=
  bx P 105 a1 w fun x4_1 w2 =>
  bx P 105 a2 w2 fun x5_3 w4 =>
  alc P 105 w4 fun x6_5 w6 =>
  bin P .eql 9 false true a0 (.string ⟨#[43]⟩) w6 fun x11_7 =>
  cnd x11_7
  (ld P 105 x4_1 w6 fun x12_8 =>
  ld P 105 x5_3 w6 fun x13_9 =>
  call P f_impl_num_add [x12_8, x13_9] w6 fun x14_10 w11 =>
  call P f_impl_kept [x14_10] w11 fun x15_12 w13 =>
  xtr P x15_12 0 w13 fun x16_14 =>
  xtr P x15_12 1 w13 fun x17_15 =>
  sto P 105 x6_5 x16_14 w13 fun w17 =>
  ldc P 105 x6_5 w17 fun r18 =>
  K (.tuple #[r18, x17_15]) w17)
  (bin P .eql 9 false true a0 (.string ⟨#[45]⟩) w6 fun x19_19 =>
  cnd x19_19
  (ld P 105 x4_1 w6 fun x20_20 =>
  ld P 105 x5_3 w6 fun x21_21 =>
  call P f_impl_num_sub [x20_20, x21_21] w6 fun x22_22 w23 =>
  call P f_impl_kept [x22_22] w23 fun x23_24 w25 =>
  xtr P x23_24 0 w25 fun x24_26 =>
  xtr P x23_24 1 w25 fun x25_27 =>
  sto P 105 x6_5 x24_26 w25 fun w29 =>
  ldc P 105 x6_5 w29 fun r30 =>
  K (.tuple #[r30, x25_27]) w29)
  (bin P .eql 9 false true a0 (.string ⟨#[42]⟩) w6 fun x27_31 =>
  cnd x27_31
  (ld P 105 x4_1 w6 fun x28_32 =>
  ld P 105 x5_3 w6 fun x29_33 =>
  call P f_impl_num_mul [x28_32, x29_33] w6 fun x30_34 w35 =>
  call P f_impl_kept [x30_34] w35 fun x31_36 w37 =>
  xtr P x31_36 0 w37 fun x32_38 =>
  xtr P x31_36 1 w37 fun x33_39 =>
  sto P 105 x6_5 x32_38 w37 fun w41 =>
  ldc P 105 x6_5 w41 fun r42 =>
  K (.tuple #[r42, x33_39]) w41)
  (bin P .eql 9 false true a0 (.string ⟨#[47]⟩) w6 fun x35_43 =>
  cnd x35_43
  (bld P 105 [] w6 fun x36_44 =>
  sto P 105 x6_5 x36_44 w6 fun w46 =>
  ldc P 105 x6_5 w46 fun r47 =>
  K (.tuple #[r47, (.int .i64 5)]) w46)
  (ld P 105 x4_1 w6 fun x37_48 =>
  ld P 105 x5_3 w6 fun x38_49 =>
  call P f_impl_num_cmp [x37_48, x38_49] w6 fun x39_50 w51 =>
  bin P .gtr 3 false true x39_50 (.int .i64 0) w51 fun x41_52 =>
  ∃ J53 : Value → World → Prop, (∀ (x44_54 : Value) (junk56 : Env) (w55 : World), J53 x44_54 w55 →
  pick x41_52 x44_54 (.bool false) fun x45_57 =>
  ∃ J58 : Value → World → Prop, (∀ (x49_59 : Value) (junk61 : Env) (w60 : World), J58 x49_59 w60 →
  ∃ J62 : Value → World → Prop, (∀ (x51_63 : Value) (junk65 : Env) (w64 : World), J62 x51_63 w64 →
  ∃ J66 : Value → World → Prop, (∀ (x52_67 : Value) (junk69 : Env) (w68 : World), J66 x52_67 w68 →
  pick x45_57 (.bool true) x52_67 fun x53_70 =>
  cnd x53_70
  (ld P 105 x5_3 w68 fun x54_71 =>
  sto P 105 x6_5 x54_71 w68 fun w73 =>
  ldc P 105 x6_5 w73 fun r74 =>
  K (.tuple #[r74, (.int .i64 0)]) w73)
  (ld P 105 x4_1 w68 fun x55_75 =>
  sto P 105 x6_5 x55_75 w68 fun w77 =>
  ldc P 105 x6_5 w77 fun r78 =>
  K (.tuple #[r78, (.int .i64 0)]) w77)) ∧
  grd x45_57 false
  (pick x49_59 x51_63 (.bool false) fun x52_79 =>
  J66 x52_79 w64)
  (J66 undef w64)) ∧
  grd x49_59 true
  (bin P .eql 9 false true a0 (.string ⟨#[109, 97, 120]⟩) w60 fun x51_80 =>
  J62 x51_80 w60)
  (J62 undef w60)) ∧
  grd x45_57 false
  (bin P .lss 3 false true x39_50 (.int .i64 0) w55 fun x48_81 =>
  J58 x48_81 w55)
  (J58 undef w55)) ∧
  grd x41_52 true
  (bin P .eql 9 false true a0 (.string ⟨#[109, 105, 110]⟩) w51 fun x44_82 =>
  J53 x44_82 w51)
  (J53 undef w51)))))
def P_impl_exactTwo : Plan := (.seq (.reg [.op (0, 2, false), .op (1, 2, false), .op (2, 2, false), .op (3, 0, false)]) (.seq (.seq (.reg [.op (0, 0, false)]) (.blk (.seq (.reg [.op (0, 0, false), .op (1, 0, false)]) (.cond (.seq (.reg [.op (0, 0, false), .op (1, 0, false), .op (2, 2, false), .op (3, 2, false), .op (4, 0, false), .op (5, 0, false), .op (6, 2, false), .op (7, 0, false)]) .leaf) (.seq (.reg [.op (0, 0, false), .op (1, 0, false)]) (.cond (.seq (.reg [.op (0, 0, false), .op (1, 0, false), .op (2, 2, false), .op (3, 2, false), .op (4, 0, false), .op (5, 0, false), .op (6, 2, false), .op (7, 0, false)]) .leaf) (.seq (.reg [.op (0, 0, false), .op (1, 0, false)]) (.cond (.seq (.reg [.op (0, 0, false), .op (1, 0, false), .op (2, 2, false), .op (3, 2, false), .op (4, 0, false), .op (5, 0, false), .op (6, 2, false), .op (7, 0, false)]) .leaf) (.seq (.reg [.op (0, 0, false), .op (1, 0, false)]) (.cond (.seq (.reg [.op (0, 0, false), .op (1, 2, false), .op (2, 0, false)]) .leaf) .leaf)))))))))) (.seq (.reg [.op (0, 0, false), .op (1, 0, false), .op (2, 2, false), .op (3, 0, false)]) (.seq (.seq (.reg [.op (0, 0, false), .op (1, 0, false), .op (2, 0, false), .grp 2 true [(3, 0, false), (4, 0, false)] [44] 26388279066624, .op (5, 0, false), .op (6, 0, false), .grp 6 false [(7, 0, false), (8, 0, false), (9, 0, false)] [49] 985162418487296, .grp 9 true [(10, 0, false), (11, 0, false)] [51] 3377699720527872, .grp 6 false [(12, 0, false)] [52] 4503599627370496, .op (13, 0, false)]) (.cond (.seq (.reg [.op (0, 0, false), .op (1, 2, false), .op (2, 0, false)]) .leaf) .leaf)) (.seq (.reg [.op (0, 0, false), .op (1, 2, false), .op (2, 0, false)]) .leaf)))))
theorem I_impl_exactTwo {a0 a1 a2 : Value} {w : World} {K : Value → World → Prop} (h : D_impl_exactTwo a0 a1 a2 w K) : call P f_impl_exactTwo [a0, a1, a2] w K :=
  call_of_vc mixed Tryz.func83 (c := codeOf Tryz.f83) (by kernel_rfl) (by kernel_rfl) (p := P_impl_exactTwo) (by kernel_rfl) (by rw [Tryz.ntmps83]; simp) (by
    have e : D_impl_exactTwo a0 a1 a2 w K = vc P P_impl_exactTwo (codeOf Tryz.f83) (env0 [a0, a1, a2]) w (retX P Tryz.f83.results.toList K) := by kernel_rfl
    exact e ▸ h)

/-- impl.form -/
def D_impl_form (a0 : Value) (w : World) (K : Value → World → Prop) : Prop :=
  ∃ J1 : World → Prop, (∀ (junk2 : Env) (w3 : World), J1 w3 →
  call P f_impl_parseFloat [a0] w3 fun x28_4 w5 =>
  xtr P x28_4 0 w5 fun x29_6 =>
  xtr P x28_4 1 w5 fun x30_7 =>
  cnd x30_7
  (K (.int .i64 0) w5)
  (K (.int .i64 (-1)) w5)) ∧
  (∃ J8 : Value → World → Prop, (∀ (x6_11 : Value) (junk9 : Env) (w10 : World), J8 x6_11 w10 →
  cnd x6_11
  (K (.int .i64 0) w10)
  (∃ J12 : Value → World → Prop, (∀ (x10_15 : Value) (junk13 : Env) (w14 : World), J12 x10_15 w14 →
  cnd x10_15
  (K (.int .i64 1) w14)
  (bin P .eql 9 false true a0 (.string ⟨#[43]⟩) w14 fun x20_16 =>
  cnd x20_16
  (cnd x20_16
  (K (.int .i64 2) w14)
  (J1 w14))
  (bin P .eql 9 false true a0 (.string ⟨#[45]⟩) w14 fun x21_17 =>
  cnd x21_17
  (cnd x21_17
  (K (.int .i64 2) w14)
  (J1 w14))
  (bin P .eql 9 false true a0 (.string ⟨#[42]⟩) w14 fun x22_18 =>
  cnd x22_18
  (cnd x22_18
  (K (.int .i64 2) w14)
  (J1 w14))
  (bin P .eql 9 false true a0 (.string ⟨#[47]⟩) w14 fun x23_19 =>
  cnd x23_19
  (cnd x23_19
  (K (.int .i64 2) w14)
  (J1 w14))
  (bin P .eql 9 false true a0 (.string ⟨#[109, 105, 110]⟩) w14 fun x24_20 =>
  cnd x24_20
  (cnd x24_20
  (K (.int .i64 2) w14)
  (J1 w14))
  (bin P .eql 9 false true a0 (.string ⟨#[109, 97, 120]⟩) w14 fun x25_21 =>
  cnd x25_21
  (K (.int .i64 2) w14)
  (J1 w14)))))))) ∧
  (bin P .eql 9 false true a0 (.string ⟨#[110, 101, 103]⟩) w10 fun x11_22 =>
  cnd x11_22
  (J12 x11_22 w10)
  (bin P .eql 9 false true a0 (.string ⟨#[115, 113, 114]⟩) w10 fun x12_23 =>
  cnd x12_23
  (J12 x12_23 w10)
  (bin P .eql 9 false true a0 (.string ⟨#[97, 98, 115]⟩) w10 fun x13_24 =>
  cnd x13_24
  (J12 x13_24 w10)
  (bin P .eql 9 false true a0 (.string ⟨#[114, 111, 111, 116]⟩) w10 fun x14_25 =>
  cnd x14_25
  (J12 x14_25 w10)
  (bin P .eql 9 false true a0 (.string ⟨#[101, 120, 112]⟩) w10 fun x15_26 =>
  cnd x15_26
  (J12 x15_26 w10)
  (bin P .eql 9 false true a0 (.string ⟨#[108, 111, 103]⟩) w10 fun x16_27 =>
  cnd x16_27
  (J12 x16_27 w10)
  (bin P .eql 9 false true a0 (.string ⟨#[97, 116, 97, 110]⟩) w10 fun x17_28 =>
  cnd x17_28
  (J12 x17_28 w10)
  (bin P .eql 9 false true a0 (.string ⟨#[115, 105, 110]⟩) w10 fun x18_29 =>
  J12 x18_29 w10)))))))))) ∧
  (bin P .eql 9 false true a0 (.string ⟨#[120]⟩) w fun x7_30 =>
  cnd x7_30
  (J8 x7_30 w)
  (bin P .eql 9 false true a0 (.string ⟨#[121]⟩) w fun x8_31 =>
  cnd x8_31
  (J8 x8_31 w)
  (bin P .eql 9 false true a0 (.string ⟨#[122]⟩) w fun x9_32 =>
  J8 x9_32 w))))
def P_impl_form : Plan := (.seq (.reg [.op (0, 0, false)]) (.cut [] 67108836 (.seq (.reg [.op (0, 0, false)]) (.blk (.cut [6] 960 (.seq (.reg [.op (0, 0, false), .op (1, 0, false)]) (.cond .leaf (.seq (.reg [.op (0, 0, false), .op (1, 0, false)]) (.cond .leaf (.reg [.op (0, 0, false), .op (1, 0, false)]))))) (.cond (.seq (.reg [.op (0, 0, false)]) .leaf) (.cut [10] 523264 (.seq (.reg [.op (0, 0, false), .op (1, 0, false)]) (.cond .leaf (.seq (.reg [.op (0, 0, false), .op (1, 0, false)]) (.cond .leaf (.seq (.reg [.op (0, 0, false), .op (1, 0, false)]) (.cond .leaf (.seq (.reg [.op (0, 0, false), .op (1, 0, false)]) (.cond .leaf (.seq (.reg [.op (0, 0, false), .op (1, 0, false)]) (.cond .leaf (.seq (.reg [.op (0, 0, false), .op (1, 0, false)]) (.cond .leaf (.seq (.reg [.op (0, 0, false), .op (1, 0, false)]) (.cond .leaf (.reg [.op (0, 0, false), .op (1, 0, false)]))))))))))))))) (.cond (.seq (.reg [.op (0, 0, false)]) .leaf) (.seq (.seq (.reg [.op (0, 0, false), .op (1, 0, false)]) (.cond .leaf (.seq (.reg [.op (0, 0, false), .op (1, 0, false)]) (.cond .leaf (.seq (.reg [.op (0, 0, false), .op (1, 0, false)]) (.cond .leaf (.seq (.reg [.op (0, 0, false), .op (1, 0, false)]) (.cond .leaf (.seq (.reg [.op (0, 0, false), .op (1, 0, false)]) (.cond .leaf (.reg [.op (0, 0, false), .op (1, 0, false)]))))))))))) (.cond (.seq (.reg [.op (0, 0, false)]) .leaf) .leaf)))))))) (.seq (.seq (.reg [.op (0, 0, false), .op (1, 2, false), .op (2, 0, false), .op (3, 0, false), .op (4, 0, false), .op (5, 0, false), .op (6, 0, false)]) (.seq (.reg [.op (0, 0, false)]) (.cond (.seq (.reg [.op (0, 0, false)]) .leaf) .leaf))) (.seq (.reg [.op (0, 0, false)]) .leaf))))
theorem I_impl_form {a0 : Value} {w : World} {K : Value → World → Prop} (h : D_impl_form a0 w K) : call P f_impl_form [a0] w K :=
  call_of_vc mixed Tryz.func103 (c := codeOf Tryz.f103) (by kernel_rfl) (by kernel_rfl) (p := P_impl_form) (by kernel_rfl) (by rw [Tryz.ntmps103]; simp) (by
    have e : D_impl_form a0 w K = vc P P_impl_form (codeOf Tryz.f103) (env0 [a0]) w (retX P Tryz.f103.results.toList K) := by kernel_rfl
    exact e ▸ h)

/-- impl.variable -/
def D_impl_variable (a0 : Value) (w : World) (K : Value → World → Prop) : Prop :=
  bin P .eql 9 false true a0 (.string ⟨#[120]⟩) w fun x5_1 =>
  cnd x5_1
  (K (.int .i64 0) w)
  (bin P .eql 9 false true a0 (.string ⟨#[121]⟩) w fun x7_2 =>
  cnd x7_2
  (K (.int .i64 1) w)
  (bin P .eql 9 false true a0 (.string ⟨#[122]⟩) w fun x9_3 =>
  cnd x9_3
  (K (.int .i64 2) w)
  (K (.int .i64 (-1)) w)))
def P_impl_variable : Plan := (.seq (.reg [.op (0, 0, false)]) (.seq (.seq (.reg [.op (0, 0, false)]) (.blk (.seq (.reg [.op (0, 0, false), .op (1, 0, false)]) (.cond (.seq (.reg [.op (0, 0, false)]) .leaf) (.seq (.reg [.op (0, 0, false), .op (1, 0, false)]) (.cond (.seq (.reg [.op (0, 0, false)]) .leaf) (.seq (.reg [.op (0, 0, false), .op (1, 0, false)]) (.cond (.seq (.reg [.op (0, 0, false)]) .leaf) .leaf)))))))) (.seq (.reg [.op (0, 0, false)]) .leaf)))
theorem I_impl_variable {a0 : Value} {w : World} {K : Value → World → Prop} (h : D_impl_variable a0 w K) : call P f_impl_variable [a0] w K :=
  call_of_vc mixed Tryz.func105 (c := codeOf Tryz.f105) (by kernel_rfl) (by kernel_rfl) (p := P_impl_variable) (by kernel_rfl) (by rw [Tryz.ntmps105]; simp) (by
    have e : D_impl_variable a0 w K = vc P P_impl_variable (codeOf Tryz.f105) (env0 [a0]) w (retX P Tryz.f105.results.toList K) := by kernel_rfl
    exact e ▸ h)

/-- impl.kept -/
def D_impl_kept (a0 : Value) (w : World) (K : Value → World → Prop) : Prop :=
  bx P 105 a0 w fun x1_1 w2 =>
  alc P 105 w2 fun x2_3 w4 =>
  ld P 105 x1_1 w4 fun x6_5 =>
  call P f_impl_num_odd [x6_5] w4 fun x7_6 w7 =>
  sto P 105 x1_1 x7_6 w7 fun w9 =>
  ld P 105 x1_1 w9 fun x9_10 =>
  call P f_impl_num_dyadic [x9_10] w9 fun x10_11 w12 =>
  xtr P x10_11 0 w12 fun x11_13 =>
  xtr P x10_11 1 w12 fun x12_14 =>
  alc P 57 w12 fun x4_15 w16 =>
  sto P 57 x4_15 x11_13 w16 fun w18 =>
  ld P 105 x1_1 w18 fun x13_19 =>
  sto P 105 x2_3 x13_19 w18 fun w21 =>
  ldc P 105 x2_3 w21 fun r22 =>
  K (.tuple #[r22, x12_14]) w21
def P_impl_kept : Plan := (.seq (.reg [.op (0, 2, false), .op (1, 2, false), .op (2, 0, false)]) (.seq (.reg [.op (0, 0, false), .op (1, 2, false), .op (2, 2, false)]) (.seq (.reg [.op (0, 0, false), .op (1, 2, false), .op (2, 0, false), .op (3, 0, false), .op (4, 0, false), .op (5, 2, false), .op (6, 2, false), .op (7, 0, false)]) (.seq (.reg [.op (0, 0, false), .op (1, 0, false), .op (2, 2, false), .op (3, 0, false)]) .leaf))))
theorem I_impl_kept {a0 : Value} {w : World} {K : Value → World → Prop} (h : D_impl_kept a0 w K) : call P f_impl_kept [a0] w K :=
  call_of_vc mixed Tryz.func131 (c := codeOf Tryz.f131) (by kernel_rfl) (by kernel_rfl) (p := P_impl_kept) (by kernel_rfl) (by rw [Tryz.ntmps131]; simp) (by
    have e : D_impl_kept a0 w K = vc P P_impl_kept (codeOf Tryz.f131) (env0 [a0]) w (retX P Tryz.f131.results.toList K) := by kernel_rfl
    exact e ▸ h)

end Go.Proofs.YtjompmflommadaaGreatDoor

/- Written by a program (gen.py): what is left to show of each function's call. -/
set_option linter.unusedVariables false
set_option maxRecDepth 20000
namespace Go.Proofs.YtjompmflommadaaGreatDoor
open Go Go.Vc

/-- spec.RunExact -/
def D_spec_RunExact (a0 a1 : Value) (w : World) (K : Value → World → Prop) : Prop :=
  bx P 27 a0 w fun x2_1 w2 =>
  alc P 57 w2 fun x4_3 w4 =>
  ld P 27 x2_1 w4 fun x9_5 =>
  call P f_spec_l08Code [x9_5, a1] w4 fun x11_6 w7 =>
  bin P .neq 2 false true x11_6 (.int .i64 0) w7 fun x13_8 =>
  cnd x13_8
  (bld P 57 [] w7 fun x14_9 =>
  sto P 57 x4_3 x14_9 w7 fun w11 =>
  ldc P 57 x4_3 w11 fun r12 =>
  K (.tuple #[r12, x11_6]) w11)
  (ld P 27 x2_1 w7 fun x17_13 =>
  call P f_spec_l08Exact [x17_13, a1] w7 fun x19_14 w15 =>
  xtr P x19_14 0 w15 fun x20_16 =>
  xtr P x19_14 1 w15 fun x21_17 =>
  alc P 57 w15 fun x7_18 w19 =>
  sto P 57 x7_18 x20_16 w19 fun w21 =>
  ld P 57 x7_18 w21 fun x22_22 =>
  sto P 57 x4_3 x22_22 w21 fun w24 =>
  ldc P 57 x4_3 w24 fun r25 =>
  K (.tuple #[r25, x21_17]) w24)
def P_spec_RunExact : Plan := (.seq (.reg [.op (0, 2, false), .op (1, 2, false), .op (2, 0, false)]) (.seq (.seq (.reg [.op (0, 0, false), .op (1, 0, false), .op (2, 2, false), .op (3, 0, false)]) (.seq (.reg [.op (0, 0, false), .op (1, 0, false)]) (.cond (.seq (.reg [.op (0, 0, false), .op (1, 0, false), .op (2, 2, false), .op (3, 0, false)]) .leaf) .leaf))) (.seq (.reg [.op (0, 0, false), .op (1, 0, false), .op (2, 2, false), .op (3, 0, false), .op (4, 0, false), .op (5, 0, false), .op (6, 2, false), .op (7, 2, false), .op (8, 0, false)]) (.seq (.reg [.op (0, 0, false), .op (1, 0, false), .op (2, 2, false), .op (3, 0, false)]) .leaf))))
theorem I_spec_RunExact {a0 a1 : Value} {w : World} {K : Value → World → Prop} (h : D_spec_RunExact a0 a1 w K) : call P f_spec_RunExact [a0, a1] w K :=
  call_of_vc mixed Tryz.func32 (c := codeOf Tryz.f32) (by kernel_rfl) (by kernel_rfl) (p := P_spec_RunExact) (by kernel_rfl) (by rw [Tryz.ntmps32]; simp) (by
    have e : D_spec_RunExact a0 a1 w K = vc P P_spec_RunExact (codeOf Tryz.f32) (env0 [a0, a1]) w (retX P Tryz.f32.results.toList K) := by kernel_rfl
    exact e ▸ h)

/-- spec.l08Is -/
def D_spec_l08Is (a0 : Value) (w : World) (K : Value → World → Prop) : Prop :=
  bx P 27 a0 w fun x1_1 w2 =>
  ld P 27 x1_1 w2 fun x3_3 =>
  call P f_spec_l08Depth [x3_3] w2 fun x4_4 w5 =>
  bin P .gtr 2 false true x4_4 (.int .i64 0) w5 fun x5_6 =>
  K x5_6 w5
def P_spec_l08Is : Plan := (.seq (.reg [.op (0, 2, false), .op (1, 0, false)]) (.seq (.reg [.op (0, 0, false), .op (1, 2, false), .op (2, 0, false), .op (3, 0, false)]) .leaf))
theorem I_spec_l08Is {a0 : Value} {w : World} {K : Value → World → Prop} (h : D_spec_l08Is a0 w K) : call P f_spec_l08Is [a0] w K :=
  call_of_vc mixed Tryz.func52 (c := codeOf Tryz.f52) (by kernel_rfl) (by kernel_rfl) (p := P_spec_l08Is) (by kernel_rfl) (by rw [Tryz.ntmps52]; simp) (by
    have e : D_spec_l08Is a0 w K = vc P P_spec_l08Is (codeOf Tryz.f52) (env0 [a0]) w (retX P Tryz.f52.results.toList K) := by kernel_rfl
    exact e ▸ h)

/-- spec.l08Depth -/
def D_spec_l08Depth (a0 : Value) (w : World) (K : Value → World → Prop) : Prop :=
  bx P 27 a0 w fun x1_1 w2 =>
  fda P 27 x1_1 0 w2 fun x7_3 =>
  ld P 22 x7_3 w2 fun x8_4 =>
  bl0 P .len #[22] 3 [x8_4] w2 fun x9_5 =>
  bin P .lss 3 false true x9_5 (.int .i64 1) w2 fun x10_6 =>
  ∃ J7 : Value → World → Prop, (∀ (x15_8 : Value) (junk10 : Env) (w9 : World), J7 x15_8 w9 →
  pick x10_6 (.bool true) x15_8 fun x16_11 =>
  cnd x16_11
  (K (.int .i64 0) w9)
  (∃ I12 : Nat → Value → Value → Value → World → Prop, (∃ m48, I12 m48 (.int .i64 0) (.int .i64 0) (.int .i64 0) w9) ∧ ∀ (m15 : Nat) (x3_16 : Value) (x4_17 : Value) (x5_18 : Value) (junk13 : Env) (w14 : World), I12 m15 x3_16 x4_17 x5_18 w14 →
  fda P 27 x1_1 0 w14 fun x18_19 =>
  ld P 22 x18_19 w14 fun x19_20 =>
  bl0 P .len #[22] 3 [x19_20] w14 fun x20_21 =>
  bin P .lss 3 false false x5_18 x20_21 w14 fun x21_22 =>
  cnd x21_22
  (fda P 27 x1_1 0 w14 fun x24_23 =>
  ld P 22 x24_23 w14 fun x25_24 =>
  ixa P 22 x25_24 x5_18 w14 fun x27_25 =>
  ld P 9 x27_25 w14 fun x28_26 =>
  call P f_spec_l08Needs [x28_26] w14 fun x29_27 w28 =>
  bin P .lss 2 false true x29_27 (.int .i64 0) w28 fun x31_29 =>
  ∃ J30 : Value → World → Prop, (∀ (x35_31 : Value) (junk33 : Env) (w32 : World), J30 x35_31 w32 →
  pick x31_29 (.bool true) x35_31 fun x36_34 =>
  cnd x36_34
  (K (.int .i64 0) w32)
  (bin P .sub 2 false false x3_16 x29_27 w32 fun x39_35 =>
  bin P .add 2 false true x39_35 (.int .i64 1) w32 fun x40_36 =>
  bl0 P .max #[2, 2] 2 [x4_17, x40_36] w32 fun x43_37 =>
  bin P .add 3 false true x5_18 (.int .i64 1) w32 fun x23_38 =>
  ∃ m39, m39 < m15 ∧ I12 m39 x40_36 x43_37 x23_38 w32)) ∧
  grd x31_29 false
  (bin P .lss 2 false false x3_16 x29_27 w28 fun x35_40 =>
  J30 x35_40 w28)
  (J30 undef w28))
  (bin P .neq 2 false true x3_16 (.int .i64 1) w14 fun x45_41 =>
  ∃ J42 : Value → World → Prop, (∀ (x48_43 : Value) (junk45 : Env) (w44 : World), J42 x48_43 w44 →
  pick x45_41 (.bool true) x48_43 fun x49_46 =>
  cnd x49_46
  (K (.int .i64 0) w44)
  (K x4_17 w44)) ∧
  grd x45_41 false
  (bin P .gtr 2 false true x4_17 (.int .i64 16) w14 fun x48_47 =>
  J42 x48_47 w14)
  (J42 undef w14)))) ∧
  grd x10_6 false
  (fda P 27 x1_1 0 w2 fun x12_49 =>
  ld P 22 x12_49 w2 fun x13_50 =>
  bl0 P .len #[22] 3 [x13_50] w2 fun x14_51 =>
  bin P .gtr 3 false true x14_51 (.int .i64 60) w2 fun x15_52 =>
  J7 x15_52 w2)
  (J7 undef w2)
def P_spec_l08Depth : Plan := (.seq (.reg [.op (0, 2, false), .op (1, 0, false)]) (.seq (.seq (.reg [.op (0, 0, false), .op (1, 0, false), .op (2, 0, false), .op (3, 0, false), .op (4, 0, false), .grp 4 false [(5, 0, false), (6, 0, false), (7, 0, false), (8, 0, false)] [15] 61440, .op (9, 0, false)]) (.cond (.seq (.reg [.op (0, 0, false)]) .leaf) .leaf)) (.seq (.reg [.op (0, 0, false), .op (1, 0, false)]) (.seq (.seq (.reg [.op (0, 0, false)]) (.blk (.loop [3, 4, 5] 17592185913468 (.seq (.seq (.reg [.op (0, 0, false), .op (1, 0, false), .op (2, 0, false), .op (3, 0, false), .op (4, 0, false)]) (.cond .leaf .leaf)) (.seq (.blk (.seq (.reg [.op (0, 0, false), .op (1, 0, false), .op (2, 0, false), .op (3, 0, false), .op (4, 0, false), .op (5, 2, false), .op (6, 0, false)]) (.seq (.seq (.reg [.op (0, 0, false), .op (1, 0, false), .op (2, 0, false), .grp 2 false [(3, 0, false), (4, 0, false), (5, 0, false)] [35] 60129542144, .op (6, 0, false)]) (.cond (.seq (.reg [.op (0, 0, false)]) .leaf) .leaf)) (.seq (.reg [.op (0, 0, false), .op (1, 0, false), .op (2, 0, false), .op (3, 0, false), .op (4, 0, false)]) (.reg [.op (0, 0, false), .op (1, 0, false), .op (2, 0, false), .op (3, 0, false)]))))) (.reg [.op (0, 0, false), .op (1, 0, false), .op (2, 0, false)])))))) (.seq (.seq (.reg [.op (0, 0, false), .op (1, 0, false), .op (2, 0, false), .grp 2 false [(3, 0, false), (4, 0, false)] [48] 422212465065984, .op (5, 0, false)]) (.cond (.seq (.reg [.op (0, 0, false)]) .leaf) .leaf)) (.seq (.reg [.op (0, 0, false), .op (1, 0, false)]) .leaf))))))
theorem I_spec_l08Depth {a0 : Value} {w : World} {K : Value → World → Prop} (h : D_spec_l08Depth a0 w K) : call P f_spec_l08Depth [a0] w K :=
  call_of_vc mixed Tryz.func56 (c := codeOf Tryz.f56) (by kernel_rfl) (by kernel_rfl) (p := P_spec_l08Depth) (by kernel_rfl) (by rw [Tryz.ntmps56]; simp) (by
    have e : D_spec_l08Depth a0 w K = vc P P_spec_l08Depth (codeOf Tryz.f56) (env0 [a0]) w (retX P Tryz.f56.results.toList K) := by kernel_rfl
    exact e ▸ h)

/-- spec.l08Variables -/
def D_spec_l08Variables (a0 : Value) (w : World) (K : Value → World → Prop) : Prop :=
  bx P 27 a0 w fun x1_1 w2 =>
  ∃ I3 : Nat → Value → Value → World → Prop, (∃ m23, I3 m23 (.int .i64 0) (.int .i64 0) w2) ∧ ∀ (m6 : Nat) (x3_7 : Value) (x4_8 : Value) (junk4 : Env) (w5 : World), I3 m6 x3_7 x4_8 w5 →
  fda P 27 x1_1 0 w5 fun x6_9 =>
  ld P 22 x6_9 w5 fun x7_10 =>
  bl0 P .len #[22] 3 [x7_10] w5 fun x8_11 =>
  bin P .lss 3 false false x4_8 x8_11 w5 fun x9_12 =>
  cnd x9_12
  (fda P 27 x1_1 0 w5 fun x13_13 =>
  ld P 22 x13_13 w5 fun x14_14 =>
  ixa P 22 x14_14 x4_8 w5 fun x16_15 =>
  ld P 9 x16_15 w5 fun x17_16 =>
  call P f_spec_l08Variable [x17_16] w5 fun x18_17 w18 =>
  bin P .add 2 false true x18_17 (.int .i64 1) w18 fun x19_19 =>
  bl0 P .max #[2, 2] 2 [x3_7, x19_19] w18 fun x20_20 =>
  bin P .add 3 false true x4_8 (.int .i64 1) w18 fun x11_21 =>
  ∃ m22, m22 < m6 ∧ I3 m22 x20_20 x11_21 w18)
  (K x3_7 w5)
def P_spec_l08Variables : Plan := (.seq (.reg [.op (0, 2, false), .op (1, 0, false)]) (.seq (.reg [.op (0, 0, false)]) (.seq (.seq (.reg [.op (0, 0, false)]) (.blk (.loop [3, 4] 2097144 (.seq (.seq (.reg [.op (0, 0, false), .op (1, 0, false), .op (2, 0, false), .op (3, 0, false), .op (4, 0, false)]) (.cond .leaf .leaf)) (.seq (.blk (.reg [.op (0, 0, false), .op (1, 0, false), .op (2, 0, false), .op (3, 0, false), .op (4, 0, false), .op (5, 0, false), .op (6, 2, false), .op (7, 0, false), .op (8, 0, false), .op (9, 0, false)])) (.reg [.op (0, 0, false), .op (1, 0, false), .op (2, 0, false)])))))) (.seq (.reg [.op (0, 0, false), .op (1, 0, false)]) .leaf))))
theorem I_spec_l08Variables {a0 : Value} {w : World} {K : Value → World → Prop} (h : D_spec_l08Variables a0 w K) : call P f_spec_l08Variables [a0] w K :=
  call_of_vc mixed Tryz.func57 (c := codeOf Tryz.f57) (by kernel_rfl) (by kernel_rfl) (p := P_spec_l08Variables) (by kernel_rfl) (by rw [Tryz.ntmps57]; simp) (by
    have e : D_spec_l08Variables a0 w K = vc P P_spec_l08Variables (codeOf Tryz.f57) (env0 [a0]) w (retX P Tryz.f57.results.toList K) := by kernel_rfl
    exact e ▸ h)

/-- spec.l08Code -/
def D_spec_l08Code (a0 a1 : Value) (w : World) (K : Value → World → Prop) : Prop :=
  bx P 27 a0 w fun x2_1 w2 =>
  ld P 27 x2_1 w2 fun x6_3 =>
  call P f_spec_l08Is [x6_3] w2 fun x7_4 w5 =>
  una P .not x7_4 w5 fun x8_6 =>
  cnd x8_6
  (K (.int .i64 1) w5)
  (∃ I7 : Nat → Value → World → Prop, (∃ m28, I7 m28 (.int .i64 0) w5) ∧ ∀ (m10 : Nat) (x5_11 : Value) (junk8 : Env) (w9 : World), I7 m10 x5_11 w9 →
  bl0 P .len #[52] 3 [a1] w9 fun x11_12 =>
  bin P .lss 3 false false x5_11 x11_12 w9 fun x12_13 =>
  cnd x12_13
  (ixa P 52 a1 x5_11 w9 fun x17_14 =>
  ld P 66 x17_14 w9 fun x18_15 =>
  call P f_spec_l01Finite [x18_15] w9 fun x19_16 w17 =>
  una P .not x19_16 w17 fun x20_18 =>
  cnd x20_18
  (K (.int .i64 1) w17)
  (bin P .add 3 false true x5_11 (.int .i64 1) w17 fun x14_19 =>
  ∃ m20, m20 < m10 ∧ I7 m20 x14_19 w17))
  (bl0 P .len #[52] 3 [a1] w9 fun x22_21 =>
  ld P 27 x2_1 w9 fun x23_22 =>
  call P f_spec_l08Variables [x23_22] w9 fun x24_23 w24 =>
  call P f_spec_l01In [x22_21, x24_23, (.int .i64 3)] w24 fun x25_25 w26 =>
  una P .not x25_25 w26 fun x26_27 =>
  cnd x26_27
  (K (.int .i64 2) w26)
  (K (.int .i64 0) w26)))
def P_spec_l08Code : Plan := (.seq (.reg [.op (0, 2, false), .op (1, 0, false)]) (.seq (.seq (.reg [.op (0, 0, false), .op (1, 2, false), .op (2, 0, false)]) (.cond (.seq (.reg [.op (0, 0, false)]) .leaf) .leaf)) (.seq (.seq (.reg [.op (0, 0, false)]) (.blk (.loop [5] 2096688 (.seq (.seq (.reg [.op (0, 0, false), .op (1, 0, false), .op (2, 0, false), .op (3, 0, false)]) (.cond .leaf .leaf)) (.seq (.blk (.seq (.reg [.op (0, 0, false), .op (1, 0, false), .op (2, 0, false), .op (3, 0, false), .op (4, 2, false), .op (5, 0, false)]) (.cond (.seq (.reg [.op (0, 0, false)]) .leaf) .leaf))) (.reg [.op (0, 0, false), .op (1, 0, false), .op (2, 0, false)])))))) (.seq (.seq (.reg [.op (0, 0, false), .op (1, 0, false), .op (2, 0, false), .op (3, 2, false), .op (4, 2, false), .op (5, 0, false)]) (.cond (.seq (.reg [.op (0, 0, false)]) .leaf) .leaf)) (.seq (.reg [.op (0, 0, false)]) .leaf)))))
theorem I_spec_l08Code {a0 a1 : Value} {w : World} {K : Value → World → Prop} (h : D_spec_l08Code a0 a1 w K) : call P f_spec_l08Code [a0, a1] w K :=
  call_of_vc mixed Tryz.func74 (c := codeOf Tryz.f74) (by kernel_rfl) (by kernel_rfl) (p := P_spec_l08Code) (by kernel_rfl) (by rw [Tryz.ntmps74]; simp) (by
    have e : D_spec_l08Code a0 a1 w K = vc P P_spec_l08Code (codeOf Tryz.f74) (env0 [a0, a1]) w (retX P Tryz.f74.results.toList K) := by kernel_rfl
    exact e ▸ h)

/-- spec.l08Exact -/
def D_spec_l08Exact (a0 a1 : Value) (w : World) (K : Value → World → Prop) : Prop :=
  bx P 27 a0 w fun x2_1 w2 =>
  alc P 57 w2 fun x4_3 w4 =>
  bsl P 145 0 [] w4 fun x13_5 w6 =>
  ∃ I7 : Nat → Value → Value → World → Prop, (∃ m95, I7 m95 x13_5 (.int .i64 0) w6) ∧ ∀ (m10 : Nat) (x6_11 : Value) (x7_12 : Value) (junk8 : Env) (w9 : World), I7 m10 x6_11 x7_12 w9 →
  fda P 27 x2_1 0 w9 fun x15_13 =>
  ld P 22 x15_13 w9 fun x16_14 =>
  bl0 P .len #[22] 3 [x16_14] w9 fun x17_15 =>
  bin P .lss 3 false false x7_12 x17_15 w9 fun x18_16 =>
  cnd x18_16
  (fda P 27 x2_1 0 w9 fun x21_17 =>
  ld P 22 x21_17 w9 fun x22_18 =>
  ixa P 22 x22_18 x7_12 w9 fun x24_19 =>
  ld P 9 x24_19 w9 fun x25_20 =>
  bl0 P .len #[145] 3 [x6_11] w9 fun x27_21 =>
  call P f_spec_l08Needs [x25_20] w9 fun x29_22 w23 =>
  bin P .eql 3 false true x29_22 (.int .i64 0) w23 fun x31_24 =>
  cnd x31_24
  (call P f_spec_l08Leaf [x25_20, a1] w23 fun x35_25 w26 =>
  call P f_spec_l03Of [x35_25] w26 fun x36_27 w28 =>
  bsl P 145 1 [(0, x36_27)] w28 fun x37_29 w30 =>
  bl2 P .append #[145, 145] 145 [x6_11, x37_29] w30 fun x38_31 w32 =>
  bin P .add 3 false true x7_12 (.int .i64 1) w32 fun x20_33 =>
  ∃ m34, m34 < m10 ∧ I7 m34 x38_31 x20_33 w32)
  (∃ J35 : Value → Value → World → Prop, (∀ (x11_38 : Value) (x12_39 : Value) (junk36 : Env) (w37 : World), J35 x11_38 x12_39 w37 →
  una P .not x12_39 w37 fun x56_40 =>
  cnd x56_40
  (bld P 57 [] w37 fun x57_41 =>
  sto P 57 x4_3 x57_41 w37 fun w43 =>
  ldc P 57 x4_3 w43 fun r44 =>
  K (.tuple #[r44, (.int .i64 5)]) w43)
  (ld P 57 x11_38 w37 fun x58_45 =>
  call P f_spec_l03Is [x58_45] w37 fun x59_46 w47 =>
  una P .not x59_46 w47 fun x60_48 =>
  cnd x60_48
  (bld P 57 [] w47 fun x61_49 =>
  sto P 57 x4_3 x61_49 w47 fun w51 =>
  ldc P 57 x4_3 w51 fun r52 =>
  K (.tuple #[r52, (.int .i64 3)]) w51)
  (bin P .sub 3 false false x27_21 x29_22 w47 fun x65_53 =>
  sli P 145 x6_11 none (some x65_53) none w47 fun x66_54 =>
  ld P 57 x11_38 w47 fun x67_55 =>
  bsl P 145 1 [(0, x67_55)] w47 fun x68_56 w57 =>
  Ext w47 w57 ∧ bl2 P .append #[145, 145] 145 [x66_54, x68_56] w57 fun x69_58 w59 =>
  bin P .add 3 false true x7_12 (.int .i64 1) w59 fun x20_60 =>
  ∃ m61, m61 < m10 ∧ I7 m61 x69_58 x20_60 w59))) ∧
  (bin P .sub 3 false false x27_21 x29_22 w23 fun x44_62 =>
  ixa P 145 x6_11 x44_62 w23 fun x45_63 =>
  ld P 57 x45_63 w23 fun x46_64 =>
  bin P .sub 3 false true x27_21 (.int .i64 1) w23 fun x49_65 =>
  ixa P 145 x6_11 x49_65 w23 fun x50_66 =>
  ld P 57 x50_66 w23 fun x51_67 =>
  (call P f_spec_l08Exactly [x25_20, x46_64, x51_67] w23 fun x52_68 w69 =>
  xtr P x52_68 0 w69 fun x53_70 =>
  xtr P x52_68 1 w69 fun x54_71 =>
  alc P 57 w69 fun x11_72 w73 =>
  Ext w69 w73 ∧ sto P 57 x11_72 x53_70 w73 fun w75 =>
  (xtr P x52_68 1 w75 fun z => z = x54_71) ∧ J35 x11_72 x54_71 w75) ∧
  (alc P 57 w23 fun x11_76 w77 =>
  Ext w23 w77 ∧ call P f_spec_l08Exactly [x25_20, x46_64, x51_67] w77 fun x52_78 w79 =>
  xtr P x52_78 0 w79 fun x53_80 =>
  xtr P x52_78 1 w79 fun x54_81 =>
  sto P 57 x11_76 x53_80 w79 fun w83 =>
  (xtr P x52_78 1 w83 fun z => z = x54_81) ∧ J35 x11_76 x54_81 w83))))
  (ixa P 145 x6_11 (.int .i64 0) w9 fun x71_84 =>
  fda P 57 x71_84 0 w9 fun x72_85 =>
  ld P 55 x72_85 w9 fun x73_86 =>
  ixa P 145 x6_11 (.int .i64 0) w9 fun x75_87 =>
  fda P 57 x75_87 1 w9 fun x76_88 =>
  ld P 2 x76_88 w9 fun x77_89 =>
  call P f_spec_l03Make [x73_86, x77_89] w9 fun x78_90 w91 =>
  sto P 57 x4_3 x78_90 w91 fun w93 =>
  ldc P 57 x4_3 w93 fun r94 =>
  K (.tuple #[r94, (.int .i64 0)]) w93)
def P_spec_l08Exact : Plan := (.seq (.reg [.op (0, 2, false), .op (1, 2, false), .op (2, 0, false)]) (.seq (.reg [.op (0, 2, false), .op (1, 0, false)]) (.seq (.seq (.reg [.op (0, 0, false)]) (.blk (.loop [6, 7] 1180591620717411295200 (.seq (.seq (.reg [.op (0, 0, false), .op (1, 0, false), .op (2, 0, false), .op (3, 0, false), .op (4, 0, false)]) (.cond .leaf .leaf)) (.seq (.blk (.seq (.reg [.op (0, 0, false), .op (1, 0, false), .op (2, 0, false), .op (3, 0, false), .op (4, 0, false), .op (5, 0, false), .op (6, 0, false), .op (7, 0, false), .op (8, 0, false)]) (.seq (.reg [.op (0, 0, false), .op (1, 2, false), .op (2, 0, false)]) (.seq (.seq (.reg [.op (0, 0, false), .op (1, 0, false)]) (.cond (.seq (.reg [.op (0, 0, false), .op (1, 0, false), .op (2, 0, false), .op (3, 2, false), .op (4, 2, false), .op (5, 2, false), .op (6, 2, false), .op (7, 0, false)]) .leaf) .leaf)) (.seq (.tree [11, 12] 36028247263156224 (.op (0, 0, false) (.op (1, 0, false) (.op (2, 0, false) (.op (3, 0, false) (.op (4, 0, false) (.op (5, 0, false) (.op (6, 0, false) (.op (7, 0, false) (.op (8, 0, false) (.op (9, 0, false) (.op (10, 0, false) (.op (11, 0, false) (.fork (12, 2, false) (.op (13, 0, false) (.op (14, 0, false) (.op (15, 0, false) (.fork (16, 2, true) (.fork (17, 32770, false) (.op (18, 0, false) .done) .stop) .stop)))) (.fork (16, 2, true) (.fork (12, 2, false) (.op (13, 0, false) (.op (14, 0, false) (.op (15, 0, false) (.fork (17, 32770, false) (.op (18, 0, false) .done) .stop)))) .stop) .stop))))))))))))))) (.seq (.seq (.reg [.op (0, 0, false), .op (1, 0, false)]) (.cond (.seq (.reg [.op (0, 0, false), .op (1, 2, false), .op (2, 0, false)]) .leaf) .leaf)) (.seq (.seq (.reg [.op (0, 0, false), .op (1, 2, false), .op (2, 0, false)]) (.cond (.seq (.reg [.op (0, 0, false), .op (1, 2, false), .op (2, 0, false)]) .leaf) .leaf)) (.reg [.op (0, 0, false), .op (1, 0, false), .op (2, 0, false), .op (3, 0, false), .op (4, 0, false), .op (5, 0, false), .op (6, 2, true), .op (7, 2, false), .op (8, 0, false)])))))))) (.reg [.op (0, 0, false), .op (1, 0, false), .op (2, 0, false)])))))) (.seq (.reg [.op (0, 0, false), .op (1, 0, false), .op (2, 0, false), .op (3, 0, false), .op (4, 0, false), .op (5, 0, false), .op (6, 0, false), .op (7, 0, false), .op (8, 2, false), .op (9, 2, false), .op (10, 0, false)]) .leaf))))
theorem I_spec_l08Exact {a0 a1 : Value} {w : World} {K : Value → World → Prop} (h : D_spec_l08Exact a0 a1 w K) : call P f_spec_l08Exact [a0, a1] w K :=
  call_of_vc mixed Tryz.func75 (c := codeOf Tryz.f75) (by kernel_rfl) (by kernel_rfl) (p := P_spec_l08Exact) (by kernel_rfl) (by rw [Tryz.ntmps75]; simp) (by
    have e : D_spec_l08Exact a0 a1 w K = vc P P_spec_l08Exact (codeOf Tryz.f75) (env0 [a0, a1]) w (retX P Tryz.f75.results.toList K) := by kernel_rfl
    exact e ▸ h)

/-- spec.l08Needs -/
def D_spec_l08Needs (a0 : Value) (w : World) (K : Value → World → Prop) : Prop :=
  ∃ J1 : World → Prop, (∀ (junk2 : Env) (w3 : World), J1 w3 →
  call P f_spec_l06Float [a0] w3 fun x28_4 w5 =>
  xtr P x28_4 0 w5 fun x29_6 =>
  xtr P x28_4 1 w5 fun x30_7 =>
  cnd x30_7
  (K (.int .i64 0) w5)
  (K (.int .i64 (-1)) w5)) ∧
  (∃ J8 : Value → World → Prop, (∀ (x6_11 : Value) (junk9 : Env) (w10 : World), J8 x6_11 w10 →
  cnd x6_11
  (K (.int .i64 0) w10)
  (∃ J12 : Value → World → Prop, (∀ (x10_15 : Value) (junk13 : Env) (w14 : World), J12 x10_15 w14 →
  cnd x10_15
  (K (.int .i64 1) w14)
  (bin P .eql 9 false true a0 (.string ⟨#[43]⟩) w14 fun x20_16 =>
  cnd x20_16
  (cnd x20_16
  (K (.int .i64 2) w14)
  (J1 w14))
  (bin P .eql 9 false true a0 (.string ⟨#[45]⟩) w14 fun x21_17 =>
  cnd x21_17
  (cnd x21_17
  (K (.int .i64 2) w14)
  (J1 w14))
  (bin P .eql 9 false true a0 (.string ⟨#[42]⟩) w14 fun x22_18 =>
  cnd x22_18
  (cnd x22_18
  (K (.int .i64 2) w14)
  (J1 w14))
  (bin P .eql 9 false true a0 (.string ⟨#[47]⟩) w14 fun x23_19 =>
  cnd x23_19
  (cnd x23_19
  (K (.int .i64 2) w14)
  (J1 w14))
  (bin P .eql 9 false true a0 (.string ⟨#[109, 105, 110]⟩) w14 fun x24_20 =>
  cnd x24_20
  (cnd x24_20
  (K (.int .i64 2) w14)
  (J1 w14))
  (bin P .eql 9 false true a0 (.string ⟨#[109, 97, 120]⟩) w14 fun x25_21 =>
  cnd x25_21
  (K (.int .i64 2) w14)
  (J1 w14)))))))) ∧
  (bin P .eql 9 false true a0 (.string ⟨#[110, 101, 103]⟩) w10 fun x11_22 =>
  cnd x11_22
  (J12 x11_22 w10)
  (bin P .eql 9 false true a0 (.string ⟨#[115, 113, 114]⟩) w10 fun x12_23 =>
  cnd x12_23
  (J12 x12_23 w10)
  (bin P .eql 9 false true a0 (.string ⟨#[97, 98, 115]⟩) w10 fun x13_24 =>
  cnd x13_24
  (J12 x13_24 w10)
  (bin P .eql 9 false true a0 (.string ⟨#[114, 111, 111, 116]⟩) w10 fun x14_25 =>
  cnd x14_25
  (J12 x14_25 w10)
  (bin P .eql 9 false true a0 (.string ⟨#[101, 120, 112]⟩) w10 fun x15_26 =>
  cnd x15_26
  (J12 x15_26 w10)
  (bin P .eql 9 false true a0 (.string ⟨#[108, 111, 103]⟩) w10 fun x16_27 =>
  cnd x16_27
  (J12 x16_27 w10)
  (bin P .eql 9 false true a0 (.string ⟨#[97, 116, 97, 110]⟩) w10 fun x17_28 =>
  cnd x17_28
  (J12 x17_28 w10)
  (bin P .eql 9 false true a0 (.string ⟨#[115, 105, 110]⟩) w10 fun x18_29 =>
  J12 x18_29 w10)))))))))) ∧
  (bin P .eql 9 false true a0 (.string ⟨#[120]⟩) w fun x7_30 =>
  cnd x7_30
  (J8 x7_30 w)
  (bin P .eql 9 false true a0 (.string ⟨#[121]⟩) w fun x8_31 =>
  cnd x8_31
  (J8 x8_31 w)
  (bin P .eql 9 false true a0 (.string ⟨#[122]⟩) w fun x9_32 =>
  J8 x9_32 w))))
def P_spec_l08Needs : Plan := (.seq (.reg [.op (0, 0, false)]) (.cut [] 67108836 (.seq (.reg [.op (0, 0, false)]) (.blk (.cut [6] 960 (.seq (.reg [.op (0, 0, false), .op (1, 0, false)]) (.cond .leaf (.seq (.reg [.op (0, 0, false), .op (1, 0, false)]) (.cond .leaf (.reg [.op (0, 0, false), .op (1, 0, false)]))))) (.cond (.seq (.reg [.op (0, 0, false)]) .leaf) (.cut [10] 523264 (.seq (.reg [.op (0, 0, false), .op (1, 0, false)]) (.cond .leaf (.seq (.reg [.op (0, 0, false), .op (1, 0, false)]) (.cond .leaf (.seq (.reg [.op (0, 0, false), .op (1, 0, false)]) (.cond .leaf (.seq (.reg [.op (0, 0, false), .op (1, 0, false)]) (.cond .leaf (.seq (.reg [.op (0, 0, false), .op (1, 0, false)]) (.cond .leaf (.seq (.reg [.op (0, 0, false), .op (1, 0, false)]) (.cond .leaf (.seq (.reg [.op (0, 0, false), .op (1, 0, false)]) (.cond .leaf (.reg [.op (0, 0, false), .op (1, 0, false)]))))))))))))))) (.cond (.seq (.reg [.op (0, 0, false)]) .leaf) (.seq (.seq (.reg [.op (0, 0, false), .op (1, 0, false)]) (.cond .leaf (.seq (.reg [.op (0, 0, false), .op (1, 0, false)]) (.cond .leaf (.seq (.reg [.op (0, 0, false), .op (1, 0, false)]) (.cond .leaf (.seq (.reg [.op (0, 0, false), .op (1, 0, false)]) (.cond .leaf (.seq (.reg [.op (0, 0, false), .op (1, 0, false)]) (.cond .leaf (.reg [.op (0, 0, false), .op (1, 0, false)]))))))))))) (.cond (.seq (.reg [.op (0, 0, false)]) .leaf) .leaf)))))))) (.seq (.seq (.reg [.op (0, 0, false), .op (1, 2, false), .op (2, 0, false), .op (3, 0, false), .op (4, 0, false), .op (5, 0, false), .op (6, 0, false)]) (.seq (.reg [.op (0, 0, false)]) (.cond (.seq (.reg [.op (0, 0, false)]) .leaf) .leaf))) (.seq (.reg [.op (0, 0, false)]) .leaf))))
theorem I_spec_l08Needs {a0 : Value} {w : World} {K : Value → World → Prop} (h : D_spec_l08Needs a0 w K) : call P f_spec_l08Needs [a0] w K :=
  call_of_vc mixed Tryz.func89 (c := codeOf Tryz.f89) (by kernel_rfl) (by kernel_rfl) (p := P_spec_l08Needs) (by kernel_rfl) (by rw [Tryz.ntmps89]; simp) (by
    have e : D_spec_l08Needs a0 w K = vc P P_spec_l08Needs (codeOf Tryz.f89) (env0 [a0]) w (retX P Tryz.f89.results.toList K) := by kernel_rfl
    exact e ▸ h)

/-- spec.l08Leaf -/
def D_spec_l08Leaf (a0 a1 : Value) (w : World) (K : Value → World → Prop) : Prop :=
  call P f_spec_l08Variable [a0] w fun x9_1 w2 =>
  bin P .geq 2 false true x9_1 (.int .i64 0) w2 fun x11_3 =>
  cnd x11_3
  (ixa P 52 a1 x9_1 w2 fun x14_4 =>
  ld P 66 x14_4 w2 fun x15_5 =>
  K x15_5 w2)
  (call P f_spec_l06Float [a0] w2 fun x18_6 w7 =>
  xtr P x18_6 0 w7 fun x19_8 =>
  xtr P x18_6 1 w7 fun x20_9 =>
  K x19_8 w7)
def P_spec_l08Leaf : Plan := (.seq (.reg [.op (0, 0, false)]) (.seq (.seq (.reg [.op (0, 0, false), .op (1, 2, false), .op (2, 0, false)]) (.seq (.reg [.op (0, 0, false), .op (1, 0, false)]) (.cond (.seq (.reg [.op (0, 0, false), .op (1, 0, false), .op (2, 0, false), .op (3, 0, false), .op (4, 0, false)]) .leaf) .leaf))) (.seq (.reg [.op (0, 0, false), .op (1, 2, false), .op (2, 0, false), .op (3, 0, false), .op (4, 0, false), .op (5, 0, false), .op (6, 0, false)]) (.seq (.reg [.op (0, 0, false), .op (1, 0, false)]) .leaf))))
theorem I_spec_l08Leaf {a0 a1 : Value} {w : World} {K : Value → World → Prop} (h : D_spec_l08Leaf a0 a1 w K) : call P f_spec_l08Leaf [a0, a1] w K :=
  call_of_vc mixed Tryz.func90 (c := codeOf Tryz.f90) (by kernel_rfl) (by kernel_rfl) (p := P_spec_l08Leaf) (by kernel_rfl) (by rw [Tryz.ntmps90]; simp) (by
    have e : D_spec_l08Leaf a0 a1 w K = vc P P_spec_l08Leaf (codeOf Tryz.f90) (env0 [a0, a1]) w (retX P Tryz.f90.results.toList K) := by kernel_rfl
    exact e ▸ h)

/-- spec.l08Variable -/
def D_spec_l08Variable (a0 : Value) (w : World) (K : Value → World → Prop) : Prop :=
  bin P .eql 9 false true a0 (.string ⟨#[120]⟩) w fun x5_1 =>
  cnd x5_1
  (K (.int .i64 0) w)
  (bin P .eql 9 false true a0 (.string ⟨#[121]⟩) w fun x7_2 =>
  cnd x7_2
  (K (.int .i64 1) w)
  (bin P .eql 9 false true a0 (.string ⟨#[122]⟩) w fun x9_3 =>
  cnd x9_3
  (K (.int .i64 2) w)
  (K (.int .i64 (-1)) w)))
def P_spec_l08Variable : Plan := (.seq (.reg [.op (0, 0, false)]) (.seq (.seq (.reg [.op (0, 0, false)]) (.blk (.seq (.reg [.op (0, 0, false), .op (1, 0, false)]) (.cond (.seq (.reg [.op (0, 0, false)]) .leaf) (.seq (.reg [.op (0, 0, false), .op (1, 0, false)]) (.cond (.seq (.reg [.op (0, 0, false)]) .leaf) (.seq (.reg [.op (0, 0, false), .op (1, 0, false)]) (.cond (.seq (.reg [.op (0, 0, false)]) .leaf) .leaf)))))))) (.seq (.reg [.op (0, 0, false)]) .leaf)))
theorem I_spec_l08Variable {a0 : Value} {w : World} {K : Value → World → Prop} (h : D_spec_l08Variable a0 w K) : call P f_spec_l08Variable [a0] w K :=
  call_of_vc mixed Tryz.func104 (c := codeOf Tryz.f104) (by kernel_rfl) (by kernel_rfl) (p := P_spec_l08Variable) (by kernel_rfl) (by rw [Tryz.ntmps104]; simp) (by
    have e : D_spec_l08Variable a0 w K = vc P P_spec_l08Variable (codeOf Tryz.f104) (env0 [a0]) w (retX P Tryz.f104.results.toList K) := by kernel_rfl
    exact e ▸ h)

/-- spec.l08Exactly -/
def D_spec_l08Exactly (a0 a1 a2 : Value) (w : World) (K : Value → World → Prop) : Prop :=
  bx P 57 a1 w fun x4_1 w2 =>
  bx P 57 a2 w2 fun x5_3 w4 =>
  alc P 57 w4 fun x6_5 w6 =>
  bin P .eql 9 false true a0 (.string ⟨#[110, 101, 103]⟩) w6 fun x10_7 =>
  cnd x10_7
  (ld P 57 x4_1 w6 fun x11_8 =>
  call P f_spec_l03Neg [x11_8] w6 fun x12_9 w10 =>
  sto P 57 x6_5 x12_9 w10 fun w12 =>
  ldc P 57 x6_5 w12 fun r13 =>
  K (.tuple #[r13, (.bool true)]) w12)
  (bin P .eql 9 false true a0 (.string ⟨#[115, 113, 114]⟩) w6 fun x14_14 =>
  cnd x14_14
  (ld P 57 x4_1 w6 fun x15_15 =>
  ld P 57 x4_1 w6 fun x16_16 =>
  call P f_spec_l03Mul [x15_15, x16_16] w6 fun x17_17 w18 =>
  sto P 57 x6_5 x17_17 w18 fun w20 =>
  ldc P 57 x6_5 w20 fun r21 =>
  K (.tuple #[r21, (.bool true)]) w20)
  (bin P .eql 9 false true a0 (.string ⟨#[97, 98, 115]⟩) w6 fun x19_22 =>
  cnd x19_22
  (fda P 57 x4_1 0 w6 fun x20_23 =>
  ld P 55 x20_23 w6 fun x21_24 =>
  fda P 57 x4_1 1 w6 fun x23_25 =>
  ld P 2 x23_25 w6 fun x24_26 =>
  call P f_spec_l02Abs [x21_24] w6 fun x22_27 w28 =>
  Ext w6 w28 ∧ bld P 57 [(0, x22_27), (1, x24_26)] w28 fun x25_29 =>
  sto P 57 x6_5 x25_29 w28 fun w31 =>
  ldc P 57 x6_5 w31 fun r32 =>
  K (.tuple #[r32, (.bool true)]) w31)
  (bin P .eql 9 false true a0 (.string ⟨#[43]⟩) w6 fun x27_33 =>
  cnd x27_33
  (ld P 57 x4_1 w6 fun x28_34 =>
  ld P 57 x5_3 w6 fun x29_35 =>
  call P f_spec_l03Add [x28_34, x29_35] w6 fun x30_36 w37 =>
  sto P 57 x6_5 x30_36 w37 fun w39 =>
  ldc P 57 x6_5 w39 fun r40 =>
  K (.tuple #[r40, (.bool true)]) w39)
  (bin P .eql 9 false true a0 (.string ⟨#[45]⟩) w6 fun x32_41 =>
  cnd x32_41
  (ld P 57 x4_1 w6 fun x33_42 =>
  ld P 57 x5_3 w6 fun x34_43 =>
  call P f_spec_l03Sub [x33_42, x34_43] w6 fun x35_44 w45 =>
  sto P 57 x6_5 x35_44 w45 fun w47 =>
  ldc P 57 x6_5 w47 fun r48 =>
  K (.tuple #[r48, (.bool true)]) w47)
  (bin P .eql 9 false true a0 (.string ⟨#[42]⟩) w6 fun x37_49 =>
  cnd x37_49
  (ld P 57 x4_1 w6 fun x38_50 =>
  ld P 57 x5_3 w6 fun x39_51 =>
  call P f_spec_l03Mul [x38_50, x39_51] w6 fun x40_52 w53 =>
  sto P 57 x6_5 x40_52 w53 fun w55 =>
  ldc P 57 x6_5 w55 fun r56 =>
  K (.tuple #[r56, (.bool true)]) w55)
  (∃ J57 : Value → World → Prop, (∀ (x41_60 : Value) (junk58 : Env) (w59 : World), J57 x41_60 w59 →
  cnd x41_60
  (ld P 57 x4_1 w59 fun x44_61 =>
  ld P 57 x5_3 w59 fun x45_62 =>
  call P f_spec_l03Compare [x44_61, x45_62] w59 fun x46_63 w64 =>
  bin P .gtr 2 false true x46_63 (.int .i64 0) w64 fun x47_65 =>
  bin P .eql 9 false true a0 (.string ⟨#[109, 105, 110]⟩) w64 fun x49_66 =>
  bin P .eql 4 false false x47_65 x49_66 w64 fun x50_67 =>
  cnd x50_67
  (ld P 57 x5_3 w64 fun x51_68 =>
  sto P 57 x6_5 x51_68 w64 fun w70 =>
  ldc P 57 x6_5 w70 fun r71 =>
  K (.tuple #[r71, (.bool true)]) w70)
  (ld P 57 x4_1 w64 fun x52_72 =>
  sto P 57 x6_5 x52_72 w64 fun w74 =>
  ldc P 57 x6_5 w74 fun r75 =>
  K (.tuple #[r75, (.bool true)]) w74))
  (bld P 57 [] w59 fun x53_76 =>
  sto P 57 x6_5 x53_76 w59 fun w78 =>
  ldc P 57 x6_5 w78 fun r79 =>
  K (.tuple #[r79, (.bool false)]) w78)) ∧
  (bin P .eql 9 false true a0 (.string ⟨#[109, 105, 110]⟩) w6 fun x42_80 =>
  cnd x42_80
  (J57 x42_80 w6)
  (bin P .eql 9 false true a0 (.string ⟨#[109, 97, 120]⟩) w6 fun x43_81 =>
  J57 x43_81 w6))))))))
def P_spec_l08Exactly : Plan := (.seq (.reg [.op (0, 2, false), .op (1, 2, false), .op (2, 2, false), .op (3, 0, false)]) (.seq (.seq (.reg [.op (0, 0, false)]) (.blk (.seq (.reg [.op (0, 0, false), .op (1, 0, false)]) (.cond (.seq (.reg [.op (0, 0, false), .op (1, 2, false), .op (2, 2, false), .op (3, 0, false)]) .leaf) (.seq (.reg [.op (0, 0, false), .op (1, 0, false)]) (.cond (.seq (.reg [.op (0, 0, false), .op (1, 0, false), .op (2, 2, false), .op (3, 2, false), .op (4, 0, false)]) .leaf) (.seq (.reg [.op (0, 0, false), .op (1, 0, false)]) (.cond (.seq (.reg [.op (0, 0, false), .op (1, 0, false), .op (3, 0, false), .op (4, 0, false), .op (2, 2, true), .op (5, 0, false), .op (6, 2, false), .op (7, 0, false)]) .leaf) (.seq (.reg [.op (0, 0, false), .op (1, 0, false)]) (.cond (.seq (.reg [.op (0, 0, false), .op (1, 0, false), .op (2, 2, false), .op (3, 2, false), .op (4, 0, false)]) .leaf) (.seq (.reg [.op (0, 0, false), .op (1, 0, false)]) (.cond (.seq (.reg [.op (0, 0, false), .op (1, 0, false), .op (2, 2, false), .op (3, 2, false), .op (4, 0, false)]) .leaf) (.seq (.reg [.op (0, 0, false), .op (1, 0, false)]) (.cond (.seq (.reg [.op (0, 0, false), .op (1, 0, false), .op (2, 2, false), .op (3, 2, false), .op (4, 0, false)]) .leaf) (.cut [41] 15393162788864 (.seq (.reg [.op (0, 0, false), .op (1, 0, false)]) (.cond .leaf (.reg [.op (0, 0, false), .op (1, 0, false)]))) (.cond (.seq (.seq (.reg [.op (0, 0, false), .op (1, 0, false), .op (2, 2, false), .op (3, 0, false), .op (4, 0, false), .op (5, 0, false), .op (6, 0, false)]) (.cond (.seq (.reg [.op (0, 0, false), .op (1, 2, false), .op (2, 0, false)]) .leaf) .leaf)) (.seq (.reg [.op (0, 0, false), .op (1, 2, false), .op (2, 0, false)]) .leaf)) .leaf)))))))))))))))) (.seq (.reg [.op (0, 0, false), .op (1, 2, false), .op (2, 0, false)]) .leaf)))
theorem I_spec_l08Exactly {a0 a1 a2 : Value} {w : World} {K : Value → World → Prop} (h : D_spec_l08Exactly a0 a1 a2 w K) : call P f_spec_l08Exactly [a0, a1, a2] w K :=
  call_of_vc mixed Tryz.func119 (c := codeOf Tryz.f119) (by kernel_rfl) (by kernel_rfl) (p := P_spec_l08Exactly) (by kernel_rfl) (by rw [Tryz.ntmps119]; simp) (by
    have e : D_spec_l08Exactly a0 a1 a2 w K = vc P P_spec_l08Exactly (codeOf Tryz.f119) (env0 [a0, a1, a2]) w (retX P Tryz.f119.results.toList K) := by kernel_rfl
    exact e ▸ h)

end Go.Proofs.YtjompmflommadaaGreatDoor
