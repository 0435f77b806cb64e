import Derived.Test.YtjompmflommadaaGreatDoorQParseProgram1
set_option linter.unusedSimpArgs false
set_option linter.unusedVariables false
/- Written by a program (gen.py): what is left to show of each function's call. -/
set_option linter.unusedVariables false
set_option maxRecDepth 20000
namespace Go.Proofs.YtjompmflommadaaGreatDoor
open Go Go.Vc

/-- impl.newInt -/
def D_impl_newInt (a0 : Value) (w : World) (K : Value → World → Prop) : Prop :=
  alc P 158 w fun x3_1 w2 =>
  call P f_impl_integer_SetInt64 [x3_1, a0] w2 fun x5_3 w4 =>
  K x5_3 w4
def P_impl_newInt : Plan := (.seq (.reg [.op (0, 0, false)]) (.seq (.reg [.op (0, 2, false), .op (1, 0, false), .op (2, 2, false), .op (3, 0, false)]) .leaf))
theorem I_impl_newInt {a0 : Value} {w : World} {K : Value → World → Prop} (h : D_impl_newInt a0 w K) : call P f_impl_newInt [a0] w K :=
  call_of_vc mixed Tryz.func124 (c := codeOf Tryz.f124) (by kernel_rfl) (by kernel_rfl) (p := P_impl_newInt) (by kernel_rfl) (by rw [Tryz.ntmps124]; simp) (by
    have e : D_impl_newInt a0 w K = vc P P_impl_newInt (codeOf Tryz.f124) (env0 [a0]) w (retX P Tryz.f124.results.toList K) := by kernel_rfl
    exact e ▸ h)

/-- (*impl.integer).Rsh -/
def D_impl_integer_Rsh (a0 a1 a2 : Value) (w : World) (K : Value → World → Prop) : Prop :=
  nch a1 fun x9_1 =>
  fda P 158 x9_1 0 w fun x10_2 =>
  ld P 4 x10_2 w fun x11_3 =>
  una P .not x11_3 w fun x12_4 =>
  cnd x12_4
    (nch a1 fun x15_5 =>
    fda P 158 x15_5 1 w fun x16_6 =>
    ld P 156 x16_6 w fun x17_7 =>
    call P f_impl_magRight [x17_7, a2] w fun x19_8 w9 =>
    call P f_impl_integer_put [a0, (.bool false), x19_8] w9 fun x20_10 w11 =>
    K x20_10 w11)
    (nch a1 fun x22_12 =>
    fda P 158 x22_12 1 w fun x23_13 =>
    ld P 156 x23_13 w fun x24_14 =>
    bsl P 156 1 [(0, (.int .u32 1))] w fun x25_15 w16 =>
    call P f_impl_magSub [x24_14, x25_15] w16 fun x26_17 w18 =>
    call P f_impl_magRight [x26_17, a2] w18 fun x30_19 w20 =>
    bsl P 156 1 [(0, (.int .u32 1))] w20 fun x31_21 w22 =>
    call P f_impl_magAdd [x30_19, x31_21] w22 fun x32_23 w24 =>
    call P f_impl_integer_put [a0, (.bool true), x32_23] w24 fun x33_25 w26 =>
    K x33_25 w26)
def P_impl_integer_Rsh : Plan := (.seq (.reg [.op (0, 0, false)]) (.seq (.seq (.reg [.op (0, 0, false), .op (1, 0, false), .op (2, 0, false), .op (3, 0, false), .op (4, 0, false)]) (.cond (.seq (.reg [.op (0, 0, false), .op (1, 0, false), .op (2, 0, false), .op (3, 0, false), .op (4, 0, false), .op (5, 0, false), .op (6, 2, false), .op (7, 2, false), .op (8, 0, false)]) .leaf) .leaf)) (.seq (.reg [.op (0, 0, false), .op (1, 0, false), .op (2, 0, false), .op (3, 0, false), .op (4, 2, false), .op (5, 2, false), .op (6, 0, false)]) (.seq (.reg [.op (0, 0, false), .op (1, 0, false), .op (2, 0, false), .op (3, 2, false), .op (4, 2, false), .op (5, 2, false), .op (6, 2, false), .op (7, 0, false)]) .leaf))))
theorem I_impl_integer_Rsh {a0 a1 a2 : Value} {w : World} {K : Value → World → Prop} (h : D_impl_integer_Rsh a0 a1 a2 w K) : call P f_impl_integer_Rsh [a0, a1, a2] w K :=
  call_of_vc mixed Tryz.func128 (c := codeOf Tryz.f128) (by kernel_rfl) (by kernel_rfl) (p := P_impl_integer_Rsh) (by kernel_rfl) (by rw [Tryz.ntmps128]; simp) (by
    have e : D_impl_integer_Rsh a0 a1 a2 w K = vc P P_impl_integer_Rsh (codeOf Tryz.f128) (env0 [a0, a1, a2]) w (retX P Tryz.f128.results.toList K) := by kernel_rfl
    exact e ▸ h)

/-- impl.fromBig -/
def D_impl_fromBig (a0 : Value) (w : World) (K : Value → World → Prop) : Prop :=
  alc P 55 w fun x2_1 w2 =>
  call P f_impl_integer_BitLen [a0] w2 fun x8_3 w4 =>
  bin P .gtr 3 false true x8_3 (.int .i64 2400) w4 fun x9_5 =>
  cnd x9_5
    (bld P 55 [] w4 fun x10_6 =>
    sto P 55 x2_1 x10_6 w4 fun w8 =>
    ldc P 55 x2_1 w8 fun r9 =>
    K (.tuple #[r9, (.bool false)]) w8)
    (call P f_impl_integer_Sign [a0] w4 fun x12_10 w11 =>
    bld P 55 [(0, x12_10)] w11 fun x13_12 =>
    alc P 55 w11 fun x4_13 w14 =>
    sto P 55 x4_13 x13_12 w14 fun w16 =>
    alc P 158 w16 fun x14_17 w18 =>
    call P f_impl_integer_Abs [x14_17, a0] w18 fun x16_19 w20 =>
    call P f_impl_newInt [(.int .i64 16777215)] w20 fun x17_21 w22 =>
    ∃ I23 : Nat → World → Prop, (∃ m52, I23 m52 w22) ∧ ∀ (m26 : Nat) (junk24 : Env) (w25 : World), I23 m26 w25 →
      call P f_impl_integer_Sign [x16_19] w25 fun x19_27 w28 =>
      bin P .gtr 3 false true x19_27 (.int .i64 0) w28 fun x20_29 =>
      cnd x20_29
        (fda P 55 x4_13 1 w28 fun x21_30 =>
        ld P 53 x21_30 w28 fun x22_31 =>
        alc P 158 w28 fun x23_32 w33 =>
        Ext w28 w33 ∧ call P f_impl_integer_And [x23_32, x16_19, x17_21] w33 fun x26_34 w35 =>
        (fda P 55 x4_13 1 w35 fun z => z = x21_30) ∧ (ld P 53 x21_30 w35 fun z => z = x22_31) ∧ call P f_impl_integer_Int64 [x26_34] w35 fun x27_36 w37 =>
        Ext w35 w37 ∧ bsl P 53 1 [(0, x27_36)] w37 fun x28_38 w39 =>
        Ext w37 w39 ∧ bl2 P .append #[53, 53] 53 [x22_31, x28_38] w39 fun x29_40 w41 =>
        fda P 55 x4_13 1 w41 fun x30_42 =>
        sto P 53 x30_42 x29_40 w41 fun w44 =>
        call P f_impl_integer_Rsh [x16_19, x16_19, (.int .u64 24)] w44 fun x33_45 w46 =>
        ∃ m47, m47 < m26 ∧ I23 m47 w46)
        (ld P 55 x4_13 w28 fun x34_48 =>
        sto P 55 x2_1 x34_48 w28 fun w50 =>
        ldc P 55 x2_1 w50 fun r51 =>
        K (.tuple #[r51, (.bool true)]) w50))
def P_impl_fromBig : Plan := (.seq (.reg [.op (0, 2, false), .op (1, 0, false)]) (.seq (.seq (.reg [.op (0, 0, false), .op (1, 2, false), .op (2, 0, false)]) (.cond (.seq (.reg [.op (0, 0, false), .op (1, 2, false), .op (2, 0, false)]) .leaf) .leaf)) (.seq (.reg [.op (0, 0, false), .op (1, 2, false), .op (2, 0, false), .op (3, 2, false), .op (4, 2, false)]) (.seq (.reg [.op (0, 2, false), .op (1, 0, false), .op (2, 2, false), .op (3, 0, false)]) (.seq (.reg [.op (0, 2, false), .op (1, 0, false)]) (.seq (.blk (.loop [] 17179607040 (.seq (.seq (.reg [.op (0, 0, false), .op (1, 2, false), .op (2, 0, false)]) (.cond .leaf .leaf)) (.blk (.seq (.reg [.op (0, 0, false), .op (1, 0, false), .op (3, 0, false), .op (4, 0, false), .op (2, 2, true), .op (5, 5, false), .op (6, 2, true), .op (7, 2, true), .op (8, 2, false), .op (9, 0, false), .op (10, 2, false)]) (.reg [.op (0, 0, false), .op (1, 0, false), .op (2, 2, false)])))))) (.seq (.reg [.op (0, 0, false), .op (1, 2, false), .op (2, 0, false)]) .leaf)))))))
theorem I_impl_fromBig {a0 : Value} {w : World} {K : Value → World → Prop} (h : D_impl_fromBig a0 w K) : call P f_impl_fromBig [a0] w K :=
  call_of_vc mixed Tryz.func137 (c := codeOf Tryz.f137) (by kernel_rfl) (by kernel_rfl) (p := P_impl_fromBig) (by kernel_rfl) (by rw [Tryz.ntmps137]; simp) (by
    have e : D_impl_fromBig a0 w K = vc P P_impl_fromBig (codeOf Tryz.f137) (env0 [a0]) w (retX P Tryz.f137.results.toList K) := by kernel_rfl
    exact e ▸ h)

/-- (*impl.integer).SetInt64 -/
def D_impl_integer_SetInt64 (a0 a1 : Value) (w : World) (K : Value → World → Prop) : Prop :=
  cnv P 2 178 a1 w fun x7_1 =>
  ∃ J2 : Value → World → Prop, (∀ (x5_5 : Value) (junk3 : Env) (w4 : World), J2 x5_5 w4 →
    bin P .lss 2 false true a1 (.int .i64 0) w4 fun x14_6 =>
    cnv P 178 202 x5_5 w4 fun x16_7 =>
    bin P .shr 178 false true x5_5 (.int .u64 32) w4 fun x18_8 =>
    cnv P 178 202 x18_8 w4 fun x19_9 =>
    bsl P 156 2 [(0, x16_7), (1, x19_9)] w4 fun x20_10 w11 =>
    call P f_impl_integer_put [a0, x14_6, x20_10] w11 fun x21_12 w13 =>
    K x21_12 w13) ∧
    (bin P .lss 2 false true a1 (.int .i64 0) w fun x9_14 =>
    cnd x9_14
      (una P .neg x7_1 w fun x11_15 =>
      J2 x11_15 w)
      (J2 x7_1 w))
def P_impl_integer_SetInt64 : Plan := (.seq (.reg [.op (0, 0, false)]) (.seq (.reg [.op (0, 0, false), .op (1, 0, false), .op (2, 0, false)]) (.cut [5] 3872 (.seq (.reg [.op (0, 0, false), .op (1, 0, false)]) (.cond (.reg [.op (0, 0, false), .op (1, 0, false), .op (2, 0, false)]) .leaf)) (.seq (.reg [.op (0, 0, false), .op (1, 0, false), .op (2, 0, false), .op (3, 0, false), .op (4, 0, false), .op (5, 0, false), .op (6, 0, false), .op (7, 0, false), .op (8, 2, false), .op (9, 2, false), .op (10, 0, false)]) .leaf))))
theorem I_impl_integer_SetInt64 {a0 a1 : Value} {w : World} {K : Value → World → Prop} (h : D_impl_integer_SetInt64 a0 a1 w K) : call P f_impl_integer_SetInt64 [a0, a1] w K :=
  call_of_vc mixed Tryz.func174 (c := codeOf Tryz.f174) (by kernel_rfl) (by kernel_rfl) (p := P_impl_integer_SetInt64) (by kernel_rfl) (by rw [Tryz.ntmps174]; simp) (by
    have e : D_impl_integer_SetInt64 a0 a1 w K = vc P P_impl_integer_SetInt64 (codeOf Tryz.f174) (env0 [a0, a1]) w (retX P Tryz.f174.results.toList K) := by kernel_rfl
    exact e ▸ h)

/-- (*impl.integer).Sign -/
def D_impl_integer_Sign (a0 : Value) (w : World) (K : Value → World → Prop) : Prop :=
  nch a0 fun x5_1 =>
  fda P 158 x5_1 0 w fun x6_2 =>
  ld P 4 x6_2 w fun x7_3 =>
  cnd x7_3
    (K (.int .i64 (-1)) w)
    (nch a0 fun x10_4 =>
    fda P 158 x10_4 1 w fun x11_5 =>
    ld P 156 x11_5 w fun x12_6 =>
    bl0 P .len #[156] 3 [x12_6] w fun x13_7 =>
    bin P .gtr 3 false true x13_7 (.int .i64 0) w fun x14_8 =>
    cnd x14_8
      (K (.int .i64 1) w)
      (K (.int .i64 0) w))
def P_impl_integer_Sign : Plan := (.seq (.reg [.op (0, 0, false)]) (.seq (.blk (.seq (.reg [.op (0, 0, false), .op (1, 0, false), .op (2, 0, false), .op (3, 0, false), .op (4, 0, false)]) (.cond (.seq (.reg [.op (0, 0, false)]) .leaf) (.seq (.reg [.op (0, 0, false), .op (1, 0, false), .op (2, 0, false), .op (3, 0, false), .op (4, 0, false), .op (5, 0, false), .op (6, 0, false)]) (.cond (.seq (.reg [.op (0, 0, false)]) .leaf) .leaf))))) (.seq (.reg [.op (0, 0, false)]) .leaf)))
theorem I_impl_integer_Sign {a0 : Value} {w : World} {K : Value → World → Prop} (h : D_impl_integer_Sign a0 w K) : call P f_impl_integer_Sign [a0] w K :=
  call_of_vc mixed Tryz.func175 (c := codeOf Tryz.f175) (by kernel_rfl) (by kernel_rfl) (p := P_impl_integer_Sign) (by kernel_rfl) (by rw [Tryz.ntmps175]; simp) (by
    have e : D_impl_integer_Sign a0 w K = vc P P_impl_integer_Sign (codeOf Tryz.f175) (env0 [a0]) w (retX P Tryz.f175.results.toList K) := by kernel_rfl
    exact e ▸ h)

/-- (*impl.integer).BitLen -/
def D_impl_integer_BitLen (a0 : Value) (w : World) (K : Value → World → Prop) : Prop :=
  nch a0 fun x4_1 =>
  fda P 158 x4_1 1 w fun x5_2 =>
  ld P 156 x5_2 w fun x6_3 =>
  call P f_impl_magBits [x6_3] w fun x7_4 w5 =>
  K x7_4 w5
def P_impl_integer_BitLen : Plan := (.seq (.reg [.op (0, 0, false)]) (.seq (.reg [.op (0, 0, false), .op (1, 0, false), .op (2, 0, false), .op (3, 0, false), .op (4, 2, false), .op (5, 0, false)]) .leaf))
theorem I_impl_integer_BitLen {a0 : Value} {w : World} {K : Value → World → Prop} (h : D_impl_integer_BitLen a0 w K) : call P f_impl_integer_BitLen [a0] w K :=
  call_of_vc mixed Tryz.func176 (c := codeOf Tryz.f176) (by kernel_rfl) (by kernel_rfl) (p := P_impl_integer_BitLen) (by kernel_rfl) (by rw [Tryz.ntmps176]; simp) (by
    have e : D_impl_integer_BitLen a0 w K = vc P P_impl_integer_BitLen (codeOf Tryz.f176) (env0 [a0]) w (retX P Tryz.f176.results.toList K) := by kernel_rfl
    exact e ▸ h)

/-- (*impl.integer).Bit -/
def D_impl_integer_Bit (a0 a1 : Value) (w : World) (K : Value → World → Prop) : Prop :=
  bin P .quo 3 false true a1 (.int .i64 32) w fun x6_1 =>
  nch a0 fun x8_2 =>
  fda P 158 x8_2 1 w fun x9_3 =>
  ld P 156 x9_3 w fun x10_4 =>
  bl0 P .len #[156] 3 [x10_4] w fun x11_5 =>
  bin P .geq 3 false false x6_1 x11_5 w fun x12_6 =>
  cnd x12_6
    (K (.int .u64 0) w)
    (nch a0 fun x14_7 =>
    fda P 158 x14_7 1 w fun x15_8 =>
    ld P 156 x15_8 w fun x16_9 =>
    bin P .quo 3 false true a1 (.int .i64 32) w fun x18_10 =>
    ixa P 156 x16_9 x18_10 w fun x19_11 =>
    ld P 202 x19_11 w fun x20_12 =>
    bin P .rem 3 false true a1 (.int .i64 32) w fun x22_13 =>
    bin P .shr 202 false false x20_12 x22_13 w fun x23_14 =>
    bin P .and 202 false true x23_14 (.int .u32 1) w fun x24_15 =>
    cnv P 202 154 x24_15 w fun x25_16 =>
    K x25_16 w)
def P_impl_integer_Bit : Plan := (.seq (.reg [.op (0, 0, false)]) (.seq (.seq (.reg [.op (0, 0, false), .op (1, 0, false), .op (2, 0, false), .op (3, 0, false), .op (4, 0, false), .op (5, 0, false), .op (6, 0, false), .op (7, 0, false)]) (.cond (.seq (.reg [.op (0, 0, false)]) .leaf) .leaf)) (.seq (.reg [.op (0, 0, false), .op (1, 0, false), .op (2, 0, false), .op (3, 0, false), .op (4, 0, false), .op (5, 0, false), .op (6, 0, false), .op (7, 0, false), .op (8, 0, false), .op (9, 0, false), .op (10, 0, false), .op (11, 0, false), .op (12, 0, false), .op (13, 0, false)]) .leaf)))
theorem I_impl_integer_Bit {a0 a1 : Value} {w : World} {K : Value → World → Prop} (h : D_impl_integer_Bit a0 a1 w K) : call P f_impl_integer_Bit [a0, a1] w K :=
  call_of_vc mixed Tryz.func177 (c := codeOf Tryz.f177) (by kernel_rfl) (by kernel_rfl) (p := P_impl_integer_Bit) (by kernel_rfl) (by rw [Tryz.ntmps177]; simp) (by
    have e : D_impl_integer_Bit a0 a1 w K = vc P P_impl_integer_Bit (codeOf Tryz.f177) (env0 [a0, a1]) w (retX P Tryz.f177.results.toList K) := by kernel_rfl
    exact e ▸ h)

/-- (*impl.integer).put -/
def D_impl_integer_put (a0 a1 a2 : Value) (w : World) (K : Value → World → Prop) : Prop :=
  call P f_impl_magTrim [a2] w fun x9_1 w2 =>
  nch a0 fun x10_3 =>
  fda P 158 x10_3 1 w2 fun x11_4 =>
  sto P 156 x11_4 x9_1 w2 fun w6 =>
  ∃ J7 : Value → World → Prop, (∀ (x20_8 : Value) (junk10 : Env) (w9 : World), J7 x20_8 w9 →
    pick a1 x20_8 (.bool false) fun x21_11 =>
    nch a0 fun x22_12 =>
    fda P 158 x22_12 0 w9 fun x23_13 =>
    sto P 4 x23_13 x21_11 w9 fun w15 =>
    K a0 w15) ∧
    grd a1 true
      (nch a0 fun x16_16 =>
      fda P 158 x16_16 1 w6 fun x17_17 =>
      ld P 156 x17_17 w6 fun x18_18 =>
      bl0 P .len #[156] 3 [x18_18] w6 fun x19_19 =>
      bin P .gtr 3 false true x19_19 (.int .i64 0) w6 fun x20_20 =>
      J7 x20_20 w6)
      (J7 undef w6)
def P_impl_integer_put : Plan := (.seq (.reg [.op (0, 0, false)]) (.seq (.reg [.op (0, 0, false), .op (1, 0, false), .op (2, 2, false), .op (3, 0, false), .op (4, 0, false), .op (5, 2, false)]) (.seq (.reg [.op (0, 0, false), .op (1, 0, false), .op (2, 0, false), .grp 2 true [(3, 0, false), (4, 0, false), (5, 0, false), (6, 0, false), (7, 0, false), (8, 0, false)] [20] 2064384, .op (9, 0, false), .op (10, 0, false), .op (11, 0, false), .op (12, 2, false)]) (.seq (.reg [.op (0, 0, false), .op (1, 0, false)]) .leaf))))
theorem I_impl_integer_put {a0 a1 a2 : Value} {w : World} {K : Value → World → Prop} (h : D_impl_integer_put a0 a1 a2 w K) : call P f_impl_integer_put [a0, a1, a2] w K :=
  call_of_vc mixed Tryz.func178 (c := codeOf Tryz.f178) (by kernel_rfl) (by kernel_rfl) (p := P_impl_integer_put) (by kernel_rfl) (by rw [Tryz.ntmps178]; simp) (by
    have e : D_impl_integer_put a0 a1 a2 w K = vc P P_impl_integer_put (codeOf Tryz.f178) (env0 [a0, a1, a2]) w (retX P Tryz.f178.results.toList K) := by kernel_rfl
    exact e ▸ h)

/-- impl.magRight -/
def D_impl_magRight (a0 a1 : Value) (w : World) (K : Value → World → Prop) : Prop :=
  bl0 P .len #[156] 3 [a0] w fun x10_1 =>
  cnv P 3 154 x10_1 w fun x11_2 =>
  bin P .quo 154 false true a1 (.int .u64 32) w fun x13_3 =>
  bin P .leq 154 false false x11_2 x13_3 w fun x14_4 =>
  cnd x14_4
    (K (.slice none 0 0) w)
    (bin P .quo 154 false true a1 (.int .u64 32) w fun x17_5 =>
    sli P 156 a0 (some x17_5) none none w fun x18_6 =>
    bl0 P .len #[156] 3 [x18_6] w fun x20_7 =>
    mks P 156 x20_7 x20_7 w fun x21_8 w9 =>
    bl0 P .len #[156] 3 [x18_6] w9 fun x23_10 =>
    ∃ I11 : Nat → Value → World → Prop, (∃ m43, I11 m43 (.int .i64 0) w9) ∧ ∀ (m14 : Nat) (x24_15 : Value) (junk12 : Env) (w13 : World), I11 m14 x24_15 w13 →
      bin P .lss 3 false false x24_15 x23_10 w13 fun x25_16 =>
      cnd x25_16
        (ixa P 156 x18_6 x24_15 w13 fun x27_17 =>
        ld P 202 x27_17 w13 fun x28_18 =>
        cnv P 202 178 x28_18 w13 fun x30_19 =>
        ∃ J20 : Value → World → Prop, (∀ (x8_23 : Value) (junk21 : Env) (w22 : World), J20 x8_23 w22 →
          bin P .rem 154 false true a1 (.int .u64 32) w22 fun x49_24 =>
          bin P .shr 178 false false x8_23 x49_24 w22 fun x50_25 =>
          cnv P 178 202 x50_25 w22 fun x51_26 =>
          ixa P 156 x21_8 x24_15 w22 fun x52_27 =>
          sto P 202 x52_27 x51_26 w22 fun w29 =>
          bin P .add 3 false true x24_15 (.int .i64 1) w29 fun x53_30 =>
          ∃ m31, m31 < m14 ∧ I11 m31 x53_30 w29) ∧
          (bin P .add 3 false true x24_15 (.int .i64 1) w13 fun x32_32 =>
          bl0 P .len #[156] 3 [x18_6] w13 fun x34_33 =>
          bin P .lss 3 false false x32_32 x34_33 w13 fun x35_34 =>
          cnd x35_34
            (bin P .add 3 false true x24_15 (.int .i64 1) w13 fun x39_35 =>
            ixa P 156 x18_6 x39_35 w13 fun x40_36 =>
            ld P 202 x40_36 w13 fun x41_37 =>
            cnv P 202 178 x41_37 w13 fun x42_38 =>
            bin P .shl 178 false true x42_38 (.int .u64 32) w13 fun x43_39 =>
            bin P .or 178 false false x30_19 x43_39 w13 fun x44_40 =>
            J20 x44_40 w13)
            (J20 x30_19 w13)))
        (call P f_impl_magTrim [x21_8] w13 fun x55_41 w42 =>
        K x55_41 w42))
def P_impl_magRight : Plan := (.seq (.reg [.op (0, 0, false)]) (.seq (.seq (.reg [.op (0, 0, false), .op (1, 0, false), .op (2, 0, false), .op (3, 0, false), .op (4, 0, false), .op (5, 0, false)]) (.cond (.seq (.reg [.op (0, 0, false)]) .leaf) .leaf)) (.seq (.reg [.op (0, 0, false), .op (1, 0, false), .op (2, 0, false), .op (3, 0, false), .op (4, 0, false)]) (.seq (.reg [.op (0, 0, false), .op (1, 0, false), .op (2, 2, false), .op (3, 0, false)]) (.seq (.seq (.reg [.op (0, 0, false), .op (1, 0, false), .op (2, 0, false)]) (.blk (.loop [24] 18014398492705216 (.seq (.reg [.op (0, 0, false)]) (.seq (.cond .leaf .leaf) (.seq (.blk (.seq (.reg [.op (0, 0, false), .op (1, 0, false), .op (2, 0, false), .op (3, 0, false), .op (4, 0, false)]) (.seq (.reg [.op (0, 0, false), .op (1, 0, false), .op (2, 0, false)]) (.cut [8] 35182224605440 (.seq (.reg [.op (0, 0, false), .op (1, 0, false), .op (2, 0, false), .op (3, 0, false), .op (4, 0, false)]) (.cond (.reg [.op (0, 0, false), .op (1, 0, false), .op (2, 0, false), .op (3, 0, false), .op (4, 0, false), .op (5, 0, false), .op (6, 0, false), .op (7, 0, false), .op (8, 0, false), .op (9, 0, false)]) .leaf)) (.reg [.op (0, 0, false), .op (1, 0, false), .op (2, 0, false), .op (3, 0, false), .op (4, 0, false), .op (5, 0, false), .op (6, 0, false), .op (7, 0, false), .op (8, 2, false)]))))) (.reg [.op (0, 0, false), .op (1, 0, false)]))))))) (.seq (.reg [.op (0, 0, false), .op (1, 2, false), .op (2, 0, false)]) .leaf))))))
theorem I_impl_magRight {a0 a1 : Value} {w : World} {K : Value → World → Prop} (h : D_impl_magRight a0 a1 w K) : call P f_impl_magRight [a0, a1] w K :=
  call_of_vc mixed Tryz.func179 (c := codeOf Tryz.f179) (by kernel_rfl) (by kernel_rfl) (p := P_impl_magRight) (by kernel_rfl) (by rw [Tryz.ntmps179]; simp) (by
    have e : D_impl_magRight a0 a1 w K = vc P P_impl_magRight (codeOf Tryz.f179) (env0 [a0, a1]) w (retX P Tryz.f179.results.toList K) := by kernel_rfl
    exact e ▸ h)

/-- impl.magSub -/
def D_impl_magSub (a0 a1 : Value) (w : World) (K : Value → World → Prop) : Prop :=
  bl0 P .len #[156] 3 [a0] w fun x12_1 =>
  mks P 156 x12_1 x12_1 w fun x13_2 w3 =>
  bl0 P .len #[156] 3 [a0] w3 fun x15_4 =>
  ∃ I5 : Nat → Value → Value → World → Prop, (∃ m35, I5 m35 (.int .u64 0) (.int .i64 0) w3) ∧ ∀ (m8 : Nat) (x6_9 : Value) (x16_10 : Value) (junk6 : Env) (w7 : World), I5 m8 x6_9 x16_10 w7 →
    bin P .lss 3 false false x16_10 x15_4 w7 fun x17_11 =>
    cnd x17_11
      (ixa P 156 a0 x16_10 w7 fun x19_12 =>
      ld P 202 x19_12 w7 fun x20_13 =>
      ∃ J14 : Value → World → Prop, (∀ (x9_17 : Value) (junk15 : Env) (w16 : World), J14 x9_17 w16 →
        cnv P 202 178 x20_13 w16 fun x34_18 =>
        bin P .sub 178 false false x34_18 x9_17 w16 fun x36_19 =>
        cnv P 178 202 x36_19 w16 fun x40_20 =>
        ixa P 156 x13_2 x16_10 w16 fun x41_21 =>
        sto P 202 x41_21 x40_20 w16 fun w23 =>
        bin P .shr 178 false true x36_19 (.int .u64 63) w23 fun x43_24 =>
        bin P .add 3 false true x16_10 (.int .i64 1) w23 fun x44_25 =>
        ∃ m26, m26 < m8 ∧ I5 m26 x43_24 x44_25 w23) ∧
        (bl0 P .len #[156] 3 [a1] w7 fun x24_27 =>
        bin P .lss 3 false false x16_10 x24_27 w7 fun x25_28 =>
        cnd x25_28
          (ixa P 156 a1 x16_10 w7 fun x29_29 =>
          ld P 202 x29_29 w7 fun x30_30 =>
          cnv P 202 178 x30_30 w7 fun x31_31 =>
          bin P .add 178 false false x6_9 x31_31 w7 fun x32_32 =>
          J14 x32_32 w7)
          (J14 x6_9 w7)))
      (call P f_impl_magTrim [x13_2] w7 fun x46_33 w34 =>
      K x46_33 w34)
def P_impl_magSub : Plan := (.seq (.reg [.op (0, 0, false)]) (.seq (.reg [.op (0, 0, false), .op (1, 0, false), .op (2, 2, false), .op (3, 0, false)]) (.seq (.reg [.op (0, 0, false)]) (.seq (.seq (.reg [.op (0, 0, false), .op (1, 0, false), .op (2, 0, false)]) (.blk (.loop [6, 16] 35184372025280 (.seq (.reg [.op (0, 0, false)]) (.seq (.cond .leaf .leaf) (.seq (.blk (.seq (.reg [.op (0, 0, false), .op (1, 0, false), .op (2, 0, false), .op (3, 0, false), .op (4, 0, false)]) (.seq (.reg [.op (0, 0, false), .op (1, 0, false)]) (.cut [9] 8585740800 (.seq (.reg [.op (0, 0, false), .op (1, 0, false), .op (2, 0, false), .op (3, 0, false)]) (.cond (.reg [.op (0, 0, false), .op (1, 0, false), .op (2, 0, false), .op (3, 0, false), .op (4, 0, false), .op (5, 0, false), .op (6, 0, false), .op (7, 0, false)]) .leaf)) (.seq (.reg [.op (0, 0, false), .op (1, 0, false), .op (2, 0, false), .op (3, 0, false), .op (4, 0, false)]) (.seq (.reg [.op (0, 0, false), .op (1, 0, false), .op (2, 0, false), .op (3, 0, false), .op (4, 0, false), .op (5, 2, false)]) (.reg [.op (0, 0, false), .op (1, 0, false), .op (2, 0, false)]))))))) (.reg [.op (0, 0, false), .op (1, 0, false)]))))))) (.seq (.reg [.op (0, 0, false), .op (1, 2, false), .op (2, 0, false)]) .leaf)))))
theorem I_impl_magSub {a0 a1 : Value} {w : World} {K : Value → World → Prop} (h : D_impl_magSub a0 a1 w K) : call P f_impl_magSub [a0, a1] w K :=
  call_of_vc mixed Tryz.func180 (c := codeOf Tryz.f180) (by kernel_rfl) (by kernel_rfl) (p := P_impl_magSub) (by kernel_rfl) (by rw [Tryz.ntmps180]; simp) (by
    have e : D_impl_magSub a0 a1 w K = vc P P_impl_magSub (codeOf Tryz.f180) (env0 [a0, a1]) w (retX P Tryz.f180.results.toList K) := by kernel_rfl
    exact e ▸ h)

/-- impl.magAdd -/
def D_impl_magAdd (a0 a1 : Value) (w : World) (K : Value → World → Prop) : Prop :=
  ∃ J1 : Value → Value → World → Prop, (∀ (x0_4 : Value) (x1_5 : Value) (junk2 : Env) (w3 : World), J1 x0_4 x1_5 w3 →
    bl0 P .len #[156] 3 [x0_4] w3 fun x17_6 =>
    bin P .add 3 false true x17_6 (.int .i64 1) w3 fun x18_7 =>
    mks P 156 x18_7 x18_7 w3 fun x19_8 w9 =>
    bl0 P .len #[156] 3 [x0_4] w9 fun x21_10 =>
    ∃ I11 : Nat → Value → Value → World → Prop, (∃ m46, I11 m46 (.int .u64 0) (.int .i64 0) w9) ∧ ∀ (m14 : Nat) (x6_15 : Value) (x22_16 : Value) (junk12 : Env) (w13 : World), I11 m14 x6_15 x22_16 w13 →
      bin P .lss 3 false false x22_16 x21_10 w13 fun x23_17 =>
      cnd x23_17
        (ixa P 156 x0_4 x22_16 w13 fun x25_18 =>
        ld P 202 x25_18 w13 fun x26_19 =>
        cnv P 202 178 x26_19 w13 fun x29_20 =>
        bin P .add 178 false false x6_15 x29_20 w13 fun x30_21 =>
        ∃ J22 : Value → World → Prop, (∀ (x6_25 : Value) (junk23 : Env) (w24 : World), J22 x6_25 w24 →
          cnv P 178 202 x6_25 w24 fun x45_26 =>
          ixa P 156 x19_8 x22_16 w24 fun x46_27 =>
          sto P 202 x46_27 x45_26 w24 fun w29 =>
          bin P .shr 178 false true x6_25 (.int .u64 32) w29 fun x48_30 =>
          bin P .add 3 false true x22_16 (.int .i64 1) w29 fun x49_31 =>
          ∃ m32, m32 < m14 ∧ I11 m32 x48_30 x49_31 w29) ∧
          (bl0 P .len #[156] 3 [x1_5] w13 fun x33_33 =>
          bin P .lss 3 false false x22_16 x33_33 w13 fun x34_34 =>
          cnd x34_34
            (ixa P 156 x1_5 x22_16 w13 fun x38_35 =>
            ld P 202 x38_35 w13 fun x39_36 =>
            cnv P 202 178 x39_36 w13 fun x40_37 =>
            bin P .add 178 false false x30_21 x40_37 w13 fun x41_38 =>
            J22 x41_38 w13)
            (J22 x30_21 w13)))
        (bl0 P .len #[156] 3 [x0_4] w13 fun x52_39 =>
        cnv P 178 202 x6_15 w13 fun x54_40 =>
        ixa P 156 x19_8 x52_39 w13 fun x55_41 =>
        sto P 202 x55_41 x54_40 w13 fun w43 =>
        call P f_impl_magTrim [x19_8] w43 fun x57_44 w45 =>
        K x57_44 w45)) ∧
    (bl0 P .len #[156] 3 [a0] w fun x10_47 =>
    bl0 P .len #[156] 3 [a1] w fun x12_48 =>
    bin P .lss 3 false false x10_47 x12_48 w fun x13_49 =>
    cnd x13_49
      (J1 a1 a0 w)
      (J1 a0 a1 w))
def P_impl_magAdd : Plan := (.seq (.reg [.op (0, 0, false)]) (.cut [0, 1] 65027 (.seq (.reg [.op (0, 0, false), .op (1, 0, false), .op (2, 0, false), .op (3, 0, false), .op (4, 0, false)]) (.cond (.reg [.op (0, 0, false), .op (1, 0, false), .op (2, 0, false), .op (3, 0, false)]) .leaf)) (.seq (.reg [.op (0, 0, false), .op (1, 0, false), .op (2, 0, false), .op (3, 2, false), .op (4, 0, false)]) (.seq (.reg [.op (0, 0, false)]) (.seq (.seq (.reg [.op (0, 0, false), .op (1, 0, false), .op (2, 0, false)]) (.blk (.loop [6, 22] 1125899902648768 (.seq (.reg [.op (0, 0, false)]) (.seq (.cond .leaf .leaf) (.seq (.blk (.seq (.reg [.op (0, 0, false), .op (1, 0, false), .op (2, 0, false), .op (3, 0, false), .op (4, 0, false)]) (.seq (.reg [.op (0, 0, false), .op (1, 0, false), .op (2, 0, false), .op (3, 0, false), .op (4, 0, false)]) (.cut [6] 4395899027520 (.seq (.reg [.op (0, 0, false), .op (1, 0, false), .op (2, 0, false), .op (3, 0, false)]) (.cond (.reg [.op (0, 0, false), .op (1, 0, false), .op (2, 0, false), .op (3, 0, false), .op (4, 0, false), .op (5, 0, false), .op (6, 0, false), .op (7, 0, false)]) .leaf)) (.seq (.reg [.op (0, 0, false), .op (1, 0, false), .op (2, 0, false), .op (3, 0, false), .op (4, 0, false), .op (5, 2, false)]) (.reg [.op (0, 0, false), .op (1, 0, false), .op (2, 0, false)])))))) (.reg [.op (0, 0, false), .op (1, 0, false)]))))))) (.seq (.reg [.op (0, 0, false), .op (1, 0, false), .op (2, 0, false), .op (3, 0, false), .op (4, 0, false), .op (5, 0, false), .op (6, 2, false)]) (.seq (.reg [.op (0, 0, false), .op (1, 2, false), .op (2, 0, false)]) .leaf)))))))
theorem I_impl_magAdd {a0 a1 : Value} {w : World} {K : Value → World → Prop} (h : D_impl_magAdd a0 a1 w K) : call P f_impl_magAdd [a0, a1] w K :=
  call_of_vc mixed Tryz.func181 (c := codeOf Tryz.f181) (by kernel_rfl) (by kernel_rfl) (p := P_impl_magAdd) (by kernel_rfl) (by rw [Tryz.ntmps181]; simp) (by
    have e : D_impl_magAdd a0 a1 w K = vc P P_impl_magAdd (codeOf Tryz.f181) (env0 [a0, a1]) w (retX P Tryz.f181.results.toList K) := by kernel_rfl
    exact e ▸ h)

/-- (*impl.integer).Neg -/
def D_impl_integer_Neg (a0 a1 : Value) (w : World) (K : Value → World → Prop) : Prop :=
  nch a1 fun x7_1 =>
  fda P 158 x7_1 0 w fun x8_2 =>
  ld P 4 x8_2 w fun x9_3 =>
  una P .not x9_3 w fun x10_4 =>
  nch a1 fun x12_5 =>
  fda P 158 x12_5 1 w fun x13_6 =>
  ld P 156 x13_6 w fun x14_7 =>
  call P f_slices_Clone_uint32_uint32 [x14_7] w fun x15_8 w9 =>
  Ext w w9 ∧ call P f_impl_integer_put [a0, x10_4, x15_8] w9 fun x16_10 w11 =>
  K x16_10 w11
def P_impl_integer_Neg : Plan := (.seq (.reg [.op (0, 0, false)]) (.seq (.reg [.op (0, 0, false), .op (1, 0, false), .op (2, 0, false), .op (3, 0, false), .op (4, 0, false), .op (5, 0, false), .op (6, 0, false), .op (7, 0, false), .op (8, 0, false), .op (9, 0, false), .op (10, 2, true), .op (11, 2, false), .op (12, 0, false)]) .leaf))
theorem I_impl_integer_Neg {a0 a1 : Value} {w : World} {K : Value → World → Prop} (h : D_impl_integer_Neg a0 a1 w K) : call P f_impl_integer_Neg [a0, a1] w K :=
  call_of_vc mixed Tryz.func184 (c := codeOf Tryz.f184) (by kernel_rfl) (by kernel_rfl) (p := P_impl_integer_Neg) (by kernel_rfl) (by rw [Tryz.ntmps184]; simp) (by
    have e : D_impl_integer_Neg a0 a1 w K = vc P P_impl_integer_Neg (codeOf Tryz.f184) (env0 [a0, a1]) w (retX P Tryz.f184.results.toList K) := by kernel_rfl
    exact e ▸ h)

/-- (*impl.integer).Abs -/
def D_impl_integer_Abs (a0 a1 : Value) (w : World) (K : Value → World → Prop) : Prop :=
  nch a1 fun x7_1 =>
  fda P 158 x7_1 1 w fun x8_2 =>
  ld P 156 x8_2 w fun x9_3 =>
  call P f_slices_Clone_uint32_uint32 [x9_3] w fun x10_4 w5 =>
  call P f_impl_integer_put [a0, (.bool false), x10_4] w5 fun x11_6 w7 =>
  K x11_6 w7
def P_impl_integer_Abs : Plan := (.seq (.reg [.op (0, 0, false)]) (.seq (.reg [.op (0, 0, false), .op (1, 0, false), .op (2, 0, false), .op (3, 0, false), .op (4, 0, false), .op (5, 2, false), .op (6, 2, false), .op (7, 0, false)]) .leaf))
theorem I_impl_integer_Abs {a0 a1 : Value} {w : World} {K : Value → World → Prop} (h : D_impl_integer_Abs a0 a1 w K) : call P f_impl_integer_Abs [a0, a1] w K :=
  call_of_vc mixed Tryz.func186 (c := codeOf Tryz.f186) (by kernel_rfl) (by kernel_rfl) (p := P_impl_integer_Abs) (by kernel_rfl) (by rw [Tryz.ntmps186]; simp) (by
    have e : D_impl_integer_Abs a0 a1 w K = vc P P_impl_integer_Abs (codeOf Tryz.f186) (env0 [a0, a1]) w (retX P Tryz.f186.results.toList K) := by kernel_rfl
    exact e ▸ h)

/-- (*impl.integer).Add -/
def D_impl_integer_Add (a0 a1 a2 : Value) (w : World) (K : Value → World → Prop) : Prop :=
  nch a2 fun x10_1 =>
  fda P 158 x10_1 0 w fun x11_2 =>
  ld P 4 x11_2 w fun x12_3 =>
  nch a2 fun x14_4 =>
  fda P 158 x14_4 1 w fun x15_5 =>
  ld P 156 x15_5 w fun x16_6 =>
  call P f_impl_integer_plus [a0, a1, x12_3, x16_6] w fun x17_7 w8 =>
  K x17_7 w8
def P_impl_integer_Add : Plan := (.seq (.reg [.op (0, 0, false)]) (.seq (.reg [.op (0, 0, false), .op (1, 0, false), .op (2, 0, false), .op (3, 0, false), .op (4, 0, false), .op (5, 0, false), .op (6, 0, false), .op (7, 0, false), .op (8, 0, false), .op (9, 0, false), .op (10, 2, false), .op (11, 0, false)]) .leaf))
theorem I_impl_integer_Add {a0 a1 a2 : Value} {w : World} {K : Value → World → Prop} (h : D_impl_integer_Add a0 a1 a2 w K) : call P f_impl_integer_Add [a0, a1, a2] w K :=
  call_of_vc mixed Tryz.func187 (c := codeOf Tryz.f187) (by kernel_rfl) (by kernel_rfl) (p := P_impl_integer_Add) (by kernel_rfl) (by rw [Tryz.ntmps187]; simp) (by
    have e : D_impl_integer_Add a0 a1 a2 w K = vc P P_impl_integer_Add (codeOf Tryz.f187) (env0 [a0, a1, a2]) w (retX P Tryz.f187.results.toList K) := by kernel_rfl
    exact e ▸ h)

/-- (*impl.integer).And -/
def D_impl_integer_And (a0 a1 a2 : Value) (w : World) (K : Value → World → Prop) : Prop :=
  bsl P 156 0 [] w fun x9_1 w2 =>
  nch a1 fun x11_3 =>
  fda P 158 x11_3 1 w2 fun x12_4 =>
  ld P 156 x12_4 w2 fun x13_5 =>
  bl0 P .len #[156] 3 [x13_5] w2 fun x14_6 =>
  nch a2 fun x16_7 =>
  fda P 158 x16_7 1 w2 fun x17_8 =>
  ld P 156 x17_8 w2 fun x18_9 =>
  bl0 P .len #[156] 3 [x18_9] w2 fun x19_10 =>
  bl0 P .min #[3, 3] 3 [x14_6, x19_10] w2 fun x20_11 =>
  ∃ I12 : Nat → Value → Value → World → Prop, (∃ m38, I12 m38 x9_1 (.int .i64 0) w2) ∧ ∀ (m15 : Nat) (x7_16 : Value) (x21_17 : Value) (junk13 : Env) (w14 : World), I12 m15 x7_16 x21_17 w14 →
    bin P .lss 3 false false x21_17 x20_11 w14 fun x22_18 =>
    cnd x22_18
      (nch a1 fun x26_19 =>
      fda P 158 x26_19 1 w14 fun x27_20 =>
      ld P 156 x27_20 w14 fun x28_21 =>
      ixa P 156 x28_21 x21_17 w14 fun x30_22 =>
      ld P 202 x30_22 w14 fun x31_23 =>
      nch a2 fun x33_24 =>
      fda P 158 x33_24 1 w14 fun x34_25 =>
      ld P 156 x34_25 w14 fun x35_26 =>
      ixa P 156 x35_26 x21_17 w14 fun x37_27 =>
      ld P 202 x37_27 w14 fun x38_28 =>
      bin P .and 202 false false x31_23 x38_28 w14 fun x39_29 =>
      bsl P 156 1 [(0, x39_29)] w14 fun x40_30 w31 =>
      bl2 P .append #[156, 156] 156 [x7_16, x40_30] w31 fun x41_32 w33 =>
      bin P .add 3 false true x21_17 (.int .i64 1) w33 fun x42_34 =>
      ∃ m35, m35 < m15 ∧ I12 m35 x41_32 x42_34 w33)
      (call P f_impl_integer_put [a0, (.bool false), x7_16] w14 fun x45_36 w37 =>
      K x45_36 w37)
def P_impl_integer_And : Plan := (.seq (.reg [.op (0, 0, false)]) (.seq (.reg [.op (0, 2, false), .op (1, 0, false)]) (.seq (.seq (.reg [.op (0, 0, false), .op (1, 0, false), .op (2, 0, false), .op (3, 0, false), .op (4, 0, false), .op (5, 0, false), .op (6, 0, false), .op (7, 0, false), .op (8, 0, false), .op (9, 0, false), .op (10, 0, false), .op (11, 0, false)]) (.blk (.loop [7, 21] 8796090925440 (.seq (.reg [.op (0, 0, false)]) (.seq (.cond .leaf .leaf) (.seq (.blk (.seq (.reg [.op (0, 0, false), .op (1, 0, false)]) (.reg [.op (0, 0, false), .op (1, 0, false), .op (2, 0, false), .op (3, 0, false), .op (4, 0, false), .op (5, 0, false), .op (6, 0, false), .op (7, 0, false), .op (8, 0, false), .op (9, 0, false), .op (10, 0, false), .op (11, 0, false), .op (12, 0, false), .op (13, 0, false), .op (14, 0, false), .op (15, 0, false), .op (16, 2, false), .op (17, 2, false), .op (18, 0, false)]))) (.reg [.op (0, 0, false), .op (1, 0, false)]))))))) (.seq (.reg [.op (0, 0, false), .op (1, 0, false), .op (2, 2, false), .op (3, 0, false)]) .leaf))))
theorem I_impl_integer_And {a0 a1 a2 : Value} {w : World} {K : Value → World → Prop} (h : D_impl_integer_And a0 a1 a2 w K) : call P f_impl_integer_And [a0, a1, a2] w K :=
  call_of_vc mixed Tryz.func189 (c := codeOf Tryz.f189) (by kernel_rfl) (by kernel_rfl) (p := P_impl_integer_And) (by kernel_rfl) (by rw [Tryz.ntmps189]; simp) (by
    have e : D_impl_integer_And a0 a1 a2 w K = vc P P_impl_integer_And (codeOf Tryz.f189) (env0 [a0, a1, a2]) w (retX P Tryz.f189.results.toList K) := by kernel_rfl
    exact e ▸ h)

/-- (*impl.integer).Int64 -/
def D_impl_integer_Int64 (a0 : Value) (w : World) (K : Value → World → Prop) : Prop :=
  nch a0 fun x4_1 =>
  fda P 158 x4_1 0 w fun x5_2 =>
  ld P 4 x5_2 w fun x6_3 =>
  cnd x6_3
    (call P f_impl_integer_low [a0] w fun x8_4 w5 =>
    cnv P 178 2 x8_4 w5 fun x9_6 =>
    una P .neg x9_6 w5 fun x10_7 =>
    K x10_7 w5)
    (call P f_impl_integer_low [a0] w fun x12_8 w9 =>
    cnv P 178 2 x12_8 w9 fun x13_10 =>
    K x13_10 w9)
def P_impl_integer_Int64 : Plan := (.seq (.reg [.op (0, 0, false)]) (.seq (.seq (.reg [.op (0, 0, false), .op (1, 0, false), .op (2, 0, false), .op (3, 0, false)]) (.cond (.seq (.reg [.op (0, 0, false), .op (1, 2, false), .op (2, 0, false), .op (3, 0, false), .op (4, 0, false)]) .leaf) .leaf)) (.seq (.reg [.op (0, 0, false), .op (1, 2, false), .op (2, 0, false), .op (3, 0, false)]) .leaf)))
theorem I_impl_integer_Int64 {a0 : Value} {w : World} {K : Value → World → Prop} (h : D_impl_integer_Int64 a0 w K) : call P f_impl_integer_Int64 [a0] w K :=
  call_of_vc mixed Tryz.func190 (c := codeOf Tryz.f190) (by kernel_rfl) (by kernel_rfl) (p := P_impl_integer_Int64) (by kernel_rfl) (by rw [Tryz.ntmps190]; simp) (by
    have e : D_impl_integer_Int64 a0 w K = vc P P_impl_integer_Int64 (codeOf Tryz.f190) (env0 [a0]) w (retX P Tryz.f190.results.toList K) := by kernel_rfl
    exact e ▸ h)

/-- impl.magBits -/
def D_impl_magBits (a0 : Value) (w : World) (K : Value → World → Prop) : Prop :=
  bl0 P .len #[156] 3 [a0] w fun x6_1 =>
  bin P .eql 3 false true x6_1 (.int .i64 0) w fun x7_2 =>
  cnd x7_2
    (K (.int .i64 0) w)
    (bl0 P .len #[156] 3 [a0] w fun x9_3 =>
    bin P .sub 3 false true x9_3 (.int .i64 1) w fun x10_4 =>
    bin P .mul 3 true false (.int .i64 32) x10_4 w fun x11_5 =>
    bl0 P .len #[156] 3 [a0] w fun x14_6 =>
    bin P .sub 3 false true x14_6 (.int .i64 1) w fun x15_7 =>
    ixa P 156 a0 x15_7 w fun x16_8 =>
    ld P 202 x16_8 w fun x17_9 =>
    ∃ I10 : Nat → Value → Value → World → Prop, (∃ m20, I10 m20 x11_5 x17_9 w) ∧ ∀ (m13 : Nat) (x3_14 : Value) (x4_15 : Value) (junk11 : Env) (w12 : World), I10 m13 x3_14 x4_15 w12 →
      bin P .gtr 202 false true x4_15 (.int .u32 0) w12 fun x19_16 =>
      cnd x19_16
        (bin P .add 3 false true x3_14 (.int .i64 1) w12 fun x23_17 =>
        bin P .shr 202 false true x4_15 (.int .u64 1) w12 fun x21_18 =>
        ∃ m19, m19 < m13 ∧ I10 m19 x23_17 x21_18 w12)
        (K x3_14 w12))
def P_impl_magBits : Plan := (.seq (.reg [.op (0, 0, false)]) (.seq (.seq (.reg [.op (0, 0, false), .op (1, 0, false), .op (2, 0, false)]) (.cond (.seq (.reg [.op (0, 0, false)]) .leaf) .leaf)) (.seq (.reg [.op (0, 0, false), .op (1, 0, false), .op (2, 0, false), .op (3, 0, false), .op (4, 0, false)]) (.seq (.seq (.reg [.op (0, 0, false), .op (1, 0, false), .op (2, 0, false), .op (3, 0, false), .op (4, 0, false), .op (5, 0, false), .op (6, 0, false)]) (.blk (.loop [3, 4] 16515096 (.seq (.seq (.reg [.op (0, 0, false), .op (1, 0, false)]) (.cond .leaf .leaf)) (.seq (.blk (.reg [.op (0, 0, false), .op (1, 0, false), .op (2, 0, false)])) (.reg [.op (0, 0, false), .op (1, 0, false), .op (2, 0, false)])))))) (.seq (.reg [.op (0, 0, false), .op (1, 0, false)]) .leaf)))))
theorem I_impl_magBits {a0 : Value} {w : World} {K : Value → World → Prop} (h : D_impl_magBits a0 w K) : call P f_impl_magBits [a0] w K :=
  call_of_vc mixed Tryz.func220 (c := codeOf Tryz.f220) (by kernel_rfl) (by kernel_rfl) (p := P_impl_magBits) (by kernel_rfl) (by rw [Tryz.ntmps220]; simp) (by
    have e : D_impl_magBits a0 w K = vc P P_impl_magBits (codeOf Tryz.f220) (env0 [a0]) w (retX P Tryz.f220.results.toList K) := by kernel_rfl
    exact e ▸ h)

/-- impl.magTrim -/
def D_impl_magTrim (a0 : Value) (w : World) (K : Value → World → Prop) : Prop :=
  ∃ I1 : Nat → Value → World → Prop, (∃ m22, I1 m22 a0 w) ∧ ∀ (m4 : Nat) (x0_5 : Value) (junk2 : Env) (w3 : World), I1 m4 x0_5 w3 →
    bl0 P .len #[156] 3 [x0_5] w3 fun x4_6 =>
    bin P .gtr 3 false true x4_6 (.int .i64 0) w3 fun x5_7 =>
    ∃ J8 : Value → World → Prop, (∀ (x13_9 : Value) (junk11 : Env) (w10 : World), J8 x13_9 w10 →
      pick x5_7 x13_9 (.bool false) fun x14_12 =>
      cnd x14_12
        (bl0 P .len #[156] 3 [x0_5] w10 fun x17_13 =>
        bin P .sub 3 false true x17_13 (.int .i64 1) w10 fun x18_14 =>
        sli P 156 x0_5 none (some x18_14) none w10 fun x19_15 =>
        ∃ m16, m16 < m4 ∧ I1 m16 x19_15 w10)
        (K x0_5 w10)) ∧
      grd x5_7 true
        (bl0 P .len #[156] 3 [x0_5] w3 fun x9_17 =>
        bin P .sub 3 false true x9_17 (.int .i64 1) w3 fun x10_18 =>
        ixa P 156 x0_5 x10_18 w3 fun x11_19 =>
        ld P 202 x11_19 w3 fun x12_20 =>
        bin P .eql 202 false true x12_20 (.int .u32 0) w3 fun x13_21 =>
        J8 x13_21 w3)
        (J8 undef w3)
def P_impl_magTrim : Plan := (.seq (.reg [.op (0, 0, false)]) (.seq (.blk (.loop [0] 1048569 (.seq (.seq (.reg [.op (0, 0, false), .op (1, 0, false), .op (2, 0, false), .op (3, 0, false), .grp 3 true [(4, 0, false), (5, 0, false), (6, 0, false), (7, 0, false), (8, 0, false), (9, 0, false), (10, 0, false)] [13] 16256, .op (11, 0, false)]) (.cond .leaf .leaf)) (.blk (.reg [.op (0, 0, false), .op (1, 0, false), .op (2, 0, false), .op (3, 0, false), .op (4, 0, false), .op (5, 0, false)]))))) (.seq (.reg [.op (0, 0, false), .op (1, 0, false)]) .leaf)))
theorem I_impl_magTrim {a0 : Value} {w : World} {K : Value → World → Prop} (h : D_impl_magTrim a0 w K) : call P f_impl_magTrim [a0] w K :=
  call_of_vc mixed Tryz.func221 (c := codeOf Tryz.f221) (by kernel_rfl) (by kernel_rfl) (p := P_impl_magTrim) (by kernel_rfl) (by rw [Tryz.ntmps221]; simp) (by
    have e : D_impl_magTrim a0 w K = vc P P_impl_magTrim (codeOf Tryz.f221) (env0 [a0]) w (retX P Tryz.f221.results.toList K) := by kernel_rfl
    exact e ▸ h)

/-- impl.isNumeral -/
def D_impl_isNumeral (a0 : Value) (w : World) (K : Value → World → Prop) : Prop :=
  ∃ J1 : Value → World → Prop, (∀ (x0_4 : Value) (junk2 : Env) (w3 : World), J1 x0_4 w3 →
    bin P .eql 9 false true x0_4 (.string ⟨#[]⟩) w3 fun x17_5 =>
    ∃ J6 : Value → World → Prop, (∀ (x22_7 : Value) (junk9 : Env) (w8 : World), J6 x22_7 w8 →
      ∃ J10 : Value → World → Prop, (∀ (x25_11 : Value) (junk13 : Env) (w12 : World), J10 x25_11 w12 →
      ∃ J14 : Value → World → Prop, (∀ (x26_15 : Value) (junk17 : Env) (w16 : World), J14 x26_15 w16 →
      pick x17_5 (.bool true) x26_15 fun x27_18 =>
          cnd x27_18
            (K (.bool false) w16)
            (bl0 P .len #[9] 3 [x0_4] w16 fun x29_19 =>
            ∃ I20 : Nat → Value → World → Prop, (∃ m37, I20 m37 (.int .i64 0) w16) ∧ ∀ (m23 : Nat) (x30_24 : Value) (junk21 : Env) (w22 : World), I20 m23 x30_24 w22 →
              bin P .lss 3 false false x30_24 x29_19 w22 fun x31_25 =>
              cnd x31_25
                (idx P 9 x0_4 x30_24 w22 fun x35_26 =>
                bin P .lss 5 false true x35_26 (.int .u8 48) w22 fun x36_27 =>
                ∃ J28 : Value → World → Prop, (∀ (x41_29 : Value) (junk31 : Env) (w30 : World), J28 x41_29 w30 →
                  pick x36_27 (.bool true) x41_29 fun x42_32 =>
                  cnd x42_32
                    (K (.bool false) w30)
                    (bin P .add 3 false true x30_24 (.int .i64 1) w30 fun x43_33 =>
                    ∃ m34, m34 < m23 ∧ I20 m34 x43_33 w30)) ∧
                  grd x36_27 false
                    (idx P 9 x0_4 x30_24 w22 fun x40_35 =>
                    bin P .gtr 5 false true x40_35 (.int .u8 57) w22 fun x41_36 =>
                    J28 x41_36 w22)
                    (J28 undef w22))
                (K (.bool true) w22))) ∧
      grd x17_5 false
        (pick x22_7 x25_11 (.bool false) fun x26_38 =>
            J14 x26_38 w12)
        (J14 undef w12)) ∧
      grd x22_7 true
        (bl0 P .len #[9] 3 [x0_4] w8 fun x24_39 =>
          bin P .gtr 3 false true x24_39 (.int .i64 1) w8 fun x25_40 =>
          J10 x25_40 w8)
        (J10 undef w8)) ∧
      grd x17_5 false
        (idx P 9 x0_4 (.int .i64 0) w3 fun x20_41 =>
        bin P .eql 5 false true x20_41 (.int .u8 48) w3 fun x21_42 =>
        J6 x21_42 w3)
        (J6 undef w3)) ∧
    (bl0 P .len #[9] 3 [a0] w fun x5_43 =>
    bin P .gtr 3 false true x5_43 (.int .i64 0) w fun x6_44 =>
    ∃ J45 : Value → World → Prop, (∀ (x10_46 : Value) (junk48 : Env) (w47 : World), J45 x10_46 w47 →
      pick x6_44 x10_46 (.bool false) fun x11_49 =>
      cnd x11_49
        (sli P 9 a0 (some (.int .i64 1)) none none w47 fun x13_50 =>
        bin P .eql 9 false true x13_50 (.string ⟨#[48]⟩) w47 fun x15_51 =>
        cnd x15_51
          (K (.bool false) w47)
          (J1 x13_50 w47))
        (J1 a0 w47)) ∧
      grd x6_44 true
        (idx P 9 a0 (.int .i64 0) w fun x9_52 =>
        bin P .eql 5 false true x9_52 (.int .u8 45) w fun x10_53 =>
        J45 x10_53 w)
        (J45 undef w))
def P_impl_isNumeral : Plan := (.seq (.reg [.op (0, 0, false)]) (.cut [0] 65525 (.seq (.reg [.op (0, 0, false), .op (1, 0, false), .op (2, 0, false), .op (3, 0, false), .grp 3 true [(4, 0, false), (5, 0, false), (6, 0, false)] [10] 1792, .op (7, 0, false)]) (.cond (.seq (.reg [.op (0, 0, false), .op (1, 0, false), .op (2, 0, false)]) (.seq (.reg [.op (0, 0, false), .op (1, 0, false)]) (.cond (.seq (.reg [.op (0, 0, false)]) .leaf) .leaf))) .leaf)) (.seq (.seq (.reg [.op (0, 0, false), .op (1, 0, false), .op (2, 0, false), .grp 2 false [(3, 0, false), (4, 0, false), (5, 0, false), (6, 0, false)] [22] 7864320, .grp 6 true [(7, 0, false), (8, 0, false), (9, 0, false)] [25] 58720256, .grp 2 false [(10, 0, false)] [26] 67108864, .op (11, 0, false)]) (.cond (.seq (.reg [.op (0, 0, false)]) .leaf) .leaf)) (.seq (.seq (.reg [.op (0, 0, false), .op (1, 0, false), .op (2, 0, false)]) (.blk (.loop [30] 17591112302604 (.seq (.reg [.op (0, 0, false)]) (.seq (.cond .leaf .leaf) (.seq (.blk (.seq (.reg [.op (0, 0, false), .op (1, 0, false)]) (.seq (.reg [.op (0, 0, false), .op (1, 0, false), .op (2, 0, false), .op (3, 0, false), .op (4, 0, false), .grp 4 false [(5, 0, false), (6, 0, false), (7, 0, false), (8, 0, false)] [41] 4123168604160, .op (9, 0, false)]) (.cond (.seq (.reg [.op (0, 0, false)]) .leaf) .leaf)))) (.reg [.op (0, 0, false), .op (1, 0, false)]))))))) (.seq (.reg [.op (0, 0, false)]) .leaf)))))
theorem I_impl_isNumeral {a0 : Value} {w : World} {K : Value → World → Prop} (h : D_impl_isNumeral a0 w K) : call P f_impl_isNumeral [a0] w K :=
  call_of_vc mixed Tryz.func223 (c := codeOf Tryz.f223) (by kernel_rfl) (by kernel_rfl) (p := P_impl_isNumeral) (by kernel_rfl) (by rw [Tryz.ntmps223]; simp) (by
    have e : D_impl_isNumeral a0 w K = vc P P_impl_isNumeral (codeOf Tryz.f223) (env0 [a0]) w (retX P Tryz.f223.results.toList K) := by kernel_rfl
    exact e ▸ h)

/-- impl.ParseWhole -/
def D_impl_ParseWhole (a0 : Value) (w : World) (K : Value → World → Prop) : Prop :=
  alc P 55 w fun x2_1 w2 =>
  call P f_impl_isNumeral [a0] w2 fun x7_3 w4 =>
  una P .not x7_3 w4 fun x8_5 =>
  cnd x8_5
    (bld P 55 [] w4 fun x9_6 =>
    sto P 55 x2_1 x9_6 w4 fun w8 =>
    ldc P 55 x2_1 w8 fun r9 =>
    K (.tuple #[r9, (.int .i64 6)]) w8)
    (bl0 P .len #[9] 3 [a0] w4 fun x11_10 =>
    bin P .gtr 3 false true x11_10 (.int .i64 800) w4 fun x12_11 =>
    cnd x12_11
      (bld P 55 [] w4 fun x13_12 =>
      sto P 55 x2_1 x13_12 w4 fun w14 =>
      ldc P 55 x2_1 w14 fun r15 =>
      K (.tuple #[r15, (.int .i64 3)]) w14)
      (alc P 158 w4 fun x15_16 w17 =>
      call P f_impl_integer_SetString [x15_16, a0, (.int .i64 10)] w17 fun x17_18 w19 =>
      xtr P x17_18 0 w19 fun x18_20 =>
      xtr P x17_18 1 w19 fun x19_21 =>
      call P f_impl_whole [x18_20] w19 fun x21_22 w23 =>
      xtr P x21_22 0 w23 fun x22_24 =>
      xtr P x21_22 1 w23 fun x23_25 =>
      sto P 55 x2_1 x22_24 w23 fun w27 =>
      ldc P 55 x2_1 w27 fun r28 =>
      K (.tuple #[r28, x23_25]) w27))
def P_impl_ParseWhole : Plan := (.seq (.reg [.op (0, 2, false), .op (1, 0, false)]) (.seq (.seq (.reg [.op (0, 0, false), .op (1, 2, false), .op (2, 0, false)]) (.cond (.seq (.reg [.op (0, 0, false), .op (1, 2, false), .op (2, 0, false)]) .leaf) .leaf)) (.seq (.seq (.reg [.op (0, 0, false), .op (1, 0, false), .op (2, 0, false)]) (.cond (.seq (.reg [.op (0, 0, false), .op (1, 2, false), .op (2, 0, false)]) .leaf) .leaf)) (.seq (.reg [.op (0, 2, false), .op (1, 0, false), .op (2, 2, false), .op (3, 0, false), .op (4, 0, false), .op (5, 0, false), .op (6, 0, false), .op (7, 0, false)]) (.seq (.reg [.op (0, 0, false), .op (1, 2, false), .op (2, 0, false), .op (3, 0, false), .op (4, 2, false), .op (5, 0, false)]) .leaf)))))
theorem I_impl_ParseWhole {a0 : Value} {w : World} {K : Value → World → Prop} (h : D_impl_ParseWhole a0 w K) : call P f_impl_ParseWhole [a0] w K :=
  call_of_vc mixed Tryz.func224 (c := codeOf Tryz.f224) (by kernel_rfl) (by kernel_rfl) (p := P_impl_ParseWhole) (by kernel_rfl) (by rw [Tryz.ntmps224]; simp) (by
    have e : D_impl_ParseWhole a0 w K = vc P P_impl_ParseWhole (codeOf Tryz.f224) (env0 [a0]) w (retX P Tryz.f224.results.toList K) := by kernel_rfl
    exact e ▸ h)

/-- impl.magMul -/
def D_impl_magMul (a0 a1 : Value) (w : World) (K : Value → World → Prop) : Prop :=
  bl0 P .len #[156] 3 [a0] w fun x12_1 =>
  bl0 P .len #[156] 3 [a1] w fun x14_2 =>
  bin P .add 3 false false x12_1 x14_2 w fun x15_3 =>
  mks P 156 x15_3 x15_3 w fun x16_4 w5 =>
  bl0 P .len #[156] 3 [a0] w5 fun x18_6 =>
  ∃ I7 : Nat → Value → World → Prop, (∃ m53, I7 m53 (.int .i64 0) w5) ∧ ∀ (m10 : Nat) (x19_11 : Value) (junk8 : Env) (w9 : World), I7 m10 x19_11 w9 →
    bin P .lss 3 false false x19_11 x18_6 w9 fun x20_12 =>
    cnd x20_12
      (ixa P 156 a0 x19_11 w9 fun x22_13 =>
      ld P 202 x22_13 w9 fun x23_14 =>
      bl0 P .len #[156] 3 [a1] w9 fun x25_15 =>
      ∃ I16 : Nat → Value → Value → World → Prop, (∃ m50, I16 m50 (.int .u64 0) (.int .i64 0) w9) ∧ ∀ (m19 : Nat) (x8_20 : Value) (x26_21 : Value) (junk17 : Env) (w18 : World), I16 m19 x8_20 x26_21 w18 →
        bin P .lss 3 false false x26_21 x25_15 w18 fun x27_22 =>
        cnd x27_22
          (ixa P 156 a1 x26_21 w18 fun x29_23 =>
          ld P 202 x29_23 w18 fun x30_24 =>
          cnv P 202 178 x23_14 w18 fun x33_25 =>
          cnv P 202 178 x30_24 w18 fun x35_26 =>
          bin P .mul 178 false false x33_25 x35_26 w18 fun x36_27 =>
          bin P .add 3 false false x19_11 x26_21 w18 fun x40_28 =>
          ixa P 156 x16_4 x40_28 w18 fun x41_29 =>
          ld P 202 x41_29 w18 fun x42_30 =>
          cnv P 202 178 x42_30 w18 fun x43_31 =>
          bin P .add 178 false false x36_27 x43_31 w18 fun x44_32 =>
          bin P .add 178 false false x8_20 x44_32 w18 fun x45_33 =>
          bin P .add 3 false false x19_11 x26_21 w18 fun x49_34 =>
          cnv P 178 202 x45_33 w18 fun x51_35 =>
          ixa P 156 x16_4 x49_34 w18 fun x52_36 =>
          sto P 202 x52_36 x51_35 w18 fun w38 =>
          bin P .shr 178 false true x45_33 (.int .u64 32) w38 fun x54_39 =>
          bin P .add 3 false true x26_21 (.int .i64 1) w38 fun x55_40 =>
          ∃ m41, m41 < m19 ∧ I16 m41 x54_39 x55_40 w38)
          (bl0 P .len #[156] 3 [a1] w18 fun x59_42 =>
          bin P .add 3 false false x19_11 x59_42 w18 fun x60_43 =>
          cnv P 178 202 x8_20 w18 fun x62_44 =>
          ixa P 156 x16_4 x60_43 w18 fun x63_45 =>
          sto P 202 x63_45 x62_44 w18 fun w47 =>
          bin P .add 3 false true x19_11 (.int .i64 1) w47 fun x64_48 =>
          ∃ m49, m49 < m10 ∧ I7 m49 x64_48 w47))
      (call P f_impl_magTrim [x16_4] w9 fun x66_51 w52 =>
      K x66_51 w52)
def P_impl_magMul : Plan := (.seq (.reg [.op (0, 0, false)]) (.seq (.reg [.op (0, 0, false), .op (1, 0, false), .op (2, 0, false), .op (3, 0, false), .op (4, 0, false), .op (5, 2, false), .op (6, 0, false)]) (.seq (.seq (.reg [.op (0, 0, false), .op (1, 0, false), .op (2, 0, false)]) (.blk (.loop [19] 36893488147418580928 (.seq (.reg [.op (0, 0, false)]) (.seq (.cond .leaf .leaf) (.seq (.blk (.seq (.reg [.op (0, 0, false), .op (1, 0, false), .op (2, 0, false), .op (3, 0, false), .op (4, 0, false)]) (.seq (.reg [.op (0, 0, false)]) (.seq (.seq (.reg [.op (0, 0, false), .op (1, 0, false), .op (2, 0, false)]) (.blk (.loop [8, 26] 72057593970820864 (.seq (.reg [.op (0, 0, false)]) (.seq (.cond .leaf .leaf) (.seq (.blk (.seq (.reg [.op (0, 0, false), .op (1, 0, false), .op (2, 0, false), .op (3, 0, false), .op (4, 0, false)]) (.seq (.reg [.op (0, 0, false), .op (1, 0, false), .op (2, 0, false), .op (3, 0, false), .op (4, 0, false), .op (5, 0, false), .op (6, 0, false), .op (7, 0, false), .op (8, 0, false), .op (9, 0, false), .op (10, 0, false), .op (11, 0, false), .op (12, 0, false), .op (13, 0, false), .op (14, 0, false), .op (15, 0, false)]) (.seq (.reg [.op (0, 0, false), .op (1, 0, false), .op (2, 0, false), .op (3, 0, false), .op (4, 0, false), .op (5, 0, false), .op (6, 0, false), .op (7, 2, false)]) (.reg [.op (0, 0, false), .op (1, 0, false), .op (2, 0, false)]))))) (.reg [.op (0, 0, false), .op (1, 0, false)]))))))) (.reg [.op (0, 0, false), .op (1, 0, false), .op (2, 0, false), .op (3, 0, false), .op (4, 0, false), .op (5, 0, false), .op (6, 0, false), .op (7, 0, false), .op (8, 2, false)]))))) (.reg [.op (0, 0, false), .op (1, 0, false)]))))))) (.seq (.reg [.op (0, 0, false), .op (1, 2, false), .op (2, 0, false)]) .leaf))))
theorem I_impl_magMul {a0 a1 : Value} {w : World} {K : Value → World → Prop} (h : D_impl_magMul a0 a1 w K) : call P f_impl_magMul [a0, a1] w K :=
  call_of_vc mixed Tryz.func231 (c := codeOf Tryz.f231) (by kernel_rfl) (by kernel_rfl) (p := P_impl_magMul) (by kernel_rfl) (by rw [Tryz.ntmps231]; simp) (by
    have e : D_impl_magMul a0 a1 w K = vc P P_impl_magMul (codeOf Tryz.f231) (env0 [a0, a1]) w (retX P Tryz.f231.results.toList K) := by kernel_rfl
    exact e ▸ h)

/-- (*impl.integer).plus -/
def D_impl_integer_plus (a0 a1 a2 a3 : Value) (w : World) (K : Value → World → Prop) : Prop :=
  nch a1 fun x11_1 =>
  fda P 158 x11_1 0 w fun x12_2 =>
  ld P 4 x12_2 w fun x13_3 =>
  bin P .eql 4 false false x13_3 a2 w fun x15_4 =>
  cnd x15_4
    (nch a1 fun x19_5 =>
    fda P 158 x19_5 1 w fun x20_6 =>
    ld P 156 x20_6 w fun x21_7 =>
    call P f_impl_magAdd [x21_7, a3] w fun x23_8 w9 =>
    call P f_impl_integer_put [a0, a2, x23_8] w9 fun x24_10 w11 =>
    K x24_10 w11)
    (nch a1 fun x27_12 =>
    fda P 158 x27_12 1 w fun x28_13 =>
    ld P 156 x28_13 w fun x29_14 =>
    call P f_impl_magCmp [x29_14, a3] w fun x31_15 w16 =>
    bin P .geq 3 false true x31_15 (.int .i64 0) w16 fun x32_17 =>
    cnd x32_17
      (nch a1 fun x35_18 =>
      fda P 158 x35_18 0 w16 fun x36_19 =>
      ld P 4 x36_19 w16 fun x37_20 =>
      nch a1 fun x39_21 =>
      fda P 158 x39_21 1 w16 fun x40_22 =>
      ld P 156 x40_22 w16 fun x41_23 =>
      call P f_impl_magSub [x41_23, a3] w16 fun x43_24 w25 =>
      Ext w16 w25 ∧ call P f_impl_integer_put [a0, x37_20, x43_24] w25 fun x44_26 w27 =>
      K x44_26 w27)
      (nch a1 fun x49_28 =>
      fda P 158 x49_28 1 w16 fun x50_29 =>
      ld P 156 x50_29 w16 fun x51_30 =>
      call P f_impl_magSub [a3, x51_30] w16 fun x52_31 w32 =>
      call P f_impl_integer_put [a0, a2, x52_31] w32 fun x53_33 w34 =>
      K x53_33 w34))
def P_impl_integer_plus : Plan := (.seq (.reg [.op (0, 0, false)]) (.seq (.blk (.seq (.reg [.op (0, 0, false), .op (1, 0, false), .op (2, 0, false), .op (3, 0, false), .op (4, 0, false), .op (5, 0, false), .op (6, 0, false)]) (.cond (.seq (.reg [.op (0, 0, false), .op (1, 0, false), .op (2, 0, false), .op (3, 0, false), .op (4, 0, false), .op (5, 0, false), .op (6, 0, false), .op (7, 2, false), .op (8, 2, false), .op (9, 0, false)]) .leaf) (.seq (.reg [.op (0, 0, false), .op (1, 0, false), .op (2, 0, false), .op (3, 0, false), .op (4, 0, false), .op (5, 2, false), .op (6, 0, false), .op (7, 0, false)]) (.cond (.seq (.reg [.op (0, 0, false), .op (1, 0, false), .op (2, 0, false), .op (3, 0, false), .op (4, 0, false), .op (5, 0, false), .op (6, 0, false), .op (7, 0, false), .op (8, 0, false), .op (9, 0, false), .op (10, 2, true), .op (11, 2, false), .op (12, 0, false)]) .leaf) .leaf))))) (.seq (.reg [.op (0, 0, false), .op (1, 0, false), .op (2, 0, false), .op (3, 0, false), .op (4, 0, false), .op (5, 0, false), .op (6, 0, false), .op (7, 2, false), .op (8, 2, false), .op (9, 0, false)]) .leaf)))
theorem I_impl_integer_plus {a0 a1 a2 a3 : Value} {w : World} {K : Value → World → Prop} (h : D_impl_integer_plus a0 a1 a2 a3 w K) : call P f_impl_integer_plus [a0, a1, a2, a3] w K :=
  call_of_vc mixed Tryz.func232 (c := codeOf Tryz.f232) (by kernel_rfl) (by kernel_rfl) (p := P_impl_integer_plus) (by kernel_rfl) (by rw [Tryz.ntmps232]; simp) (by
    have e : D_impl_integer_plus a0 a1 a2 a3 w K = vc P P_impl_integer_plus (codeOf Tryz.f232) (env0 [a0, a1, a2, a3]) w (retX P Tryz.f232.results.toList K) := by kernel_rfl
    exact e ▸ h)

/-- (*impl.integer).Lsh -/
def D_impl_integer_Lsh (a0 a1 a2 : Value) (w : World) (K : Value → World → Prop) : Prop :=
  nch a1 fun x9_1 =>
  fda P 158 x9_1 0 w fun x10_2 =>
  ld P 4 x10_2 w fun x11_3 =>
  nch a1 fun x13_4 =>
  fda P 158 x13_4 1 w fun x14_5 =>
  ld P 156 x14_5 w fun x15_6 =>
  call P f_impl_magLeft [x15_6, a2] w fun x17_7 w8 =>
  Ext w w8 ∧ call P f_impl_integer_put [a0, x11_3, x17_7] w8 fun x18_9 w10 =>
  K x18_9 w10
def P_impl_integer_Lsh : Plan := (.seq (.reg [.op (0, 0, false)]) (.seq (.reg [.op (0, 0, false), .op (1, 0, false), .op (2, 0, false), .op (3, 0, false), .op (4, 0, false), .op (5, 0, false), .op (6, 0, false), .op (7, 0, false), .op (8, 0, false), .op (9, 0, false), .op (10, 2, true), .op (11, 2, false), .op (12, 0, false)]) .leaf))
theorem I_impl_integer_Lsh {a0 a1 a2 : Value} {w : World} {K : Value → World → Prop} (h : D_impl_integer_Lsh a0 a1 a2 w K) : call P f_impl_integer_Lsh [a0, a1, a2] w K :=
  call_of_vc mixed Tryz.func233 (c := codeOf Tryz.f233) (by kernel_rfl) (by kernel_rfl) (p := P_impl_integer_Lsh) (by kernel_rfl) (by rw [Tryz.ntmps233]; simp) (by
    have e : D_impl_integer_Lsh a0 a1 a2 w K = vc P P_impl_integer_Lsh (codeOf Tryz.f233) (env0 [a0, a1, a2]) w (retX P Tryz.f233.results.toList K) := by kernel_rfl
    exact e ▸ h)

/-- (*impl.integer).low -/
def D_impl_integer_low (a0 : Value) (w : World) (K : Value → World → Prop) : Prop :=
  nch a0 fun x6_1 =>
  fda P 158 x6_1 1 w fun x7_2 =>
  ld P 156 x7_2 w fun x8_3 =>
  bl0 P .len #[156] 3 [x8_3] w fun x9_4 =>
  bl0 P .min #[3, 3] 3 [x9_4, (.int .i64 2)] w fun x10_5 =>
  bin P .sub 3 false true x10_5 (.int .i64 1) w fun x11_6 =>
  ∃ I7 : Nat → Value → Value → World → Prop, (∃ m24, I7 m24 (.int .u64 0) x11_6 w) ∧ ∀ (m10 : Nat) (x3_11 : Value) (x4_12 : Value) (junk8 : Env) (w9 : World), I7 m10 x3_11 x4_12 w9 →
    bin P .geq 3 false true x4_12 (.int .i64 0) w9 fun x13_13 =>
    cnd x13_13
      (bin P .shl 178 false true x3_11 (.int .u64 32) w9 fun x17_14 =>
      nch a0 fun x19_15 =>
      fda P 158 x19_15 1 w9 fun x20_16 =>
      ld P 156 x20_16 w9 fun x21_17 =>
      ixa P 156 x21_17 x4_12 w9 fun x23_18 =>
      ld P 202 x23_18 w9 fun x24_19 =>
      cnv P 202 178 x24_19 w9 fun x25_20 =>
      bin P .or 178 false false x17_14 x25_20 w9 fun x26_21 =>
      bin P .sub 3 false true x4_12 (.int .i64 1) w9 fun x15_22 =>
      ∃ m23, m23 < m10 ∧ I7 m23 x26_21 x15_22 w9)
      (K x3_11 w9)
def P_impl_integer_low : Plan := (.seq (.reg [.op (0, 0, false)]) (.seq (.reg [.op (0, 0, false)]) (.seq (.seq (.reg [.op (0, 0, false), .op (1, 0, false), .op (2, 0, false), .op (3, 0, false), .op (4, 0, false), .op (5, 0, false), .op (6, 0, false), .op (7, 0, false)]) (.blk (.loop [3, 4] 134213656 (.seq (.seq (.reg [.op (0, 0, false), .op (1, 0, false)]) (.cond .leaf .leaf)) (.seq (.blk (.reg [.op (0, 0, false), .op (1, 0, false), .op (2, 0, false), .op (3, 0, false), .op (4, 0, false), .op (5, 0, false), .op (6, 0, false), .op (7, 0, false), .op (8, 0, false), .op (9, 0, false), .op (10, 0, false), .op (11, 0, false)])) (.reg [.op (0, 0, false), .op (1, 0, false), .op (2, 0, false)])))))) (.seq (.reg [.op (0, 0, false), .op (1, 0, false)]) .leaf))))
theorem I_impl_integer_low {a0 : Value} {w : World} {K : Value → World → Prop} (h : D_impl_integer_low a0 w K) : call P f_impl_integer_low [a0] w K :=
  call_of_vc mixed Tryz.func234 (c := codeOf Tryz.f234) (by kernel_rfl) (by kernel_rfl) (p := P_impl_integer_low) (by kernel_rfl) (by rw [Tryz.ntmps234]; simp) (by
    have e : D_impl_integer_low a0 w K = vc P P_impl_integer_low (codeOf Tryz.f234) (env0 [a0]) w (retX P Tryz.f234.results.toList K) := by kernel_rfl
    exact e ▸ h)

/-- (*impl.integer).SetString -/
def D_impl_integer_SetString (a0 a1 a2 : Value) (w : World) (K : Value → World → Prop) : Prop :=
  bin P .neq 9 false true a1 (.string ⟨#[]⟩) w fun x12_1 =>
  ∃ J2 : Value → World → Prop, (∀ (x16_3 : Value) (junk5 : Env) (w4 : World), J2 x16_3 w4 →
    pick x12_1 x16_3 (.bool false) fun x17_6 =>
    ∃ J7 : Value → World → Prop, (∀ (x1_10 : Value) (junk8 : Env) (w9 : World), J7 x1_10 w9 →
      bsl P 156 0 [] w9 fun x32_11 w12 =>
      bl0 P .len #[9] 3 [x1_10] w12 fun x34_13 =>
      ∃ I14 : Nat → Value → Value → World → Prop, (∃ m71, I14 m71 x32_11 (.int .i64 0) w12) ∧ ∀ (m17 : Nat) (x9_18 : Value) (x35_19 : Value) (junk15 : Env) (w16 : World), I14 m17 x9_18 x35_19 w16 →
        bin P .lss 3 false false x35_19 x34_13 w16 fun x36_20 =>
        cnd x36_20
          (idx P 9 x1_10 x35_19 w16 fun x40_21 =>
          bin P .lss 5 false true x40_21 (.int .u8 48) w16 fun x41_22 =>
          ∃ J23 : Value → World → Prop, (∀ (x46_24 : Value) (junk26 : Env) (w25 : World), J23 x46_24 w25 →
            pick x41_22 (.bool true) x46_24 fun x47_27 =>
            cnd x47_27
              (K (.tuple #[(.pointer none), (.bool false)]) w25)
              (∃ J28 : Value → World → Prop, (∀ (x9_31 : Value) (junk29 : Env) (w30 : World), J28 x9_31 w30 →
                bin P .add 3 false true x35_19 (.int .i64 1) w30 fun x61_32 =>
                ∃ m33, m33 < m17 ∧ I14 m33 x9_31 x61_32 w30) ∧
                (cnv P 3 202 a2 w25 fun x50_34 =>
                idx P 9 x1_10 x35_19 w25 fun x55_35 =>
                bin P .sub 5 false true x55_35 (.int .u8 48) w25 fun x56_36 =>
                cnv P 5 202 x56_36 w25 fun x57_37 =>
                (bsl P 156 1 [(0, x50_34)] w25 fun x51_38 w39 =>
                  Ext w25 w39 ∧ (call P f_impl_magMul [x9_18, x51_38] w39 fun x52_40 w41 =>
                    Ext w39 w41 ∧ bsl P 156 1 [(0, x57_37)] w41 fun x58_42 w43 =>
                    Ext w41 w43 ∧ call P f_impl_magTrim [x58_42] w43 fun x59_44 w45 =>
                    call P f_impl_magAdd [x52_40, x59_44] w45 fun x60_46 w47 =>
                    J28 x60_46 w47) ∧
                    (bsl P 156 1 [(0, x57_37)] w39 fun x58_48 w49 =>
                    Ext w39 w49 ∧ call P f_impl_magMul [x9_18, x51_38] w49 fun x52_50 w51 =>
                    Ext w49 w51 ∧ call P f_impl_magTrim [x58_48] w51 fun x59_52 w53 =>
                    call P f_impl_magAdd [x52_50, x59_52] w53 fun x60_54 w55 =>
                    J28 x60_54 w55)) ∧
                  (bsl P 156 1 [(0, x57_37)] w25 fun x58_56 w57 =>
                  Ext w25 w57 ∧ bsl P 156 1 [(0, x50_34)] w57 fun x51_58 w59 =>
                  Ext w57 w59 ∧ call P f_impl_magMul [x9_18, x51_58] w59 fun x52_60 w61 =>
                  Ext w59 w61 ∧ call P f_impl_magTrim [x58_56] w61 fun x59_62 w63 =>
                  call P f_impl_magAdd [x52_60, x59_62] w63 fun x60_64 w65 =>
                  J28 x60_64 w65)))) ∧
            grd x41_22 false
              (idx P 9 x1_10 x35_19 w16 fun x45_66 =>
              bin P .gtr 5 false true x45_66 (.int .u8 57) w16 fun x46_67 =>
              J23 x46_67 w16)
              (J23 undef w16))
          (bin P .eql 9 false true x1_10 (.string ⟨#[]⟩) w16 fun x63_68 =>
          cnd x63_68
            (K (.tuple #[(.pointer none), (.bool false)]) w16)
            (call P f_impl_integer_put [a0, x17_6, x9_18] w16 fun x67_69 w70 =>
            K (.tuple #[x67_69, (.bool true)]) w70))) ∧
      (bin P .neq 9 false true a1 (.string ⟨#[]⟩) w4 fun x19_72 =>
      ∃ J73 : Value → World → Prop, (∀ (x24_74 : Value) (junk76 : Env) (w75 : World), J73 x24_74 w75 →
        ∃ J77 : Value → World → Prop, (∀ (x27_78 : Value) (junk80 : Env) (w79 : World), J77 x27_78 w79 →
        ∃ J81 : Value → World → Prop, (∀ (x28_82 : Value) (junk84 : Env) (w83 : World), J81 x28_82 w83 →
        pick x19_72 x28_82 (.bool false) fun x29_85 =>
            cnd x29_85
              (sli P 9 a1 (some (.int .i64 1)) none none w83 fun x31_86 =>
              J7 x31_86 w83)
              (J7 a1 w83)) ∧
        grd x19_72 true
          (pick x24_74 (.bool true) x27_78 fun x28_87 =>
              J81 x28_87 w79)
          (J81 undef w79)) ∧
        grd x24_74 false
          (idx P 9 a1 (.int .i64 0) w75 fun x26_88 =>
            bin P .eql 5 false true x26_88 (.int .u8 43) w75 fun x27_89 =>
            J77 x27_89 w75)
          (J77 undef w75)) ∧
        grd x19_72 true
          (idx P 9 a1 (.int .i64 0) w4 fun x22_90 =>
          bin P .eql 5 false true x22_90 (.int .u8 45) w4 fun x23_91 =>
          J73 x23_91 w4)
          (J73 undef w4))) ∧
    grd x12_1 true
      (idx P 9 a1 (.int .i64 0) w fun x15_92 =>
      bin P .eql 5 false true x15_92 (.int .u8 45) w fun x16_93 =>
      J2 x16_93 w)
      (J2 undef w)
def P_impl_integer_SetString : Plan := (.seq (.reg [.op (0, 0, false), .op (1, 0, false)]) (.seq (.reg [.op (0, 0, false), .op (1, 0, false), .op (2, 0, false), .grp 2 true [(3, 0, false), (4, 0, false), (5, 0, false)] [16] 114688, .op (6, 0, false), .op (7, 0, false)]) (.cut [1] 4294705154 (.seq (.reg [.op (0, 0, false), .op (1, 0, false), .op (2, 0, false), .grp 2 true [(3, 0, false), (4, 0, false), (5, 0, false), (6, 0, false)] [24] 31457280, .grp 6 false [(7, 0, false), (8, 0, false), (9, 0, false)] [27] 234881024, .grp 2 true [(10, 0, false)] [28] 268435456, .op (11, 0, false)]) (.cond (.reg [.op (0, 0, false), .op (1, 0, false), .op (2, 0, false)]) .leaf)) (.seq (.reg [.op (0, 2, false), .op (1, 0, false)]) (.seq (.seq (.reg [.op (0, 0, false), .op (1, 0, false), .op (2, 0, false)]) (.blk (.loop [9, 35] 4611685984067651264 (.seq (.reg [.op (0, 0, false)]) (.seq (.cond .leaf .leaf) (.seq (.blk (.seq (.reg [.op (0, 0, false), .op (1, 0, false)]) (.seq (.seq (.reg [.op (0, 0, false), .op (1, 0, false), .op (2, 0, false), .op (3, 0, false), .op (4, 0, false), .grp 4 false [(5, 0, false), (6, 0, false), (7, 0, false), (8, 0, false)] [46] 131941395333120, .op (9, 0, false)]) (.cond (.seq (.reg [.op (0, 0, false), .op (1, 0, false)]) .leaf) .leaf)) (.tree [9] 2305561534236983808 (.op (0, 0, false) (.op (1, 0, false) (.op (2, 0, false) (.op (5, 0, false) (.op (6, 0, false) (.op (7, 0, false) (.op (8, 0, false) (.op (9, 0, false) (.fork (3, 2, true) (.fork (4, 2, true) (.fork (10, 2, true) (.fork (11, 2, false) (.fork (12, 2, false) (.op (13, 0, false) .done) .stop) .stop) .stop) (.fork (10, 2, true) (.fork (4, 2, true) (.fork (11, 2, false) (.fork (12, 2, false) (.op (13, 0, false) .done) .stop) .stop) .stop) .stop)) (.fork (10, 2, true) (.fork (3, 2, true) (.fork (4, 2, true) (.fork (11, 2, false) (.fork (12, 2, false) (.op (13, 0, false) .done) .stop) .stop) .stop) .stop) .stop)))))))))))))) (.reg [.op (0, 0, false), .op (1, 0, false)]))))))) (.seq (.seq (.reg [.op (0, 0, false), .op (1, 0, false)]) (.cond (.seq (.reg [.op (0, 0, false), .op (1, 0, false)]) .leaf) .leaf)) (.seq (.reg [.op (0, 0, false), .op (1, 0, false), .op (2, 0, false), .op (3, 2, false), .op (4, 0, false), .op (5, 0, false)]) .leaf)))))))
theorem I_impl_integer_SetString {a0 a1 a2 : Value} {w : World} {K : Value → World → Prop} (h : D_impl_integer_SetString a0 a1 a2 w K) : call P f_impl_integer_SetString [a0, a1, a2] w K :=
  call_of_vc mixed Tryz.func256 (c := codeOf Tryz.f256) (by kernel_rfl) (by kernel_rfl) (p := P_impl_integer_SetString) (by kernel_rfl) (by rw [Tryz.ntmps256]; simp) (by
    have e : D_impl_integer_SetString a0 a1 a2 w K = vc P P_impl_integer_SetString (codeOf Tryz.f256) (env0 [a0, a1, a2]) w (retX P Tryz.f256.results.toList K) := by kernel_rfl
    exact e ▸ h)

/-- impl.whole -/
def D_impl_whole (a0 : Value) (w : World) (K : Value → World → Prop) : Prop :=
  alc P 55 w fun x2_1 w2 =>
  call P f_impl_fromBig [a0] w2 fun x8_3 w4 =>
  xtr P x8_3 0 w4 fun x9_5 =>
  xtr P x8_3 1 w4 fun x10_6 =>
  alc P 55 w4 fun x4_7 w8 =>
  sto P 55 x4_7 x9_5 w8 fun w10 =>
  una P .not x10_6 w10 fun x12_11 =>
  cnd x12_11
    (bld P 55 [] w10 fun x13_12 =>
    sto P 55 x2_1 x13_12 w10 fun w14 =>
    ldc P 55 x2_1 w14 fun r15 =>
    K (.tuple #[r15, (.int .i64 3)]) w14)
    (ld P 55 x4_7 w10 fun x14_16 =>
    sto P 55 x2_1 x14_16 w10 fun w18 =>
    ldc P 55 x2_1 w18 fun r19 =>
    K (.tuple #[r19, (.int .i64 0)]) w18)
def P_impl_whole : Plan := (.seq (.reg [.op (0, 2, false), .op (1, 0, false)]) (.seq (.reg [.op (0, 0, false), .op (1, 2, false), .op (2, 0, false), .op (3, 0, false), .op (4, 0, false), .op (5, 2, false), .op (6, 2, false), .op (7, 0, false)]) (.seq (.seq (.reg [.op (0, 0, false), .op (1, 0, false)]) (.cond (.seq (.reg [.op (0, 0, false), .op (1, 2, false), .op (2, 0, false)]) .leaf) .leaf)) (.seq (.reg [.op (0, 0, false), .op (1, 2, false), .op (2, 0, false)]) .leaf))))
theorem I_impl_whole {a0 : Value} {w : World} {K : Value → World → Prop} (h : D_impl_whole a0 w K) : call P f_impl_whole [a0] w K :=
  call_of_vc mixed Tryz.func257 (c := codeOf Tryz.f257) (by kernel_rfl) (by kernel_rfl) (p := P_impl_whole) (by kernel_rfl) (by rw [Tryz.ntmps257]; simp) (by
    have e : D_impl_whole a0 w K = vc P P_impl_whole (codeOf Tryz.f257) (env0 [a0]) w (retX P Tryz.f257.results.toList K) := by kernel_rfl
    exact e ▸ h)

/-- impl.IsWhole -/
def D_impl_IsWhole (a0 : Value) (w : World) (K : Value → World → Prop) : Prop :=
  bx P 55 a0 w fun x1_1 w2 =>
  fda P 55 x1_1 1 w2 fun x6_3 =>
  ld P 53 x6_3 w2 fun x7_4 =>
  bl0 P .len #[53] 3 [x7_4] w2 fun x8_5 =>
  bin P .gtr 3 false true x8_5 (.int .i64 100) w2 fun x10_6 =>
  ∃ J7 : Value → World → Prop, (∀ (x14_8 : Value) (junk10 : Env) (w9 : World), J7 x14_8 w9 →
    pick x10_6 (.bool true) x14_8 fun x15_11 =>
    ∃ J12 : Value → World → Prop, (∀ (x19_13 : Value) (junk15 : Env) (w14 : World), J12 x19_13 w14 →
    pick x15_11 (.bool true) x19_13 fun x20_16 =>
      ∃ J17 : Value → World → Prop, (∀ (x27_18 : Value) (junk20 : Env) (w19 : World), J17 x27_18 w19 →
    pick x20_16 (.bool true) x27_18 fun x28_21 =>
        cnd x28_21
          (K (.bool false) w19)
          (fda P 55 x1_1 1 w19 fun x29_22 =>
          ld P 53 x29_22 w19 fun x30_23 =>
          bl0 P .len #[53] 3 [x30_23] w19 fun x31_24 =>
          ∃ I25 : Nat → Value → World → Prop, (∃ m54, I25 m54 (.int .i64 0) w19) ∧ ∀ (m28 : Nat) (x32_29 : Value) (junk26 : Env) (w27 : World), I25 m28 x32_29 w27 →
            bin P .lss 3 false false x32_29 x31_24 w27 fun x33_30 =>
            cnd x33_30
              (ixa P 53 x30_23 x32_29 w27 fun x34_31 =>
              ld P 2 x34_31 w27 fun x35_32 =>
              bin P .lss 2 false true x35_32 (.int .i64 0) w27 fun x37_33 =>
              ∃ J34 : Value → World → Prop, (∀ (x40_35 : Value) (junk37 : Env) (w36 : World), J34 x40_35 w36 →
                pick x37_33 (.bool true) x40_35 fun x41_38 =>
                cnd x41_38
                  (K (.bool false) w36)
                  (bin P .add 3 false true x32_29 (.int .i64 1) w36 fun x42_39 =>
                  ∃ m40, m40 < m28 ∧ I25 m40 x42_39 w36)) ∧
                grd x37_33 false
                  (bin P .gtr 2 false true x35_32 (.int .i64 16777215) w27 fun x40_41 =>
                  J34 x40_41 w27)
                  (J34 undef w27))
              (bin P .eql 3 false true x8_5 (.int .i64 0) w27 fun x44_42 =>
              ∃ J43 : Value → World → Prop, (∀ (x52_44 : Value) (junk46 : Env) (w45 : World), J43 x52_44 w45 →
                pick x44_42 (.bool true) x52_44 fun x53_47 =>
                K x53_47 w45) ∧
                grd x44_42 false
                  (fda P 55 x1_1 1 w27 fun x46_48 =>
                  ld P 53 x46_48 w27 fun x47_49 =>
                  bin P .sub 3 false true x8_5 (.int .i64 1) w27 fun x49_50 =>
                  ixa P 53 x47_49 x49_50 w27 fun x50_51 =>
                  ld P 2 x50_51 w27 fun x51_52 =>
                  bin P .neq 2 false true x51_52 (.int .i64 0) w27 fun x52_53 =>
                  J43 x52_53 w27)
                  (J43 undef w27)))) ∧
    grd x20_16 false
      (fda P 55 x1_1 0 w14 fun x22_55 =>
          ld P 2 x22_55 w14 fun x23_56 =>
          bin P .eql 2 false true x23_56 (.int .i64 0) w14 fun x24_57 =>
          bin P .eql 3 false true x8_5 (.int .i64 0) w14 fun x26_58 =>
          bin P .neq 4 false false x24_57 x26_58 w14 fun x27_59 =>
          J17 x27_59 w14)
      (J17 undef w14)) ∧
    grd x15_11 false
      (fda P 55 x1_1 0 w9 fun x17_60 =>
        ld P 2 x17_60 w9 fun x18_61 =>
        bin P .gtr 2 false true x18_61 (.int .i64 1) w9 fun x19_62 =>
        J12 x19_62 w9)
      (J12 undef w9)) ∧
    grd x10_6 false
      (fda P 55 x1_1 0 w2 fun x12_63 =>
      ld P 2 x12_63 w2 fun x13_64 =>
      bin P .lss 2 false true x13_64 (.int .i64 (-1)) w2 fun x14_65 =>
      J7 x14_65 w2)
      (J7 undef w2)
def P_impl_IsWhole : Plan := (.seq (.reg [.op (0, 2, false), .op (1, 0, false)]) (.seq (.reg [.op (0, 0, false), .op (1, 0, false), .op (2, 0, false), .op (3, 0, false)]) (.seq (.seq (.reg [.op (0, 0, false), .op (1, 0, false), .op (2, 0, false), .grp 2 false [(3, 0, false), (4, 0, false), (5, 0, false)] [14] 28672, .op (6, 0, false), .op (7, 0, false), .grp 7 false [(8, 0, false), (9, 0, false), (10, 0, false)] [19] 917504, .op (11, 0, false), .op (12, 0, false), .grp 12 false [(13, 0, false), (14, 0, false), (15, 0, false), (16, 0, false), (17, 0, false), (18, 0, false)] [27] 264241152, .op (19, 0, false)]) (.cond (.seq (.reg [.op (0, 0, false)]) .leaf) .leaf)) (.seq (.seq (.reg [.op (0, 0, false), .op (1, 0, false), .op (2, 0, false), .op (3, 0, false)]) (.blk (.loop [32] 8791798054948 (.seq (.reg [.op (0, 0, false)]) (.seq (.cond .leaf .leaf) (.seq (.blk (.seq (.reg [.op (0, 0, false), .op (1, 0, false), .op (2, 0, false)]) (.seq (.reg [.op (0, 0, false), .op (1, 0, false), .op (2, 0, false), .grp 2 false [(3, 0, false), (4, 0, false)] [40] 1649267441664, .op (5, 0, false)]) (.cond (.seq (.reg [.op (0, 0, false)]) .leaf) .leaf)))) (.reg [.op (0, 0, false), .op (1, 0, false)]))))))) (.seq (.reg [.op (0, 0, false), .op (1, 0, false), .op (2, 0, false), .grp 2 false [(3, 0, false), (4, 0, false), (5, 0, false), (6, 0, false), (7, 0, false), (8, 0, false), (9, 0, false)] [52] 8936830510563328, .op (10, 0, false), .op (11, 0, false)]) .leaf)))))
theorem I_impl_IsWhole {a0 : Value} {w : World} {K : Value → World → Prop} (h : D_impl_IsWhole a0 w K) : call P f_impl_IsWhole [a0] w K :=
  call_of_vc mixed Tryz.func260 (c := codeOf Tryz.f260) (by kernel_rfl) (by kernel_rfl) (p := P_impl_IsWhole) (by kernel_rfl) (by rw [Tryz.ntmps260]; simp) (by
    have e : D_impl_IsWhole a0 w K = vc P P_impl_IsWhole (codeOf Tryz.f260) (env0 [a0]) w (retX P Tryz.f260.results.toList K) := by kernel_rfl
    exact e ▸ h)

/-- impl.toBig -/
def D_impl_toBig (a0 : Value) (w : World) (K : Value → World → Prop) : Prop :=
  bx P 55 a0 w fun x1_1 w2 =>
  alc P 158 w2 fun x5_3 w4 =>
  fda P 55 x1_1 1 w4 fun x6_5 =>
  ld P 53 x6_5 w4 fun x7_6 =>
  bl0 P .len #[53] 3 [x7_6] w4 fun x8_7 =>
  bin P .sub 3 false true x8_7 (.int .i64 1) w4 fun x9_8 =>
  ∃ I9 : Nat → Value → World → Prop, (∃ m32, I9 m32 x9_8 w4) ∧ ∀ (m12 : Nat) (x4_13 : Value) (junk10 : Env) (w11 : World), I9 m12 x4_13 w11 →
    bin P .geq 3 false true x4_13 (.int .i64 0) w11 fun x11_14 =>
    cnd x11_14
      (call P f_impl_integer_Lsh [x5_3, x5_3, (.int .u64 24)] w11 fun x16_15 w16 =>
      fda P 55 x1_1 1 w16 fun x19_17 =>
      ld P 53 x19_17 w16 fun x20_18 =>
      ixa P 53 x20_18 x4_13 w16 fun x22_19 =>
      ld P 2 x22_19 w16 fun x23_20 =>
      call P f_impl_newInt [x23_20] w16 fun x24_21 w22 =>
      call P f_impl_integer_Or [x5_3, x5_3, x24_21] w22 fun x25_23 w24 =>
      bin P .sub 3 false true x4_13 (.int .i64 1) w24 fun x13_25 =>
      ∃ m26, m26 < m12 ∧ I9 m26 x13_25 w24)
      (fda P 55 x1_1 0 w11 fun x26_27 =>
      ld P 2 x26_27 w11 fun x27_28 =>
      bin P .lss 2 false true x27_28 (.int .i64 0) w11 fun x28_29 =>
      cnd x28_29
        (call P f_impl_integer_Neg [x5_3, x5_3] w11 fun x31_30 w31 =>
        K x5_3 w31)
        (K x5_3 w11))
def P_impl_toBig : Plan := (.seq (.reg [.op (0, 2, false), .op (1, 0, false)]) (.seq (.reg [.op (0, 2, false), .op (1, 0, false)]) (.seq (.seq (.reg [.op (0, 0, false), .op (1, 0, false), .op (2, 0, false), .op (3, 0, false), .op (4, 0, false)]) (.blk (.loop [4] 67107856 (.seq (.seq (.reg [.op (0, 0, false), .op (1, 0, false)]) (.cond .leaf .leaf)) (.seq (.blk (.seq (.reg [.op (0, 0, false), .op (1, 0, false), .op (2, 2, false)]) (.reg [.op (0, 0, false), .op (1, 0, false), .op (2, 0, false), .op (3, 0, false), .op (4, 0, false), .op (5, 0, false), .op (6, 0, false), .op (7, 2, false), .op (8, 2, false)]))) (.reg [.op (0, 0, false), .op (1, 0, false), .op (2, 0, false)])))))) (.seq (.seq (.reg [.op (0, 0, false), .op (1, 0, false), .op (2, 0, false)]) (.cond (.reg [.op (0, 0, false), .op (1, 0, false), .op (2, 2, false)]) .leaf)) (.seq (.reg [.op (0, 0, false), .op (1, 0, false)]) .leaf)))))
theorem I_impl_toBig {a0 : Value} {w : World} {K : Value → World → Prop} (h : D_impl_toBig a0 w K) : call P f_impl_toBig [a0] w K :=
  call_of_vc mixed Tryz.func261 (c := codeOf Tryz.f261) (by kernel_rfl) (by kernel_rfl) (p := P_impl_toBig) (by kernel_rfl) (by rw [Tryz.ntmps261]; simp) (by
    have e : D_impl_toBig a0 w K = vc P P_impl_toBig (codeOf Tryz.f261) (env0 [a0]) w (retX P Tryz.f261.results.toList K) := by kernel_rfl
    exact e ▸ h)

/-- (*impl.integer).Sub -/
def D_impl_integer_Sub (a0 a1 a2 : Value) (w : World) (K : Value → World → Prop) : Prop :=
  nch a2 fun x10_1 =>
  fda P 158 x10_1 0 w fun x11_2 =>
  ld P 4 x11_2 w fun x12_3 =>
  una P .not x12_3 w fun x13_4 =>
  nch a2 fun x15_5 =>
  fda P 158 x15_5 1 w fun x16_6 =>
  ld P 156 x16_6 w fun x17_7 =>
  call P f_impl_integer_plus [a0, a1, x13_4, x17_7] w fun x18_8 w9 =>
  K x18_8 w9
def P_impl_integer_Sub : Plan := (.seq (.reg [.op (0, 0, false)]) (.seq (.reg [.op (0, 0, false), .op (1, 0, false), .op (2, 0, false), .op (3, 0, false), .op (4, 0, false), .op (5, 0, false), .op (6, 0, false), .op (7, 0, false), .op (8, 0, false), .op (9, 0, false), .op (10, 0, false), .op (11, 2, false), .op (12, 0, false)]) .leaf))
theorem I_impl_integer_Sub {a0 a1 a2 : Value} {w : World} {K : Value → World → Prop} (h : D_impl_integer_Sub a0 a1 a2 w K) : call P f_impl_integer_Sub [a0, a1, a2] w K :=
  call_of_vc mixed Tryz.func265 (c := codeOf Tryz.f265) (by kernel_rfl) (by kernel_rfl) (p := P_impl_integer_Sub) (by kernel_rfl) (by rw [Tryz.ntmps265]; simp) (by
    have e : D_impl_integer_Sub a0 a1 a2 w K = vc P P_impl_integer_Sub (codeOf Tryz.f265) (env0 [a0, a1, a2]) w (retX P Tryz.f265.results.toList K) := by kernel_rfl
    exact e ▸ h)

/-- (*impl.integer).Cmp -/
def D_impl_integer_Cmp (a0 a1 : Value) (w : World) (K : Value → World → Prop) : Prop :=
  nch a0 fun x7_1 =>
  fda P 158 x7_1 0 w fun x8_2 =>
  ld P 4 x8_2 w fun x9_3 =>
  ∃ J4 : Value → World → Prop, (∀ (x14_5 : Value) (junk7 : Env) (w6 : World), J4 x14_5 w6 →
    pick x9_3 x14_5 (.bool false) fun x15_8 =>
    cnd x15_8
      (nch a1 fun x17_9 =>
      fda P 158 x17_9 1 w6 fun x18_10 =>
      ld P 156 x18_10 w6 fun x19_11 =>
      nch a0 fun x21_12 =>
      fda P 158 x21_12 1 w6 fun x22_13 =>
      ld P 156 x22_13 w6 fun x23_14 =>
      call P f_impl_magCmp [x19_11, x23_14] w6 fun x24_15 w16 =>
      K x24_15 w16)
      (nch a0 fun x27_17 =>
      fda P 158 x27_17 0 w6 fun x28_18 =>
      ld P 4 x28_18 w6 fun x29_19 =>
      cnd x29_19
        (K (.int .i64 (-1)) w6)
        (nch a1 fun x32_20 =>
        fda P 158 x32_20 0 w6 fun x33_21 =>
        ld P 4 x33_21 w6 fun x34_22 =>
        cnd x34_22
          (K (.int .i64 1) w6)
          (nch a0 fun x36_23 =>
          fda P 158 x36_23 1 w6 fun x37_24 =>
          ld P 156 x37_24 w6 fun x38_25 =>
          nch a1 fun x40_26 =>
          fda P 158 x40_26 1 w6 fun x41_27 =>
          ld P 156 x41_27 w6 fun x42_28 =>
          call P f_impl_magCmp [x38_25, x42_28] w6 fun x43_29 w30 =>
          K x43_29 w30)))) ∧
    grd x9_3 true
      (nch a1 fun x12_31 =>
      fda P 158 x12_31 0 w fun x13_32 =>
      ld P 4 x13_32 w fun x14_33 =>
      J4 x14_33 w)
      (J4 undef w)
def P_impl_integer_Cmp : Plan := (.seq (.reg [.op (0, 0, false)]) (.seq (.blk (.seq (.reg [.op (0, 0, false), .op (1, 0, false), .op (2, 0, false), .op (3, 0, false), .op (4, 0, false), .grp 4 true [(5, 0, false), (6, 0, false), (7, 0, false), (8, 0, false)] [14] 30720, .op (9, 0, false), .op (10, 0, false)]) (.cond (.seq (.reg [.op (0, 0, false), .op (1, 0, false), .op (2, 0, false), .op (3, 0, false), .op (4, 0, false), .op (5, 0, false), .op (6, 0, false), .op (7, 0, false), .op (8, 2, false), .op (9, 0, false)]) .leaf) (.seq (.reg [.op (0, 0, false), .op (1, 0, false), .op (2, 0, false), .op (3, 0, false), .op (4, 0, false)]) (.cond (.seq (.reg [.op (0, 0, false)]) .leaf) (.seq (.reg [.op (0, 0, false), .op (1, 0, false), .op (2, 0, false), .op (3, 0, false), .op (4, 0, false)]) (.cond (.seq (.reg [.op (0, 0, false)]) .leaf) .leaf))))))) (.seq (.reg [.op (0, 0, false), .op (1, 0, false), .op (2, 0, false), .op (3, 0, false), .op (4, 0, false), .op (5, 0, false), .op (6, 0, false), .op (7, 0, false), .op (8, 2, false), .op (9, 0, false)]) .leaf)))
theorem I_impl_integer_Cmp {a0 a1 : Value} {w : World} {K : Value → World → Prop} (h : D_impl_integer_Cmp a0 a1 w K) : call P f_impl_integer_Cmp [a0, a1] w K :=
  call_of_vc mixed Tryz.func266 (c := codeOf Tryz.f266) (by kernel_rfl) (by kernel_rfl) (p := P_impl_integer_Cmp) (by kernel_rfl) (by rw [Tryz.ntmps266]; simp) (by
    have e : D_impl_integer_Cmp a0 a1 w K = vc P P_impl_integer_Cmp (codeOf Tryz.f266) (env0 [a0, a1]) w (retX P Tryz.f266.results.toList K) := by kernel_rfl
    exact e ▸ h)

/-- impl.magCmp -/
def D_impl_magCmp (a0 a1 : Value) (w : World) (K : Value → World → Prop) : Prop :=
  bl0 P .len #[156] 3 [a0] w fun x7_1 =>
  bl0 P .len #[156] 3 [a1] w fun x9_2 =>
  bin P .neq 3 false false x7_1 x9_2 w fun x10_3 =>
  cnd x10_3
    (bl0 P .len #[156] 3 [a0] w fun x12_4 =>
    bl0 P .len #[156] 3 [a1] w fun x14_5 =>
    call P f_cmp_Compare_int [x12_4, x14_5] w fun x15_6 w7 =>
    K x15_6 w7)
    (bl0 P .len #[156] 3 [a0] w fun x17_8 =>
    bin P .sub 3 false true x17_8 (.int .i64 1) w fun x18_9 =>
    ∃ I10 : Nat → Value → World → Prop, (∃ m29, I10 m29 x18_9 w) ∧ ∀ (m13 : Nat) (x5_14 : Value) (junk11 : Env) (w12 : World), I10 m13 x5_14 w12 →
      bin P .geq 3 false true x5_14 (.int .i64 0) w12 fun x20_15 =>
      cnd x20_15
        (ixa P 156 a0 x5_14 w12 fun x25_16 =>
        ld P 202 x25_16 w12 fun x26_17 =>
        ixa P 156 a1 x5_14 w12 fun x29_18 =>
        ld P 202 x29_18 w12 fun x30_19 =>
        bin P .neq 202 false false x26_17 x30_19 w12 fun x31_20 =>
        cnd x31_20
          (ixa P 156 a0 x5_14 w12 fun x34_21 =>
          ld P 202 x34_21 w12 fun x35_22 =>
          ixa P 156 a1 x5_14 w12 fun x38_23 =>
          ld P 202 x38_23 w12 fun x39_24 =>
          call P f_cmp_Compare_uint32 [x35_22, x39_24] w12 fun x40_25 w26 =>
          K x40_25 w26)
          (bin P .sub 3 false true x5_14 (.int .i64 1) w12 fun x22_27 =>
          ∃ m28, m28 < m13 ∧ I10 m28 x22_27 w12))
        (K (.int .i64 0) w12))
def P_impl_magCmp : Plan := (.seq (.reg [.op (0, 0, false)]) (.seq (.seq (.reg [.op (0, 0, false), .op (1, 0, false), .op (2, 0, false), .op (3, 0, false), .op (4, 0, false)]) (.cond (.seq (.reg [.op (0, 0, false), .op (1, 0, false), .op (2, 0, false), .op (3, 0, false), .op (4, 2, false), .op (5, 0, false)]) .leaf) .leaf)) (.seq (.seq (.reg [.op (0, 0, false), .op (1, 0, false), .op (2, 0, false), .op (3, 0, false)]) (.blk (.loop [5] 2199022731312 (.seq (.seq (.reg [.op (0, 0, false), .op (1, 0, false)]) (.cond .leaf .leaf)) (.seq (.blk (.seq (.reg [.op (0, 0, false), .op (1, 0, false), .op (2, 0, false), .op (3, 0, false), .op (4, 0, false), .op (5, 0, false), .op (6, 0, false), .op (7, 0, false), .op (8, 0, false)]) (.cond (.seq (.reg [.op (0, 0, false), .op (1, 0, false), .op (2, 0, false), .op (3, 0, false), .op (4, 0, false), .op (5, 0, false), .op (6, 0, false), .op (7, 0, false), .op (8, 2, false), .op (9, 0, false)]) .leaf) .leaf))) (.reg [.op (0, 0, false), .op (1, 0, false), .op (2, 0, false)])))))) (.seq (.reg [.op (0, 0, false)]) .leaf))))
theorem I_impl_magCmp {a0 a1 : Value} {w : World} {K : Value → World → Prop} (h : D_impl_magCmp a0 a1 w K) : call P f_impl_magCmp [a0, a1] w K :=
  call_of_vc mixed Tryz.func268 (c := codeOf Tryz.f268) (by kernel_rfl) (by kernel_rfl) (p := P_impl_magCmp) (by kernel_rfl) (by rw [Tryz.ntmps268]; simp) (by
    have e : D_impl_magCmp a0 a1 w K = vc P P_impl_magCmp (codeOf Tryz.f268) (env0 [a0, a1]) w (retX P Tryz.f268.results.toList K) := by kernel_rfl
    exact e ▸ h)

/-- impl.magLeft -/
def D_impl_magLeft (a0 a1 : Value) (w : World) (K : Value → World → Prop) : Prop :=
  bl0 P .len #[156] 3 [a0] w fun x10_1 =>
  bin P .eql 3 false true x10_1 (.int .i64 0) w fun x11_2 =>
  cnd x11_2
    (K (.slice none 0 0) w)
    (bin P .quo 154 false true a1 (.int .u64 32) w fun x13_3 =>
    cnv P 154 3 x13_3 w fun x14_4 =>
    bl0 P .len #[156] 3 [a0] w fun x16_5 =>
    bin P .add 3 false false x14_4 x16_5 w fun x17_6 =>
    bin P .add 3 false true x17_6 (.int .i64 1) w fun x18_7 =>
    mks P 156 x18_7 x18_7 w fun x19_8 w9 =>
    bl0 P .len #[156] 3 [a0] w9 fun x21_10 =>
    ∃ I11 : Nat → Value → World → Prop, (∃ m45, I11 m45 (.int .i64 0) w9) ∧ ∀ (m14 : Nat) (x22_15 : Value) (junk12 : Env) (w13 : World), I11 m14 x22_15 w13 →
      bin P .lss 3 false false x22_15 x21_10 w13 fun x23_16 =>
      cnd x23_16
        (ixa P 156 a0 x22_15 w13 fun x25_17 =>
        ld P 202 x25_17 w13 fun x26_18 =>
        cnv P 202 178 x26_18 w13 fun x28_19 =>
        bin P .rem 154 false true a1 (.int .u64 32) w13 fun x30_20 =>
        bin P .shl 178 false false x28_19 x30_20 w13 fun x31_21 =>
        bin P .quo 154 false true a1 (.int .u64 32) w13 fun x34_22 =>
        cnv P 154 3 x34_22 w13 fun x35_23 =>
        bin P .add 3 false false x35_23 x22_15 w13 fun x37_24 =>
        ixa P 156 x19_8 x37_24 w13 fun x38_25 =>
        ld P 202 x38_25 w13 fun x39_26 =>
        cnv P 178 202 x31_21 w13 fun x41_27 =>
        bin P .or 202 false false x39_26 x41_27 w13 fun x42_28 =>
        ixa P 156 x19_8 x37_24 w13 fun x43_29 =>
        sto P 202 x43_29 x42_28 w13 fun w31 =>
        bin P .quo 154 false true a1 (.int .u64 32) w31 fun x46_32 =>
        cnv P 154 3 x46_32 w31 fun x47_33 =>
        bin P .add 3 false false x47_33 x22_15 w31 fun x49_34 =>
        bin P .add 3 false true x49_34 (.int .i64 1) w31 fun x50_35 =>
        bin P .shr 178 false true x31_21 (.int .u64 32) w31 fun x52_36 =>
        cnv P 178 202 x52_36 w31 fun x53_37 =>
        ixa P 156 x19_8 x50_35 w31 fun x54_38 =>
        sto P 202 x54_38 x53_37 w31 fun w40 =>
        bin P .add 3 false true x22_15 (.int .i64 1) w40 fun x55_41 =>
        ∃ m42, m42 < m14 ∧ I11 m42 x55_41 w40)
        (call P f_impl_magTrim [x19_8] w13 fun x57_43 w44 =>
        K x57_43 w44))
def P_impl_magLeft : Plan := (.seq (.reg [.op (0, 0, false)]) (.seq (.seq (.reg [.op (0, 0, false), .op (1, 0, false), .op (2, 0, false)]) (.cond (.seq (.reg [.op (0, 0, false)]) .leaf) .leaf)) (.seq (.reg [.op (0, 0, false), .op (1, 0, false), .op (2, 0, false), .op (3, 0, false), .op (4, 0, false), .op (5, 0, false), .op (6, 0, false), .op (7, 2, false), .op (8, 0, false)]) (.seq (.seq (.reg [.op (0, 0, false), .op (1, 0, false), .op (2, 0, false)]) (.blk (.loop [22] 72057594033734080 (.seq (.reg [.op (0, 0, false)]) (.seq (.cond .leaf .leaf) (.seq (.blk (.seq (.reg [.op (0, 0, false), .op (1, 0, false), .op (2, 0, false), .op (3, 0, false), .op (4, 0, false)]) (.seq (.reg [.op (0, 0, false), .op (1, 0, false), .op (2, 0, false), .op (3, 0, false), .op (4, 0, false), .op (5, 0, false)]) (.seq (.reg [.op (0, 0, false), .op (1, 0, false), .op (2, 0, false), .op (3, 0, false), .op (4, 0, false), .op (5, 0, false), .op (6, 0, false), .op (7, 0, false), .op (8, 0, false), .op (9, 0, false), .op (10, 0, false), .op (11, 0, false), .op (12, 2, false)]) (.reg [.op (0, 0, false), .op (1, 0, false), .op (2, 0, false), .op (3, 0, false), .op (4, 0, false), .op (5, 0, false), .op (6, 0, false), .op (7, 0, false), .op (8, 0, false), .op (9, 0, false), .op (10, 0, false), .op (11, 2, false)]))))) (.reg [.op (0, 0, false), .op (1, 0, false)]))))))) (.seq (.reg [.op (0, 0, false), .op (1, 2, false), .op (2, 0, false)]) .leaf)))))
theorem I_impl_magLeft {a0 a1 : Value} {w : World} {K : Value → World → Prop} (h : D_impl_magLeft a0 a1 w K) : call P f_impl_magLeft [a0, a1] w K :=
  call_of_vc mixed Tryz.func269 (c := codeOf Tryz.f269) (by kernel_rfl) (by kernel_rfl) (p := P_impl_magLeft) (by kernel_rfl) (by rw [Tryz.ntmps269]; simp) (by
    have e : D_impl_magLeft a0 a1 w K = vc P P_impl_magLeft (codeOf Tryz.f269) (env0 [a0, a1]) w (retX P Tryz.f269.results.toList K) := by kernel_rfl
    exact e ▸ h)

/-- (*impl.integer).Or -/
def D_impl_integer_Or (a0 a1 a2 : Value) (w : World) (K : Value → World → Prop) : Prop :=
  nch a1 fun x11_1 =>
  fda P 158 x11_1 1 w fun x12_2 =>
  ld P 156 x12_2 w fun x13_3 =>
  bl0 P .len #[156] 3 [x13_3] w fun x14_4 =>
  nch a2 fun x16_5 =>
  fda P 158 x16_5 1 w fun x17_6 =>
  ld P 156 x17_6 w fun x18_7 =>
  bl0 P .len #[156] 3 [x18_7] w fun x19_8 =>
  bl0 P .max #[3, 3] 3 [x14_4, x19_8] w fun x20_9 =>
  mks P 156 x20_9 x20_9 w fun x21_10 w11 =>
  nch a1 fun x24_12 =>
  fda P 158 x24_12 1 w11 fun x25_13 =>
  ld P 156 x25_13 w11 fun x26_14 =>
  bl2 P .copy #[156, 156] 3 [x21_10, x26_14] w11 fun x27_15 w16 =>
  nch a2 fun x29_17 =>
  fda P 158 x29_17 1 w16 fun x30_18 =>
  ld P 156 x30_18 w16 fun x31_19 =>
  bl0 P .len #[156] 3 [x31_19] w16 fun x32_20 =>
  ∃ I21 : Nat → Value → World → Prop, (∃ m39, I21 m39 (.int .i64 0) w16) ∧ ∀ (m24 : Nat) (x33_25 : Value) (junk22 : Env) (w23 : World), I21 m24 x33_25 w23 →
    bin P .lss 3 false false x33_25 x32_20 w23 fun x34_26 =>
    cnd x34_26
      (ixa P 156 x31_19 x33_25 w23 fun x36_27 =>
      ld P 202 x36_27 w23 fun x37_28 =>
      ixa P 156 x21_10 x33_25 w23 fun x40_29 =>
      ld P 202 x40_29 w23 fun x41_30 =>
      bin P .or 202 false false x41_30 x37_28 w23 fun x43_31 =>
      ixa P 156 x21_10 x33_25 w23 fun x44_32 =>
      sto P 202 x44_32 x43_31 w23 fun w34 =>
      bin P .add 3 false true x33_25 (.int .i64 1) w34 fun x45_35 =>
      ∃ m36, m36 < m24 ∧ I21 m36 x45_35 w34)
      (call P f_impl_integer_put [a0, (.bool false), x21_10] w23 fun x48_37 w38 =>
      K x48_37 w38)
def P_impl_integer_Or : Plan := (.seq (.reg [.op (0, 0, false)]) (.seq (.reg [.op (0, 0, false), .op (1, 0, false), .op (2, 0, false), .op (3, 0, false), .op (4, 0, false), .op (5, 0, false), .op (6, 0, false), .op (7, 0, false), .op (8, 0, false), .op (9, 0, false), .op (10, 0, false), .op (11, 2, false), .op (12, 0, false)]) (.seq (.reg [.op (0, 0, false), .op (1, 0, false), .op (2, 0, false), .op (3, 0, false), .op (4, 0, false), .op (5, 2, false)]) (.seq (.seq (.reg [.op (0, 0, false), .op (1, 0, false), .op (2, 0, false), .op (3, 0, false), .op (4, 0, false), .op (5, 0, false)]) (.blk (.loop [33] 70360154243840 (.seq (.reg [.op (0, 0, false)]) (.seq (.cond .leaf .leaf) (.seq (.blk (.seq (.reg [.op (0, 0, false), .op (1, 0, false), .op (2, 0, false), .op (3, 0, false), .op (4, 0, false)]) (.reg [.op (0, 0, false), .op (1, 0, false), .op (2, 0, false), .op (3, 0, false), .op (4, 0, false), .op (5, 0, false), .op (6, 0, false), .op (7, 2, false)]))) (.reg [.op (0, 0, false), .op (1, 0, false)]))))))) (.seq (.reg [.op (0, 0, false), .op (1, 0, false), .op (2, 2, false), .op (3, 0, false)]) .leaf)))))
theorem I_impl_integer_Or {a0 a1 a2 : Value} {w : World} {K : Value → World → Prop} (h : D_impl_integer_Or a0 a1 a2 w K) : call P f_impl_integer_Or [a0, a1, a2] w K :=
  call_of_vc mixed Tryz.func280 (c := codeOf Tryz.f280) (by kernel_rfl) (by kernel_rfl) (p := P_impl_integer_Or) (by kernel_rfl) (by rw [Tryz.ntmps280]; simp) (by
    have e : D_impl_integer_Or a0 a1 a2 w K = vc P P_impl_integer_Or (codeOf Tryz.f280) (env0 [a0, a1, a2]) w (retX P Tryz.f280.results.toList K) := by kernel_rfl
    exact e ▸ h)

end Go.Proofs.YtjompmflommadaaGreatDoor

/- Written by a program (gen.py): what is left to show of each function's call. -/
set_option linter.unusedVariables false
set_option maxRecDepth 20000
namespace Go.Proofs.YtjompmflommadaaGreatDoor
open Go Go.Vc

/-- (impl.num).sign -/
def D_impl_num_sign (a0 : Value) (w : World) (K : Value → World → Prop) : Prop :=
  bx P 105 a0 w fun x1_1 w2 =>
  fda P 105 x1_1 0 w2 fun x3_3 =>
  ld P 103 x3_3 w2 fun x4_4 =>
  call P f_impl_integer_Sign [x4_4] w2 fun x5_5 w6 =>
  K x5_5 w6
def P_impl_num_sign : Plan := (.seq (.reg [.op (0, 2, false), .op (1, 0, false)]) (.seq (.reg [.op (0, 0, false), .op (1, 0, false), .op (2, 2, false), .op (3, 0, false)]) .leaf))
theorem I_impl_num_sign {a0 : Value} {w : World} {K : Value → World → Prop} (h : D_impl_num_sign a0 w K) : call P f_impl_num_sign [a0] w K :=
  call_of_vc mixed Tryz.func125 (c := codeOf Tryz.f125) (by kernel_rfl) (by kernel_rfl) (p := P_impl_num_sign) (by kernel_rfl) (by rw [Tryz.ntmps125]; simp) (by
    have e : D_impl_num_sign a0 w K = vc P P_impl_num_sign (codeOf Tryz.f125) (env0 [a0]) w (retX P Tryz.f125.results.toList K) := by kernel_rfl
    exact e ▸ h)

/-- impl.ParseDyadic -/
def D_impl_ParseDyadic (a0 : Value) (w : World) (K : Value → World → Prop) : Prop :=
  alc P 57 w fun x2_1 w2 =>
  call P f_strings_Cut [a0, (.string ⟨#[112]⟩)] w2 fun x14_3 w4 =>
  xtr P x14_3 0 w4 fun x15_5 =>
  xtr P x14_3 1 w4 fun x16_6 =>
  xtr P x14_3 2 w4 fun x17_7 =>
  una P .not x17_7 w4 fun x19_8 =>
  ∃ J9 : Value → World → Prop, (∀ (x23_10 : Value) (junk12 : Env) (w11 : World), J9 x23_10 w11 →
    pick x19_8 (.bool true) x23_10 fun x24_13 =>
    ∃ J14 : Value → World → Prop, (∀ (x28_15 : Value) (junk17 : Env) (w16 : World), J14 x28_15 w16 →
    pick x24_13 (.bool true) x28_15 fun x29_18 =>
      cnd x29_18
        (bld P 57 [] w16 fun x30_19 =>
        sto P 57 x2_1 x30_19 w16 fun w21 =>
        ldc P 57 x2_1 w21 fun r22 =>
        K (.tuple #[r22, (.int .i64 6)]) w21)
        (call P f_impl_ParseWhole [x15_5] w16 fun x33_23 w24 =>
        xtr P x33_23 0 w24 fun x34_25 =>
        xtr P x33_23 1 w24 fun x35_26 =>
        alc P 55 w24 fun x7_27 w28 =>
        sto P 55 x7_27 x34_25 w28 fun w30 =>
        call P f_strconv_ParseInt [x16_6, (.int .i64 10), (.int .i64 64)] w30 fun x38_31 w32 =>
        xtr P x38_31 0 w32 fun x39_33 =>
        xtr P x38_31 1 w32 fun x40_34 =>
        ld P 55 x7_27 w32 fun x41_35 =>
        bld P 57 [(0, x41_35), (1, x39_33)] w32 fun x43_36 =>
        alc P 57 w32 fun x11_37 w38 =>
        sto P 57 x11_37 x43_36 w38 fun w40 =>
        bin P .neq 2 false true x35_26 (.int .i64 0) w40 fun x45_41 =>
        ∃ J42 : Value → World → Prop, (∀ (x48_43 : Value) (junk45 : Env) (w44 : World), J42 x48_43 w44 →
          pick x45_41 (.bool true) x48_43 fun x49_46 =>
          ∃ J47 : Value → World → Prop, (∀ (x53_48 : Value) (junk50 : Env) (w49 : World), J47 x53_48 w49 →
          pick x49_46 (.bool true) x53_48 fun x54_51 =>
            cnd x54_51
              (bld P 57 [] w49 fun x55_52 =>
              sto P 57 x2_1 x55_52 w49 fun w54 =>
              ldc P 57 x2_1 w54 fun r55 =>
              K (.tuple #[r55, (.int .i64 6)]) w54)
              (ld P 57 x11_37 w49 fun x56_56 =>
              sto P 57 x2_1 x56_56 w49 fun w58 =>
              ldc P 57 x2_1 w58 fun r59 =>
              K (.tuple #[r59, (.int .i64 0)]) w58)) ∧
          grd x49_46 false
            (ld P 57 x11_37 w44 fun x51_60 =>
              call P f_impl_IsDyadic [x51_60] w44 fun x52_61 w62 =>
              una P .not x52_61 w62 fun x53_63 =>
              J47 x53_63 w62)
            (J47 undef w44)) ∧
          grd x45_41 false
            (bin P .neq 189 false true x40_34 .nilIface w40 fun x48_64 =>
            J42 x48_64 w40)
            (J42 undef w40))) ∧
    grd x24_13 false
      (bl0 P .len #[9] 3 [x16_6] w11 fun x27_65 =>
        bin P .gtr 3 false true x27_65 (.int .i64 6) w11 fun x28_66 =>
        J14 x28_66 w11)
      (J14 undef w11)) ∧
    grd x19_8 false
      (call P f_impl_isNumeral [x16_6] w4 fun x22_67 w68 =>
      una P .not x22_67 w68 fun x23_69 =>
      J9 x23_69 w68)
      (J9 undef w4)
def P_impl_ParseDyadic : Plan := (.seq (.reg [.op (0, 2, false), .op (1, 0, false)]) (.seq (.reg [.op (0, 0, false), .op (1, 2, false), .op (2, 0, false), .op (3, 0, false), .op (4, 0, false), .op (5, 0, false), .op (6, 0, false), .op (7, 0, false), .op (8, 0, false)]) (.seq (.seq (.reg [.op (0, 0, false), .op (1, 0, false), .op (2, 0, false), .grp 2 false [(3, 0, false), (4, 2, false), (5, 0, false)] [23] 14680064, .op (6, 0, false), .op (7, 0, false), .grp 7 false [(8, 0, false), (9, 0, false), (10, 0, false)] [28] 469762048, .op (11, 0, false)]) (.cond (.seq (.reg [.op (0, 0, false), .op (1, 2, false), .op (2, 0, false)]) .leaf) .leaf)) (.seq (.reg [.op (0, 0, false), .op (1, 2, false), .op (2, 0, false), .op (3, 0, false), .op (4, 0, false), .op (5, 2, false), .op (6, 2, false), .op (7, 0, false)]) (.seq (.reg [.op (0, 0, false), .op (1, 2, false), .op (2, 0, false), .op (3, 0, false), .op (4, 0, false), .op (5, 0, false), .op (6, 0, false)]) (.seq (.reg [.op (0, 0, false), .op (1, 0, false), .op (2, 0, false), .op (3, 2, false), .op (4, 2, false)]) (.seq (.seq (.reg [.op (0, 0, false), .op (1, 0, false), .op (2, 0, false), .grp 2 false [(3, 0, false), (4, 0, false)] [48] 422212465065984, .op (5, 0, false), .op (6, 0, false), .grp 6 false [(7, 0, false), (8, 2, false), (9, 0, false)] [53] 15762598695796736, .op (10, 0, false)]) (.cond (.seq (.reg [.op (0, 0, false), .op (1, 2, false), .op (2, 0, false)]) .leaf) .leaf)) (.seq (.reg [.op (0, 0, false), .op (1, 2, false), .op (2, 0, false)]) .leaf))))))))
theorem I_impl_ParseDyadic {a0 : Value} {w : World} {K : Value → World → Prop} (h : D_impl_ParseDyadic a0 w K) : call P f_impl_ParseDyadic [a0] w K :=
  call_of_vc mixed Tryz.func182 (c := codeOf Tryz.f182) (by kernel_rfl) (by kernel_rfl) (p := P_impl_ParseDyadic) (by kernel_rfl) (by rw [Tryz.ntmps182]; simp) (by
    have e : D_impl_ParseDyadic a0 w K = vc P P_impl_ParseDyadic (codeOf Tryz.f182) (env0 [a0]) w (retX P Tryz.f182.results.toList K) := by kernel_rfl
    exact e ▸ h)

/-- impl.RoundDyadic -/
def D_impl_RoundDyadic (a0 a1 : Value) (w : World) (K : Value → World → Prop) : Prop :=
  bx P 57 a0 w fun x2_1 w2 =>
  ld P 57 x2_1 w2 fun x9_3 =>
  call P f_impl_IsDyadic [x9_3] w2 fun x10_4 w5 =>
  una P .not x10_4 w5 fun x11_6 =>
  cnd x11_6
    (K (.tuple #[(.float .f32 0), (.int .i64 0), (.int .i64 1)]) w5)
    (call P f_impl_isMode [a1] w5 fun x13_7 w8 =>
    una P .not x13_7 w8 fun x14_9 =>
    cnd x14_9
      (K (.tuple #[(.float .f32 0), (.int .i64 0), (.int .i64 2)]) w8)
      (ld P 57 x2_1 w8 fun x16_10 =>
      call P f_impl_numberOf [x16_10] w8 fun x17_11 w12 =>
      call P f_impl_num_round [x17_11, a1] w12 fun x19_13 w14 =>
      xtr P x19_13 0 w14 fun x20_15 =>
      xtr P x19_13 1 w14 fun x21_16 =>
      K (.tuple #[x20_15, x21_16, (.int .i64 0)]) w14))
def P_impl_RoundDyadic : Plan := (.seq (.reg [.op (0, 2, false), .op (1, 0, false), .op (2, 0, false), .op (3, 0, false)]) (.seq (.seq (.reg [.op (0, 0, false), .op (1, 2, false), .op (2, 0, false)]) (.cond (.seq (.reg [.op (0, 0, false), .op (1, 0, false), .op (2, 0, false)]) .leaf) .leaf)) (.seq (.seq (.reg [.op (0, 0, false), .op (1, 2, false), .op (2, 0, false)]) (.cond (.seq (.reg [.op (0, 0, false), .op (1, 0, false), .op (2, 0, false)]) .leaf) .leaf)) (.seq (.reg [.op (0, 0, false), .op (1, 2, false), .op (2, 0, false), .op (3, 2, false), .op (4, 0, false), .op (5, 0, false), .op (6, 0, false), .op (7, 0, false), .op (8, 0, false)]) (.seq (.reg [.op (0, 0, false), .op (1, 0, false), .op (2, 0, false), .op (3, 0, false), .op (4, 0, false)]) .leaf)))))
theorem I_impl_RoundDyadic {a0 a1 : Value} {w : World} {K : Value → World → Prop} (h : D_impl_RoundDyadic a0 a1 w K) : call P f_impl_RoundDyadic [a0, a1] w K :=
  call_of_vc mixed Tryz.func183 (c := codeOf Tryz.f183) (by kernel_rfl) (by kernel_rfl) (p := P_impl_RoundDyadic) (by kernel_rfl) (by rw [Tryz.ntmps183]; simp) (by
    have e : D_impl_RoundDyadic a0 a1 w K = vc P P_impl_RoundDyadic (codeOf Tryz.f183) (env0 [a0, a1]) w (retX P Tryz.f183.results.toList K) := by kernel_rfl
    exact e ▸ h)

/-- impl.IsDyadic -/
def D_impl_IsDyadic (a0 : Value) (w : World) (K : Value → World → Prop) : Prop :=
  bx P 57 a0 w fun x1_1 w2 =>
  fda P 57 x1_1 0 w2 fun x3_3 =>
  ld P 55 x3_3 w2 fun x4_4 =>
  call P f_impl_IsWhole [x4_4] w2 fun x5_5 w6 =>
  una P .not x5_5 w6 fun x6_7 =>
  cnd x6_7
    (K (.bool false) w6)
    (fda P 57 x1_1 0 w6 fun x7_8 =>
    fda P 55 x7_8 0 w6 fun x8_9 =>
    ld P 2 x8_9 w6 fun x9_10 =>
    bin P .eql 2 false true x9_10 (.int .i64 0) w6 fun x10_11 =>
    cnd x10_11
      (fda P 57 x1_1 1 w6 fun x11_12 =>
      ld P 2 x11_12 w6 fun x12_13 =>
      bin P .eql 2 false true x12_13 (.int .i64 0) w6 fun x13_14 =>
      K x13_14 w6)
      (fda P 57 x1_1 0 w6 fun x14_15 =>
      fda P 55 x14_15 1 w6 fun x15_16 =>
      ld P 53 x15_16 w6 fun x16_17 =>
      ixa P 53 x16_17 (.int .i64 0) w6 fun x17_18 =>
      ld P 2 x17_18 w6 fun x18_19 =>
      bin P .rem 2 false true x18_19 (.int .i64 2) w6 fun x19_20 =>
      bin P .eql 2 false true x19_20 (.int .i64 1) w6 fun x20_21 =>
      ∃ J22 : Value → World → Prop, (∀ (x24_23 : Value) (junk25 : Env) (w24 : World), J22 x24_23 w24 →
        pick x20_21 x24_23 (.bool false) fun x25_26 =>
        ∃ J27 : Value → World → Prop, (∀ (x29_28 : Value) (junk30 : Env) (w29 : World), J27 x29_28 w29 →
        pick x25_26 x29_28 (.bool false) fun x30_31 =>
          K x30_31 w29) ∧
        grd x25_26 true
          (fda P 57 x1_1 1 w24 fun x27_32 =>
            ld P 2 x27_32 w24 fun x28_33 =>
            bin P .leq 2 false true x28_33 (.int .i64 3000) w24 fun x29_34 =>
            J27 x29_34 w24)
          (J27 undef w24)) ∧
        grd x20_21 true
          (fda P 57 x1_1 1 w6 fun x22_35 =>
          ld P 2 x22_35 w6 fun x23_36 =>
          bin P .geq 2 false true x23_36 (.int .i64 (-3000)) w6 fun x24_37 =>
          J22 x24_37 w6)
          (J22 undef w6)))
def P_impl_IsDyadic : Plan := (.seq (.reg [.op (0, 2, false), .op (1, 0, false)]) (.seq (.seq (.reg [.op (0, 0, false), .op (1, 0, false), .op (2, 2, false), .op (3, 0, false)]) (.cond (.seq (.reg [.op (0, 0, false)]) .leaf) .leaf)) (.seq (.seq (.reg [.op (0, 0, false), .op (1, 0, false), .op (2, 0, false), .op (3, 0, false)]) (.cond (.seq (.reg [.op (0, 0, false), .op (1, 0, false), .op (2, 0, false), .op (3, 0, false)]) .leaf) .leaf)) (.seq (.reg [.op (0, 0, false), .op (1, 0, false), .op (2, 0, false), .op (3, 0, false), .op (4, 0, false), .op (5, 0, false), .op (6, 0, false), .op (7, 0, false), .grp 7 true [(8, 0, false), (9, 0, false), (10, 0, false)] [24] 29360128, .op (11, 0, false), .op (12, 0, false), .grp 12 true [(13, 0, false), (14, 0, false), (15, 0, false)] [29] 939524096, .op (16, 0, false), .op (17, 0, false)]) .leaf))))
theorem I_impl_IsDyadic {a0 : Value} {w : World} {K : Value → World → Prop} (h : D_impl_IsDyadic a0 w K) : call P f_impl_IsDyadic [a0] w K :=
  call_of_vc mixed Tryz.func226 (c := codeOf Tryz.f226) (by kernel_rfl) (by kernel_rfl) (p := P_impl_IsDyadic) (by kernel_rfl) (by rw [Tryz.ntmps226]; simp) (by
    have e : D_impl_IsDyadic a0 w K = vc P P_impl_IsDyadic (codeOf Tryz.f226) (env0 [a0]) w (retX P Tryz.f226.results.toList K) := by kernel_rfl
    exact e ▸ h)

/-- impl.isMode -/
def D_impl_isMode (a0 : Value) (w : World) (K : Value → World → Prop) : Prop :=
  bin P .geq 2 false true a0 (.int .i64 0) w fun x4_1 =>
  ∃ J2 : Value → World → Prop, (∀ (x7_3 : Value) (junk5 : Env) (w4 : World), J2 x7_3 w4 →
    pick x4_1 x7_3 (.bool false) fun x8_6 =>
    K x8_6 w4) ∧
    grd x4_1 true
      (bin P .leq 2 false true a0 (.int .i64 4) w fun x7_7 =>
      J2 x7_7 w)
      (J2 undef w)
def P_impl_isMode : Plan := (.seq (.reg [.op (0, 0, false)]) (.seq (.reg [.op (0, 0, false), .op (1, 0, false), .op (2, 0, false), .grp 2 true [(3, 0, false), (4, 0, false)] [7] 192, .op (5, 0, false), .op (6, 0, false)]) .leaf))
theorem I_impl_isMode {a0 : Value} {w : World} {K : Value → World → Prop} (h : D_impl_isMode a0 w K) : call P f_impl_isMode [a0] w K :=
  call_of_vc mixed Tryz.func227 (c := codeOf Tryz.f227) (by kernel_rfl) (by kernel_rfl) (p := P_impl_isMode) (by kernel_rfl) (by rw [Tryz.ntmps227]; simp) (by
    have e : D_impl_isMode a0 w K = vc P P_impl_isMode (codeOf Tryz.f227) (env0 [a0]) w (retX P Tryz.f227.results.toList K) := by kernel_rfl
    exact e ▸ h)

/-- impl.numberOf -/
def D_impl_numberOf (a0 : Value) (w : World) (K : Value → World → Prop) : Prop :=
  bx P 57 a0 w fun x1_1 w2 =>
  alc P 105 w2 fun x2_3 w4 =>
  fda P 57 x1_1 0 w4 fun x3_5 =>
  ld P 55 x3_5 w4 fun x4_6 =>
  fda P 57 x1_1 1 w4 fun x6_7 =>
  ld P 2 x6_7 w4 fun x7_8 =>
  call P f_impl_toBig [x4_6] w4 fun x5_9 w10 =>
  Ext w4 w10 ∧ bld P 105 [(0, x5_9), (1, x7_8)] w10 fun x8_11 =>
  sto P 105 x2_3 x8_11 w10 fun w13 =>
  ldc P 105 x2_3 w13 fun r14 =>
  K r14 w13
def P_impl_numberOf : Plan := (.seq (.reg [.op (0, 2, false), .op (1, 2, false)]) (.seq (.reg [.op (0, 0, false), .op (1, 0, false), .op (3, 0, false), .op (4, 0, false), .op (2, 2, true), .op (5, 0, false), .op (6, 2, false)]) .leaf))
theorem I_impl_numberOf {a0 : Value} {w : World} {K : Value → World → Prop} (h : D_impl_numberOf a0 w K) : call P f_impl_numberOf [a0] w K :=
  call_of_vc mixed Tryz.func228 (c := codeOf Tryz.f228) (by kernel_rfl) (by kernel_rfl) (p := P_impl_numberOf) (by kernel_rfl) (by rw [Tryz.ntmps228]; simp) (by
    have e : D_impl_numberOf a0 w K = vc P P_impl_numberOf (codeOf Tryz.f228) (env0 [a0]) w (retX P Tryz.f228.results.toList K) := by kernel_rfl
    exact e ▸ h)

/-- (impl.num).round -/
def D_impl_num_round (a0 a1 : Value) (w : World) (K : Value → World → Prop) : Prop :=
  bx P 105 a0 w fun x2_1 w2 =>
  bx P 2 a1 w2 fun x3_3 w4 =>
  ld P 105 x2_1 w4 fun x18_5 =>
  call P f_impl_num_sign [x18_5] w4 fun x19_6 w7 =>
  bin P .eql 3 false true x19_6 (.int .i64 0) w7 fun x20_8 =>
  cnd x20_8
    (K (.tuple #[(.float .f32 0), (.int .i64 0)]) w7)
    (∃ J9 : Value → Value → World → Prop, (∀ (x6_12 : Value) (x7_13 : Value) (junk10 : Env) (w11 : World), J9 x6_12 x7_13 w11 →
      fda P 105 x2_1 1 w11 fun x28_14 =>
      ld P 3 x28_14 w11 fun x29_15 =>
      bin P .add 3 false false x7_13 x29_15 w11 fun x30_16 =>
      bin P .gtr 3 false true x30_16 (.int .i64 128) w11 fun x31_17 =>
      cnd x31_17
        (callv P (.func (.func 262) #[] #[x3_3, x6_12]) [] w11 fun x33_18 w19 =>
        xtr P x33_18 0 w19 fun x34_20 =>
        xtr P x33_18 1 w19 fun x35_21 =>
        K (.tuple #[x34_20, x35_21]) w19)
        (fda P 105 x2_1 1 w11 fun x37_22 =>
        ld P 3 x37_22 w11 fun x38_23 =>
        bin P .add 3 false false x7_13 x38_23 w11 fun x39_24 =>
        bin P .sub 3 false true x39_24 (.int .i64 24) w11 fun x40_25 =>
        bl0 P .max #[3, 3] 3 [x40_25, (.int .i64 (-149))] w11 fun x41_26 =>
        alc P 158 w11 fun x42_27 w28 =>
        fda P 105 x2_1 0 w28 fun x43_29 =>
        ld P 103 x43_29 w28 fun x44_30 =>
        call P f_impl_integer_Abs [x42_27, x44_30] w28 fun x45_31 w32 =>
        alc P 158 w32 fun x46_33 w34 =>
        ∃ J35 : Value → World → Prop, (∀ (x11_38 : Value) (junk36 : Env) (w37 : World), J35 x11_38 w37 →
          call P f_impl_integer_BitLen [x46_33] w37 fun x122_39 w40 =>
          bin P .add 3 false false x122_39 x41_26 w40 fun x124_41 =>
          bin P .gtr 3 false true x124_41 (.int .i64 128) w40 fun x125_42 =>
          cnd x125_42
            (callv P (.func (.func 262) #[] #[x3_3, x6_12]) [] w40 fun x127_43 w44 =>
            xtr P x127_43 0 w44 fun x128_45 =>
            xtr P x127_43 1 w44 fun x129_46 =>
            K (.tuple #[x128_45, x129_46]) w44)
            (call P f_impl_integer_Int64 [x46_33] w40 fun x131_47 w48 =>
            cnv P 2 117 x131_47 w48 fun x132_49 =>
            call P f_math_Ldexp [x132_49, x41_26] w48 fun x134_50 w51 =>
            rcnv P 117 66 x134_50 w51 fun x135_52 =>
            ld P 3 x6_12 w51 fun x136_53 =>
            bin P .lss 3 false true x136_53 (.int .i64 0) w51 fun x137_54 =>
            cnd x137_54
              (una P .neg x135_52 w51 fun x139_55 =>
              K (.tuple #[x139_55, x11_38]) w51)
              (K (.tuple #[x135_52, x11_38]) w51))) ∧
          (fda P 105 x2_1 1 w34 fun x47_56 =>
          ld P 3 x47_56 w34 fun x48_57 =>
          bin P .geq 3 false false x48_57 x41_26 w34 fun x50_58 =>
          cnd x50_58
            (fda P 105 x2_1 1 w34 fun x53_59 =>
            ld P 3 x53_59 w34 fun x54_60 =>
            bin P .sub 3 false false x54_60 x41_26 w34 fun x56_61 =>
            cnv P 3 154 x56_61 w34 fun x57_62 =>
            call P f_impl_integer_Lsh [x46_33, x45_31, x57_62] w34 fun x58_63 w64 =>
            J35 (.int .i64 0) w64)
            (fda P 105 x2_1 1 w34 fun x60_65 =>
            ld P 3 x60_65 w34 fun x61_66 =>
            bin P .sub 3 false false x41_26 x61_66 w34 fun x62_67 =>
            cnv P 3 154 x62_67 w34 fun x63_68 =>
            call P f_impl_integer_Rsh [x46_33, x45_31, x63_68] w34 fun x67_69 w70 =>
            alc P 158 w70 fun x68_71 w72 =>
            alc P 158 w72 fun x70_73 w74 =>
            call P f_impl_integer_Lsh [x70_73, x46_33, x63_68] w74 fun x73_75 w76 =>
            call P f_impl_integer_Sub [x68_71, x45_31, x73_75] w76 fun x74_77 w78 =>
            call P f_impl_integer_Sign [x74_77] w78 fun x76_79 w80 =>
            bin P .neq 3 false true x76_79 (.int .i64 0) w80 fun x77_81 =>
            cnd x77_81
              (∃ J82 : Value → World → Prop, (∀ (x11_85 : Value) (junk83 : Env) (w84 : World), J82 x11_85 w84 →
                alc P 158 w84 fun x86_86 w87 =>
                call P f_impl_newInt [(.int .i64 1)] w87 fun x87_88 w89 =>
                bin P .sub 154 false true x63_68 (.int .u64 1) w89 fun x89_90 =>
                call P f_impl_integer_Lsh [x86_86, x87_88, x89_90] w89 fun x90_91 w92 =>
                call P f_impl_integer_Cmp [x74_77, x90_91] w92 fun x91_93 w94 =>
                ∃ J95 : Value → World → Prop, (∀ (x16_98 : Value) (junk96 : Env) (w97 : World), J95 x16_98 w97 →
                  cnd x16_98
                    (call P f_impl_newInt [(.int .i64 1)] w97 fun x119_99 w100 =>
                    call P f_impl_integer_Add [x46_33, x46_33, x119_99] w100 fun x120_101 w102 =>
                    J35 x11_85 w102)
                    (J35 x11_85 w97)) ∧
                  (ld P 2 x3_3 w94 fun x92_103 =>
                  bin P .eql 2 false true x92_103 (.int .i64 0) w94 fun x94_104 =>
                  cnd x94_104
                    (bin P .gtr 3 false true x91_93 (.int .i64 0) w94 fun x96_105 =>
                    ∃ J106 : Value → World → Prop, (∀ (x100_107 : Value) (junk109 : Env) (w108 : World), J106 x100_107 w108 →
                      ∃ J110 : Value → World → Prop, (∀ (x103_111 : Value) (junk113 : Env) (w112 : World), J110 x103_111 w112 →
                      ∃ J114 : Value → World → Prop, (∀ (x104_115 : Value) (junk117 : Env) (w116 : World), J114 x104_115 w116 →
                      pick x96_105 (.bool true) x104_115 fun x105_118 =>
                          J95 x105_118 w116) ∧
                      grd x96_105 false
                        (pick x100_107 x103_111 (.bool false) fun x104_119 =>
                            J114 x104_119 w112)
                        (J114 undef w112)) ∧
                      grd x100_107 true
                        (call P f_impl_integer_Bit [x46_33, (.int .i64 0)] w108 fun x102_120 w121 =>
                          bin P .eql 154 false true x102_120 (.int .u64 1) w121 fun x103_122 =>
                          J110 x103_122 w121)
                        (J110 undef w108)) ∧
                      grd x96_105 false
                        (bin P .eql 3 false true x91_93 (.int .i64 0) w94 fun x99_123 =>
                        J106 x99_123 w94)
                        (J106 undef w94))
                    (bin P .eql 2 false true x92_103 (.int .i64 1) w94 fun x107_124 =>
                    cnd x107_124
                      (ld P 3 x6_12 w94 fun x108_125 =>
                      bin P .lss 3 false true x108_125 (.int .i64 0) w94 fun x109_126 =>
                      J95 x109_126 w94)
                      (bin P .eql 2 false true x92_103 (.int .i64 2) w94 fun x111_127 =>
                      cnd x111_127
                        (ld P 3 x6_12 w94 fun x112_128 =>
                        bin P .gtr 3 false true x112_128 (.int .i64 0) w94 fun x113_129 =>
                        J95 x113_129 w94)
                        (bin P .eql 2 false true x92_103 (.int .i64 4) w94 fun x115_130 =>
                        cnd x115_130
                          (J95 (.bool true) w94)
                          (J95 (.bool false) w94)))))) ∧
                (fda P 105 x2_1 1 w80 fun x79_131 =>
                ld P 3 x79_131 w80 fun x80_132 =>
                bin P .add 3 false false x7_13 x80_132 w80 fun x81_133 =>
                bin P .leq 3 false true x81_133 (.int .i64 (-126)) w80 fun x82_134 =>
                cnd x82_134
                  (bin P .or 2 false true (.int .i64 1) (.int .i64 2) w80 fun x84_135 =>
                  J82 x84_135 w80)
                  (J82 (.int .i64 1) w80)))
              (J35 (.int .i64 0) w80))))) ∧
      (ld P 105 x2_1 w7 fun x21_136 =>
      fda P 105 x2_1 0 w7 fun x23_137 =>
      ld P 103 x23_137 w7 fun x24_138 =>
      (call P f_impl_num_sign [x21_136] w7 fun x22_139 w140 =>
        Ext w7 w140 ∧ (call P f_impl_integer_BitLen [x24_138] w140 fun x25_141 w142 =>
          alc P 3 w142 fun x6_143 w144 =>
          Ext w142 w144 ∧ sto P 3 x6_143 x22_139 w144 fun w146 =>
          J9 x6_143 x25_141 w146) ∧
          (alc P 3 w140 fun x6_147 w148 =>
          Ext w140 w148 ∧ call P f_impl_integer_BitLen [x24_138] w148 fun x25_149 w150 =>
          sto P 3 x6_147 x22_139 w150 fun w152 =>
          J9 x6_147 x25_149 w152)) ∧
        (alc P 3 w7 fun x6_153 w154 =>
        Ext w7 w154 ∧ call P f_impl_num_sign [x21_136] w154 fun x22_155 w156 =>
        Ext w154 w156 ∧ call P f_impl_integer_BitLen [x24_138] w156 fun x25_157 w158 =>
        sto P 3 x6_153 x22_155 w158 fun w160 =>
        J9 x6_153 x25_157 w160)))
def P_impl_num_round : Plan := (.seq (.reg [.op (0, 2, false), .op (1, 2, false), .op (2, 0, false), .op (3, 0, false)]) (.seq (.seq (.reg [.op (0, 0, false), .op (1, 2, false), .op (2, 0, false)]) (.cond (.seq (.reg [.op (0, 0, false), .op (1, 0, false)]) .leaf) .leaf)) (.seq (.tree [6, 7] 65011904 (.op (0, 0, false) (.op (2, 0, false) (.op (3, 0, false) (.fork (1, 2, true) (.fork (4, 2, false) (.fork (5, 2, true) (.fork (6, 2, false) (.op (7, 0, false) .done) .stop) .stop) (.fork (5, 2, true) (.fork (4, 2, false) (.fork (6, 2, false) (.op (7, 0, false) .done) .stop) .stop) .stop)) (.fork (5, 2, true) (.fork (1, 2, true) (.fork (4, 2, false) (.fork (6, 2, false) (.op (7, 0, false) .done) .stop) .stop) .stop) .stop)))))) (.seq (.reg [.op (0, 0, false), .op (1, 0, false)]) (.seq (.seq (.reg [.op (0, 0, false), .op (1, 0, false), .op (2, 0, false), .op (3, 0, false), .op (4, 0, false)]) (.cond (.seq (.reg [.op (0, 0, false), .op (1, 2, false), .op (2, 0, false), .op (3, 0, false), .op (4, 0, false), .op (5, 0, false)]) .leaf) .leaf)) (.seq (.reg [.op (0, 0, false), .op (1, 0, false), .op (2, 0, false), .op (3, 0, false), .op (4, 0, false), .op (5, 0, false), .op (6, 0, false)]) (.seq (.reg [.op (0, 2, false), .op (1, 0, false), .op (2, 0, false), .op (3, 2, false), .op (4, 0, false)]) (.seq (.reg [.op (0, 0, false)]) (.seq (.reg [.op (0, 2, false), .op (1, 0, false)]) (.cut [11] 2658455991569831745807473383072458752 (.seq (.reg [.op (0, 0, false), .op (1, 0, false), .op (2, 0, false), .op (3, 0, false)]) (.cond (.reg [.op (0, 0, false), .op (1, 0, false), .op (2, 0, false), .op (3, 0, false), .op (4, 0, false), .op (5, 0, false), .op (6, 0, false), .op (7, 2, false)]) (.seq (.reg [.op (0, 0, false), .op (1, 0, false), .op (2, 0, false), .op (3, 0, false), .op (4, 0, false), .op (5, 0, false)]) (.seq (.reg [.op (0, 0, false), .op (1, 0, false), .op (2, 0, false), .op (3, 2, false)]) (.seq (.reg [.op (0, 2, false), .op (1, 0, false), .op (2, 2, false), .op (3, 0, false), .op (4, 0, false), .op (5, 2, false), .op (6, 2, false), .op (7, 0, false)]) (.seq (.reg [.op (0, 0, false), .op (1, 2, false), .op (2, 0, false)]) (.cond (.seq (.reg [.op (0, 0, false)]) (.cut [11] 38383394772764476296923136 (.seq (.reg [.op (0, 0, false), .op (1, 0, false), .op (2, 0, false), .op (3, 0, false), .op (4, 0, false)]) (.cond (.reg [.op (0, 0, false), .op (1, 0, false), .op (2, 0, false)]) .leaf)) (.seq (.reg [.op (0, 0, false), .op (1, 2, false), .op (2, 2, false), .op (3, 0, false), .op (4, 0, false), .op (5, 2, false), .op (6, 2, false), .op (7, 0, false)]) (.seq (.reg [.op (0, 0, false)]) (.cut [16] 83076744784797084914966841671090176 (.seq (.reg [.op (0, 0, false)]) (.blk (.seq (.reg [.op (0, 0, false), .op (1, 0, false)]) (.cond (.reg [.op (0, 0, false), .op (1, 0, false), .op (2, 0, false), .grp 2 false [(3, 0, false), (4, 0, false), (5, 0, false)] [100] 2218388550399401452619230609408, .grp 5 true [(6, 0, false), (7, 2, false), (8, 0, false)] [103] 17747108403195211620953844875264, .grp 2 false [(9, 0, false)] [104] 20282409603651670423947251286016, .op (10, 0, false), .op (11, 0, false)]) (.seq (.reg [.op (0, 0, false), .op (1, 0, false)]) (.cond (.reg [.op (0, 0, false), .op (1, 0, false), .op (2, 0, false)]) (.seq (.reg [.op (0, 0, false), .op (1, 0, false)]) (.cond (.reg [.op (0, 0, false), .op (1, 0, false), .op (2, 0, false)]) (.seq (.reg [.op (0, 0, false), .op (1, 0, false)]) (.cond (.reg [.op (0, 0, false)]) .leaf)))))))))) (.seq (.reg [.op (0, 0, false)]) (.cond (.reg [.op (0, 0, false), .op (1, 0, false), .op (2, 2, false), .op (3, 2, false)]) .leaf))))))) .leaf))))))) (.seq (.seq (.reg [.op (0, 0, false), .op (1, 2, false), .op (2, 0, false), .op (3, 0, false), .op (4, 0, false)]) (.cond (.seq (.reg [.op (0, 0, false), .op (1, 2, false), .op (2, 0, false), .op (3, 0, false), .op (4, 0, false), .op (5, 0, false)]) .leaf) .leaf)) (.seq (.reg [.op (0, 0, false), .op (1, 2, false), .op (2, 0, false), .op (3, 0, false), .op (4, 2, false), .op (5, 1, false), .op (6, 0, false)]) (.seq (.seq (.reg [.op (0, 0, false), .op (1, 0, false)]) (.cond (.reg [.op (0, 0, false), .op (1, 0, false), .op (2, 0, false)]) .leaf)) (.seq (.reg [.op (0, 0, false), .op (1, 0, false), .op (2, 0, false), .op (3, 0, false)]) .leaf))))))))))))))
theorem I_impl_num_round {a0 a1 : Value} {w : World} {K : Value → World → Prop} (h : D_impl_num_round a0 a1 w K) : call P f_impl_num_round [a0, a1] w K :=
  call_of_vc mixed Tryz.func229 (c := codeOf Tryz.f229) (by kernel_rfl) (by kernel_rfl) (p := P_impl_num_round) (by kernel_rfl) (by rw [Tryz.ntmps229]; simp) (by
    have e : D_impl_num_round a0 a1 w K = vc P P_impl_num_round (codeOf Tryz.f229) (env0 [a0, a1]) w (retX P Tryz.f229.results.toList K) := by kernel_rfl
    exact e ▸ h)

/-- (impl.num).round$1 -/
def D_impl_num_round_1 (a0 a1 : Value) (w : World) (K : Value → World → Prop) : Prop :=
  ld P 2 a0 w fun x4_1 =>
  bin P .eql 2 false true x4_1 (.int .i64 3) w fun x5_2 =>
  ∃ J3 : Value → World → Prop, (∀ (x9_4 : Value) (junk6 : Env) (w5 : World), J3 x9_4 w5 →
    ∃ J7 : Value → World → Prop, (∀ (x11_8 : Value) (junk10 : Env) (w9 : World), J7 x11_8 w9 →
    ∃ J11 : Value → World → Prop, (∀ (x12_12 : Value) (junk14 : Env) (w13 : World), J11 x12_12 w13 →
    pick x5_2 (.bool true) x12_12 fun x13_15 =>
        ∃ J16 : Value → World → Prop, (∀ (x17_17 : Value) (junk19 : Env) (w18 : World), J16 x17_17 w18 →
    ∃ J20 : Value → World → Prop, (∀ (x19_21 : Value) (junk23 : Env) (w22 : World), J20 x19_21 w22 →
    ∃ J24 : Value → World → Prop, (∀ (x20_25 : Value) (junk27 : Env) (w26 : World), J24 x20_25 w26 →
    pick x13_15 (.bool true) x20_25 fun x21_28 =>
              cnd x21_28
                (ld P 3 a1 w26 fun x22_29 =>
                bin P .mul 2 false true x22_29 (.int .i64 2139095039) w26 fun x23_30 =>
                call P f_impl_atPlace [x23_30] w26 fun x24_31 w32 =>
                K (.tuple #[x24_31, (.int .i64 5)]) w32)
                (ld P 3 a1 w26 fun x25_33 =>
                call P f_impl_infinite [x25_33] w26 fun x26_34 w35 =>
                K (.tuple #[x26_34, (.int .i64 5)]) w35)) ∧
    grd x13_15 false
      (pick x17_17 x19_21 (.bool false) fun x20_36 =>
                J24 x20_36 w22)
      (J24 undef w22)) ∧
    grd x17_17 true
      (ld P 3 a1 w18 fun x18_37 =>
              bin P .lss 3 false true x18_37 (.int .i64 0) w18 fun x19_38 =>
              J20 x19_38 w18)
      (J20 undef w18)) ∧
    grd x13_15 false
      (ld P 2 a0 w13 fun x15_39 =>
            bin P .eql 2 false true x15_39 (.int .i64 2) w13 fun x16_40 =>
            J16 x16_40 w13)
      (J16 undef w13)) ∧
    grd x5_2 false
      (pick x9_4 x11_8 (.bool false) fun x12_41 =>
          J11 x12_41 w9)
      (J11 undef w9)) ∧
    grd x9_4 true
      (ld P 3 a1 w5 fun x10_42 =>
        bin P .gtr 3 false true x10_42 (.int .i64 0) w5 fun x11_43 =>
        J7 x11_43 w5)
      (J7 undef w5)) ∧
    grd x5_2 false
      (ld P 2 a0 w fun x7_44 =>
      bin P .eql 2 false true x7_44 (.int .i64 1) w fun x8_45 =>
      J3 x8_45 w)
      (J3 undef w)
def P_impl_num_round_1 : Plan := (.seq (.reg [.op (0, 0, false), .op (1, 0, false)]) (.seq (.seq (.reg [.op (0, 0, false), .op (1, 0, false), .op (2, 0, false), .grp 2 false [(3, 0, false), (4, 0, false), (5, 0, false)] [9] 896, .grp 5 true [(6, 0, false), (7, 0, false)] [11] 3072, .grp 2 false [(8, 0, false)] [12] 4096, .op (9, 0, false), .op (10, 0, false), .grp 10 false [(11, 0, false), (12, 0, false), (13, 0, false)] [17] 229376, .grp 13 true [(14, 0, false), (15, 0, false)] [19] 786432, .grp 10 false [(16, 0, false)] [20] 1048576, .op (17, 0, false)]) (.cond (.seq (.reg [.op (0, 0, false), .op (1, 0, false), .op (2, 2, false), .op (3, 0, false), .op (4, 0, false)]) .leaf) .leaf)) (.seq (.reg [.op (0, 0, false), .op (1, 2, false), .op (2, 0, false), .op (3, 0, false)]) .leaf)))
theorem I_impl_num_round_1 {a0 a1 : Value} {w : World} {K : Value → World → Prop} (h : D_impl_num_round_1 a0 a1 w K) : call P f_impl_num_round_1 [a0, a1] w K :=
  call_of_vc mixed Tryz.func262 (c := codeOf Tryz.f262) (by kernel_rfl) (by kernel_rfl) (p := P_impl_num_round_1) (by kernel_rfl) (by rw [Tryz.ntmps262]; simp) (by
    have e : D_impl_num_round_1 a0 a1 w K = vc P P_impl_num_round_1 (codeOf Tryz.f262) (env0 [a0, a1]) w (retX P Tryz.f262.results.toList K) := by kernel_rfl
    exact e ▸ h)

end Go.Proofs.YtjompmflommadaaGreatDoor

/- Written by a program (gen.py): what is left to show of each function's call. -/
set_option linter.unusedVariables false
set_option maxRecDepth 20000
namespace Go.Proofs.YtjompmflommadaaGreatDoor
open Go Go.Vc

/-- spec.l02Of -/
def D_spec_l02Of (a0 : Value) (w : World) (K : Value → World → Prop) : Prop :=
  alc P 55 w fun x2_1 w2 =>
  bsl P 53 0 [] w2 fun x6_3 w4 =>
  ∃ J5 : Value → World → Prop, (∀ (x3_8 : Value) (junk6 : Env) (w7 : World), J5 x3_8 w7 →
    ∃ I9 : Nat → Value → Value → World → Prop, (∃ m34, I9 m34 a0 x6_3 w7) ∧ ∀ (m12 : Nat) (x0_13 : Value) (x4_14 : Value) (junk10 : Env) (w11 : World), I9 m12 x0_13 x4_14 w11 →
      bin P .neq 2 false true x0_13 (.int .i64 0) w11 fun x10_15 =>
      cnd x10_15
        (bin P .rem 2 false true x0_13 (.int .i64 16777216) w11 fun x12_16 =>
        ∃ J17 : Value → World → Prop, (∀ (x5_20 : Value) (junk18 : Env) (w19 : World), J17 x5_20 w19 →
          bsl P 53 1 [(0, x5_20)] w19 fun x19_21 w22 =>
          bl2 P .append #[53, 53] 53 [x4_14, x19_21] w22 fun x20_23 w24 =>
          bin P .quo 2 false true x0_13 (.int .i64 16777216) w24 fun x22_25 =>
          ∃ m26, m26 < m12 ∧ I9 m26 x22_25 x20_23 w24) ∧
          (bin P .lss 2 false true x12_16 (.int .i64 0) w11 fun x14_27 =>
          cnd x14_27
            (una P .neg x12_16 w11 fun x16_28 =>
            J17 x16_28 w11)
            (J17 x12_16 w11)))
        (call P f_spec_l02Make [x3_8, x4_14] w11 fun x25_29 w30 =>
        sto P 55 x2_1 x25_29 w30 fun w32 =>
        ldc P 55 x2_1 w32 fun r33 =>
        K r33 w32)) ∧
    (bin P .lss 2 false true a0 (.int .i64 0) w4 fun x8_35 =>
    cnd x8_35
      (J5 (.int .i64 (-1)) w4)
      (J5 (.int .i64 1) w4))
def P_spec_l02Of : Plan := (.seq (.reg [.op (0, 2, false)]) (.seq (.reg [.op (0, 2, false), .op (1, 0, false), .op (2, 0, false)]) (.cut [3] 392 (.seq (.reg [.op (0, 0, false), .op (1, 0, false)]) (.cond (.reg [.op (0, 0, false)]) .leaf)) (.seq (.blk (.loop [0, 4] 8388145 (.seq (.seq (.reg [.op (0, 0, false), .op (1, 0, false)]) (.cond .leaf .leaf)) (.blk (.seq (.reg [.op (0, 0, false), .op (1, 0, false), .op (2, 0, false)]) (.cut [5] 122912 (.seq (.reg [.op (0, 0, false), .op (1, 0, false)]) (.cond (.reg [.op (0, 0, false), .op (1, 0, false), .op (2, 0, false)]) .leaf)) (.seq (.reg [.op (0, 0, false), .op (1, 0, false), .op (2, 2, false), .op (3, 2, false), .op (4, 0, false)]) (.reg [.op (0, 0, false), .op (1, 0, false), .op (2, 0, false)])))))))) (.seq (.reg [.op (0, 0, false), .op (1, 0, false), .op (2, 2, false), .op (3, 2, false)]) .leaf)))))
theorem I_spec_l02Of {a0 : Value} {w : World} {K : Value → World → Prop} (h : D_spec_l02Of a0 w K) : call P f_spec_l02Of [a0] w K :=
  call_of_vc mixed Tryz.func164 (c := codeOf Tryz.f164) (by kernel_rfl) (by kernel_rfl) (p := P_spec_l02Of) (by kernel_rfl) (by rw [Tryz.ntmps164]; simp) (by
    have e : D_spec_l02Of a0 w K = vc P P_spec_l02Of (codeOf Tryz.f164) (env0 [a0]) w (retX P Tryz.f164.results.toList K) := by kernel_rfl
    exact e ▸ h)

/-- spec.l02Abs -/
def D_spec_l02Abs (a0 : Value) (w : World) (K : Value → World → Prop) : Prop :=
  bx P 55 a0 w fun x1_1 w2 =>
  alc P 55 w2 fun x2_3 w4 =>
  fda P 55 x1_1 0 w4 fun x3_5 =>
  ld P 2 x3_5 w4 fun x4_6 =>
  fda P 55 x1_1 0 w4 fun x5_7 =>
  ld P 2 x5_7 w4 fun x6_8 =>
  bin P .mul 2 false false x4_6 x6_8 w4 fun x7_9 =>
  fda P 55 x1_1 1 w4 fun x8_10 =>
  ld P 53 x8_10 w4 fun x9_11 =>
  call P f_spec_l02Make [x7_9, x9_11] w4 fun x10_12 w13 =>
  sto P 55 x2_3 x10_12 w13 fun w15 =>
  ldc P 55 x2_3 w15 fun r16 =>
  K r16 w15
def P_spec_l02Abs : Plan := (.seq (.reg [.op (0, 2, false), .op (1, 2, false)]) (.seq (.reg [.op (0, 0, false), .op (1, 0, false), .op (2, 0, false), .op (3, 0, false), .op (4, 0, false), .op (5, 0, false), .op (6, 0, false), .op (7, 2, false), .op (8, 2, false)]) .leaf))
theorem I_spec_l02Abs {a0 : Value} {w : World} {K : Value → World → Prop} (h : D_spec_l02Abs a0 w K) : call P f_spec_l02Abs [a0] w K :=
  call_of_vc mixed Tryz.func167 (c := codeOf Tryz.f167) (by kernel_rfl) (by kernel_rfl) (p := P_spec_l02Abs) (by kernel_rfl) (by rw [Tryz.ntmps167]; simp) (by
    have e : D_spec_l02Abs a0 w K = vc P P_spec_l02Abs (codeOf Tryz.f167) (env0 [a0]) w (retX P Tryz.f167.results.toList K) := by kernel_rfl
    exact e ▸ h)

/-- spec.l02Is -/
def D_spec_l02Is (a0 : Value) (w : World) (K : Value → World → Prop) : Prop :=
  bx P 55 a0 w fun x1_1 w2 =>
  fda P 55 x1_1 1 w2 fun x5_3 =>
  ld P 53 x5_3 w2 fun x6_4 =>
  bl0 P .len #[53] 3 [x6_4] w2 fun x7_5 =>
  ∃ I6 : Nat → Value → World → Prop, (∃ m57, I6 m57 (.int .i64 0) w2) ∧ ∀ (m9 : Nat) (x4_10 : Value) (junk7 : Env) (w8 : World), I6 m9 x4_10 w8 →
    bin P .lss 3 false false x4_10 x7_5 w8 fun x10_11 =>
    cnd x10_11
      (fda P 55 x1_1 1 w8 fun x13_12 =>
      ld P 53 x13_12 w8 fun x14_13 =>
      ixa P 53 x14_13 x4_10 w8 fun x16_14 =>
      ld P 2 x16_14 w8 fun x17_15 =>
      call P f_spec_l01In [x17_15, (.int .i64 0), (.int .i64 16777215)] w8 fun x18_16 w17 =>
      una P .not x18_16 w17 fun x19_18 =>
      cnd x19_18
        (K (.bool false) w17)
        (bin P .add 3 false true x4_10 (.int .i64 1) w17 fun x12_19 =>
        ∃ m20, m20 < m9 ∧ I6 m20 x12_19 w17))
      (bin P .eql 3 false true x7_5 (.int .i64 0) w8 fun x21_21 =>
      cnd x21_21
        (fda P 55 x1_1 0 w8 fun x22_22 =>
        ld P 2 x22_22 w8 fun x23_23 =>
        bin P .eql 2 false true x23_23 (.int .i64 0) w8 fun x24_24 =>
        K x24_24 w8)
        (bin P .leq 3 false true x7_5 (.int .i64 100) w8 fun x26_25 =>
        ∃ J26 : Value → World → Prop, (∀ (x34_27 : Value) (junk29 : Env) (w28 : World), J26 x34_27 w28 →
          pick x26_25 x34_27 (.bool false) fun x35_30 =>
          ∃ J31 : Value → World → Prop, (∀ (x40_32 : Value) (junk34 : Env) (w33 : World), J31 x40_32 w33 →
          ∃ J35 : Value → World → Prop, (∀ (x43_36 : Value) (junk38 : Env) (w37 : World), J35 x43_36 w37 →
          ∃ J39 : Value → World → Prop, (∀ (x44_40 : Value) (junk42 : Env) (w41 : World), J39 x44_40 w41 →
          pick x35_30 x44_40 (.bool false) fun x45_43 =>
                K x45_43 w41) ∧
          grd x35_30 true
            (pick x40_32 (.bool true) x43_36 fun x44_44 =>
                  J39 x44_44 w37)
            (J39 undef w37)) ∧
          grd x40_32 false
            (fda P 55 x1_1 0 w33 fun x41_45 =>
                ld P 2 x41_45 w33 fun x42_46 =>
                bin P .eql 2 false true x42_46 (.int .i64 (-1)) w33 fun x43_47 =>
                J35 x43_47 w33)
            (J35 undef w33)) ∧
          grd x35_30 true
            (fda P 55 x1_1 0 w28 fun x37_48 =>
              ld P 2 x37_48 w28 fun x38_49 =>
              bin P .eql 2 false true x38_49 (.int .i64 1) w28 fun x39_50 =>
              J31 x39_50 w28)
            (J31 undef w28)) ∧
          grd x26_25 true
            (fda P 55 x1_1 1 w8 fun x28_51 =>
            ld P 53 x28_51 w8 fun x29_52 =>
            bin P .sub 3 false true x7_5 (.int .i64 1) w8 fun x31_53 =>
            ixa P 53 x29_52 x31_53 w8 fun x32_54 =>
            ld P 2 x32_54 w8 fun x33_55 =>
            bin P .neq 2 false true x33_55 (.int .i64 0) w8 fun x34_56 =>
            J26 x34_56 w8)
            (J26 undef w8)))
def P_spec_l02Is : Plan := (.seq (.reg [.op (0, 2, false), .op (1, 0, false)]) (.seq (.reg [.op (0, 0, false), .op (1, 0, false), .op (2, 0, false), .op (3, 0, false)]) (.seq (.seq (.reg [.op (0, 0, false)]) (.blk (.loop [4] 1048340 (.seq (.seq (.reg [.op (0, 0, false), .op (1, 0, false), .op (2, 0, false)]) (.cond .leaf .leaf)) (.seq (.blk (.seq (.reg [.op (0, 0, false), .op (1, 0, false), .op (2, 0, false), .op (3, 0, false), .op (4, 0, false), .op (5, 2, false), .op (6, 0, false)]) (.cond (.seq (.reg [.op (0, 0, false)]) .leaf) .leaf))) (.reg [.op (0, 0, false), .op (1, 0, false), .op (2, 0, false)])))))) (.seq (.seq (.reg [.op (0, 0, false), .op (1, 0, false)]) (.cond (.seq (.reg [.op (0, 0, false), .op (1, 0, false), .op (2, 0, false), .op (3, 0, false)]) .leaf) .leaf)) (.seq (.reg [.op (0, 0, false), .op (1, 0, false), .op (2, 0, false), .grp 2 true [(3, 0, false), (4, 0, false), (5, 0, false), (6, 0, false), (7, 0, false), (8, 0, false), (9, 0, false)] [34] 34091302912, .op (10, 0, false), .op (11, 0, false), .grp 11 true [(12, 0, false), (13, 0, false), (14, 0, false), (15, 0, false)] [40] 2061584302080, .grp 15 false [(16, 0, false), (17, 0, false), (18, 0, false)] [43] 15393162788864, .grp 11 true [(19, 0, false)] [44] 17592186044416, .op (20, 0, false), .op (21, 0, false)]) .leaf)))))
theorem I_spec_l02Is {a0 : Value} {w : World} {K : Value → World → Prop} (h : D_spec_l02Is a0 w K) : call P f_spec_l02Is [a0] w K :=
  call_of_vc mixed Tryz.func170 (c := codeOf Tryz.f170) (by kernel_rfl) (by kernel_rfl) (p := P_spec_l02Is) (by kernel_rfl) (by rw [Tryz.ntmps170]; simp) (by
    have e : D_spec_l02Is a0 w K = vc P P_spec_l02Is (codeOf Tryz.f170) (env0 [a0]) w (retX P Tryz.f170.results.toList K) := by kernel_rfl
    exact e ▸ h)

/-- spec.l02Cut -/
def D_spec_l02Cut (a0 a1 : Value) (w : World) (K : Value → World → Prop) : Prop :=
  bx P 55 a0 w fun x2_1 w2 =>
  alc P 55 w2 fun x4_3 w4 =>
  bsl P 53 0 [] w4 fun x8_5 w6 =>
  bin P .quo 2 false true a1 (.int .i64 24) w6 fun x10_7 =>
  ∃ I8 : Nat → Value → Value → World → Prop, (∃ m60, I8 m60 x8_5 x10_7 w6) ∧ ∀ (m11 : Nat) (x5_12 : Value) (x6_13 : Value) (junk9 : Env) (w10 : World), I8 m11 x5_12 x6_13 w10 →
    fda P 55 x2_1 1 w10 fun x12_14 =>
    ld P 53 x12_14 w10 fun x13_15 =>
    bl0 P .len #[53] 3 [x13_15] w10 fun x14_16 =>
    bin P .lss 2 false false x6_13 x14_16 w10 fun x15_17 =>
    cnd x15_17
      (fda P 55 x2_1 1 w10 fun x18_18 =>
      ld P 53 x18_18 w10 fun x19_19 =>
      ixa P 53 x19_19 x6_13 w10 fun x21_20 =>
      ld P 2 x21_20 w10 fun x22_21 =>
      bin P .rem 2 false true a1 (.int .i64 24) w10 fun x24_22 =>
      cnv P 2 178 x24_22 w10 fun x25_23 =>
      bin P .shr 2 false false x22_21 x25_23 w10 fun x26_24 =>
      bin P .add 2 false true x6_13 (.int .i64 1) w10 fun x28_25 =>
      fda P 55 x2_1 1 w10 fun x29_26 =>
      ld P 53 x29_26 w10 fun x30_27 =>
      bl0 P .len #[53] 3 [x30_27] w10 fun x31_28 =>
      bin P .lss 2 false false x28_25 x31_28 w10 fun x32_29 =>
      cnd x32_29
        (fda P 55 x2_1 1 w10 fun x34_30 =>
        ld P 53 x34_30 w10 fun x35_31 =>
        bin P .add 2 false true x6_13 (.int .i64 1) w10 fun x37_32 =>
        ixa P 53 x35_31 x37_32 w10 fun x38_33 =>
        ld P 2 x38_33 w10 fun x39_34 =>
        bin P .rem 2 false true a1 (.int .i64 24) w10 fun x41_35 =>
        bin P .sub 2 true false (.int .i64 24) x41_35 w10 fun x42_36 =>
        cnv P 2 178 x42_36 w10 fun x43_37 =>
        bin P .shl 2 false false x39_34 x43_37 w10 fun x44_38 =>
        bin P .add 2 false false x26_24 x44_38 w10 fun x45_39 =>
        bin P .rem 2 false true x45_39 (.int .i64 16777216) w10 fun x46_40 =>
        bsl P 53 1 [(0, x46_40)] w10 fun x49_41 w42 =>
        bl2 P .append #[53, 53] 53 [x5_12, x49_41] w42 fun x50_43 w44 =>
        bin P .add 2 false true x6_13 (.int .i64 1) w44 fun x17_45 =>
        ∃ m46, m46 < m11 ∧ I8 m46 x50_43 x17_45 w44)
        (bsl P 53 1 [(0, x26_24)] w10 fun x49_47 w48 =>
        bl2 P .append #[53, 53] 53 [x5_12, x49_47] w48 fun x50_49 w50 =>
        bin P .add 2 false true x6_13 (.int .i64 1) w50 fun x17_51 =>
        ∃ m52, m52 < m11 ∧ I8 m52 x50_49 x17_51 w50))
      (fda P 55 x2_1 0 w10 fun x51_53 =>
      ld P 2 x51_53 w10 fun x52_54 =>
      call P f_spec_l02Make [x52_54, x5_12] w10 fun x54_55 w56 =>
      sto P 55 x4_3 x54_55 w56 fun w58 =>
      ldc P 55 x4_3 w58 fun r59 =>
      K r59 w58)
def P_spec_l02Cut : Plan := (.seq (.reg [.op (0, 2, false), .op (1, 2, false)]) (.seq (.reg [.op (0, 2, false), .op (1, 0, false)]) (.seq (.seq (.reg [.op (0, 0, false), .op (1, 0, false), .op (2, 0, false)]) (.blk (.loop [5, 6] 2251799813683424 (.seq (.seq (.reg [.op (0, 0, false), .op (1, 0, false), .op (2, 0, false), .op (3, 0, false), .op (4, 0, false)]) (.cond .leaf .leaf)) (.seq (.blk (.seq (.reg [.op (0, 0, false), .op (1, 0, false), .op (2, 0, false), .op (3, 0, false), .op (4, 0, false), .op (5, 0, false), .op (6, 0, false), .op (7, 0, false), .op (8, 0, false), .op (9, 0, false)]) (.seq (.seq (.reg [.op (0, 0, false), .op (1, 0, false), .op (2, 0, false), .op (3, 0, false), .op (4, 0, false), .op (5, 0, false)]) (.cond (.reg [.op (0, 0, false), .op (1, 0, false), .op (2, 0, false), .op (3, 0, false), .op (4, 0, false), .op (5, 0, false), .op (6, 0, false), .op (7, 0, false), .op (8, 0, false), .op (9, 0, false), .op (10, 0, false), .op (11, 0, false), .op (12, 0, false), .op (13, 0, false), .op (14, 0, false)]) .leaf)) (.reg [.op (0, 0, false), .op (1, 0, false), .op (2, 2, false), .op (3, 2, false), .op (4, 0, false)])))) (.reg [.op (0, 0, false), .op (1, 0, false), .op (2, 0, false)])))))) (.seq (.reg [.op (0, 0, false), .op (1, 0, false), .op (2, 0, false), .op (3, 2, false), .op (4, 2, false)]) .leaf))))
theorem I_spec_l02Cut {a0 a1 : Value} {w : World} {K : Value → World → Prop} (h : D_spec_l02Cut a0 a1 w K) : call P f_spec_l02Cut [a0, a1] w K :=
  call_of_vc mixed Tryz.func172 (c := codeOf Tryz.f172) (by kernel_rfl) (by kernel_rfl) (p := P_spec_l02Cut) (by kernel_rfl) (by rw [Tryz.ntmps172]; simp) (by
    have e : D_spec_l02Cut a0 a1 w K = vc P P_spec_l02Cut (codeOf Tryz.f172) (env0 [a0, a1]) w (retX P Tryz.f172.results.toList K) := by kernel_rfl
    exact e ▸ h)

/-- spec.l02Make -/
def D_spec_l02Make (a0 a1 : Value) (w : World) (K : Value → World → Prop) : Prop :=
  alc P 55 w fun x4_1 w2 =>
  bl0 P .len #[53] 3 [a1] w2 fun x7_3 =>
  ∃ I4 : Nat → Value → World → Prop, (∃ m33, I4 m33 x7_3 w2) ∧ ∀ (m7 : Nat) (x5_8 : Value) (junk5 : Env) (w6 : World), I4 m7 x5_8 w6 →
    bin P .gtr 3 false true x5_8 (.int .i64 0) w6 fun x9_9 =>
    ∃ J10 : Value → World → Prop, (∀ (x16_11 : Value) (junk13 : Env) (w12 : World), J10 x16_11 w12 →
      pick x9_9 x16_11 (.bool false) fun x17_14 =>
      cnd x17_14
        (bin P .sub 3 false true x5_8 (.int .i64 1) w12 fun x19_15 =>
        ∃ m16, m16 < m7 ∧ I4 m16 x19_15 w12)
        (bin P .eql 3 false true x5_8 (.int .i64 0) w12 fun x21_17 =>
        cnd x21_17
          (bld P 55 [] w12 fun x22_18 =>
          sto P 55 x4_1 x22_18 w12 fun w20 =>
          ldc P 55 x4_1 w20 fun r21 =>
          K r21 w20)
          (sli P 53 a1 none (some x5_8) none w12 fun x26_22 =>
          call P f_spec_l01Own [x26_22] w12 fun x27_23 w24 =>
          bld P 55 [(0, a0), (1, x27_23)] w24 fun x28_25 =>
          sto P 55 x4_1 x28_25 w24 fun w27 =>
          ldc P 55 x4_1 w27 fun r28 =>
          K r28 w27))) ∧
      grd x9_9 true
        (bin P .sub 3 false true x5_8 (.int .i64 1) w6 fun x13_29 =>
        ixa P 53 a1 x13_29 w6 fun x14_30 =>
        ld P 2 x14_30 w6 fun x15_31 =>
        bin P .eql 2 false true x15_31 (.int .i64 0) w6 fun x16_32 =>
        J10 x16_32 w6)
        (J10 undef w6)
def P_spec_l02Make : Plan := (.seq (.reg [.op (0, 2, false)]) (.seq (.reg [.op (0, 0, false), .op (1, 0, false), .op (2, 0, false)]) (.seq (.blk (.loop [5] 1048352 (.seq (.seq (.reg [.op (0, 0, false), .op (1, 0, false), .op (2, 0, false), .grp 2 true [(3, 0, false), (4, 0, false), (5, 0, false), (6, 0, false), (7, 0, false), (8, 0, false)] [16] 129024, .op (9, 0, false)]) (.cond .leaf .leaf)) (.blk (.reg [.op (0, 0, false), .op (1, 0, false), .op (2, 0, false)]))))) (.seq (.seq (.reg [.op (0, 0, false), .op (1, 0, false)]) (.cond (.seq (.reg [.op (0, 0, false), .op (1, 2, false)]) .leaf) .leaf)) (.seq (.reg [.op (0, 0, false), .op (1, 0, false), .op (2, 0, false), .op (3, 0, false), .op (4, 2, false), .op (5, 0, false), .op (6, 2, false)]) .leaf)))))
theorem I_spec_l02Make {a0 a1 : Value} {w : World} {K : Value → World → Prop} (h : D_spec_l02Make a0 a1 w K) : call P f_spec_l02Make [a0, a1] w K :=
  call_of_vc mixed Tryz.func214 (c := codeOf Tryz.f214) (by kernel_rfl) (by kernel_rfl) (p := P_spec_l02Make) (by kernel_rfl) (by rw [Tryz.ntmps214]; simp) (by
    have e : D_spec_l02Make a0 a1 w K = vc P P_spec_l02Make (codeOf Tryz.f214) (env0 [a0, a1]) w (retX P Tryz.f214.results.toList K) := by kernel_rfl
    exact e ▸ h)

/-- spec.l02Add -/
def D_spec_l02Add (a0 a1 : Value) (w : World) (K : Value → World → Prop) : Prop :=
  bx P 55 a0 w fun x2_1 w2 =>
  bx P 55 a1 w2 fun x3_3 w4 =>
  alc P 55 w4 fun x4_5 w6 =>
  fda P 55 x2_1 0 w6 fun x6_7 =>
  ld P 2 x6_7 w6 fun x7_8 =>
  bin P .eql 2 false true x7_8 (.int .i64 0) w6 fun x8_9 =>
  cnd x8_9
    (fda P 55 x3_3 0 w6 fun x9_10 =>
    ld P 2 x9_10 w6 fun x10_11 =>
    fda P 55 x3_3 1 w6 fun x11_12 =>
    ld P 53 x11_12 w6 fun x12_13 =>
    call P f_spec_l02Make [x10_11, x12_13] w6 fun x13_14 w15 =>
    sto P 55 x4_5 x13_14 w15 fun w17 =>
    ldc P 55 x4_5 w17 fun r18 =>
    K r18 w17)
    (fda P 55 x3_3 0 w6 fun x15_19 =>
    ld P 2 x15_19 w6 fun x16_20 =>
    bin P .eql 2 false true x16_20 (.int .i64 0) w6 fun x17_21 =>
    cnd x17_21
      (fda P 55 x2_1 0 w6 fun x18_22 =>
      ld P 2 x18_22 w6 fun x19_23 =>
      fda P 55 x2_1 1 w6 fun x20_24 =>
      ld P 53 x20_24 w6 fun x21_25 =>
      call P f_spec_l02Make [x19_23, x21_25] w6 fun x22_26 w27 =>
      sto P 55 x4_5 x22_26 w27 fun w29 =>
      ldc P 55 x4_5 w29 fun r30 =>
      K r30 w29)
      (fda P 55 x2_1 0 w6 fun x24_31 =>
      ld P 2 x24_31 w6 fun x25_32 =>
      fda P 55 x3_3 0 w6 fun x26_33 =>
      ld P 2 x26_33 w6 fun x27_34 =>
      bin P .eql 2 false false x25_32 x27_34 w6 fun x28_35 =>
      cnd x28_35
        (fda P 55 x2_1 0 w6 fun x29_36 =>
        ld P 2 x29_36 w6 fun x30_37 =>
        fda P 55 x2_1 1 w6 fun x31_38 =>
        ld P 53 x31_38 w6 fun x32_39 =>
        fda P 55 x3_3 1 w6 fun x33_40 =>
        ld P 53 x33_40 w6 fun x34_41 =>
        call P f_spec_l02Plus [x32_39, x34_41] w6 fun x35_42 w43 =>
        Ext w6 w43 ∧ call P f_spec_l02Make [x30_37, x35_42] w43 fun x36_44 w45 =>
        sto P 55 x4_5 x36_44 w45 fun w47 =>
        ldc P 55 x4_5 w47 fun r48 =>
        K r48 w47)
        (fda P 55 x2_1 1 w6 fun x38_49 =>
        ld P 53 x38_49 w6 fun x39_50 =>
        fda P 55 x3_3 1 w6 fun x40_51 =>
        ld P 53 x40_51 w6 fun x41_52 =>
        call P f_spec_l02CompareLimbs [x39_50, x41_52] w6 fun x42_53 w54 =>
        bin P .geq 2 false true x42_53 (.int .i64 0) w54 fun x43_55 =>
        cnd x43_55
          (fda P 55 x2_1 0 w54 fun x44_56 =>
          ld P 2 x44_56 w54 fun x45_57 =>
          fda P 55 x2_1 1 w54 fun x46_58 =>
          ld P 53 x46_58 w54 fun x47_59 =>
          fda P 55 x3_3 1 w54 fun x48_60 =>
          ld P 53 x48_60 w54 fun x49_61 =>
          call P f_spec_l02Minus [x47_59, x49_61] w54 fun x50_62 w63 =>
          Ext w54 w63 ∧ call P f_spec_l02Make [x45_57, x50_62] w63 fun x51_64 w65 =>
          sto P 55 x4_5 x51_64 w65 fun w67 =>
          ldc P 55 x4_5 w67 fun r68 =>
          K r68 w67)
          (fda P 55 x3_3 0 w54 fun x52_69 =>
          ld P 2 x52_69 w54 fun x53_70 =>
          fda P 55 x3_3 1 w54 fun x54_71 =>
          ld P 53 x54_71 w54 fun x55_72 =>
          fda P 55 x2_1 1 w54 fun x56_73 =>
          ld P 53 x56_73 w54 fun x57_74 =>
          call P f_spec_l02Minus [x55_72, x57_74] w54 fun x58_75 w76 =>
          Ext w54 w76 ∧ call P f_spec_l02Make [x53_70, x58_75] w76 fun x59_77 w78 =>
          sto P 55 x4_5 x59_77 w78 fun w80 =>
          ldc P 55 x4_5 w80 fun r81 =>
          K r81 w80))))
def P_spec_l02Add : Plan := (.seq (.reg [.op (0, 2, false), .op (1, 2, false), .op (2, 2, false)]) (.seq (.blk (.seq (.reg [.op (0, 0, false), .op (1, 0, false), .op (2, 0, false), .op (3, 0, false)]) (.cond (.seq (.reg [.op (0, 0, false), .op (1, 0, false), .op (2, 0, false), .op (3, 0, false), .op (4, 2, false), .op (5, 2, false)]) .leaf) (.seq (.reg [.op (0, 0, false), .op (1, 0, false), .op (2, 0, false), .op (3, 0, false)]) (.cond (.seq (.reg [.op (0, 0, false), .op (1, 0, false), .op (2, 0, false), .op (3, 0, false), .op (4, 2, false), .op (5, 2, false)]) .leaf) (.seq (.reg [.op (0, 0, false), .op (1, 0, false), .op (2, 0, false), .op (3, 0, false), .op (4, 0, false), .op (5, 0, false)]) (.cond (.seq (.reg [.op (0, 0, false), .op (1, 0, false), .op (2, 0, false), .op (3, 0, false), .op (4, 0, false), .op (5, 0, false), .op (6, 2, true), .op (7, 2, false), .op (8, 2, false)]) .leaf) (.seq (.reg [.op (0, 0, false), .op (1, 0, false), .op (2, 0, false), .op (3, 0, false), .op (4, 2, false), .op (5, 0, false), .op (6, 0, false)]) (.cond (.seq (.reg [.op (0, 0, false), .op (1, 0, false), .op (2, 0, false), .op (3, 0, false), .op (4, 0, false), .op (5, 0, false), .op (6, 2, true), .op (7, 2, false), .op (8, 2, false)]) .leaf) .leaf))))))))) (.seq (.reg [.op (0, 0, false), .op (1, 0, false), .op (2, 0, false), .op (3, 0, false), .op (4, 0, false), .op (5, 0, false), .op (6, 2, true), .op (7, 2, false), .op (8, 2, false)]) .leaf)))
theorem I_spec_l02Add {a0 a1 : Value} {w : World} {K : Value → World → Prop} (h : D_spec_l02Add a0 a1 w K) : call P f_spec_l02Add [a0, a1] w K :=
  call_of_vc mixed Tryz.func217 (c := codeOf Tryz.f217) (by kernel_rfl) (by kernel_rfl) (p := P_spec_l02Add) (by kernel_rfl) (by rw [Tryz.ntmps217]; simp) (by
    have e : D_spec_l02Add a0 a1 w K = vc P P_spec_l02Add (codeOf Tryz.f217) (env0 [a0, a1]) w (retX P Tryz.f217.results.toList K) := by kernel_rfl
    exact e ▸ h)

/-- spec.l02Left -/
def D_spec_l02Left (a0 a1 : Value) (w : World) (K : Value → World → Prop) : Prop :=
  bx P 55 a0 w fun x2_1 w2 =>
  alc P 55 w2 fun x4_3 w4 =>
  bin P .quo 2 false true a1 (.int .i64 24) w4 fun x9_5 =>
  mks P 53 x9_5 x9_5 w4 fun x10_6 w7 =>
  ∃ I8 : Nat → Value → Value → Value → World → Prop, (∃ m46, I8 m46 x10_6 (.int .i64 0) (.int .i64 0) w7) ∧ ∀ (m11 : Nat) (x5_12 : Value) (x6_13 : Value) (x7_14 : Value) (junk9 : Env) (w10 : World), I8 m11 x5_12 x6_13 x7_14 w10 →
    fda P 55 x2_1 1 w10 fun x12_15 =>
    ld P 53 x12_15 w10 fun x13_16 =>
    bl0 P .len #[53] 3 [x13_16] w10 fun x14_17 =>
    bin P .lss 3 false false x7_14 x14_17 w10 fun x15_18 =>
    cnd x15_18
      (fda P 55 x2_1 1 w10 fun x19_19 =>
      ld P 53 x19_19 w10 fun x20_20 =>
      ixa P 53 x20_20 x7_14 w10 fun x22_21 =>
      ld P 2 x22_21 w10 fun x23_22 =>
      bin P .rem 2 false true a1 (.int .i64 24) w10 fun x25_23 =>
      cnv P 2 178 x25_23 w10 fun x26_24 =>
      bin P .shl 2 false false x23_22 x26_24 w10 fun x27_25 =>
      bin P .add 2 false false x6_13 x27_25 w10 fun x28_26 =>
      bin P .rem 2 false true x28_26 (.int .i64 16777216) w10 fun x31_27 =>
      bsl P 53 1 [(0, x31_27)] w10 fun x32_28 w29 =>
      bl2 P .append #[53, 53] 53 [x5_12, x32_28] w29 fun x33_30 w31 =>
      bin P .quo 2 false true x28_26 (.int .i64 16777216) w31 fun x35_32 =>
      bin P .add 3 false true x7_14 (.int .i64 1) w31 fun x17_33 =>
      ∃ m34, m34 < m11 ∧ I8 m34 x33_30 x35_32 x17_33 w31)
      (fda P 55 x2_1 0 w10 fun x36_35 =>
      ld P 2 x36_35 w10 fun x37_36 =>
      bsl P 53 1 [(0, x6_13)] w10 fun x40_37 w38 =>
      Ext w10 w38 ∧ bl2 P .append #[53, 53] 53 [x5_12, x40_37] w38 fun x41_39 w40 =>
      (fda P 55 x2_1 0 w40 fun z => z = x36_35) ∧ (ld P 2 x36_35 w40 fun z => z = x37_36) ∧ call P f_spec_l02Make [x37_36, x41_39] w40 fun x42_41 w42 =>
      sto P 55 x4_3 x42_41 w42 fun w44 =>
      ldc P 55 x4_3 w44 fun r45 =>
      K r45 w44)
def P_spec_l02Left : Plan := (.seq (.reg [.op (0, 2, false), .op (1, 2, false)]) (.seq (.reg [.op (0, 0, false), .op (1, 0, false), .op (2, 2, false), .op (3, 0, false)]) (.seq (.reg [.op (0, 0, false)]) (.seq (.seq (.reg [.op (0, 0, false)]) (.blk (.loop [5, 6, 7] 68719474912 (.seq (.seq (.reg [.op (0, 0, false), .op (1, 0, false), .op (2, 0, false), .op (3, 0, false), .op (4, 0, false)]) (.cond .leaf .leaf)) (.seq (.blk (.seq (.reg [.op (0, 0, false), .op (1, 0, false), .op (2, 0, false), .op (3, 0, false), .op (4, 0, false), .op (5, 0, false), .op (6, 0, false), .op (7, 0, false), .op (8, 0, false), .op (9, 0, false), .op (10, 0, false), .op (11, 0, false)]) (.seq (.reg [.op (0, 0, false), .op (1, 0, false), .op (2, 0, false), .op (3, 2, false), .op (4, 2, false), .op (5, 0, false)]) (.reg [.op (0, 0, false), .op (1, 0, false), .op (2, 0, false)])))) (.reg [.op (0, 0, false), .op (1, 0, false), .op (2, 0, false)])))))) (.seq (.reg [.op (0, 0, false), .op (1, 0, false), .op (2, 0, false), .op (3, 0, false), .op (4, 2, true), .op (5, 5, false), .op (6, 2, false), .op (7, 2, false)]) .leaf)))))
theorem I_spec_l02Left {a0 a1 : Value} {w : World} {K : Value → World → Prop} (h : D_spec_l02Left a0 a1 w K) : call P f_spec_l02Left [a0, a1] w K :=
  call_of_vc mixed Tryz.func218 (c := codeOf Tryz.f218) (by kernel_rfl) (by kernel_rfl) (p := P_spec_l02Left) (by kernel_rfl) (by rw [Tryz.ntmps218]; simp) (by
    have e : D_spec_l02Left a0 a1 w K = vc P P_spec_l02Left (codeOf Tryz.f218) (env0 [a0, a1]) w (retX P Tryz.f218.results.toList K) := by kernel_rfl
    exact e ▸ h)

/-- spec.l02Bit -/
def D_spec_l02Bit (a0 a1 : Value) (w : World) (K : Value → World → Prop) : Prop :=
  bx P 55 a0 w fun x2_1 w2 =>
  bin P .quo 2 false true a1 (.int .i64 24) w2 fun x6_3 =>
  fda P 55 x2_1 1 w2 fun x7_4 =>
  ld P 53 x7_4 w2 fun x8_5 =>
  bl0 P .len #[53] 3 [x8_5] w2 fun x9_6 =>
  bin P .geq 2 false false x6_3 x9_6 w2 fun x10_7 =>
  cnd x10_7
    (K (.int .i64 0) w2)
    (fda P 55 x2_1 1 w2 fun x11_8 =>
    ld P 53 x11_8 w2 fun x12_9 =>
    bin P .quo 2 false true a1 (.int .i64 24) w2 fun x14_10 =>
    ixa P 53 x12_9 x14_10 w2 fun x15_11 =>
    ld P 2 x15_11 w2 fun x16_12 =>
    bin P .rem 2 false true a1 (.int .i64 24) w2 fun x18_13 =>
    cnv P 2 178 x18_13 w2 fun x19_14 =>
    bin P .shr 2 false false x16_12 x19_14 w2 fun x20_15 =>
    bin P .and 2 false true x20_15 (.int .i64 1) w2 fun x21_16 =>
    K x21_16 w2)
def P_spec_l02Bit : Plan := (.seq (.reg [.op (0, 2, false), .op (1, 0, false)]) (.seq (.seq (.reg [.op (0, 0, false), .op (1, 0, false), .op (2, 0, false), .op (3, 0, false), .op (4, 0, false), .op (5, 0, false)]) (.cond (.seq (.reg [.op (0, 0, false)]) .leaf) .leaf)) (.seq (.reg [.op (0, 0, false), .op (1, 0, false), .op (2, 0, false), .op (3, 0, false), .op (4, 0, false), .op (5, 0, false), .op (6, 0, false), .op (7, 0, false), .op (8, 0, false), .op (9, 0, false), .op (10, 0, false), .op (11, 0, false)]) .leaf)))
theorem I_spec_l02Bit {a0 a1 : Value} {w : World} {K : Value → World → Prop} (h : D_spec_l02Bit a0 a1 w K) : call P f_spec_l02Bit [a0, a1] w K :=
  call_of_vc mixed Tryz.func219 (c := codeOf Tryz.f219) (by kernel_rfl) (by kernel_rfl) (p := P_spec_l02Bit) (by kernel_rfl) (by rw [Tryz.ntmps219]; simp) (by
    have e : D_spec_l02Bit a0 a1 w K = vc P P_spec_l02Bit (codeOf Tryz.f219) (env0 [a0, a1]) w (retX P Tryz.f219.results.toList K) := by kernel_rfl
    exact e ▸ h)

/-- spec.l02Read -/
def D_spec_l02Read (a0 : Value) (w : World) (K : Value → World → Prop) : Prop :=
  alc P 55 w fun x2_1 w2 =>
  ∃ J3 : Value → Value → World → Prop, (∀ (x4_6 : Value) (x5_7 : Value) (junk4 : Env) (w5 : World), J3 x4_6 x5_7 w5 →
    bl0 P .len #[9] 3 [x5_7] w5 fun x23_8 =>
    bin P .eql 3 false true x23_8 (.int .i64 0) w5 fun x24_9 =>
    ∃ J10 : Value → World → Prop, (∀ (x29_11 : Value) (junk13 : Env) (w12 : World), J10 x29_11 w12 →
      ∃ J14 : Value → World → Prop, (∀ (x33_15 : Value) (junk17 : Env) (w16 : World), J14 x33_15 w16 →
      ∃ J18 : Value → World → Prop, (∀ (x35_19 : Value) (junk21 : Env) (w20 : World), J18 x35_19 w20 →
      ∃ J22 : Value → World → Prop, (∀ (x36_23 : Value) (junk25 : Env) (w24 : World), J22 x36_23 w24 →
      ∃ J26 : Value → World → Prop, (∀ (x37_27 : Value) (junk29 : Env) (w28 : World), J26 x37_27 w28 →
      pick x24_9 (.bool true) x37_27 fun x38_30 =>
              cnd x38_30
                (bld P 55 [] w28 fun x39_31 =>
                sto P 55 x2_1 x39_31 w28 fun w33 =>
                ldc P 55 x2_1 w33 fun r34 =>
                K (.tuple #[r34, (.bool false)]) w33)
                (∃ I35 : Nat → Value → World → Prop, (∃ m111, I35 m111 (.int .i64 0) w28) ∧ ∀ (m38 : Nat) (x6_39 : Value) (junk36 : Env) (w37 : World), I35 m38 x6_39 w37 →
                  bl0 P .len #[9] 3 [x5_7] w37 fun x42_40 =>
                  bin P .lss 3 false false x6_39 x42_40 w37 fun x43_41 =>
                  cnd x43_41
                    (idx P 9 x5_7 x6_39 w37 fun x48_42 =>
                    bin P .lss 5 false true x48_42 (.int .u8 48) w37 fun x49_43 =>
                    ∃ J44 : Value → World → Prop, (∀ (x54_45 : Value) (junk47 : Env) (w46 : World), J44 x54_45 w46 →
                      pick x49_43 (.bool true) x54_45 fun x55_48 =>
                      cnd x55_48
                        (bld P 55 [] w46 fun x56_49 =>
                        sto P 55 x2_1 x56_49 w46 fun w51 =>
                        ldc P 55 x2_1 w51 fun r52 =>
                        K (.tuple #[r52, (.bool false)]) w51)
                        (bin P .add 3 false true x6_39 (.int .i64 1) w46 fun x45_53 =>
                        ∃ m54, m54 < m38 ∧ I35 m54 x45_53 w46)) ∧
                      grd x49_43 false
                        (idx P 9 x5_7 x6_39 w37 fun x53_55 =>
                        bin P .gtr 5 false true x53_55 (.int .u8 57) w37 fun x54_56 =>
                        J44 x54_56 w37)
                        (J44 undef w37))
                    (bsl P 53 0 [] w37 fun x57_57 w58 =>
                    ∃ I59 : Nat → Value → Value → World → Prop, (∃ m110, I59 m110 x57_57 (.int .i64 0) w58) ∧ ∀ (m62 : Nat) (x7_63 : Value) (x8_64 : Value) (junk60 : Env) (w61 : World), I59 m62 x7_63 x8_64 w61 →
                      bl0 P .len #[9] 3 [x5_7] w61 fun x60_65 =>
                      bin P .lss 3 false false x8_64 x60_65 w61 fun x61_66 =>
                      ∃ J67 : Value → World → Prop, (∀ (x64_68 : Value) (junk70 : Env) (w69 : World), J67 x64_68 w69 →
                        pick x61_66 x64_68 (.bool false) fun x65_71 =>
                        cnd x65_71
                          (idx P 9 x5_7 x8_64 w69 fun x70_72 =>
                          bin P .sub 5 false true x70_72 (.int .u8 48) w69 fun x71_73 =>
                          cnv P 5 2 x71_73 w69 fun x72_74 =>
                          ∃ I75 : Nat → Value → Value → World → Prop, (∃ m103, I75 m103 x72_74 (.int .i64 0) w69) ∧ ∀ (m78 : Nat) (x9_79 : Value) (x10_80 : Value) (junk76 : Env) (w77 : World), I75 m78 x9_79 x10_80 w77 →
                            bl0 P .len #[53] 3 [x7_63] w77 fun x75_81 =>
                            bin P .lss 3 false false x10_80 x75_81 w77 fun x76_82 =>
                            cnd x76_82
                              (ixa P 53 x7_63 x10_80 w77 fun x82_83 =>
                              ld P 2 x82_83 w77 fun x83_84 =>
                              bin P .mul 2 true false (.int .i64 10) x83_84 w77 fun x84_85 =>
                              bin P .add 2 false false x9_79 x84_85 w77 fun x85_86 =>
                              bin P .rem 2 false true x85_86 (.int .i64 16777216) w77 fun x89_87 =>
                              ixa P 53 x7_63 x10_80 w77 fun x90_88 =>
                              sto P 2 x90_88 x89_87 w77 fun w90 =>
                              bin P .quo 2 false true x85_86 (.int .i64 16777216) w90 fun x92_91 =>
                              bin P .add 3 false true x10_80 (.int .i64 1) w90 fun x78_92 =>
                              ∃ m93, m93 < m78 ∧ I75 m93 x92_91 x78_92 w90)
                              (bin P .gtr 2 false true x9_79 (.int .i64 0) w77 fun x94_94 =>
                              cnd x94_94
                                (bsl P 53 1 [(0, x9_79)] w77 fun x97_95 w96 =>
                                bl2 P .append #[53, 53] 53 [x7_63, x97_95] w96 fun x98_97 w98 =>
                                bin P .add 3 false true x8_64 (.int .i64 1) w98 fun x67_99 =>
                                ∃ m100, m100 < m62 ∧ I59 m100 x98_97 x67_99 w98)
                                (bin P .add 3 false true x8_64 (.int .i64 1) w77 fun x67_101 =>
                                ∃ m102, m102 < m62 ∧ I59 m102 x7_63 x67_101 w77)))
                          (call P f_spec_l02Make [x4_6, x7_63] w69 fun x101_104 w105 =>
                          sto P 55 x2_1 x101_104 w105 fun w107 =>
                          ldc P 55 x2_1 w107 fun r108 =>
                          K (.tuple #[r108, (.bool true)]) w107)) ∧
                        grd x61_66 true
                          (bin P .lss 3 false true x8_64 (.int .i64 1000) w61 fun x64_109 =>
                          J67 x64_109 w61)
                          (J67 undef w61)))) ∧
      grd x24_9 false
        (pick x29_11 x36_23 (.bool false) fun x37_112 =>
                J26 x37_112 w24)
        (J26 undef w24)) ∧
      grd x29_11 true
        (pick x33_15 (.bool true) x35_19 fun x36_113 =>
              J22 x36_113 w20)
        (J22 undef w20)) ∧
      grd x33_15 false
        (bin P .lss 2 false true x4_6 (.int .i64 0) w16 fun x35_114 =>
            J18 x35_114 w16)
        (J18 undef w16)) ∧
      grd x29_11 true
        (bl0 P .len #[9] 3 [x5_7] w12 fun x31_115 =>
          bin P .gtr 3 false true x31_115 (.int .i64 1) w12 fun x32_116 =>
          J14 x32_116 w12)
        (J14 undef w12)) ∧
      grd x24_9 false
        (idx P 9 x5_7 (.int .i64 0) w5 fun x27_117 =>
        bin P .eql 5 false true x27_117 (.int .u8 48) w5 fun x28_118 =>
        J10 x28_118 w5)
        (J10 undef w5)) ∧
    (bl0 P .len #[9] 3 [a0] w2 fun x13_119 =>
    bin P .gtr 3 false true x13_119 (.int .i64 0) w2 fun x14_120 =>
    ∃ J121 : Value → World → Prop, (∀ (x18_122 : Value) (junk124 : Env) (w123 : World), J121 x18_122 w123 →
      pick x14_120 x18_122 (.bool false) fun x19_125 =>
      cnd x19_125
        (sli P 9 a0 (some (.int .i64 1)) none none w123 fun x21_126 =>
        J3 (.int .i64 (-1)) x21_126 w123)
        (J3 (.int .i64 1) a0 w123)) ∧
      grd x14_120 true
        (idx P 9 a0 (.int .i64 0) w2 fun x17_127 =>
        bin P .eql 5 false true x17_127 (.int .u8 45) w2 fun x18_128 =>
        J121 x18_128 w2)
        (J121 undef w2))
def P_spec_l02Read : Plan := (.seq (.reg [.op (0, 2, false), .op (1, 0, false)]) (.seq (.reg [.op (0, 0, false), .op (1, 0, false), .op (2, 0, false)]) (.cut [4, 5] 4190256 (.seq (.reg [.op (0, 0, false), .op (1, 0, false), .op (2, 0, false), .op (3, 0, false), .grp 3 true [(4, 0, false), (5, 0, false), (6, 0, false)] [18] 458752, .op (7, 0, false)]) (.cond (.seq (.reg [.op (0, 0, false)]) (.reg [.op (0, 0, false), .op (1, 0, false), .op (2, 0, false)])) .leaf)) (.seq (.seq (.reg [.op (0, 0, false), .op (1, 0, false), .op (2, 0, false), .op (3, 0, false), .grp 3 false [(4, 0, false), (5, 0, false), (6, 0, false), (7, 0, false)] [29] 1006632960, .grp 7 true [(8, 0, false), (9, 0, false), (10, 0, false), (11, 0, false)] [33] 16106127360, .grp 11 false [(12, 0, false), (13, 0, false)] [35] 51539607552, .grp 7 true [(14, 0, false)] [36] 68719476736, .grp 3 false [(15, 0, false)] [37] 137438953472, .op (16, 0, false)]) (.cond (.seq (.reg [.op (0, 0, false), .op (1, 2, false), .op (2, 0, false)]) .leaf) .leaf)) (.seq (.seq (.reg [.op (0, 0, false)]) (.blk (.loop [6] 144114088564228168 (.seq (.seq (.reg [.op (0, 0, false), .op (1, 0, false), .op (2, 0, false), .op (3, 0, false)]) (.cond .leaf .leaf)) (.seq (.blk (.seq (.reg [.op (0, 0, false), .op (1, 0, false), .op (2, 0, false), .op (3, 0, false), .op (4, 0, false), .grp 4 false [(5, 0, false), (6, 0, false), (7, 0, false), (8, 0, false)] [54] 33776997205278720, .op (9, 0, false)]) (.cond (.seq (.reg [.op (0, 0, false), .op (1, 2, false), .op (2, 0, false)]) .leaf) .leaf))) (.reg [.op (0, 0, false), .op (1, 0, false), .op (2, 0, false)])))))) (.seq (.reg [.op (0, 2, false), .op (1, 0, false)]) (.seq (.seq (.reg [.op (0, 0, false)]) (.blk (.loop [7, 8] 633825300113826470372199892864 (.seq (.seq (.reg [.op (0, 0, false), .op (1, 0, false), .op (2, 0, false), .op (3, 0, false), .op (4, 0, false), .grp 4 true [(5, 0, false), (6, 0, false)] [64] 27670116110564327424, .op (7, 0, false)]) (.cond .leaf .leaf)) (.seq (.blk (.seq (.reg [.op (0, 0, false), .op (1, 0, false), .op (2, 0, false), .op (3, 0, false), .op (4, 0, false), .op (5, 0, false)]) (.seq (.seq (.reg [.op (0, 0, false)]) (.blk (.loop [9, 10] 9903510869550076459902567936 (.seq (.seq (.reg [.op (0, 0, false), .op (1, 0, false), .op (2, 0, false), .op (3, 0, false)]) (.cond .leaf .leaf)) (.seq (.blk (.seq (.reg [.op (0, 0, false), .op (1, 0, false), .op (2, 0, false), .op (3, 0, false), .op (4, 0, false), .op (5, 0, false), .op (6, 0, false), .op (7, 0, false)]) (.seq (.reg [.op (0, 0, false), .op (1, 0, false), .op (2, 0, false), .op (3, 0, false), .op (4, 0, false), .op (5, 2, false)]) (.reg [.op (0, 0, false), .op (1, 0, false), .op (2, 0, false)])))) (.reg [.op (0, 0, false), .op (1, 0, false), .op (2, 0, false)])))))) (.seq (.reg [.op (0, 0, false), .op (1, 0, false)]) (.cond (.reg [.op (0, 0, false), .op (1, 0, false), .op (2, 2, false), .op (3, 2, false), .op (4, 0, false)]) .leaf))))) (.reg [.op (0, 0, false), .op (1, 0, false), .op (2, 0, false)])))))) (.seq (.reg [.op (0, 0, false), .op (1, 0, false), .op (2, 2, false), .op (3, 2, false), .op (4, 0, false)]) .leaf))))))))
theorem I_spec_l02Read {a0 : Value} {w : World} {K : Value → World → Prop} (h : D_spec_l02Read a0 w K) : call P f_spec_l02Read [a0] w K :=
  call_of_vc mixed Tryz.func235 (c := codeOf Tryz.f235) (by kernel_rfl) (by kernel_rfl) (p := P_spec_l02Read) (by kernel_rfl) (by rw [Tryz.ntmps235]; simp) (by
    have e : D_spec_l02Read a0 w K = vc P P_spec_l02Read (codeOf Tryz.f235) (env0 [a0]) w (retX P Tryz.f235.results.toList K) := by kernel_rfl
    exact e ▸ h)

/-- spec.l02Length -/
def D_spec_l02Length (a0 : Value) (w : World) (K : Value → World → Prop) : Prop :=
  bx P 55 a0 w fun x1_1 w2 =>
  fda P 55 x1_1 1 w2 fun x6_3 =>
  ld P 53 x6_3 w2 fun x7_4 =>
  bl0 P .len #[53] 3 [x7_4] w2 fun x8_5 =>
  bin P .eql 2 false true x8_5 (.int .i64 0) w2 fun x10_6 =>
  cnd x10_6
    (K (.int .i64 0) w2)
    (bin P .sub 2 false true x8_5 (.int .i64 1) w2 fun x12_7 =>
    bin P .mul 2 false true x12_7 (.int .i64 24) w2 fun x13_8 =>
    fda P 55 x1_1 1 w2 fun x14_9 =>
    ld P 53 x14_9 w2 fun x15_10 =>
    bin P .sub 2 false true x8_5 (.int .i64 1) w2 fun x17_11 =>
    ixa P 53 x15_10 x17_11 w2 fun x18_12 =>
    ld P 2 x18_12 w2 fun x19_13 =>
    ∃ I14 : Nat → Value → Value → World → Prop, (∃ m24, I14 m24 x13_8 x19_13 w2) ∧ ∀ (m17 : Nat) (x4_18 : Value) (x5_19 : Value) (junk15 : Env) (w16 : World), I14 m17 x4_18 x5_19 w16 →
      bin P .gtr 2 false true x5_19 (.int .i64 0) w16 fun x21_20 =>
      cnd x21_20
        (bin P .add 2 false true x4_18 (.int .i64 1) w16 fun x25_21 =>
        bin P .quo 2 false true x5_19 (.int .i64 2) w16 fun x23_22 =>
        ∃ m23, m23 < m17 ∧ I14 m23 x25_21 x23_22 w16)
        (K x4_18 w16))
def P_spec_l02Length : Plan := (.seq (.reg [.op (0, 2, false), .op (1, 0, false)]) (.seq (.reg [.op (0, 0, false), .op (1, 0, false), .op (2, 0, false), .op (3, 0, false)]) (.seq (.seq (.reg [.op (0, 0, false), .op (1, 0, false)]) (.cond (.seq (.reg [.op (0, 0, false)]) .leaf) .leaf)) (.seq (.reg [.op (0, 0, false), .op (1, 0, false), .op (2, 0, false), .op (3, 0, false)]) (.seq (.seq (.reg [.op (0, 0, false), .op (1, 0, false), .op (2, 0, false), .op (3, 0, false), .op (4, 0, false), .op (5, 0, false), .op (6, 0, false)]) (.blk (.loop [4, 5] 66060336 (.seq (.seq (.reg [.op (0, 0, false), .op (1, 0, false)]) (.cond .leaf .leaf)) (.seq (.blk (.reg [.op (0, 0, false), .op (1, 0, false), .op (2, 0, false)])) (.reg [.op (0, 0, false), .op (1, 0, false), .op (2, 0, false)])))))) (.seq (.reg [.op (0, 0, false), .op (1, 0, false)]) .leaf))))))
theorem I_spec_l02Length {a0 : Value} {w : World} {K : Value → World → Prop} (h : D_spec_l02Length a0 w K) : call P f_spec_l02Length [a0] w K :=
  call_of_vc mixed Tryz.func237 (c := codeOf Tryz.f237) (by kernel_rfl) (by kernel_rfl) (p := P_spec_l02Length) (by kernel_rfl) (by rw [Tryz.ntmps237]; simp) (by
    have e : D_spec_l02Length a0 w K = vc P P_spec_l02Length (codeOf Tryz.f237) (env0 [a0]) w (retX P Tryz.f237.results.toList K) := by kernel_rfl
    exact e ▸ h)

/-- spec.l02Plus -/
def D_spec_l02Plus (a0 a1 : Value) (w : World) (K : Value → World → Prop) : Prop :=
  bsl P 53 0 [] w fun x8_1 w2 =>
  ∃ I3 : Nat → Value → Value → Value → World → Prop, (∃ m51, I3 m51 x8_1 (.int .i64 0) (.int .i64 0) w2) ∧ ∀ (m6 : Nat) (x5_7 : Value) (x6_8 : Value) (x7_9 : Value) (junk4 : Env) (w5 : World), I3 m6 x5_7 x6_8 x7_9 w5 →
    bl0 P .len #[53] 3 [a0] w5 fun x11_10 =>
    bin P .lss 3 false false x7_9 x11_10 w5 fun x12_11 =>
    ∃ J12 : Value → World → Prop, (∀ (x17_13 : Value) (junk15 : Env) (w14 : World), J12 x17_13 w14 →
      pick x12_11 (.bool true) x17_13 fun x18_16 =>
      ∃ J17 : Value → World → Prop, (∀ (x21_18 : Value) (junk20 : Env) (w19 : World), J17 x21_18 w19 →
      pick x18_16 (.bool true) x21_18 fun x22_21 =>
        cnd x22_21
          (∃ J22 : Value → World → Prop, (∀ (x6_25 : Value) (junk23 : Env) (w24 : World), J22 x6_25 w24 →
            ∃ J26 : Value → World → Prop, (∀ (x6_29 : Value) (junk27 : Env) (w28 : World), J26 x6_29 w28 →
              bin P .rem 2 false true x6_29 (.int .i64 16777216) w28 fun x47_30 =>
              bsl P 53 1 [(0, x47_30)] w28 fun x48_31 w32 =>
              bl2 P .append #[53, 53] 53 [x5_7, x48_31] w32 fun x49_33 w34 =>
              bin P .quo 2 false true x6_29 (.int .i64 16777216) w34 fun x51_35 =>
              bin P .add 3 false true x7_9 (.int .i64 1) w34 fun x24_36 =>
              ∃ m37, m37 < m6 ∧ I3 m37 x49_33 x51_35 x24_36 w34) ∧
              (bl0 P .len #[53] 3 [a1] w24 fun x37_38 =>
              bin P .lss 3 false false x7_9 x37_38 w24 fun x38_39 =>
              cnd x38_39
                (ixa P 53 a1 x7_9 w24 fun x42_40 =>
                ld P 2 x42_40 w24 fun x43_41 =>
                bin P .add 2 false false x6_25 x43_41 w24 fun x44_42 =>
                J26 x44_42 w24)
                (J26 x6_25 w24))) ∧
            (bl0 P .len #[53] 3 [a0] w19 fun x27_43 =>
            bin P .lss 3 false false x7_9 x27_43 w19 fun x28_44 =>
            cnd x28_44
              (ixa P 53 a0 x7_9 w19 fun x32_45 =>
              ld P 2 x32_45 w19 fun x33_46 =>
              bin P .add 2 false false x6_8 x33_46 w19 fun x34_47 =>
              J22 x34_47 w19)
              (J22 x6_8 w19)))
          (K x5_7 w19)) ∧
      grd x18_16 false
        (bin P .gtr 2 false true x6_8 (.int .i64 0) w14 fun x21_48 =>
          J17 x21_48 w14)
        (J17 undef w14)) ∧
      grd x12_11 false
        (bl0 P .len #[53] 3 [a1] w5 fun x16_49 =>
        bin P .lss 3 false false x7_9 x16_49 w5 fun x17_50 =>
        J12 x17_50 w5)
        (J12 undef w5)
def P_spec_l02Plus : Plan := (.seq (.reg [.op (0, 0, false)]) (.seq (.reg [.op (0, 2, false), .op (1, 0, false), .op (2, 0, false)]) (.seq (.seq (.reg [.op (0, 0, false)]) (.blk (.loop [5, 6, 7] 4503599627370208 (.seq (.seq (.reg [.op (0, 0, false), .op (1, 0, false), .op (2, 0, false), .op (3, 0, false), .op (4, 0, false), .grp 4 false [(5, 0, false), (6, 0, false), (7, 0, false), (8, 0, false)] [17] 245760, .op (9, 0, false), .op (10, 0, false), .grp 10 false [(11, 0, false), (12, 0, false)] [21] 3145728, .op (13, 0, false)]) (.cond .leaf .leaf)) (.seq (.blk (.cut [6] 34326184000 (.seq (.reg [.op (0, 0, false), .op (1, 0, false), .op (2, 0, false), .op (3, 0, false)]) (.cond (.reg [.op (0, 0, false), .op (1, 0, false), .op (2, 0, false), .op (3, 0, false), .op (4, 0, false), .op (5, 0, false), .op (6, 0, false)]) .leaf)) (.cut [6] 35150012350528 (.seq (.reg [.op (0, 0, false), .op (1, 0, false), .op (2, 0, false), .op (3, 0, false)]) (.cond (.reg [.op (0, 0, false), .op (1, 0, false), .op (2, 0, false), .op (3, 0, false), .op (4, 0, false), .op (5, 0, false), .op (6, 0, false)]) .leaf)) (.seq (.reg [.op (0, 0, false), .op (1, 0, false), .op (2, 0, false), .op (3, 2, false), .op (4, 2, false), .op (5, 0, false)]) (.reg [.op (0, 0, false), .op (1, 0, false), .op (2, 0, false)]))))) (.reg [.op (0, 0, false), .op (1, 0, false), .op (2, 0, false)])))))) (.seq (.reg [.op (0, 0, false), .op (1, 0, false)]) .leaf))))
theorem I_spec_l02Plus {a0 a1 : Value} {w : World} {K : Value → World → Prop} (h : D_spec_l02Plus a0 a1 w K) : call P f_spec_l02Plus [a0, a1] w K :=
  call_of_vc mixed Tryz.func252 (c := codeOf Tryz.f252) (by kernel_rfl) (by kernel_rfl) (p := P_spec_l02Plus) (by kernel_rfl) (by rw [Tryz.ntmps252]; simp) (by
    have e : D_spec_l02Plus a0 a1 w K = vc P P_spec_l02Plus (codeOf Tryz.f252) (env0 [a0, a1]) w (retX P Tryz.f252.results.toList K) := by kernel_rfl
    exact e ▸ h)

/-- spec.l02CompareLimbs -/
def D_spec_l02CompareLimbs (a0 a1 : Value) (w : World) (K : Value → World → Prop) : Prop :=
  bl0 P .len #[53] 3 [a0] w fun x7_1 =>
  bl0 P .len #[53] 3 [a1] w fun x9_2 =>
  bin P .neq 3 false false x7_1 x9_2 w fun x10_3 =>
  cnd x10_3
    (bl0 P .len #[53] 3 [a0] w fun x12_4 =>
    bl0 P .len #[53] 3 [a1] w fun x14_5 =>
    bin P .lss 3 false false x12_4 x14_5 w fun x15_6 =>
    cnd x15_6
      (K (.int .i64 (-1)) w)
      (K (.int .i64 1) w))
    (bl0 P .len #[53] 3 [a0] w fun x17_7 =>
    bin P .sub 3 false true x17_7 (.int .i64 1) w fun x18_8 =>
    ∃ I9 : Nat → Value → World → Prop, (∃ m27, I9 m27 x18_8 w) ∧ ∀ (m12 : Nat) (x5_13 : Value) (junk10 : Env) (w11 : World), I9 m12 x5_13 w11 →
      bin P .geq 3 false true x5_13 (.int .i64 0) w11 fun x20_14 =>
      cnd x20_14
        (ixa P 53 a0 x5_13 w11 fun x25_15 =>
        ld P 2 x25_15 w11 fun x26_16 =>
        ixa P 53 a1 x5_13 w11 fun x29_17 =>
        ld P 2 x29_17 w11 fun x30_18 =>
        bin P .neq 2 false false x26_16 x30_18 w11 fun x31_19 =>
        cnd x31_19
          (ixa P 53 a0 x5_13 w11 fun x34_20 =>
          ld P 2 x34_20 w11 fun x35_21 =>
          ixa P 53 a1 x5_13 w11 fun x38_22 =>
          ld P 2 x38_22 w11 fun x39_23 =>
          bin P .lss 2 false false x35_21 x39_23 w11 fun x40_24 =>
          cnd x40_24
            (K (.int .i64 (-1)) w11)
            (K (.int .i64 1) w11))
          (bin P .sub 3 false true x5_13 (.int .i64 1) w11 fun x22_25 =>
          ∃ m26, m26 < m12 ∧ I9 m26 x22_25 w11))
        (K (.int .i64 0) w11))
def P_spec_l02CompareLimbs : Plan := (.seq (.reg [.op (0, 0, false)]) (.seq (.seq (.reg [.op (0, 0, false), .op (1, 0, false), .op (2, 0, false), .op (3, 0, false), .op (4, 0, false)]) (.cond (.seq (.seq (.reg [.op (0, 0, false), .op (1, 0, false), .op (2, 0, false), .op (3, 0, false), .op (4, 0, false)]) (.cond (.seq (.reg [.op (0, 0, false)]) .leaf) .leaf)) (.seq (.reg [.op (0, 0, false)]) .leaf)) .leaf)) (.seq (.seq (.reg [.op (0, 0, false), .op (1, 0, false), .op (2, 0, false), .op (3, 0, false)]) (.blk (.loop [5] 2199022731312 (.seq (.seq (.reg [.op (0, 0, false), .op (1, 0, false)]) (.cond .leaf .leaf)) (.seq (.blk (.seq (.reg [.op (0, 0, false), .op (1, 0, false), .op (2, 0, false), .op (3, 0, false), .op (4, 0, false), .op (5, 0, false), .op (6, 0, false), .op (7, 0, false), .op (8, 0, false)]) (.cond (.seq (.seq (.reg [.op (0, 0, false), .op (1, 0, false), .op (2, 0, false), .op (3, 0, false), .op (4, 0, false), .op (5, 0, false), .op (6, 0, false), .op (7, 0, false), .op (8, 0, false)]) (.cond (.seq (.reg [.op (0, 0, false)]) .leaf) .leaf)) (.seq (.reg [.op (0, 0, false)]) .leaf)) .leaf))) (.reg [.op (0, 0, false), .op (1, 0, false), .op (2, 0, false)])))))) (.seq (.reg [.op (0, 0, false)]) .leaf))))
theorem I_spec_l02CompareLimbs {a0 a1 : Value} {w : World} {K : Value → World → Prop} (h : D_spec_l02CompareLimbs a0 a1 w K) : call P f_spec_l02CompareLimbs [a0, a1] w K :=
  call_of_vc mixed Tryz.func253 (c := codeOf Tryz.f253) (by kernel_rfl) (by kernel_rfl) (p := P_spec_l02CompareLimbs) (by kernel_rfl) (by rw [Tryz.ntmps253]; simp) (by
    have e : D_spec_l02CompareLimbs a0 a1 w K = vc P P_spec_l02CompareLimbs (codeOf Tryz.f253) (env0 [a0, a1]) w (retX P Tryz.f253.results.toList K) := by kernel_rfl
    exact e ▸ h)

/-- spec.l02Minus -/
def D_spec_l02Minus (a0 a1 : Value) (w : World) (K : Value → World → Prop) : Prop :=
  bsl P 53 0 [] w fun x9_1 w2 =>
  ∃ I3 : Nat → Value → Value → Value → World → Prop, (∃ m38, I3 m38 x9_1 (.int .i64 0) (.int .i64 0) w2) ∧ ∀ (m6 : Nat) (x5_7 : Value) (x6_8 : Value) (x7_9 : Value) (junk4 : Env) (w5 : World), I3 m6 x5_7 x6_8 x7_9 w5 →
    bl0 P .len #[53] 3 [a0] w5 fun x12_10 =>
    bin P .lss 3 false false x7_9 x12_10 w5 fun x13_11 =>
    cnd x13_11
      (ixa P 53 a0 x7_9 w5 fun x18_12 =>
      ld P 2 x18_12 w5 fun x19_13 =>
      bin P .sub 2 false false x19_13 x6_8 w5 fun x21_14 =>
      ∃ J15 : Value → World → Prop, (∀ (x8_18 : Value) (junk16 : Env) (w17 : World), J15 x8_18 w17 →
        bin P .lss 2 false true x8_18 (.int .i64 0) w17 fun x33_19 =>
        cnd x33_19
          (bin P .add 2 false true x8_18 (.int .i64 16777216) w17 fun x35_20 =>
          bsl P 53 1 [(0, x35_20)] w17 fun x38_21 w22 =>
          bl2 P .append #[53, 53] 53 [x5_7, x38_21] w22 fun x39_23 w24 =>
          bin P .add 3 false true x7_9 (.int .i64 1) w24 fun x15_25 =>
          ∃ m26, m26 < m6 ∧ I3 m26 x39_23 (.int .i64 1) x15_25 w24)
          (bsl P 53 1 [(0, x8_18)] w17 fun x38_27 w28 =>
          bl2 P .append #[53, 53] 53 [x5_7, x38_27] w28 fun x39_29 w30 =>
          bin P .add 3 false true x7_9 (.int .i64 1) w30 fun x15_31 =>
          ∃ m32, m32 < m6 ∧ I3 m32 x39_29 (.int .i64 0) x15_31 w30)) ∧
        (bl0 P .len #[53] 3 [a1] w5 fun x24_33 =>
        bin P .lss 3 false false x7_9 x24_33 w5 fun x25_34 =>
        cnd x25_34
          (ixa P 53 a1 x7_9 w5 fun x29_35 =>
          ld P 2 x29_35 w5 fun x30_36 =>
          bin P .sub 2 false false x21_14 x30_36 w5 fun x31_37 =>
          J15 x31_37 w5)
          (J15 x21_14 w5)))
      (K x5_7 w5)
def P_spec_l02Minus : Plan := (.seq (.reg [.op (0, 0, false)]) (.seq (.reg [.op (0, 2, false), .op (1, 0, false), .op (2, 0, false)]) (.seq (.seq (.reg [.op (0, 0, false)]) (.blk (.loop [5, 6, 7] 1099511627232 (.seq (.seq (.reg [.op (0, 0, false), .op (1, 0, false), .op (2, 0, false), .op (3, 0, false)]) (.cond .leaf .leaf)) (.seq (.blk (.seq (.reg [.op (0, 0, false), .op (1, 0, false), .op (2, 0, false), .op (3, 0, false), .op (4, 0, false), .op (5, 0, false), .op (6, 0, false)]) (.cut [8] 4290773248 (.seq (.reg [.op (0, 0, false), .op (1, 0, false), .op (2, 0, false), .op (3, 0, false)]) (.cond (.reg [.op (0, 0, false), .op (1, 0, false), .op (2, 0, false), .op (3, 0, false), .op (4, 0, false), .op (5, 0, false), .op (6, 0, false)]) .leaf)) (.seq (.reg [.op (0, 0, false)]) (.seq (.seq (.reg [.op (0, 0, false), .op (1, 0, false)]) (.cond (.seq (.reg [.op (0, 0, false), .op (1, 0, false), .op (2, 0, false)]) (.reg [.op (0, 0, false)])) .leaf)) (.reg [.op (0, 0, false), .op (1, 0, false), .op (2, 2, false), .op (3, 2, false), .op (4, 0, false)])))))) (.reg [.op (0, 0, false), .op (1, 0, false), .op (2, 0, false)])))))) (.seq (.reg [.op (0, 0, false), .op (1, 0, false)]) .leaf))))
theorem I_spec_l02Minus {a0 a1 : Value} {w : World} {K : Value → World → Prop} (h : D_spec_l02Minus a0 a1 w K) : call P f_spec_l02Minus [a0, a1] w K :=
  call_of_vc mixed Tryz.func254 (c := codeOf Tryz.f254) (by kernel_rfl) (by kernel_rfl) (p := P_spec_l02Minus) (by kernel_rfl) (by rw [Tryz.ntmps254]; simp) (by
    have e : D_spec_l02Minus a0 a1 w K = vc P P_spec_l02Minus (codeOf Tryz.f254) (env0 [a0, a1]) w (retX P Tryz.f254.results.toList K) := by kernel_rfl
    exact e ▸ h)

end Go.Proofs.YtjompmflommadaaGreatDoor

/- Written by a program (gen.py): what is left to show of each function's call. -/
set_option linter.unusedVariables false
set_option maxRecDepth 20000
namespace Go.Proofs.YtjompmflommadaaGreatDoor
open Go Go.Vc

/-- spec.l03Is -/
def D_spec_l03Is (a0 : Value) (w : World) (K : Value → World → Prop) : Prop :=
  bx P 57 a0 w fun x1_1 w2 =>
  fda P 57 x1_1 0 w2 fun x3_3 =>
  ld P 55 x3_3 w2 fun x4_4 =>
  call P f_spec_l02Is [x4_4] w2 fun x5_5 w6 =>
  una P .not x5_5 w6 fun x6_7 =>
  ∃ J8 : Value → World → Prop, (∀ (x11_9 : Value) (junk11 : Env) (w10 : World), J8 x11_9 w10 →
    pick x6_7 (.bool true) x11_9 fun x12_12 =>
    cnd x12_12
      (K (.bool false) w10)
      (fda P 57 x1_1 0 w10 fun x13_13 =>
      fda P 55 x13_13 0 w10 fun x14_14 =>
      ld P 2 x14_14 w10 fun x15_15 =>
      bin P .eql 2 false true x15_15 (.int .i64 0) w10 fun x16_16 =>
      cnd x16_16
        (fda P 57 x1_1 1 w10 fun x17_17 =>
        ld P 2 x17_17 w10 fun x18_18 =>
        bin P .eql 2 false true x18_18 (.int .i64 0) w10 fun x19_19 =>
        K x19_19 w10)
        (fda P 57 x1_1 0 w10 fun x20_20 =>
        fda P 55 x20_20 1 w10 fun x21_21 =>
        ld P 53 x21_21 w10 fun x22_22 =>
        ixa P 53 x22_22 (.int .i64 0) w10 fun x23_23 =>
        ld P 2 x23_23 w10 fun x24_24 =>
        bin P .rem 2 false true x24_24 (.int .i64 2) w10 fun x25_25 =>
        bin P .eql 2 false true x25_25 (.int .i64 1) w10 fun x26_26 =>
        K x26_26 w10))) ∧
    grd x6_7 false
      (fda P 57 x1_1 1 w6 fun x8_27 =>
      ld P 2 x8_27 w6 fun x9_28 =>
      call P f_spec_l01In [x9_28, (.int .i64 (-3000)), (.int .i64 3000)] w6 fun x10_29 w30 =>
      una P .not x10_29 w30 fun x11_31 =>
      J8 x11_31 w30)
      (J8 undef w6)
def P_spec_l03Is : Plan := (.seq (.reg [.op (0, 2, false), .op (1, 0, false)]) (.seq (.seq (.reg [.op (0, 0, false), .op (1, 0, false), .op (2, 2, false), .op (3, 0, false), .op (4, 0, false), .grp 4 false [(5, 0, false), (6, 0, false), (7, 2, false), (8, 0, false)] [11] 3840, .op (9, 0, false)]) (.cond (.seq (.reg [.op (0, 0, false)]) .leaf) .leaf)) (.seq (.seq (.reg [.op (0, 0, false), .op (1, 0, false), .op (2, 0, false), .op (3, 0, false)]) (.cond (.seq (.reg [.op (0, 0, false), .op (1, 0, false), .op (2, 0, false), .op (3, 0, false)]) .leaf) .leaf)) (.seq (.reg [.op (0, 0, false), .op (1, 0, false), .op (2, 0, false), .op (3, 0, false), .op (4, 0, false), .op (5, 0, false), .op (6, 0, false), .op (7, 0, false)]) .leaf))))
theorem I_spec_l03Is {a0 : Value} {w : World} {K : Value → World → Prop} (h : D_spec_l03Is a0 w K) : call P f_spec_l03Is [a0] w K :=
  call_of_vc mixed Tryz.func120 (c := codeOf Tryz.f120) (by kernel_rfl) (by kernel_rfl) (p := P_spec_l03Is) (by kernel_rfl) (by rw [Tryz.ntmps120]; simp) (by
    have e : D_spec_l03Is a0 w K = vc P P_spec_l03Is (codeOf Tryz.f120) (env0 [a0]) w (retX P Tryz.f120.results.toList K) := by kernel_rfl
    exact e ▸ h)

/-- spec.l03Read -/
def D_spec_l03Read (a0 : Value) (w : World) (K : Value → World → Prop) : Prop :=
  alc P 57 w fun x2_1 w2 =>
  ∃ I3 : Nat → Value → World → Prop, (∃ m107, I3 m107 (.int .i64 0) w2) ∧ ∀ (m6 : Nat) (x4_7 : Value) (junk4 : Env) (w5 : World), I3 m6 x4_7 w5 →
    bl0 P .len #[9] 3 [a0] w5 fun x12_8 =>
    bin P .lss 3 false false x4_7 x12_8 w5 fun x13_9 =>
    ∃ J10 : Value → World → Prop, (∀ (x18_11 : Value) (junk13 : Env) (w12 : World), J10 x18_11 w12 →
      pick x13_9 x18_11 (.bool false) fun x19_14 =>
      cnd x19_14
        (bin P .add 3 false true x4_7 (.int .i64 1) w12 fun x21_15 =>
        ∃ m16, m16 < m6 ∧ I3 m16 x21_15 w12)
        (bl0 P .len #[9] 3 [a0] w12 fun x24_17 =>
        bin P .eql 3 false false x4_7 x24_17 w12 fun x25_18 =>
        cnd x25_18
          (bld P 57 [] w12 fun x26_19 =>
          sto P 57 x2_1 x26_19 w12 fun w21 =>
          ldc P 57 x2_1 w21 fun r22 =>
          K (.tuple #[r22, (.bool false)]) w21)
          (sli P 9 a0 none (some x4_7) none w12 fun x30_23 =>
          call P f_spec_l02Read [x30_23] w12 fun x31_24 w25 =>
          xtr P x31_24 0 w25 fun x32_26 =>
          xtr P x31_24 1 w25 fun x33_27 =>
          alc P 55 w25 fun x5_28 w29 =>
          sto P 55 x5_28 x32_26 w29 fun w31 =>
          bin P .add 3 false true x4_7 (.int .i64 1) w31 fun x37_32 =>
          sli P 9 a0 (some x37_32) none none w31 fun x38_33 =>
          call P f_spec_l02Read [x38_33] w31 fun x39_34 w35 =>
          xtr P x39_34 0 w35 fun x40_36 =>
          xtr P x39_34 1 w35 fun x41_37 =>
          alc P 55 w35 fun x7_38 w39 =>
          sto P 55 x7_38 x40_36 w39 fun w41 =>
          una P .not x33_27 w41 fun x43_42 =>
          ∃ J43 : Value → World → Prop, (∀ (x46_44 : Value) (junk46 : Env) (w45 : World), J43 x46_44 w45 →
            pick x43_42 (.bool true) x46_44 fun x47_47 =>
            ∃ J48 : Value → World → Prop, (∀ (x51_49 : Value) (junk51 : Env) (w50 : World), J48 x51_49 w50 →
            pick x47_47 (.bool true) x51_49 fun x52_52 =>
              ∃ J53 : Value → World → Prop, (∀ (x57_54 : Value) (junk56 : Env) (w55 : World), J53 x57_54 w55 →
            pick x52_52 (.bool true) x57_54 fun x58_57 =>
                cnd x58_57
                  (bld P 57 [] w55 fun x59_58 =>
                  sto P 57 x2_1 x59_58 w55 fun w60 =>
                  ldc P 57 x2_1 w60 fun r61 =>
                  K (.tuple #[r61, (.bool false)]) w60)
                  (ld P 55 x5_28 w55 fun x60_62 =>
                  bld P 57 [(0, x60_62)] w55 fun x61_63 =>
                  alc P 57 w55 fun x9_64 w65 =>
                  sto P 57 x9_64 x61_63 w65 fun w67 =>
                  fda P 55 x7_38 1 w67 fun x62_68 =>
                  ld P 53 x62_68 w67 fun x63_69 =>
                  bl0 P .len #[53] 3 [x63_69] w67 fun x64_70 =>
                  bin P .eql 3 false true x64_70 (.int .i64 1) w67 fun x65_71 =>
                  cnd x65_71
                    (fda P 55 x7_38 0 w67 fun x66_72 =>
                    ld P 2 x66_72 w67 fun x67_73 =>
                    fda P 55 x7_38 1 w67 fun x68_74 =>
                    ld P 53 x68_74 w67 fun x69_75 =>
                    ixa P 53 x69_75 (.int .i64 0) w67 fun x70_76 =>
                    ld P 2 x70_76 w67 fun x71_77 =>
                    bin P .mul 2 false false x67_73 x71_77 w67 fun x72_78 =>
                    fda P 57 x9_64 1 w67 fun x73_79 =>
                    sto P 2 x73_79 x72_78 w67 fun w81 =>
                    ld P 57 x9_64 w81 fun x74_82 =>
                    ld P 57 x9_64 w81 fun x75_83 =>
                    call P f_spec_l03Is [x75_83] w81 fun x76_84 w85 =>
                    Ext w81 w85 ∧ sto P 57 x2_1 x74_82 w85 fun w87 =>
                    ldc P 57 x2_1 w87 fun r88 =>
                    K (.tuple #[r88, x76_84]) w87)
                    (ld P 57 x9_64 w67 fun x74_89 =>
                    ld P 57 x9_64 w67 fun x75_90 =>
                    call P f_spec_l03Is [x75_90] w67 fun x76_91 w92 =>
                    Ext w67 w92 ∧ sto P 57 x2_1 x74_89 w92 fun w94 =>
                    ldc P 57 x2_1 w94 fun r95 =>
                    K (.tuple #[r95, x76_91]) w94))) ∧
            grd x52_52 false
              (fda P 55 x7_38 1 w50 fun x54_96 =>
                  ld P 53 x54_96 w50 fun x55_97 =>
                  bl0 P .len #[53] 3 [x55_97] w50 fun x56_98 =>
                  bin P .gtr 3 false true x56_98 (.int .i64 1) w50 fun x57_99 =>
                  J53 x57_99 w50)
              (J53 undef w50)) ∧
            grd x47_47 false
              (ld P 55 x5_28 w45 fun x49_100 =>
                call P f_spec_l02Is [x49_100] w45 fun x50_101 w102 =>
                una P .not x50_101 w102 fun x51_103 =>
                J48 x51_103 w102)
              (J48 undef w45)) ∧
            grd x43_42 false
              (una P .not x41_37 w41 fun x46_104 =>
              J43 x46_104 w41)
              (J43 undef w41)))) ∧
      grd x13_9 true
        (idx P 9 a0 x4_7 w5 fun x17_105 =>
        bin P .neq 5 false true x17_105 (.int .u8 112) w5 fun x18_106 =>
        J10 x18_106 w5)
        (J10 undef w5)
def P_spec_l03Read : Plan := (.seq (.reg [.op (0, 2, false), .op (1, 0, false)]) (.seq (.reg [.op (0, 0, false)]) (.seq (.blk (.loop [4] 4193296 (.seq (.seq (.reg [.op (0, 0, false), .op (1, 0, false), .op (2, 0, false), .op (3, 0, false), .op (4, 0, false), .grp 4 true [(5, 0, false), (6, 0, false), (7, 0, false), (8, 0, false)] [18] 491520, .op (9, 0, false)]) (.cond .leaf .leaf)) (.blk (.reg [.op (0, 0, false), .op (1, 0, false), .op (2, 0, false)]))))) (.seq (.seq (.reg [.op (0, 0, false), .op (1, 0, false), .op (2, 0, false), .op (3, 0, false)]) (.cond (.seq (.reg [.op (0, 0, false), .op (1, 2, false), .op (2, 0, false)]) .leaf) .leaf)) (.seq (.reg [.op (0, 0, false), .op (1, 0, false), .op (2, 0, false), .op (3, 2, false), .op (4, 0, false), .op (5, 0, false), .op (6, 0, false), .op (7, 2, false), .op (8, 2, false), .op (9, 0, false)]) (.seq (.reg [.op (0, 0, false), .op (1, 0, false), .op (2, 0, false), .op (3, 0, false), .op (4, 2, false), .op (5, 0, false), .op (6, 0, false), .op (7, 0, false), .op (8, 2, false), .op (9, 2, false), .op (10, 0, false)]) (.seq (.seq (.reg [.op (0, 0, false), .op (1, 0, false), .op (2, 0, false), .grp 2 false [(3, 0, false), (4, 0, false)] [46] 105553116266496, .op (5, 0, false), .op (6, 0, false), .grp 6 false [(7, 0, false), (8, 2, false), (9, 0, false)] [51] 3940649673949184, .op (10, 0, false), .op (11, 0, false), .grp 11 false [(12, 0, false), (13, 0, false), (14, 0, false), (15, 0, false)] [57] 270215977642229760, .op (16, 0, false)]) (.cond (.seq (.reg [.op (0, 0, false), .op (1, 2, false), .op (2, 0, false)]) .leaf) .leaf)) (.seq (.reg [.op (0, 0, false), .op (1, 0, false), .op (2, 2, false), .op (3, 2, false)]) (.seq (.seq (.reg [.op (0, 0, false), .op (1, 0, false), .op (2, 0, false), .op (3, 0, false)]) (.cond (.reg [.op (0, 0, false), .op (1, 0, false), .op (2, 0, false), .op (3, 0, false), .op (4, 0, false), .op (5, 0, false), .op (6, 0, false), .op (7, 0, false), .op (8, 2, false)]) .leaf)) (.seq (.reg [.op (0, 0, false), .op (1, 0, false), .op (2, 2, true), .op (3, 2, false), .op (4, 0, false)]) .leaf))))))))))
theorem I_spec_l03Read {a0 : Value} {w : World} {K : Value → World → Prop} (h : D_spec_l03Read a0 w K) : call P f_spec_l03Read [a0] w K :=
  call_of_vc mixed Tryz.func191 (c := codeOf Tryz.f191) (by kernel_rfl) (by kernel_rfl) (p := P_spec_l03Read) (by kernel_rfl) (by rw [Tryz.ntmps191]; simp) (by
    have e : D_spec_l03Read a0 w K = vc P P_spec_l03Read (codeOf Tryz.f191) (env0 [a0]) w (retX P Tryz.f191.results.toList K) := by kernel_rfl
    exact e ▸ h)

/-- spec.l03Round -/
def D_spec_l03Round (a0 a1 : Value) (w : World) (K : Value → World → Prop) : Prop :=
  bx P 57 a0 w fun x2_1 w2 =>
  fda P 57 x2_1 0 w2 fun x13_3 =>
  fda P 55 x13_3 0 w2 fun x14_4 =>
  ld P 2 x14_4 w2 fun x15_5 =>
  bin P .eql 2 false true x15_5 (.int .i64 0) w2 fun x16_6 =>
  cnd x16_6
    (K (.tuple #[(.float .f32 0), (.int .i64 0)]) w2)
    (ld P 57 x2_1 w2 fun x18_7 =>
    call P f_spec_l03Multiple [x18_7, a1] w2 fun x20_8 w9 =>
    xtr P x20_8 0 w9 fun x21_10 =>
    xtr P x20_8 1 w9 fun x22_11 =>
    xtr P x20_8 2 w9 fun x23_12 =>
    alc P 55 w9 fun x6_13 w14 =>
    sto P 55 x6_13 x21_10 w14 fun w16 =>
    ld P 55 x6_13 w16 fun x24_17 =>
    call P f_spec_l02Length [x24_17] w16 fun x25_18 w19 =>
    bin P .add 2 false false x25_18 x22_11 w19 fun x27_20 =>
    bin P .gtr 2 false true x27_20 (.int .i64 128) w19 fun x28_21 =>
    cnd x28_21
      (fda P 57 x2_1 0 w19 fun x29_22 =>
      fda P 55 x29_22 0 w19 fun x30_23 =>
      ld P 2 x30_23 w19 fun x31_24 =>
      call P f_spec_l03Over [x31_24, a1] w19 fun x33_25 w26 =>
      K (.tuple #[x33_25, (.int .i64 5)]) w26)
      (fda P 55 x6_13 1 w19 fun x34_27 =>
      ld P 53 x34_27 w19 fun x35_28 =>
      bl0 P .len #[53] 3 [x35_28] w19 fun x36_29 =>
      bin P .sub 3 false true x36_29 (.int .i64 1) w19 fun x37_30 =>
      ∃ I31 : Nat → Value → Value → World → Prop, (∃ m70, I31 m70 (.float .f64 0) x37_30 w19) ∧ ∀ (m34 : Nat) (x9_35 : Value) (x10_36 : Value) (junk32 : Env) (w33 : World), I31 m34 x9_35 x10_36 w33 →
        bin P .geq 3 false true x10_36 (.int .i64 0) w33 fun x39_37 =>
        cnd x39_37
          (rbin P .mul 117 false true x9_35 (.float .f64 4715268809856909312) w33 fun x43_38 =>
          fda P 55 x6_13 1 w33 fun x44_39 =>
          ld P 53 x44_39 w33 fun x45_40 =>
          ixa P 53 x45_40 x10_36 w33 fun x47_41 =>
          ld P 2 x47_41 w33 fun x48_42 =>
          cnv P 2 117 x48_42 w33 fun x49_43 =>
          rbin P .add 117 false false x43_38 x49_43 w33 fun x50_44 =>
          bin P .sub 3 false true x10_36 (.int .i64 1) w33 fun x41_45 =>
          ∃ m46, m46 < m34 ∧ I31 m46 x50_44 x41_45 w33)
          (call P f_spec_l01Twos [x9_35, x22_11] w33 fun x53_47 w48 =>
          rcnv P 117 66 x53_47 w48 fun x54_49 =>
          ∃ J50 : Value → World → Prop, (∀ (x12_53 : Value) (junk51 : Env) (w52 : World), J50 x12_53 w52 →
            fda P 57 x2_1 0 w52 fun x66_54 =>
            fda P 55 x66_54 0 w52 fun x67_55 =>
            ld P 2 x67_55 w52 fun x68_56 =>
            bin P .lss 2 false true x68_56 (.int .i64 0) w52 fun x69_57 =>
            cnd x69_57
              (call P f_spec_l01Turned [x54_49] w52 fun x71_58 w59 =>
              K (.tuple #[x71_58, x12_53]) w59)
              (K (.tuple #[x54_49, x12_53]) w52)) ∧
            (una P .not x23_12 w48 fun x56_60 =>
            cnd x56_60
              (fda P 57 x2_1 0 w48 fun x57_61 =>
              ld P 55 x57_61 w48 fun x58_62 =>
              fda P 57 x2_1 1 w48 fun x60_63 =>
              ld P 2 x60_63 w48 fun x61_64 =>
              call P f_spec_l02Length [x58_62] w48 fun x59_65 w66 =>
              Ext w48 w66 ∧ bin P .add 2 false false x59_65 x61_64 w66 fun x62_67 =>
              bin P .leq 2 false true x62_67 (.int .i64 (-126)) w66 fun x63_68 =>
              cnd x63_68
                (bin P .add 2 false true (.int .i64 1) (.int .i64 2) w66 fun x65_69 =>
                J50 x65_69 w66)
                (J50 (.int .i64 1) w66))
              (J50 (.int .i64 0) w48)))))
def P_spec_l03Round : Plan := (.seq (.reg [.op (0, 2, false), .op (1, 0, false), .op (2, 0, false)]) (.seq (.seq (.reg [.op (0, 0, false), .op (1, 0, false), .op (2, 0, false), .op (3, 0, false)]) (.cond (.seq (.reg [.op (0, 0, false), .op (1, 0, false)]) .leaf) .leaf)) (.seq (.reg [.op (0, 0, false), .op (1, 0, false), .op (2, 2, false), .op (3, 0, false), .op (4, 0, false), .op (5, 0, false), .op (6, 0, false), .op (7, 2, false), .op (8, 2, false), .op (9, 0, false), .op (10, 0, false)]) (.seq (.seq (.reg [.op (0, 0, false), .op (1, 2, false), .op (2, 0, false), .op (3, 0, false), .op (4, 0, false)]) (.cond (.seq (.reg [.op (0, 0, false), .op (1, 0, false), .op (2, 0, false), .op (3, 0, false), .op (4, 2, false), .op (5, 0, false), .op (6, 0, false)]) .leaf) .leaf)) (.seq (.reg [.op (0, 0, false)]) (.seq (.seq (.reg [.op (0, 0, false), .op (1, 0, false), .op (2, 0, false), .op (3, 0, false), .op (4, 0, false)]) (.blk (.loop [9, 10] 2251524935779840 (.seq (.seq (.reg [.op (0, 0, false), .op (1, 0, false)]) (.cond .leaf .leaf)) (.seq (.blk (.reg [.op (0, 0, false), .op (1, 1, false), .op (2, 0, false), .op (3, 0, false), .op (4, 0, false), .op (5, 0, false), .op (6, 0, false), .op (7, 0, false), .op (8, 1, false), .op (9, 0, false)])) (.reg [.op (0, 0, false), .op (1, 0, false), .op (2, 0, false)])))))) (.seq (.reg [.op (0, 0, false), .op (1, 0, false), .op (2, 2, false), .op (3, 1, false), .op (4, 0, false), .op (5, 0, false)]) (.cut [12] 73750947497819246592 (.seq (.reg [.op (0, 0, false), .op (1, 0, false)]) (.cond (.seq (.reg [.op (0, 0, false)]) (.seq (.reg [.op (0, 0, false), .op (1, 0, false), .op (3, 0, false), .op (4, 0, false), .op (2, 2, true), .op (5, 0, false), .op (6, 0, false)]) (.cond (.reg [.op (0, 0, false), .op (1, 0, false), .op (2, 0, false)]) .leaf))) .leaf)) (.seq (.seq (.reg [.op (0, 0, false), .op (1, 0, false), .op (2, 0, false), .op (3, 0, false)]) (.cond (.reg [.op (0, 0, false), .op (1, 2, false), .op (2, 0, false)]) .leaf)) (.seq (.reg [.op (0, 0, false), .op (1, 0, false), .op (2, 0, false), .op (3, 0, false)]) .leaf))))))))))
theorem I_spec_l03Round {a0 a1 : Value} {w : World} {K : Value → World → Prop} (h : D_spec_l03Round a0 a1 w K) : call P f_spec_l03Round [a0, a1] w K :=
  call_of_vc mixed Tryz.func192 (c := codeOf Tryz.f192) (by kernel_rfl) (by kernel_rfl) (p := P_spec_l03Round) (by kernel_rfl) (by rw [Tryz.ntmps192]; simp) (by
    have e : D_spec_l03Round a0 a1 w K = vc P P_spec_l03Round (codeOf Tryz.f192) (env0 [a0, a1]) w (retX P Tryz.f192.results.toList K) := by kernel_rfl
    exact e ▸ h)

/-- spec.l03Multiple -/
def D_spec_l03Multiple (a0 a1 : Value) (w : World) (K : Value → World → Prop) : Prop :=
  bx P 57 a0 w fun x2_1 w2 =>
  alc P 55 w2 fun x4_3 w4 =>
  fda P 57 x2_1 0 w4 fun x12_5 =>
  ld P 55 x12_5 w4 fun x13_6 =>
  call P f_spec_l02Abs [x13_6] w4 fun x14_7 w8 =>
  alc P 55 w8 fun x7_9 w10 =>
  sto P 55 x7_9 x14_7 w10 fun w12 =>
  ld P 55 x7_9 w12 fun x15_13 =>
  fda P 57 x2_1 1 w12 fun x17_14 =>
  ld P 2 x17_14 w12 fun x18_15 =>
  call P f_spec_l02Length [x15_13] w12 fun x16_16 w17 =>
  Ext w12 w17 ∧ bin P .add 2 false false x16_16 x18_15 w17 fun x19_18 =>
  bin P .sub 2 false true x19_18 (.int .i64 24) w17 fun x20_19 =>
  bl0 P .max #[2, 2] 2 [x20_19, (.int .i64 (-149))] w17 fun x21_20 =>
  fda P 57 x2_1 1 w17 fun x23_21 =>
  ld P 2 x23_21 w17 fun x24_22 =>
  bin P .sub 2 false false x21_20 x24_22 w17 fun x25_23 =>
  bin P .leq 2 false true x25_23 (.int .i64 0) w17 fun x27_24 =>
  cnd x27_24
    (ld P 55 x7_9 w17 fun x28_25 =>
    una P .neg x25_23 w17 fun x30_26 =>
    call P f_spec_l02Left [x28_25, x30_26] w17 fun x31_27 w28 =>
    sto P 55 x4_3 x31_27 w28 fun w30 =>
    ldc P 55 x4_3 w30 fun r31 =>
    K (.tuple #[r31, x21_20, (.bool true)]) w30)
    (ld P 55 x7_9 w17 fun x33_32 =>
    call P f_spec_l02Cut [x33_32, x25_23] w17 fun x35_33 w34 =>
    alc P 55 w34 fun x10_35 w36 =>
    sto P 55 x10_35 x35_33 w36 fun w38 =>
    ∃ J39 : Value → World → Prop, (∀ (x11_42 : Value) (junk40 : Env) (w41 : World), J39 x11_42 w41 →
      cnd x11_42
        (ld P 55 x10_35 w41 fun x68_43 =>
        call P f_spec_l02Of [(.int .i64 1)] w41 fun x69_44 w45 =>
        Ext w41 w45 ∧ call P f_spec_l02Add [x68_43, x69_44] w45 fun x70_46 w47 =>
        sto P 55 x10_35 x70_46 w47 fun w49 =>
        ld P 55 x10_35 w49 fun x71_50 =>
        sto P 55 x4_3 x71_50 w49 fun w52 =>
        ldc P 55 x4_3 w52 fun r53 =>
        K (.tuple #[r53, x21_20, (.bool false)]) w52)
        (ld P 55 x10_35 w41 fun x71_54 =>
        sto P 55 x4_3 x71_54 w41 fun w56 =>
        ldc P 55 x4_3 w56 fun r57 =>
        K (.tuple #[r57, x21_20, (.bool false)]) w56)) ∧
      (bin P .eql 2 false true a1 (.int .i64 0) w38 fun x38_58 =>
      cnd x38_58
        (ld P 55 x7_9 w38 fun x39_59 =>
        bin P .sub 2 false true x25_23 (.int .i64 1) w38 fun x41_60 =>
        call P f_spec_l02Bit [x39_59, x41_60] w38 fun x42_61 w62 =>
        bin P .eql 2 false true x42_61 (.int .i64 1) w62 fun x43_63 =>
        ∃ J64 : Value → World → Prop, (∀ (x47_65 : Value) (junk67 : Env) (w66 : World), J64 x47_65 w66 →
          ∃ J68 : Value → World → Prop, (∀ (x50_69 : Value) (junk71 : Env) (w70 : World), J68 x50_69 w70 →
          ∃ J72 : Value → World → Prop, (∀ (x51_73 : Value) (junk75 : Env) (w74 : World), J72 x51_73 w74 →
          pick x43_63 x51_73 (.bool false) fun x52_76 =>
              J39 x52_76 w74) ∧
          grd x43_63 true
            (pick x47_65 (.bool true) x50_69 fun x51_77 =>
                J72 x51_77 w70)
            (J72 undef w70)) ∧
          grd x47_65 false
            (ld P 55 x10_35 w66 fun x48_78 =>
              call P f_spec_l02Bit [x48_78, (.int .i64 0)] w66 fun x49_79 w80 =>
              bin P .eql 2 false true x49_79 (.int .i64 1) w80 fun x50_81 =>
              J68 x50_81 w80)
            (J68 undef w66)) ∧
          grd x43_63 true
            (bin P .gtr 2 false true x25_23 (.int .i64 1) w62 fun x46_82 =>
            J64 x46_82 w62)
            (J64 undef w62))
        (bin P .eql 2 false true a1 (.int .i64 1) w38 fun x54_83 =>
        cnd x54_83
          (fda P 57 x2_1 0 w38 fun x55_84 =>
          fda P 55 x55_84 0 w38 fun x56_85 =>
          ld P 2 x56_85 w38 fun x57_86 =>
          bin P .lss 2 false true x57_86 (.int .i64 0) w38 fun x58_87 =>
          J39 x58_87 w38)
          (bin P .eql 2 false true a1 (.int .i64 2) w38 fun x60_88 =>
          cnd x60_88
            (fda P 57 x2_1 0 w38 fun x61_89 =>
            fda P 55 x61_89 0 w38 fun x62_90 =>
            ld P 2 x62_90 w38 fun x63_91 =>
            bin P .gtr 2 false true x63_91 (.int .i64 0) w38 fun x64_92 =>
            J39 x64_92 w38)
            (bin P .eql 2 false true a1 (.int .i64 4) w38 fun x66_93 =>
            cnd x66_93
              (J39 (.bool true) w38)
              (J39 (.bool false) w38))))))
def P_spec_l03Multiple : Plan := (.seq (.reg [.op (0, 2, false), .op (1, 2, false), .op (2, 0, false), .op (3, 0, false)]) (.seq (.reg [.op (0, 0, false), .op (1, 0, false), .op (2, 2, false), .op (3, 2, false), .op (4, 2, false)]) (.seq (.reg [.op (0, 0, false), .op (2, 0, false), .op (3, 0, false), .op (1, 2, true), .op (4, 0, false), .op (5, 0, false), .op (6, 0, false), .op (7, 0, false)]) (.seq (.reg [.op (0, 0, false), .op (1, 0, false), .op (2, 0, false), .op (3, 0, false), .op (4, 0, false)]) (.seq (.seq (.reg [.op (0, 0, false), .op (1, 0, false)]) (.cond (.seq (.reg [.op (0, 0, false), .op (1, 0, false), .op (2, 0, false), .op (3, 2, false), .op (4, 0, false), .op (5, 2, false), .op (6, 0, false), .op (7, 0, false)]) .leaf) .leaf)) (.seq (.reg [.op (0, 0, false), .op (1, 0, false), .op (2, 2, false), .op (3, 2, false), .op (4, 2, false), .op (5, 0, false)]) (.cut [11] 147573952520956938240 (.seq (.reg [.op (0, 0, false)]) (.blk (.seq (.reg [.op (0, 0, false), .op (1, 0, false)]) (.cond (.reg [.op (0, 0, false), .op (1, 0, false), .op (2, 0, false), .op (3, 2, false), .op (4, 0, false), .op (5, 0, false), .grp 5 true [(6, 0, false), (7, 0, false), (8, 0, false)] [47] 246290604621824, .grp 8 false [(9, 0, false), (10, 2, false), (11, 0, false)] [50] 1970324836974592, .grp 5 true [(12, 0, false)] [51] 2251799813685248, .op (13, 0, false), .op (14, 0, false)]) (.seq (.reg [.op (0, 0, false), .op (1, 0, false)]) (.cond (.reg [.op (0, 0, false), .op (1, 0, false), .op (2, 0, false), .op (3, 0, false), .op (4, 0, false)]) (.seq (.reg [.op (0, 0, false), .op (1, 0, false)]) (.cond (.reg [.op (0, 0, false), .op (1, 0, false), .op (2, 0, false), .op (3, 0, false), .op (4, 0, false)]) (.seq (.reg [.op (0, 0, false), .op (1, 0, false)]) (.cond (.reg [.op (0, 0, false)]) .leaf)))))))))) (.seq (.seq (.reg [.op (0, 0, false)]) (.cond (.reg [.op (0, 0, false), .op (1, 2, true), .op (2, 2, false), .op (3, 2, false)]) .leaf)) (.seq (.reg [.op (0, 0, false), .op (1, 0, false), .op (2, 2, false), .op (3, 0, false), .op (4, 0, false)]) .leaf)))))))))
theorem I_spec_l03Multiple {a0 a1 : Value} {w : World} {K : Value → World → Prop} (h : D_spec_l03Multiple a0 a1 w K) : call P f_spec_l03Multiple [a0, a1] w K :=
  call_of_vc mixed Tryz.func236 (c := codeOf Tryz.f236) (by kernel_rfl) (by kernel_rfl) (p := P_spec_l03Multiple) (by kernel_rfl) (by rw [Tryz.ntmps236]; simp) (by
    have e : D_spec_l03Multiple a0 a1 w K = vc P P_spec_l03Multiple (codeOf Tryz.f236) (env0 [a0, a1]) w (retX P Tryz.f236.results.toList K) := by kernel_rfl
    exact e ▸ h)

/-- spec.l03Over -/
def D_spec_l03Over (a0 a1 : Value) (w : World) (K : Value → World → Prop) : Prop :=
  call P f_spec_l01Huge [] w fun x6_1 w2 =>
  ∃ J3 : Value → World → Prop, (∀ (x5_6 : Value) (junk4 : Env) (w5 : World), J3 x5_6 w5 →
    bin P .lss 2 false true a0 (.int .i64 0) w5 fun x27_7 =>
    cnd x27_7
      (una P .neg x5_6 w5 fun x29_8 =>
      K x29_8 w5)
      (K x5_6 w5)) ∧
    (bin P .eql 2 false true a1 (.int .i64 3) w2 fun x8_9 =>
    ∃ J10 : Value → World → Prop, (∀ (x12_11 : Value) (junk13 : Env) (w12 : World), J10 x12_11 w12 →
      ∃ J14 : Value → World → Prop, (∀ (x14_15 : Value) (junk17 : Env) (w16 : World), J14 x14_15 w16 →
      ∃ J18 : Value → World → Prop, (∀ (x15_19 : Value) (junk21 : Env) (w20 : World), J18 x15_19 w20 →
      pick x8_9 (.bool true) x15_19 fun x16_22 =>
          ∃ J23 : Value → World → Prop, (∀ (x20_24 : Value) (junk26 : Env) (w25 : World), J23 x20_24 w25 →
      ∃ J27 : Value → World → Prop, (∀ (x22_28 : Value) (junk30 : Env) (w29 : World), J27 x22_28 w29 →
      ∃ J31 : Value → World → Prop, (∀ (x23_32 : Value) (junk34 : Env) (w33 : World), J31 x23_32 w33 →
      pick x16_22 (.bool true) x23_32 fun x24_35 =>
                cnd x24_35
                  (call P f_spec_l01At [(.int .i64 2139095039)] w33 fun x25_36 w37 =>
                  J3 x25_36 w37)
                  (J3 x6_1 w33)) ∧
      grd x16_22 false
        (pick x20_24 x22_28 (.bool false) fun x23_38 =>
                  J31 x23_38 w29)
        (J31 undef w29)) ∧
      grd x20_24 true
        (bin P .lss 2 false true a0 (.int .i64 0) w25 fun x22_39 =>
                J27 x22_39 w25)
        (J27 undef w25)) ∧
      grd x16_22 false
        (bin P .eql 2 false true a1 (.int .i64 2) w20 fun x19_40 =>
              J23 x19_40 w20)
        (J23 undef w20)) ∧
      grd x8_9 false
        (pick x12_11 x14_15 (.bool false) fun x15_41 =>
            J18 x15_41 w16)
        (J18 undef w16)) ∧
      grd x12_11 true
        (bin P .gtr 2 false true a0 (.int .i64 0) w12 fun x14_42 =>
          J14 x14_42 w12)
        (J14 undef w12)) ∧
      grd x8_9 false
        (bin P .eql 2 false true a1 (.int .i64 1) w2 fun x11_43 =>
        J10 x11_43 w2)
        (J10 undef w2))
def P_spec_l03Over : Plan := (.seq (.reg [.op (0, 0, false)]) (.seq (.reg [.op (0, 2, false), .op (1, 0, false)]) (.cut [5] 67108768 (.seq (.reg [.op (0, 0, false), .op (1, 0, false), .op (2, 0, false), .grp 2 false [(3, 0, false), (4, 0, false), (5, 0, false)] [12] 7168, .grp 5 true [(6, 0, false), (7, 0, false)] [14] 24576, .grp 2 false [(8, 0, false)] [15] 32768, .op (9, 0, false), .op (10, 0, false), .grp 10 false [(11, 0, false), (12, 0, false), (13, 0, false)] [20] 1835008, .grp 13 true [(14, 0, false), (15, 0, false)] [22] 6291456, .grp 10 false [(16, 0, false)] [23] 8388608, .op (17, 0, false)]) (.cond (.reg [.op (0, 2, false), .op (1, 0, false)]) .leaf)) (.seq (.seq (.reg [.op (0, 0, false), .op (1, 0, false)]) (.cond (.seq (.reg [.op (0, 0, false), .op (1, 0, false), .op (2, 0, false)]) .leaf) .leaf)) (.seq (.reg [.op (0, 0, false), .op (1, 0, false)]) .leaf)))))
theorem I_spec_l03Over {a0 a1 : Value} {w : World} {K : Value → World → Prop} (h : D_spec_l03Over a0 a1 w K) : call P f_spec_l03Over [a0, a1] w K :=
  call_of_vc mixed Tryz.func238 (c := codeOf Tryz.f238) (by kernel_rfl) (by kernel_rfl) (p := P_spec_l03Over) (by kernel_rfl) (by rw [Tryz.ntmps238]; simp) (by
    have e : D_spec_l03Over a0 a1 w K = vc P P_spec_l03Over (codeOf Tryz.f238) (env0 [a0, a1]) w (retX P Tryz.f238.results.toList K) := by kernel_rfl
    exact e ▸ h)

end Go.Proofs.YtjompmflommadaaGreatDoor

/- Written by a program (gen.py): what is left to show of each function's call. -/
set_option linter.unusedVariables false
set_option maxRecDepth 20000
namespace Go.Proofs.YtjompmflommadaaGreatDoor
open Go Go.Vc

/-- math.Ldexp -/
def D_math_Ldexp (a0 a1 : Value) (w : World) (K : Value → World → Prop) : Prop :=
  cnd (.bool false)
    (call P f_math_archLdexp [a0, a1] w fun x7_1 w2 =>
    K x7_1 w2)
    (call P f_math_ldexp [a0, a1] w fun x10_3 w4 =>
    K x10_3 w4)
def P_math_Ldexp : Plan := (.seq (.reg [.op (0, 0, false)]) (.seq (.cond (.seq (.reg [.op (0, 0, false), .op (1, 0, false), .op (2, 2, false), .op (3, 0, false)]) .leaf) .leaf) (.seq (.reg [.op (0, 0, false), .op (1, 0, false), .op (2, 2, false), .op (3, 0, false)]) .leaf)))
theorem I_math_Ldexp {a0 a1 : Value} {w : World} {K : Value → World → Prop} (h : D_math_Ldexp a0 a1 w K) : call P f_math_Ldexp [a0, a1] w K :=
  call_of_vc mixed Tryz.func267 (c := codeOf Tryz.f267) (by kernel_rfl) (by kernel_rfl) (p := P_math_Ldexp) (by kernel_rfl) (by rw [Tryz.ntmps267]; simp) (by
    have e : D_math_Ldexp a0 a1 w K = vc P P_math_Ldexp (codeOf Tryz.f267) (env0 [a0, a1]) w (retX P Tryz.f267.results.toList K) := by kernel_rfl
    exact e ▸ h)

/-- math.Inf -/
def D_math_Inf (a0 : Value) (w : World) (K : Value → World → Prop) : Prop :=
  bin P .geq 3 false true a0 (.int .i64 0) w fun x5_1 =>
  cnd x5_1
    (call P f_math_Float64frombits [(.int .u64 9218868437227405312)] w fun x7_2 w3 =>
    K x7_2 w3)
    (call P f_math_Float64frombits [(.int .u64 18442240474082181120)] w fun x7_4 w5 =>
    K x7_4 w5)
def P_math_Inf : Plan := (.seq (.reg [.op (0, 0, false)]) (.seq (.reg [.op (0, 0, false)]) (.seq (.seq (.reg [.op (0, 0, false), .op (1, 0, false)]) (.cond (.reg [.op (0, 0, false)]) (.reg [.op (0, 0, false)]))) (.seq (.reg [.op (0, 0, false), .op (1, 2, false), .op (2, 0, false)]) .leaf))))
theorem I_math_Inf {a0 : Value} {w : World} {K : Value → World → Prop} (h : D_math_Inf a0 w K) : call P f_math_Inf [a0] w K :=
  call_of_vc mixed Tryz.func282 (c := codeOf Tryz.f282) (by kernel_rfl) (by kernel_rfl) (p := P_math_Inf) (by kernel_rfl) (by rw [Tryz.ntmps282]; simp) (by
    have e : D_math_Inf a0 w K = vc P P_math_Inf (codeOf Tryz.f282) (env0 [a0]) w (retX P Tryz.f282.results.toList K) := by kernel_rfl
    exact e ▸ h)

/-- math.ldexp -/
def D_math_ldexp (a0 a1 : Value) (w : World) (K : Value → World → Prop) : Prop :=
  bin P .eql 117 false true a0 (.float .f64 0) w fun x10_1 =>
  cnd x10_1
    (K a0 w)
    (call P f_math_IsInf [a0, (.int .i64 0)] w fun x14_2 w3 =>
    ∃ J4 : Value → World → Prop, (∀ (x17_5 : Value) (junk7 : Env) (w6 : World), J4 x17_5 w6 →
      pick x14_2 (.bool true) x17_5 fun x18_8 =>
      cnd x18_8
        (K a0 w6)
        (call P f_math_normalize [a0] w6 fun x22_9 w10 =>
        xtr P x22_9 0 w10 fun x23_11 =>
        xtr P x22_9 1 w10 fun x24_12 =>
        bin P .add 3 false false a1 x24_12 w10 fun x27_13 =>
        call P f_math_Float64bits [x23_11] w10 fun x29_14 w15 =>
        bin P .shr 178 false true x29_14 (.int .u64 52) w15 fun x32_16 =>
        cnv P 178 3 x32_16 w15 fun x33_17 =>
        bin P .and 3 false true x33_17 (.int .i64 2047) w15 fun x34_18 =>
        bin P .sub 3 false true x34_18 (.int .i64 1023) w15 fun x35_19 =>
        bin P .add 3 false false x27_13 x35_19 w15 fun x36_20 =>
        bin P .lss 3 false true x36_20 (.int .i64 (-1075)) w15 fun x38_21 =>
        cnd x38_21
          (call P f_math_Copysign [(.float .f64 0), x23_11] w15 fun x40_22 w23 =>
          K x40_22 w23)
          (bin P .gtr 3 false true x36_20 (.int .i64 1023) w15 fun x42_24 =>
          cnd x42_24
            (bin P .lss 117 false true x23_11 (.float .f64 0) w15 fun x44_25 =>
            cnd x44_25
              (call P f_math_Inf [(.int .i64 (-1))] w15 fun x45_26 w27 =>
              K x45_26 w27)
              (call P f_math_Inf [(.int .i64 1)] w15 fun x46_28 w29 =>
              K x46_28 w29))
            (∃ J30 : Value → Value → World → Prop, (∀ (x1_33 : Value) (x7_34 : Value) (junk31 : Env) (w32 : World), J30 x1_33 x7_34 w32 →
              bin P .andNot 178 false true x29_14 (.int .u64 9218868437227405312) w32 fun x52_35 =>
              bin P .add 3 false true x1_33 (.int .i64 1023) w32 fun x55_36 =>
              cnv P 3 178 x55_36 w32 fun x56_37 =>
              bin P .shl 178 false true x56_37 (.int .u64 52) w32 fun x57_38 =>
              bin P .or 178 false false x52_35 x57_38 w32 fun x58_39 =>
              call P f_math_Float64frombits [x58_39] w32 fun x61_40 w41 =>
              rbin P .mul 117 false false x7_34 x61_40 w41 fun x62_42 =>
              K x62_42 w41) ∧
              (bin P .lss 3 false true x36_20 (.int .i64 (-1022)) w15 fun x48_43 =>
              cnd x48_43
                (bin P .add 3 false true x36_20 (.int .i64 53) w15 fun x50_44 =>
                J30 x50_44 (.float .f64 4368491638549381120) w15)
                (J30 x36_20 (.float .f64 4607182418800017408) w15)))))) ∧
      grd x14_2 false
        (call P f_math_IsNaN [a0] w3 fun x17_45 w46 =>
        J4 x17_45 w46)
        (J4 undef w3))
def P_math_ldexp : Plan := (.seq (.reg [.op (0, 0, false)]) (.seq (.blk (.seq (.reg [.op (0, 0, false), .op (1, 0, false), .op (2, 0, false)]) (.cond (.seq (.reg [.op (0, 0, false), .op (1, 0, false)]) .leaf) (.seq (.reg [.op (0, 0, false), .op (1, 2, false), .op (2, 0, false), .grp 2 false [(3, 0, false), (4, 2, false)] [17] 196608, .op (5, 0, false), .op (6, 0, false)]) (.cond (.seq (.reg [.op (0, 0, false), .op (1, 0, false)]) .leaf) .leaf))))) (.seq (.reg [.op (0, 0, false), .op (1, 2, false), .op (2, 0, false), .op (3, 0, false), .op (4, 0, false), .op (5, 0, false), .op (6, 0, false)]) (.seq (.reg [.op (0, 0, false), .op (1, 0, false), .op (2, 0, false), .op (3, 0, false)]) (.seq (.reg [.op (0, 0, false), .op (1, 2, false), .op (2, 0, false)]) (.seq (.reg [.op (0, 0, false), .op (1, 0, false), .op (2, 0, false), .op (3, 0, false), .op (4, 0, false), .op (5, 0, false), .op (6, 0, false), .op (7, 0, false)]) (.seq (.seq (.reg [.op (0, 0, false), .op (1, 0, false)]) (.cond (.seq (.reg [.op (0, 0, false), .op (1, 2, false), .op (2, 0, false)]) .leaf) .leaf)) (.seq (.seq (.reg [.op (0, 0, false), .op (1, 0, false)]) (.cond (.seq (.seq (.reg [.op (0, 0, false), .op (1, 0, false)]) (.cond (.seq (.reg [.op (0, 2, false), .op (1, 0, false)]) .leaf) .leaf)) (.seq (.reg [.op (0, 2, false), .op (1, 0, false)]) .leaf)) .leaf)) (.seq (.reg [.op (0, 0, false)]) (.cut [1, 7] 2111062325330050 (.seq (.reg [.op (0, 0, false), .op (1, 0, false)]) (.cond (.seq (.reg [.op (0, 0, false), .op (1, 0, false), .op (2, 0, false)]) (.reg [.op (0, 0, false)])) .leaf)) (.seq (.reg [.op (0, 0, false), .op (1, 0, false), .op (2, 0, false)]) (.seq (.reg [.op (0, 0, false), .op (1, 0, false), .op (2, 0, false), .op (3, 0, false), .op (4, 0, false), .op (5, 0, false), .op (6, 0, false)]) (.seq (.reg [.op (0, 0, false), .op (1, 0, false), .op (2, 2, false), .op (3, 1, false), .op (4, 0, false)]) .leaf)))))))))))))
theorem I_math_ldexp {a0 a1 : Value} {w : World} {K : Value → World → Prop} (h : D_math_ldexp a0 a1 w K) : call P f_math_ldexp [a0, a1] w K :=
  call_of_vc mixed Tryz.func284 (c := codeOf Tryz.f284) (by kernel_rfl) (by kernel_rfl) (p := P_math_ldexp) (by kernel_rfl) (by rw [Tryz.ntmps284]; simp) (by
    have e : D_math_ldexp a0 a1 w K = vc P P_math_ldexp (codeOf Tryz.f284) (env0 [a0, a1]) w (retX P Tryz.f284.results.toList K) := by kernel_rfl
    exact e ▸ h)

/-- math.IsInf -/
def D_math_IsInf (a0 a1 : Value) (w : World) (K : Value → World → Prop) : Prop :=
  bin P .eql 3 false true a1 (.int .i64 0) w fun x6_1 =>
  cnd x6_1
    (call P f_math_Abs [a0] w fun x8_2 w3 =>
    bin P .gtr 117 false true x8_2 (.float .f64 9218868437227405311) w3 fun x14_4 =>
    K x14_4 w3)
    (bin P .lss 3 false true a1 (.int .i64 0) w fun x10_5 =>
    cnd x10_5
      (una P .neg a0 w fun x12_6 =>
      bin P .gtr 117 false true x12_6 (.float .f64 9218868437227405311) w fun x14_7 =>
      K x14_7 w)
      (bin P .gtr 117 false true a0 (.float .f64 9218868437227405311) w fun x14_8 =>
      K x14_8 w))
def P_math_IsInf : Plan := (.seq (.reg [.op (0, 0, false)]) (.seq (.seq (.reg [.op (0, 0, false), .op (1, 0, false)]) (.cond (.reg [.op (0, 0, false), .op (1, 2, false), .op (2, 0, false)]) (.seq (.reg [.op (0, 0, false), .op (1, 0, false)]) (.cond (.reg [.op (0, 0, false), .op (1, 0, false), .op (2, 0, false)]) .leaf)))) (.seq (.reg [.op (0, 0, false), .op (1, 0, false), .op (2, 0, false)]) .leaf)))
theorem I_math_IsInf {a0 a1 : Value} {w : World} {K : Value → World → Prop} (h : D_math_IsInf a0 a1 w K) : call P f_math_IsInf [a0, a1] w K :=
  call_of_vc mixed Tryz.func293 (c := codeOf Tryz.f293) (by kernel_rfl) (by kernel_rfl) (p := P_math_IsInf) (by kernel_rfl) (by rw [Tryz.ntmps293]; simp) (by
    have e : D_math_IsInf a0 a1 w K = vc P P_math_IsInf (codeOf Tryz.f293) (env0 [a0, a1]) w (retX P Tryz.f293.results.toList K) := by kernel_rfl
    exact e ▸ h)

/-- math.IsNaN -/
def D_math_IsNaN (a0 : Value) (w : World) (K : Value → World → Prop) : Prop :=
  bin P .neq 117 false false a0 a0 w fun x5_1 =>
  K x5_1 w
def P_math_IsNaN : Plan := (.seq (.reg [.op (0, 0, false)]) (.seq (.reg [.op (0, 0, false), .op (1, 0, false), .op (2, 0, false), .op (3, 0, false)]) .leaf))
theorem I_math_IsNaN {a0 : Value} {w : World} {K : Value → World → Prop} (h : D_math_IsNaN a0 w K) : call P f_math_IsNaN [a0] w K :=
  call_of_vc mixed Tryz.func294 (c := codeOf Tryz.f294) (by kernel_rfl) (by kernel_rfl) (p := P_math_IsNaN) (by kernel_rfl) (by rw [Tryz.ntmps294]; simp) (by
    have e : D_math_IsNaN a0 w K = vc P P_math_IsNaN (codeOf Tryz.f294) (env0 [a0]) w (retX P Tryz.f294.results.toList K) := by kernel_rfl
    exact e ▸ h)

/-- math.normalize -/
def D_math_normalize (a0 : Value) (w : World) (K : Value → World → Prop) : Prop :=
  call P f_math_Abs [a0] w fun x5_1 w2 =>
  bin P .lss 117 false true x5_1 (.float .f64 4503599627370496) w2 fun x6_3 =>
  cnd x6_3
    (rbin P .mul 117 false true a0 (.float .f64 4841369599423283200) w2 fun x8_4 =>
    K (.tuple #[x8_4, (.int .i64 (-52))]) w2)
    (K (.tuple #[a0, (.int .i64 0)]) w2)
def P_math_normalize : Plan := (.seq (.reg [.op (0, 0, false), .op (1, 0, false)]) (.seq (.seq (.reg [.op (0, 0, false), .op (1, 2, false), .op (2, 0, false)]) (.cond (.seq (.reg [.op (0, 0, false), .op (1, 1, false), .op (2, 0, false), .op (3, 0, false)]) .leaf) .leaf)) (.seq (.reg [.op (0, 0, false), .op (1, 0, false), .op (2, 0, false)]) .leaf)))
theorem I_math_normalize {a0 : Value} {w : World} {K : Value → World → Prop} (h : D_math_normalize a0 w K) : call P f_math_normalize [a0] w K :=
  call_of_vc mixed Tryz.func295 (c := codeOf Tryz.f295) (by kernel_rfl) (by kernel_rfl) (p := P_math_normalize) (by kernel_rfl) (by rw [Tryz.ntmps295]; simp) (by
    have e : D_math_normalize a0 w K = vc P P_math_normalize (codeOf Tryz.f295) (env0 [a0]) w (retX P Tryz.f295.results.toList K) := by kernel_rfl
    exact e ▸ h)

/-- math.Copysign -/
def D_math_Copysign (a0 a1 : Value) (w : World) (K : Value → World → Prop) : Prop :=
  call P f_math_Float64bits [a0] w fun x6_1 w2 =>
  bin P .andNot 178 false true x6_1 (.int .u64 9223372036854775808) w2 fun x7_3 =>
  call P f_math_Float64bits [a1] w2 fun x9_4 w5 =>
  bin P .and 178 false true x9_4 (.int .u64 9223372036854775808) w5 fun x10_6 =>
  bin P .or 178 false false x7_3 x10_6 w5 fun x11_7 =>
  call P f_math_Float64frombits [x11_7] w5 fun x12_8 w9 =>
  K x12_8 w9
def P_math_Copysign : Plan := (.seq (.reg [.op (0, 0, false)]) (.seq (.reg [.op (0, 0, false), .op (1, 2, false), .op (2, 0, false), .op (3, 0, false), .op (4, 2, false), .op (5, 0, false), .op (6, 0, false), .op (7, 2, false), .op (8, 0, false)]) .leaf))
theorem I_math_Copysign {a0 a1 : Value} {w : World} {K : Value → World → Prop} (h : D_math_Copysign a0 a1 w K) : call P f_math_Copysign [a0, a1] w K :=
  call_of_vc mixed Tryz.func297 (c := codeOf Tryz.f297) (by kernel_rfl) (by kernel_rfl) (p := P_math_Copysign) (by kernel_rfl) (by rw [Tryz.ntmps297]; simp) (by
    have e : D_math_Copysign a0 a1 w K = vc P P_math_Copysign (codeOf Tryz.f297) (env0 [a0, a1]) w (retX P Tryz.f297.results.toList K) := by kernel_rfl
    exact e ▸ h)

/-- math.Abs -/
def D_math_Abs (a0 : Value) (w : World) (K : Value → World → Prop) : Prop :=
  call P f_math_Float64bits [a0] w fun x4_1 w2 =>
  bin P .andNot 178 false true x4_1 (.int .u64 9223372036854775808) w2 fun x5_3 =>
  call P f_math_Float64frombits [x5_3] w2 fun x6_4 w5 =>
  K x6_4 w5
def P_math_Abs : Plan := (.seq (.reg [.op (0, 0, false)]) (.seq (.reg [.op (0, 0, false), .op (1, 2, false), .op (2, 0, false), .op (3, 2, false), .op (4, 0, false)]) .leaf))
theorem I_math_Abs {a0 : Value} {w : World} {K : Value → World → Prop} (h : D_math_Abs a0 w K) : call P f_math_Abs [a0] w K :=
  call_of_vc mixed Tryz.func301 (c := codeOf Tryz.f301) (by kernel_rfl) (by kernel_rfl) (p := P_math_Abs) (by kernel_rfl) (by rw [Tryz.ntmps301]; simp) (by
    have e : D_math_Abs a0 w K = vc P P_math_Abs (codeOf Tryz.f301) (env0 [a0]) w (retX P Tryz.f301.results.toList K) := by kernel_rfl
    exact e ▸ h)

/-- math/bits.Len64 -/
def D_math_bits_Len64 (a0 : Value) (w : World) (K : Value → World → Prop) : Prop :=
  ∃ J1 : Value → Value → World → Prop, (∀ (x0_4 : Value) (x2_5 : Value) (junk2 : Env) (w3 : World), J1 x0_4 x2_5 w3 →
    ∃ J6 : Value → Value → World → Prop, (∀ (x0_9 : Value) (x2_10 : Value) (junk7 : Env) (w8 : World), J6 x0_9 x2_10 w8 →
      ∃ J11 : Value → Value → World → Prop, (∀ (x0_14 : Value) (x2_15 : Value) (junk12 : Env) (w13 : World), J11 x0_14 x2_15 w13 →
        cnv P 178 5 x0_14 w13 fun x21_16 =>
        idx P 9 (.string ⟨#[0, 1, 2, 2, 3, 3, 3, 3, 4, 4, 4, 4, 4, 4, 4, 4, 5, 5, 5, 5, 5, 5, 5, 5, 5, 5, 5, 5, 5, 5, 5, 5, 6, 6, 6, 6, 6, 6, 6, 6, 6, 6, 6, 6, 6, 6, 6, 6, 6, 6, 6, 6, 6, 6, 6, 6, 6, 6, 6, 6, 6, 6, 6, 6, 7, 7, 7, 7, 7, 7, 7, 7, 7, 7, 7, 7, 7, 7, 7, 7, 7, 7, 7, 7, 7, 7, 7, 7, 7, 7, 7, 7, 7, 7, 7, 7, 7, 7, 7, 7, 7, 7, 7, 7, 7, 7, 7, 7, 7, 7, 7, 7, 7, 7, 7, 7, 7, 7, 7, 7, 7, 7, 7, 7, 7, 7, 7, 7, 8, 8, 8, 8, 8, 8, 8, 8, 8, 8, 8, 8, 8, 8, 8, 8, 8, 8, 8, 8, 8, 8, 8, 8, 8, 8, 8, 8, 8, 8, 8, 8, 8, 8, 8, 8, 8, 8, 8, 8, 8, 8, 8, 8, 8, 8, 8, 8, 8, 8, 8, 8, 8, 8, 8, 8, 8, 8, 8, 8, 8, 8, 8, 8, 8, 8, 8, 8, 8, 8, 8, 8, 8, 8, 8, 8, 8, 8, 8, 8, 8, 8, 8, 8, 8, 8, 8, 8, 8, 8, 8, 8, 8, 8, 8, 8, 8, 8, 8, 8, 8, 8, 8, 8, 8, 8, 8, 8, 8, 8, 8, 8, 8, 8, 8, 8, 8, 8, 8, 8, 8, 8, 8, 8, 8, 8, 8, 8]⟩) x21_16 w13 fun x22_17 =>
        cnv P 5 3 x22_17 w13 fun x23_18 =>
        bin P .add 3 false false x2_15 x23_18 w13 fun x24_19 =>
        K x24_19 w13) ∧
        (bin P .geq 178 false true x0_9 (.int .u64 256) w8 fun x14_20 =>
        cnd x14_20
          (bin P .shr 178 false true x0_9 (.int .u64 8) w8 fun x16_21 =>
          bin P .add 3 false true x2_10 (.int .i64 8) w8 fun x18_22 =>
          J11 x16_21 x18_22 w8)
          (J11 x0_9 x2_10 w8))) ∧
      (bin P .geq 178 false true x0_4 (.int .u64 65536) w3 fun x8_23 =>
      cnd x8_23
        (bin P .shr 178 false true x0_4 (.int .u64 16) w3 fun x10_24 =>
        bin P .add 3 false true x2_5 (.int .i64 16) w3 fun x12_25 =>
        J6 x10_24 x12_25 w3)
        (J6 x0_4 x2_5 w3))) ∧
    (bin P .geq 178 false true a0 (.int .u64 4294967296) w fun x4_26 =>
    cnd x4_26
      (bin P .shr 178 false true a0 (.int .u64 32) w fun x6_27 =>
      J1 x6_27 (.int .i64 32) w)
      (J1 a0 (.int .i64 0) w))
def P_math_bits_Len64 : Plan := (.seq (.reg [.op (0, 0, false)]) (.cut [0, 2] 125 (.seq (.reg [.op (0, 0, false), .op (1, 0, false)]) (.cond (.seq (.reg [.op (0, 0, false), .op (1, 0, false), .op (2, 0, false)]) (.reg [.op (0, 0, false)])) .leaf)) (.cut [0, 2] 8069 (.seq (.reg [.op (0, 0, false), .op (1, 0, false)]) (.cond (.seq (.reg [.op (0, 0, false), .op (1, 0, false), .op (2, 0, false)]) (.reg [.op (0, 0, false), .op (1, 0, false), .op (2, 0, false)])) .leaf)) (.cut [0, 2] 516101 (.seq (.reg [.op (0, 0, false), .op (1, 0, false)]) (.cond (.seq (.reg [.op (0, 0, false), .op (1, 0, false), .op (2, 0, false)]) (.reg [.op (0, 0, false), .op (1, 0, false), .op (2, 0, false)])) .leaf)) (.seq (.reg [.op (0, 0, false), .op (1, 0, false), .op (2, 0, false), .op (3, 0, false), .op (4, 0, false), .op (5, 0, false), .op (6, 0, false)]) .leaf)))))
theorem I_math_bits_Len64 {a0 : Value} {w : World} {K : Value → World → Prop} (h : D_math_bits_Len64 a0 w K) : call P f_math_bits_Len64 [a0] w K :=
  call_of_vc mixed Tryz.func308 (c := codeOf Tryz.f308) (by kernel_rfl) (by kernel_rfl) (p := P_math_bits_Len64) (by kernel_rfl) (by rw [Tryz.ntmps308]; simp) (by
    have e : D_math_bits_Len64 a0 w K = vc P P_math_bits_Len64 (codeOf Tryz.f308) (env0 [a0]) w (retX P Tryz.f308.results.toList K) := by kernel_rfl
    exact e ▸ h)

/-- math/bits.TrailingZeros -/
def D_math_bits_TrailingZeros (a0 : Value) (w : World) (K : Value → World → Prop) : Prop :=
  cnd (.bool false)
    (cnv P 154 202 a0 w fun x4_1 =>
    call P f_math_bits_TrailingZeros32 [x4_1] w fun x5_2 w3 =>
    K x5_2 w3)
    (call P f_math_bits_TrailingZeros64 [a0] w fun x7_4 w5 =>
    K x7_4 w5)
def P_math_bits_TrailingZeros : Plan := (.seq (.reg [.op (0, 0, false)]) (.seq (.cond (.seq (.reg [.op (0, 0, false), .op (1, 0, false), .op (2, 2, false), .op (3, 0, false)]) .leaf) .leaf) (.seq (.reg [.op (0, 0, false), .op (1, 2, false), .op (2, 0, false)]) .leaf)))
theorem I_math_bits_TrailingZeros {a0 : Value} {w : World} {K : Value → World → Prop} (h : D_math_bits_TrailingZeros a0 w K) : call P f_math_bits_TrailingZeros [a0] w K :=
  call_of_vc mixed Tryz.func311 (c := codeOf Tryz.f311) (by kernel_rfl) (by kernel_rfl) (p := P_math_bits_TrailingZeros) (by kernel_rfl) (by rw [Tryz.ntmps311]; simp) (by
    have e : D_math_bits_TrailingZeros a0 w K = vc P P_math_bits_TrailingZeros (codeOf Tryz.f311) (env0 [a0]) w (retX P Tryz.f311.results.toList K) := by kernel_rfl
    exact e ▸ h)

/-- math/bits.TrailingZeros32 -/
def D_math_bits_TrailingZeros32 (a0 : Value) (w : World) (K : Value → World → Prop) : Prop :=
  bin P .eql 202 false true a0 (.int .u32 0) w fun x4_1 =>
  cnd x4_1
    (K (.int .i64 32) w)
    (una P .neg a0 w fun x7_2 =>
    bin P .and 202 false false a0 x7_2 w fun x8_3 =>
    bin P .mul 202 false true x8_3 (.int .u32 125613361) w fun x9_4 =>
    bin P .shr 202 false true x9_4 (.int .u64 27) w fun x10_5 =>
    ixa P 319 (.pointer (some ⟨7, 0, none⟩)) x10_5 w fun x11_6 =>
    ld P 5 x11_6 w fun x12_7 =>
    cnv P 5 3 x12_7 w fun x13_8 =>
    K x13_8 w)
def P_math_bits_TrailingZeros32 : Plan := (.seq (.reg [.op (0, 0, false)]) (.seq (.seq (.reg [.op (0, 0, false), .op (1, 0, false)]) (.cond (.seq (.reg [.op (0, 0, false)]) .leaf) .leaf)) (.seq (.reg [.op (0, 0, false), .op (1, 0, false), .op (2, 0, false), .op (3, 0, false), .op (4, 0, false), .op (5, 0, false), .op (6, 0, false), .op (7, 0, false), .op (8, 0, false), .op (9, 0, false)]) .leaf)))
theorem I_math_bits_TrailingZeros32 {a0 : Value} {w : World} {K : Value → World → Prop} (h : D_math_bits_TrailingZeros32 a0 w K) : call P f_math_bits_TrailingZeros32 [a0] w K :=
  call_of_vc mixed Tryz.func312 (c := codeOf Tryz.f312) (by kernel_rfl) (by kernel_rfl) (p := P_math_bits_TrailingZeros32) (by kernel_rfl) (by rw [Tryz.ntmps312]; simp) (by
    have e : D_math_bits_TrailingZeros32 a0 w K = vc P P_math_bits_TrailingZeros32 (codeOf Tryz.f312) (env0 [a0]) w (retX P Tryz.f312.results.toList K) := by kernel_rfl
    exact e ▸ h)

/-- math/bits.TrailingZeros64 -/
def D_math_bits_TrailingZeros64 (a0 : Value) (w : World) (K : Value → World → Prop) : Prop :=
  bin P .eql 178 false true a0 (.int .u64 0) w fun x4_1 =>
  cnd x4_1
    (K (.int .i64 64) w)
    (una P .neg a0 w fun x7_2 =>
    bin P .and 178 false false a0 x7_2 w fun x8_3 =>
    bin P .mul 178 false true x8_3 (.int .u64 285870213051353865) w fun x9_4 =>
    bin P .shr 178 false true x9_4 (.int .u64 58) w fun x10_5 =>
    ixa P 320 (.pointer (some ⟨8, 0, none⟩)) x10_5 w fun x11_6 =>
    ld P 5 x11_6 w fun x12_7 =>
    cnv P 5 3 x12_7 w fun x13_8 =>
    K x13_8 w)
def P_math_bits_TrailingZeros64 : Plan := (.seq (.reg [.op (0, 0, false)]) (.seq (.seq (.reg [.op (0, 0, false), .op (1, 0, false)]) (.cond (.seq (.reg [.op (0, 0, false)]) .leaf) .leaf)) (.seq (.reg [.op (0, 0, false), .op (1, 0, false), .op (2, 0, false), .op (3, 0, false), .op (4, 0, false), .op (5, 0, false), .op (6, 0, false), .op (7, 0, false), .op (8, 0, false), .op (9, 0, false)]) .leaf)))
theorem I_math_bits_TrailingZeros64 {a0 : Value} {w : World} {K : Value → World → Prop} (h : D_math_bits_TrailingZeros64 a0 w K) : call P f_math_bits_TrailingZeros64 [a0] w K :=
  call_of_vc mixed Tryz.func313 (c := codeOf Tryz.f313) (by kernel_rfl) (by kernel_rfl) (p := P_math_bits_TrailingZeros64) (by kernel_rfl) (by rw [Tryz.ntmps313]; simp) (by
    have e : D_math_bits_TrailingZeros64 a0 w K = vc P P_math_bits_TrailingZeros64 (codeOf Tryz.f313) (env0 [a0]) w (retX P Tryz.f313.results.toList K) := by kernel_rfl
    exact e ▸ h)

end Go.Proofs.YtjompmflommadaaGreatDoor

/- Written by a program (gen.py): what is left to show of each function's call. -/
set_option linter.unusedVariables false
set_option maxRecDepth 20000
namespace Go.Proofs.YtjompmflommadaaGreatDoor
open Go Go.Vc

/-- spec.l06Split -/
def D_spec_l06Split (a0 a1 : Value) (w : World) (K : Value → World → Prop) : Prop :=
  bsl P 22 0 [] w fun x8_1 w2 =>
  ∃ I3 : Nat → Value → Value → Value → World → Prop, (∃ m29, I3 m29 x8_1 (.int .i64 0) (.int .i64 0) w2) ∧ ∀ (m6 : Nat) (x5_7 : Value) (x6_8 : Value) (x7_9 : Value) (junk4 : Env) (w5 : World), I3 m6 x5_7 x6_8 x7_9 w5 →
    bl0 P .len #[9] 3 [a0] w5 fun x11_10 =>
    bin P .lss 3 false false x7_9 x11_10 w5 fun x12_11 =>
    cnd x12_11
      (idx P 9 a0 x7_9 w5 fun x17_12 =>
      bin P .eql 5 false false x17_12 a1 w5 fun x19_13 =>
      cnd x19_13
        (sli P 9 a0 (some x6_8) (some x7_9) none w5 fun x24_14 =>
        bsl P 22 1 [(0, x24_14)] w5 fun x25_15 w16 =>
        bl2 P .append #[22, 22] 22 [x5_7, x25_15] w16 fun x26_17 w18 =>
        bin P .add 3 false true x7_9 (.int .i64 1) w18 fun x28_19 =>
        bin P .add 3 false true x7_9 (.int .i64 1) w18 fun x14_20 =>
        ∃ m21, m21 < m6 ∧ I3 m21 x26_17 x28_19 x14_20 w18)
        (bin P .add 3 false true x7_9 (.int .i64 1) w5 fun x14_22 =>
        ∃ m23, m23 < m6 ∧ I3 m23 x5_7 x6_8 x14_22 w5))
      (sli P 9 a0 (some x6_8) none none w5 fun x32_24 =>
      bsl P 22 1 [(0, x32_24)] w5 fun x33_25 w26 =>
      bl2 P .append #[22, 22] 22 [x5_7, x33_25] w26 fun x34_27 w28 =>
      K x34_27 w28)
def P_spec_l06Split : Plan := (.seq (.reg [.op (0, 0, false)]) (.seq (.reg [.op (0, 2, false), .op (1, 0, false)]) (.seq (.reg [.op (0, 0, false)]) (.seq (.seq (.reg [.op (0, 0, false)]) (.blk (.loop [5, 6, 7] 536870624 (.seq (.seq (.reg [.op (0, 0, false), .op (1, 0, false), .op (2, 0, false), .op (3, 0, false)]) (.cond .leaf .leaf)) (.seq (.blk (.seq (.reg [.op (0, 0, false), .op (1, 0, false), .op (2, 0, false), .op (3, 0, false), .op (4, 0, false)]) (.cond (.seq (.reg [.op (0, 0, false), .op (1, 0, false), .op (2, 0, false), .op (3, 0, false), .op (4, 0, false), .op (5, 2, false), .op (6, 2, false), .op (7, 0, false)]) (.reg [.op (0, 0, false), .op (1, 0, false), .op (2, 0, false)])) .leaf))) (.reg [.op (0, 0, false), .op (1, 0, false), .op (2, 0, false)])))))) (.seq (.reg [.op (0, 0, false), .op (1, 0, false), .op (2, 0, false), .op (3, 0, false), .op (4, 2, false), .op (5, 2, false), .op (6, 0, false)]) .leaf)))))
theorem I_spec_l06Split {a0 a1 : Value} {w : World} {K : Value → World → Prop} (h : D_spec_l06Split a0 a1 w K) : call P f_spec_l06Split [a0, a1] w K :=
  call_of_vc mixed Tryz.func61 (c := codeOf Tryz.f61) (by kernel_rfl) (by kernel_rfl) (p := P_spec_l06Split) (by kernel_rfl) (by rw [Tryz.ntmps61]; simp) (by
    have e : D_spec_l06Split a0 a1 w K = vc P P_spec_l06Split (codeOf Tryz.f61) (env0 [a0, a1]) w (retX P Tryz.f61.results.toList K) := by kernel_rfl
    exact e ▸ h)

/-- spec.l06Float -/
def D_spec_l06Float (a0 : Value) (w : World) (K : Value → World → Prop) : Prop :=
  call P f_spec_l03Read [a0] w fun x10_1 w2 =>
  xtr P x10_1 0 w2 fun x11_3 =>
  xtr P x10_1 1 w2 fun x12_4 =>
  alc P 57 w2 fun x4_5 w6 =>
  sto P 57 x4_5 x11_3 w6 fun w8 =>
  una P .not x12_4 w8 fun x14_9 =>
  cnd x14_9
    (K (.tuple #[(.float .f32 0), (.bool false)]) w8)
    (ld P 57 x4_5 w8 fun x16_10 =>
    call P f_spec_l03Round [x16_10, (.int .i64 0)] w8 fun x17_11 w12 =>
    xtr P x17_11 0 w12 fun x18_13 =>
    xtr P x17_11 1 w12 fun x19_14 =>
    bin P .eql 2 false true x19_14 (.int .i64 0) w12 fun x22_15 =>
    K (.tuple #[x18_13, x22_15]) w12)
def P_spec_l06Float : Plan := (.seq (.reg [.op (0, 0, false), .op (1, 0, false)]) (.seq (.reg [.op (0, 0, false), .op (1, 2, false), .op (2, 0, false), .op (3, 0, false), .op (4, 0, false), .op (5, 2, false), .op (6, 2, false), .op (7, 0, false)]) (.seq (.seq (.reg [.op (0, 0, false), .op (1, 0, false)]) (.cond (.seq (.reg [.op (0, 0, false), .op (1, 0, false)]) .leaf) .leaf)) (.seq (.reg [.op (0, 0, false), .op (1, 2, false), .op (2, 0, false), .op (3, 0, false), .op (4, 0, false), .op (5, 0, false), .op (6, 0, false)]) (.seq (.reg [.op (0, 0, false), .op (1, 0, false), .op (2, 0, false), .op (3, 0, false), .op (4, 0, false)]) .leaf)))))
theorem I_spec_l06Float {a0 : Value} {w : World} {K : Value → World → Prop} (h : D_spec_l06Float a0 w K) : call P f_spec_l06Float [a0] w K :=
  call_of_vc mixed Tryz.func141 (c := codeOf Tryz.f141) (by kernel_rfl) (by kernel_rfl) (p := P_spec_l06Float) (by kernel_rfl) (by rw [Tryz.ntmps141]; simp) (by
    have e : D_spec_l06Float a0 w K = vc P P_spec_l06Float (codeOf Tryz.f141) (env0 [a0]) w (retX P Tryz.f141.results.toList K) := by kernel_rfl
    exact e ▸ h)

end Go.Proofs.YtjompmflommadaaGreatDoor

/- Written by a program (gen.py): what is left to show of each function's call. -/
set_option linter.unusedVariables false
set_option maxRecDepth 20000
namespace Go.Proofs.YtjompmflommadaaGreatDoor
open Go Go.Vc

/-- impl.parseFloat -/
def D_impl_parseFloat (a0 : Value) (w : World) (K : Value → World → Prop) : Prop :=
  call P f_impl_ParseDyadic [a0] w fun x11_1 w2 =>
  xtr P x11_1 0 w2 fun x12_3 =>
  xtr P x11_1 1 w2 fun x13_4 =>
  alc P 57 w2 fun x4_5 w6 =>
  sto P 57 x4_5 x12_3 w6 fun w8 =>
  bin P .neq 2 false true x13_4 (.int .i64 0) w8 fun x15_9 =>
  cnd x15_9
    (K (.tuple #[(.float .f32 0), (.bool false)]) w8)
    (ld P 57 x4_5 w8 fun x17_10 =>
    call P f_impl_RoundDyadic [x17_10, (.int .i64 0)] w8 fun x18_11 w12 =>
    xtr P x18_11 0 w12 fun x19_13 =>
    xtr P x18_11 1 w12 fun x20_14 =>
    xtr P x18_11 2 w12 fun x21_15 =>
    bin P .eql 2 false true x20_14 (.int .i64 0) w12 fun x24_16 =>
    K (.tuple #[x19_13, x24_16]) w12)
def P_impl_parseFloat : Plan := (.seq (.reg [.op (0, 0, false), .op (1, 0, false)]) (.seq (.reg [.op (0, 0, false), .op (1, 2, false), .op (2, 0, false), .op (3, 0, false), .op (4, 0, false), .op (5, 2, false), .op (6, 2, false), .op (7, 0, false)]) (.seq (.seq (.reg [.op (0, 0, false), .op (1, 0, false)]) (.cond (.seq (.reg [.op (0, 0, false), .op (1, 0, false)]) .leaf) .leaf)) (.seq (.reg [.op (0, 0, false), .op (1, 2, false), .op (2, 0, false), .op (3, 0, false), .op (4, 0, false), .op (5, 0, false), .op (6, 0, false), .op (7, 0, false), .op (8, 0, false)]) (.seq (.reg [.op (0, 0, false), .op (1, 0, false), .op (2, 0, false), .op (3, 0, false), .op (4, 0, false)]) .leaf)))))
theorem I_impl_parseFloat {a0 : Value} {w : World} {K : Value → World → Prop} (h : D_impl_parseFloat a0 w K) : call P f_impl_parseFloat [a0] w K :=
  call_of_vc mixed Tryz.func129 (c := codeOf Tryz.f129) (by kernel_rfl) (by kernel_rfl) (p := P_impl_parseFloat) (by kernel_rfl) (by rw [Tryz.ntmps129]; simp) (by
    have e : D_impl_parseFloat a0 w K = vc P P_impl_parseFloat (codeOf Tryz.f129) (env0 [a0]) w (retX P Tryz.f129.results.toList K) := by kernel_rfl
    exact e ▸ h)

end Go.Proofs.YtjompmflommadaaGreatDoor
