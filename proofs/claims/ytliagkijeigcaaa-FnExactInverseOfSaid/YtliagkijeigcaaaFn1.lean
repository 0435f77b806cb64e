/- Written by a program (gen.py): what is left to show of each function's call. -/
import Derived.Test.YtliagkijeigcaaaIds
set_option linter.unusedVariables false
namespace Go.Proofs.Ytliagkijeigcaaa
open Go Go.Vc

/-- spec.NewServer -/
def D_spec_NewServer (w : World) (K : Value → World → Prop) : Prop :=
  alc P 31 w fun x0_1 w2 =>
  bld P 31 [] w2 fun x1_3 =>
  sto P 31 x0_1 x1_3 w2 fun w5 =>
  ldc P 31 x0_1 w5 fun r6 =>
  K r6 w5
def P_spec_NewServer : Plan := (.seq (.reg [.op (0, 2, false)]) (.seq (.reg [.op (0, 0, false), .op (1, 2, false)]) .leaf))
theorem I_spec_NewServer {w : World} {K : Value → World → Prop} (h : D_spec_NewServer  w K) : call P f_spec_NewServer [] w K :=
  call_of_vc mixed Try.func15 (c := codeOf Try.f15) (by kernel_rfl) (by kernel_rfl) (p := P_spec_NewServer) (by kernel_rfl) (by rw [Try.ntmps15]; simp) (by
    have e : D_spec_NewServer  w K = vc P P_spec_NewServer (codeOf Try.f15) (env0 []) w (retX P Try.f15.results.toList K) := by kernel_rfl
    exact e ▸ h)

/-- impl.NewServer -/
def D_impl_NewServer (w : World) (K : Value → World → Prop) : Prop :=
  alc P 31 w fun x0_1 w2 =>
  bld P 31 [] w2 fun x1_3 =>
  sto P 31 x0_1 x1_3 w2 fun w5 =>
  ldc P 31 x0_1 w5 fun r6 =>
  K r6 w5
def P_impl_NewServer : Plan := (.seq (.reg [.op (0, 2, false)]) (.seq (.reg [.op (0, 0, false), .op (1, 2, false)]) .leaf))
theorem I_impl_NewServer {w : World} {K : Value → World → Prop} (h : D_impl_NewServer  w K) : call P f_impl_NewServer [] w K :=
  call_of_vc mixed Try.func16 (c := codeOf Try.f16) (by kernel_rfl) (by kernel_rfl) (p := P_impl_NewServer) (by kernel_rfl) (by rw [Try.ntmps16]; simp) (by
    have e : D_impl_NewServer  w K = vc P P_impl_NewServer (codeOf Try.f16) (env0 []) w (retX P Try.f16.results.toList K) := by kernel_rfl
    exact e ▸ h)

/-- laws.eqServer -/
def D_laws_eqServer (a0 a1 : Value) (w : World) (K : Value → World → Prop) : Prop :=
  bx P 31 a0 w fun x2_1 w2 =>
  bx P 31 a1 w2 fun x3_3 w4 =>
  fda P 31 x2_1 0 w4 fun x5_5 =>
  ld P 27 x5_5 w4 fun x6_6 =>
  fda P 31 x3_3 0 w4 fun x7_7 =>
  ld P 27 x7_7 w4 fun x8_8 =>
  call P f_laws_eqStringS [x6_6, x8_8] w4 fun x9_9 w10 =>
  una P .not x9_9 w10 fun x10_11 =>
  cnd x10_11
    (K (.bool false) w10)
    (fda P 31 x2_1 1 w10 fun x11_12 =>
    ld P 28 x11_12 w10 fun x12_13 =>
    fda P 31 x3_3 1 w10 fun x13_14 =>
    ld P 28 x13_14 w10 fun x14_15 =>
    call P f_laws_eqProgramS [x12_13, x14_15] w10 fun x15_16 w17 =>
    una P .not x15_16 w17 fun x16_18 =>
    cnd x16_18
      (K (.bool false) w17)
      (fda P 31 x2_1 2 w17 fun x17_19 =>
      ld P 29 x17_19 w17 fun x18_20 =>
      fda P 31 x3_3 2 w17 fun x19_21 =>
      ld P 29 x19_21 w17 fun x20_22 =>
      call P f_laws_eqKeptS [x18_20, x20_22] w17 fun x21_23 w24 =>
      una P .not x21_23 w24 fun x22_25 =>
      cnd x22_25
        (K (.bool false) w24)
        (K (.bool true) w24)))
def P_laws_eqServer : Plan := (.seq (.reg [.op (0, 2, false), .op (1, 2, false), .op (2, 0, false)]) (.seq (.seq (.reg [.op (0, 0, false), .op (1, 0, false), .op (2, 0, false), .op (3, 0, false), .op (4, 2, false), .op (5, 0, false)]) (.cond (.seq (.reg [.op (0, 0, false)]) .leaf) .leaf)) (.seq (.seq (.reg [.op (0, 0, false), .op (1, 0, false), .op (2, 0, false), .op (3, 0, false), .op (4, 2, false), .op (5, 0, false)]) (.cond (.seq (.reg [.op (0, 0, false)]) .leaf) .leaf)) (.seq (.seq (.reg [.op (0, 0, false), .op (1, 0, false), .op (2, 0, false), .op (3, 0, false), .op (4, 2, false), .op (5, 0, false)]) (.cond (.seq (.reg [.op (0, 0, false)]) .leaf) .leaf)) (.seq (.reg [.op (0, 0, false)]) .leaf)))))
theorem I_laws_eqServer {a0 a1 : Value} {w : World} {K : Value → World → Prop} (h : D_laws_eqServer a0 a1 w K) : call P f_laws_eqServer [a0, a1] w K :=
  call_of_vc mixed Try.func17 (c := codeOf Try.f17) (by kernel_rfl) (by kernel_rfl) (p := P_laws_eqServer) (by kernel_rfl) (by rw [Try.ntmps17]; simp) (by
    have e : D_laws_eqServer a0 a1 w K = vc P P_laws_eqServer (codeOf Try.f17) (env0 [a0, a1]) w (retX P Try.f17.results.toList K) := by kernel_rfl
    exact e ▸ h)

/-- laws.markServer -/
def D_laws_markServer (a0 a1 : Value) (w : World) (K : Value → World → Prop) : Prop :=
  bx P 31 a0 w fun x2_1 w2 =>
  fda P 31 x2_1 0 w2 fun x5_3 =>
  ld P 27 x5_3 w2 fun x6_4 =>
  call P f_laws_markStringS [x6_4, a1] w2 fun x8_5 w6 =>
  fda P 31 x2_1 1 w6 fun x9_7 =>
  ld P 28 x9_7 w6 fun x10_8 =>
  call P f_laws_markProgramS [x10_8, x8_5] w6 fun x12_9 w10 =>
  fda P 31 x2_1 2 w10 fun x13_11 =>
  ld P 29 x13_11 w10 fun x14_12 =>
  call P f_laws_markKeptS [x14_12, x12_9] w10 fun x16_13 w14 =>
  K x16_13 w14
def P_laws_markServer : Plan := (.seq (.reg [.op (0, 2, false), .op (1, 0, false)]) (.seq (.reg [.op (0, 0, false), .op (1, 0, false), .op (2, 0, false), .op (3, 2, false), .op (4, 0, false)]) (.seq (.reg [.op (0, 0, false), .op (1, 0, false), .op (2, 0, false), .op (3, 2, false), .op (4, 0, false)]) (.seq (.reg [.op (0, 0, false), .op (1, 0, false), .op (2, 0, false), .op (3, 2, false), .op (4, 0, false)]) (.seq (.reg [.op (0, 0, false), .op (1, 0, false)]) .leaf)))))
theorem I_laws_markServer {a0 a1 : Value} {w : World} {K : Value → World → Prop} (h : D_laws_markServer a0 a1 w K) : call P f_laws_markServer [a0, a1] w K :=
  call_of_vc mixed Try.func18 (c := codeOf Try.f18) (by kernel_rfl) (by kernel_rfl) (p := P_laws_markServer) (by kernel_rfl) (by rw [Try.ntmps18]; simp) (by
    have e : D_laws_markServer a0 a1 w K = vc P P_laws_markServer (codeOf Try.f18) (env0 [a0, a1]) w (retX P Try.f18.results.toList K) := by kernel_rfl
    exact e ▸ h)

/-- laws.heldServer -/
def D_laws_heldServer (a0 a1 : Value) (w : World) (K : Value → World → Prop) : Prop :=
  bx P 31 a0 w fun x2_1 w2 =>
  fda P 31 x2_1 0 w2 fun x5_3 =>
  ld P 27 x5_3 w2 fun x6_4 =>
  call P f_laws_heldStringS [x6_4, a1] w2 fun x8_5 w6 =>
  bin P .lss 3 false true x8_5 (.int .i64 0) w6 fun x10_7 =>
  cnd x10_7
    (K (.int .i64 (-1)) w6)
    (fda P 31 x2_1 1 w6 fun x11_8 =>
    ld P 28 x11_8 w6 fun x12_9 =>
    call P f_laws_heldProgramS [x12_9, x8_5] w6 fun x14_10 w11 =>
    bin P .lss 3 false true x14_10 (.int .i64 0) w11 fun x16_12 =>
    cnd x16_12
      (K (.int .i64 (-1)) w11)
      (fda P 31 x2_1 2 w11 fun x17_13 =>
      ld P 29 x17_13 w11 fun x18_14 =>
      call P f_laws_heldKeptS [x18_14, x14_10] w11 fun x20_15 w16 =>
      bin P .lss 3 false true x20_15 (.int .i64 0) w16 fun x22_17 =>
      cnd x22_17
        (K (.int .i64 (-1)) w16)
        (K x20_15 w16)))
def P_laws_heldServer : Plan := (.seq (.reg [.op (0, 2, false), .op (1, 0, false)]) (.seq (.reg [.op (0, 0, false), .op (1, 0, false), .op (2, 0, false), .op (3, 2, false), .op (4, 0, false)]) (.seq (.seq (.reg [.op (0, 0, false), .op (1, 0, false)]) (.cond (.seq (.reg [.op (0, 0, false)]) .leaf) .leaf)) (.seq (.reg [.op (0, 0, false), .op (1, 0, false), .op (2, 0, false), .op (3, 2, false), .op (4, 0, false)]) (.seq (.seq (.reg [.op (0, 0, false), .op (1, 0, false)]) (.cond (.seq (.reg [.op (0, 0, false)]) .leaf) .leaf)) (.seq (.reg [.op (0, 0, false), .op (1, 0, false), .op (2, 0, false), .op (3, 2, false), .op (4, 0, false)]) (.seq (.seq (.reg [.op (0, 0, false), .op (1, 0, false)]) (.cond (.seq (.reg [.op (0, 0, false)]) .leaf) .leaf)) (.seq (.reg [.op (0, 0, false), .op (1, 0, false)]) .leaf))))))))
theorem I_laws_heldServer {a0 a1 : Value} {w : World} {K : Value → World → Prop} (h : D_laws_heldServer a0 a1 w K) : call P f_laws_heldServer [a0, a1] w K :=
  call_of_vc mixed Try.func19 (c := codeOf Try.f19) (by kernel_rfl) (by kernel_rfl) (p := P_laws_heldServer) (by kernel_rfl) (by rw [Try.ntmps19]; simp) (by
    have e : D_laws_heldServer a0 a1 w K = vc P P_laws_heldServer (codeOf Try.f19) (env0 [a0, a1]) w (retX P Try.f19.results.toList K) := by kernel_rfl
    exact e ▸ h)

/-- spec.TimesVector -/
def D_spec_TimesVector (a0 a1 : Value) (w : World) (K : Value → World → Prop) : Prop :=
  bsl P 22 1 [(0, a1)] w fun x11_1 w2 =>
  call P f_spec_l10Code [a0, x11_1] w2 fun x12_3 w4 =>
  bin P .neq 2 false true x12_3 (.int .i64 0) w4 fun x14_5 =>
  cnd x14_5
    (K (.tuple #[(.slice none 0 0), x12_3]) w4)
    (call P f_spec_l10Times [a0, a1] w4 fun x19_6 w7 =>
    xtr P x19_6 0 w7 fun x20_8 =>
    xtr P x19_6 1 w7 fun x21_9 =>
    una P .not x21_9 w7 fun x23_10 =>
    cnd x23_10
      (K (.tuple #[(.slice none 0 0), (.int .i64 3)]) w7)
      (K (.tuple #[x20_8, (.int .i64 0)]) w7))
def P_spec_TimesVector : Plan := (.seq (.reg [.op (0, 0, false), .op (1, 0, false)]) (.seq (.seq (.reg [.op (0, 0, false), .op (1, 0, false), .op (2, 2, false), .op (3, 2, false), .op (4, 0, false)]) (.seq (.reg [.op (0, 0, false), .op (1, 0, false)]) (.cond (.seq (.reg [.op (0, 0, false), .op (1, 0, false), .op (2, 0, false)]) .leaf) .leaf))) (.seq (.reg [.op (0, 0, false), .op (1, 0, false), .op (2, 2, false), .op (3, 0, false), .op (4, 0, false), .op (5, 0, false), .op (6, 0, false), .op (7, 0, false)]) (.seq (.seq (.reg [.op (0, 0, false), .op (1, 0, false)]) (.cond (.seq (.reg [.op (0, 0, false), .op (1, 0, false)]) .leaf) .leaf)) (.seq (.reg [.op (0, 0, false), .op (1, 0, false), .op (2, 0, false)]) .leaf)))))
theorem I_spec_TimesVector {a0 a1 : Value} {w : World} {K : Value → World → Prop} (h : D_spec_TimesVector a0 a1 w K) : call P f_spec_TimesVector [a0, a1] w K :=
  call_of_vc mixed Try.func20 (c := codeOf Try.f20) (by kernel_rfl) (by kernel_rfl) (p := P_spec_TimesVector) (by kernel_rfl) (by rw [Try.ntmps20]; simp) (by
    have e : D_spec_TimesVector a0 a1 w K = vc P P_spec_TimesVector (codeOf Try.f20) (env0 [a0, a1]) w (retX P Try.f20.results.toList K) := by kernel_rfl
    exact e ▸ h)

/-- laws.toFloat32S -/
def D_laws_toFloat32S (a0 : Value) (w : World) (K : Value → World → Prop) : Prop :=
  bl0 P .len #[36] 3 [a0] w fun x6_1 =>
  mks P 36 x6_1 x6_1 w fun x7_2 w3 =>
  ∃ I4 : Nat → Value → World → Prop, (∃ m18, I4 m18 (.int .i64 0) w3) ∧ ∀ (m7 : Nat) (x4_8 : Value) (junk5 : Env) (w6 : World), I4 m7 x4_8 w6 →
    bl0 P .len #[36] 3 [a0] w6 fun x10_9 =>
    bin P .lss 3 false false x4_8 x10_9 w6 fun x11_10 =>
    cnd x11_10
      (ixa P 36 a0 x4_8 w6 fun x18_11 =>
      ld P 63 x18_11 w6 fun x19_12 =>
      ixa P 36 x7_2 x4_8 w6 fun x20_13 =>
      sto P 63 x20_13 x19_12 w6 fun w15 =>
      bin P .add 3 false true x4_8 (.int .i64 1) w15 fun x13_16 =>
      ∃ m17, m17 < m7 ∧ I4 m17 x13_16 w15)
      (K x7_2 w6)
def P_laws_toFloat32S : Plan := (.seq (.reg [.op (0, 0, false)]) (.seq (.reg [.op (0, 0, false), .op (1, 0, false), .op (2, 2, false), .op (3, 0, false)]) (.seq (.seq (.reg [.op (0, 0, false)]) (.blk (.loop [4] 2096912 (.seq (.seq (.reg [.op (0, 0, false), .op (1, 0, false), .op (2, 0, false), .op (3, 0, false)]) (.cond .leaf .leaf)) (.seq (.blk (.reg [.op (0, 0, false), .op (1, 0, false), .op (2, 0, false), .op (3, 0, false), .op (4, 0, false), .op (5, 0, false), .op (6, 0, false), .op (7, 2, false)])) (.reg [.op (0, 0, false), .op (1, 0, false), .op (2, 0, false)])))))) (.seq (.reg [.op (0, 0, false), .op (1, 0, false)]) .leaf))))
theorem I_laws_toFloat32S {a0 : Value} {w : World} {K : Value → World → Prop} (h : D_laws_toFloat32S a0 w K) : call P f_laws_toFloat32S [a0] w K :=
  call_of_vc mixed Try.func21 (c := codeOf Try.f21) (by kernel_rfl) (by kernel_rfl) (p := P_laws_toFloat32S) (by kernel_rfl) (by rw [Try.ntmps21]; simp) (by
    have e : D_laws_toFloat32S a0 w K = vc P P_laws_toFloat32S (codeOf Try.f21) (env0 [a0]) w (retX P Try.f21.results.toList K) := by kernel_rfl
    exact e ▸ h)

/-- impl.TimesVector -/
def D_impl_TimesVector (a0 a1 : Value) (w : World) (K : Value → World → Prop) : Prop :=
  call P f_impl_IsMatrix [a0] w fun x9_1 w2 =>
  una P .not x9_1 w2 fun x10_3 =>
  ∃ J4 : Value → World → Prop, (∀ (x14_5 : Value) (junk7 : Env) (w6 : World), J4 x14_5 w6 →
    pick x10_3 (.bool true) x14_5 fun x15_8 =>
    cnd x15_8
      (K (.tuple #[(.slice none 0 0), (.int .i64 1)]) w6)
      (bl0 P .len #[22] 3 [a0] w6 fun x17_9 =>
      bl0 P .len #[36] 3 [a1] w6 fun x19_10 =>
      bin P .neq 3 false false x17_9 x19_10 w6 fun x20_11 =>
      cnd x20_11
        (K (.tuple #[(.slice none 0 0), (.int .i64 2)]) w6)
        (call P f_impl_timesVector [a0, a1] w6 fun x24_12 w13 =>
        xtr P x24_12 0 w13 fun x25_14 =>
        xtr P x24_12 1 w13 fun x26_15 =>
        una P .not x26_15 w13 fun x28_16 =>
        cnd x28_16
          (K (.tuple #[(.slice none 0 0), (.int .i64 3)]) w13)
          (K (.tuple #[x25_14, (.int .i64 0)]) w13)))) ∧
    grd x10_3 false
      (call P f_impl_isVector [a1] w2 fun x13_17 w18 =>
      una P .not x13_17 w18 fun x14_19 =>
      J4 x14_19 w18)
      (J4 undef w2)
def P_impl_TimesVector : Plan := (.seq (.reg [.op (0, 0, false), .op (1, 0, false)]) (.seq (.seq (.reg [.op (0, 0, false), .op (1, 2, false), .op (2, 0, false), .op (3, 0, false), .grp 3 false [(4, 0, false), (5, 2, false), (6, 0, false)] [14] 28672, .op (7, 0, false)]) (.cond (.seq (.reg [.op (0, 0, false), .op (1, 0, false)]) .leaf) .leaf)) (.seq (.seq (.reg [.op (0, 0, false), .op (1, 0, false), .op (2, 0, false), .op (3, 0, false), .op (4, 0, false)]) (.cond (.seq (.reg [.op (0, 0, false), .op (1, 0, false)]) .leaf) .leaf)) (.seq (.reg [.op (0, 0, false), .op (1, 0, false), .op (2, 2, false), .op (3, 0, false), .op (4, 0, false), .op (5, 0, false), .op (6, 0, false), .op (7, 0, false)]) (.seq (.seq (.reg [.op (0, 0, false), .op (1, 0, false)]) (.cond (.seq (.reg [.op (0, 0, false), .op (1, 0, false)]) .leaf) .leaf)) (.seq (.reg [.op (0, 0, false), .op (1, 0, false), .op (2, 0, false)]) .leaf))))))
theorem I_impl_TimesVector {a0 a1 : Value} {w : World} {K : Value → World → Prop} (h : D_impl_TimesVector a0 a1 w K) : call P f_impl_TimesVector [a0, a1] w K :=
  call_of_vc mixed Try.func22 (c := codeOf Try.f22) (by kernel_rfl) (by kernel_rfl) (p := P_impl_TimesVector) (by kernel_rfl) (by rw [Try.ntmps22]; simp) (by
    have e : D_impl_TimesVector a0 a1 w K = vc P P_impl_TimesVector (codeOf Try.f22) (env0 [a0, a1]) w (retX P Try.f22.results.toList K) := by kernel_rfl
    exact e ▸ h)

/-- laws.eqFloat32S -/
def D_laws_eqFloat32S (a0 a1 : Value) (w : World) (K : Value → World → Prop) : Prop :=
  bl0 P .len #[36] 3 [a0] w fun x7_1 =>
  bl0 P .len #[36] 3 [a1] w fun x9_2 =>
  bin P .neq 3 false false x7_1 x9_2 w fun x10_3 =>
  cnd x10_3
    (K (.bool false) w)
    (∃ I4 : Nat → Value → World → Prop, (∃ m22, I4 m22 (.int .i64 0) w) ∧ ∀ (m7 : Nat) (x5_8 : Value) (junk5 : Env) (w6 : World), I4 m7 x5_8 w6 →
      bl0 P .len #[36] 3 [a0] w6 fun x13_9 =>
      bin P .lss 3 false false x5_8 x13_9 w6 fun x14_10 =>
      cnd x14_10
        (ixa P 36 a0 x5_8 w6 fun x19_11 =>
        ld P 63 x19_11 w6 fun x20_12 =>
        ixa P 36 a1 x5_8 w6 fun x24_13 =>
        ld P 63 x24_13 w6 fun x25_14 =>
        rcnv P 63 66 x20_12 w6 fun x21_15 =>
        rcnv P 63 66 x25_14 w6 fun x26_16 =>
        call P f_laws_sameFloat [x21_15, x26_16] w6 fun x27_17 w18 =>
        una P .not x27_17 w18 fun x28_19 =>
        cnd x28_19
          (K (.bool false) w18)
          (bin P .add 3 false true x5_8 (.int .i64 1) w18 fun x16_20 =>
          ∃ m21, m21 < m7 ∧ I4 m21 x16_20 w18))
        (K (.bool true) w6))
def P_laws_eqFloat32S : Plan := (.seq (.reg [.op (0, 0, false)]) (.seq (.seq (.reg [.op (0, 0, false), .op (1, 0, false), .op (2, 0, false), .op (3, 0, false), .op (4, 0, false)]) (.cond (.seq (.reg [.op (0, 0, false)]) .leaf) .leaf)) (.seq (.seq (.reg [.op (0, 0, false)]) (.blk (.loop [5] 536868912 (.seq (.seq (.reg [.op (0, 0, false), .op (1, 0, false), .op (2, 0, false), .op (3, 0, false)]) (.cond .leaf .leaf)) (.seq (.blk (.seq (.reg [.op (0, 0, false), .op (1, 0, false), .op (2, 0, false), .op (3, 0, false), .op (5, 0, false), .op (6, 0, false), .op (7, 0, false), .op (8, 0, false), .op (4, 1, false), .op (9, 1, false), .op (10, 2, false), .op (11, 0, false)]) (.cond (.seq (.reg [.op (0, 0, false)]) .leaf) .leaf))) (.reg [.op (0, 0, false), .op (1, 0, false), .op (2, 0, false)])))))) (.seq (.reg [.op (0, 0, false)]) .leaf))))
theorem I_laws_eqFloat32S {a0 a1 : Value} {w : World} {K : Value → World → Prop} (h : D_laws_eqFloat32S a0 a1 w K) : call P f_laws_eqFloat32S [a0, a1] w K :=
  call_of_vc mixed Try.func23 (c := codeOf Try.f23) (by kernel_rfl) (by kernel_rfl) (p := P_laws_eqFloat32S) (by kernel_rfl) (by rw [Try.ntmps23]; simp) (by
    have e : D_laws_eqFloat32S a0 a1 w K = vc P P_laws_eqFloat32S (codeOf Try.f23) (env0 [a0, a1]) w (retX P Try.f23.results.toList K) := by kernel_rfl
    exact e ▸ h)

/-- laws.markFloat32SS -/
def D_laws_markFloat32SS (a0 a1 : Value) (w : World) (K : Value → World → Prop) : Prop :=
  ∃ I1 : Nat → Value → Value → World → Prop, (∃ m15, I1 m15 a1 (.int .i64 0) w) ∧ ∀ (m4 : Nat) (x1_5 : Value) (x5_6 : Value) (junk2 : Env) (w3 : World), I1 m4 x1_5 x5_6 w3 →
    bl0 P .len #[22] 3 [a0] w3 fun x8_7 =>
    bin P .lss 3 false false x5_6 x8_7 w3 fun x9_8 =>
    cnd x9_8
      (ixa P 22 a0 x5_6 w3 fun x14_9 =>
      ld P 36 x14_9 w3 fun x15_10 =>
      call P f_laws_markFloat32S [x15_10, x1_5] w3 fun x17_11 w12 =>
      bin P .add 3 false true x5_6 (.int .i64 1) w12 fun x11_13 =>
      ∃ m14, m14 < m4 ∧ I1 m14 x17_11 x11_13 w12)
      (K x1_5 w3)
def P_laws_markFloat32SS : Plan := (.seq (.reg [.op (0, 0, false)]) (.seq (.seq (.reg [.op (0, 0, false)]) (.blk (.loop [1, 5] 262114 (.seq (.seq (.reg [.op (0, 0, false), .op (1, 0, false), .op (2, 0, false), .op (3, 0, false)]) (.cond .leaf .leaf)) (.seq (.blk (.reg [.op (0, 0, false), .op (1, 0, false), .op (2, 0, false), .op (3, 0, false), .op (4, 0, false), .op (5, 2, false), .op (6, 0, false)])) (.reg [.op (0, 0, false), .op (1, 0, false), .op (2, 0, false)])))))) (.seq (.reg [.op (0, 0, false), .op (1, 0, false)]) .leaf)))
theorem I_laws_markFloat32SS {a0 a1 : Value} {w : World} {K : Value → World → Prop} (h : D_laws_markFloat32SS a0 a1 w K) : call P f_laws_markFloat32SS [a0, a1] w K :=
  call_of_vc mixed Try.func24 (c := codeOf Try.f24) (by kernel_rfl) (by kernel_rfl) (p := P_laws_markFloat32SS) (by kernel_rfl) (by rw [Try.ntmps24]; simp) (by
    have e : D_laws_markFloat32SS a0 a1 w K = vc P P_laws_markFloat32SS (codeOf Try.f24) (env0 [a0, a1]) w (retX P Try.f24.results.toList K) := by kernel_rfl
    exact e ▸ h)

/-- laws.markFloat32S -/
def D_laws_markFloat32S (a0 a1 : Value) (w : World) (K : Value → World → Prop) : Prop :=
  ∃ I1 : Nat → Value → Value → World → Prop, (∃ m16, I1 m16 a1 (.int .i64 0) w) ∧ ∀ (m4 : Nat) (x1_5 : Value) (x5_6 : Value) (junk2 : Env) (w3 : World), I1 m4 x1_5 x5_6 w3 →
    bl0 P .len #[36] 3 [a0] w3 fun x8_7 =>
    bin P .lss 3 false false x5_6 x8_7 w3 fun x9_8 =>
    cnd x9_8
      (cnv P 3 63 x1_5 w3 fun x15_9 =>
      ixa P 36 a0 x5_6 w3 fun x16_10 =>
      sto P 63 x16_10 x15_9 w3 fun w12 =>
      bin P .add 3 false true x1_5 (.int .i64 1) w12 fun x18_13 =>
      bin P .add 3 false true x5_6 (.int .i64 1) w12 fun x11_14 =>
      ∃ m15, m15 < m4 ∧ I1 m15 x18_13 x11_14 w12)
      (K x1_5 w3)
def P_laws_markFloat32S : Plan := (.seq (.reg [.op (0, 0, false)]) (.seq (.seq (.reg [.op (0, 0, false)]) (.blk (.loop [1, 5] 524258 (.seq (.seq (.reg [.op (0, 0, false), .op (1, 0, false), .op (2, 0, false), .op (3, 0, false)]) (.cond .leaf .leaf)) (.seq (.blk (.seq (.reg [.op (0, 0, false), .op (1, 0, false), .op (2, 0, false), .op (3, 0, false), .op (4, 0, false), .op (5, 2, false)]) (.reg [.op (0, 0, false), .op (1, 0, false), .op (2, 0, false)]))) (.reg [.op (0, 0, false), .op (1, 0, false), .op (2, 0, false)])))))) (.seq (.reg [.op (0, 0, false), .op (1, 0, false)]) .leaf)))
theorem I_laws_markFloat32S {a0 a1 : Value} {w : World} {K : Value → World → Prop} (h : D_laws_markFloat32S a0 a1 w K) : call P f_laws_markFloat32S [a0, a1] w K :=
  call_of_vc mixed Try.func25 (c := codeOf Try.f25) (by kernel_rfl) (by kernel_rfl) (p := P_laws_markFloat32S) (by kernel_rfl) (by rw [Try.ntmps25]; simp) (by
    have e : D_laws_markFloat32S a0 a1 w K = vc P P_laws_markFloat32S (codeOf Try.f25) (env0 [a0, a1]) w (retX P Try.f25.results.toList K) := by kernel_rfl
    exact e ▸ h)

/-- laws.heldFloat32S -/
def D_laws_heldFloat32S (a0 a1 : Value) (w : World) (K : Value → World → Prop) : Prop :=
  ∃ I1 : Nat → Value → Value → World → Prop, (∃ m16, I1 m16 a1 (.int .i64 0) w) ∧ ∀ (m4 : Nat) (x1_5 : Value) (x5_6 : Value) (junk2 : Env) (w3 : World), I1 m4 x1_5 x5_6 w3 →
    bl0 P .len #[36] 3 [a0] w3 fun x8_7 =>
    bin P .lss 3 false false x5_6 x8_7 w3 fun x9_8 =>
    cnd x9_8
      (ixa P 36 a0 x5_6 w3 fun x14_9 =>
      ld P 63 x14_9 w3 fun x15_10 =>
      cnv P 3 63 x1_5 w3 fun x17_11 =>
      bin P .neq 63 false false x15_10 x17_11 w3 fun x18_12 =>
      cnd x18_12
        (K (.int .i64 (-1)) w3)
        (bin P .add 3 false true x1_5 (.int .i64 1) w3 fun x20_13 =>
        bin P .add 3 false true x5_6 (.int .i64 1) w3 fun x11_14 =>
        ∃ m15, m15 < m4 ∧ I1 m15 x20_13 x11_14 w3))
      (K x1_5 w3)
def P_laws_heldFloat32S : Plan := (.seq (.reg [.op (0, 0, false)]) (.seq (.seq (.reg [.op (0, 0, false)]) (.blk (.loop [1, 5] 2097138 (.seq (.seq (.reg [.op (0, 0, false), .op (1, 0, false), .op (2, 0, false), .op (3, 0, false)]) (.cond .leaf .leaf)) (.seq (.blk (.seq (.seq (.reg [.op (0, 0, false), .op (1, 0, false), .op (2, 0, false), .op (3, 0, false), .op (4, 0, false), .op (5, 0, false), .op (6, 0, false)]) (.cond (.seq (.reg [.op (0, 0, false)]) .leaf) .leaf)) (.reg [.op (0, 0, false), .op (1, 0, false), .op (2, 0, false)]))) (.reg [.op (0, 0, false), .op (1, 0, false), .op (2, 0, false)])))))) (.seq (.reg [.op (0, 0, false), .op (1, 0, false)]) .leaf)))
theorem I_laws_heldFloat32S {a0 a1 : Value} {w : World} {K : Value → World → Prop} (h : D_laws_heldFloat32S a0 a1 w K) : call P f_laws_heldFloat32S [a0, a1] w K :=
  call_of_vc mixed Try.func26 (c := codeOf Try.f26) (by kernel_rfl) (by kernel_rfl) (p := P_laws_heldFloat32S) (by kernel_rfl) (by rw [Try.ntmps26]; simp) (by
    have e : D_laws_heldFloat32S a0 a1 w K = vc P P_laws_heldFloat32S (codeOf Try.f26) (env0 [a0, a1]) w (retX P Try.f26.results.toList K) := by kernel_rfl
    exact e ▸ h)

/-- spec.TimesMatrix -/
def D_spec_TimesMatrix (a0 a1 : Value) (w : World) (K : Value → World → Prop) : Prop :=
  call P f_spec_l10Is [a0] w fun x13_1 w2 =>
  una P .not x13_1 w2 fun x14_3 =>
  ∃ J4 : Value → World → Prop, (∀ (x18_5 : Value) (junk7 : Env) (w6 : World), J4 x18_5 w6 →
    pick x14_3 (.bool true) x18_5 fun x19_8 =>
    cnd x19_8
      (K (.tuple #[(.slice none 0 0), (.int .i64 1)]) w6)
      (bl0 P .len #[22] 3 [a0] w6 fun x22_9 =>
      bl0 P .len #[22] 3 [a1] w6 fun x24_10 =>
      bin P .neq 3 false false x22_9 x24_10 w6 fun x25_11 =>
      cnd x25_11
        (K (.tuple #[(.slice none 0 0), (.int .i64 2)]) w6)
        (call P f_spec_l10Turn [a1] w6 fun x27_12 w13 =>
        bsl P 22 0 [] w13 fun x28_14 w15 =>
        ∃ I16 : Nat → Value → Value → World → Prop, (∃ m39, I16 m39 x28_14 (.int .i64 0) w15) ∧ ∀ (m19 : Nat) (x7_20 : Value) (x8_21 : Value) (junk17 : Env) (w18 : World), I16 m19 x7_20 x8_21 w18 →
          bl0 P .len #[22] 3 [x27_12] w18 fun x31_22 =>
          bin P .lss 3 false false x8_21 x31_22 w18 fun x32_23 =>
          cnd x32_23
            (ixa P 22 x27_12 x8_21 w18 fun x39_24 =>
            ld P 36 x39_24 w18 fun x40_25 =>
            call P f_spec_l10Times [a0, x40_25] w18 fun x41_26 w27 =>
            xtr P x41_26 0 w27 fun x42_28 =>
            xtr P x41_26 1 w27 fun x43_29 =>
            una P .not x43_29 w27 fun x45_30 =>
            cnd x45_30
              (K (.tuple #[(.slice none 0 0), (.int .i64 3)]) w27)
              (bsl P 22 1 [(0, x42_28)] w27 fun x48_31 w32 =>
              bl2 P .append #[22, 22] 22 [x7_20, x48_31] w32 fun x49_33 w34 =>
              bin P .add 3 false true x8_21 (.int .i64 1) w34 fun x34_35 =>
              ∃ m36, m36 < m19 ∧ I16 m36 x49_33 x34_35 w34))
            (call P f_spec_l10Turn [x7_20] w18 fun x51_37 w38 =>
            K (.tuple #[x51_37, (.int .i64 0)]) w38)))) ∧
    grd x14_3 false
      (call P f_spec_l10Is [a1] w2 fun x17_40 w41 =>
      una P .not x17_40 w41 fun x18_42 =>
      J4 x18_42 w41)
      (J4 undef w2)
def P_spec_TimesMatrix : Plan := (.seq (.reg [.op (0, 0, false), .op (1, 0, false)]) (.seq (.blk (.seq (.reg [.op (0, 0, false), .op (1, 2, false), .op (2, 0, false), .op (3, 0, false), .grp 3 false [(4, 0, false), (5, 2, false), (6, 0, false)] [18] 458752, .op (7, 0, false), .op (8, 0, false)]) (.cond (.seq (.reg [.op (0, 0, false), .op (1, 0, false)]) .leaf) (.seq (.reg [.op (0, 0, false), .op (1, 0, false), .op (2, 0, false), .op (3, 0, false), .op (4, 0, false), .op (5, 0, false)]) (.cond (.seq (.reg [.op (0, 0, false), .op (1, 0, false)]) .leaf) .leaf))))) (.seq (.reg [.op (0, 0, false), .op (1, 2, false), .op (2, 2, false), .op (3, 0, false), .op (4, 0, false)]) (.seq (.seq (.reg [.op (0, 0, false)]) (.blk (.loop [7, 8] 1125899369973680 (.seq (.seq (.reg [.op (0, 0, false), .op (1, 0, false), .op (2, 0, false), .op (3, 0, false)]) (.cond .leaf .leaf)) (.seq (.blk (.seq (.reg [.op (0, 0, false), .op (1, 0, false), .op (2, 0, false), .op (3, 0, false), .op (4, 0, false), .op (5, 2, false), .op (6, 0, false), .op (7, 0, false), .op (8, 0, false), .op (9, 0, false), .op (10, 0, false)]) (.seq (.seq (.reg [.op (0, 0, false), .op (1, 0, false)]) (.cond (.seq (.reg [.op (0, 0, false), .op (1, 0, false)]) .leaf) .leaf)) (.reg [.op (0, 0, false), .op (1, 0, false), .op (2, 2, false), .op (3, 2, false), .op (4, 0, false)])))) (.reg [.op (0, 0, false), .op (1, 0, false), .op (2, 0, false)])))))) (.seq (.reg [.op (0, 0, false), .op (1, 2, false), .op (2, 0, false), .op (3, 0, false)]) .leaf)))))
theorem I_spec_TimesMatrix {a0 a1 : Value} {w : World} {K : Value → World → Prop} (h : D_spec_TimesMatrix a0 a1 w K) : call P f_spec_TimesMatrix [a0, a1] w K :=
  call_of_vc mixed Try.func27 (c := codeOf Try.f27) (by kernel_rfl) (by kernel_rfl) (p := P_spec_TimesMatrix) (by kernel_rfl) (by rw [Try.ntmps27]; simp) (by
    have e : D_spec_TimesMatrix a0 a1 w K = vc P P_spec_TimesMatrix (codeOf Try.f27) (env0 [a0, a1]) w (retX P Try.f27.results.toList K) := by kernel_rfl
    exact e ▸ h)

/-- impl.TimesMatrix -/
def D_impl_TimesMatrix (a0 a1 : Value) (w : World) (K : Value → World → Prop) : Prop :=
  call P f_impl_IsMatrix [a0] w fun x12_1 w2 =>
  una P .not x12_1 w2 fun x13_3 =>
  ∃ J4 : Value → World → Prop, (∀ (x17_5 : Value) (junk7 : Env) (w6 : World), J4 x17_5 w6 →
    pick x13_3 (.bool true) x17_5 fun x18_8 =>
    cnd x18_8
      (K (.tuple #[(.slice none 0 0), (.int .i64 1)]) w6)
      (bl0 P .len #[22] 3 [a0] w6 fun x20_9 =>
      bl0 P .len #[22] 3 [a1] w6 fun x22_10 =>
      bin P .neq 3 false false x20_9 x22_10 w6 fun x23_11 =>
      cnd x23_11
        (K (.tuple #[(.slice none 0 0), (.int .i64 2)]) w6)
        (bl0 P .len #[22] 3 [a0] w6 fun x25_12 =>
        call P f_impl_empty [x25_12] w6 fun x26_13 w14 =>
        bl0 P .len #[22] 3 [a1] w14 fun x28_15 =>
        ∃ I16 : Nat → Value → World → Prop, (∃ m48, I16 m48 (.int .i64 0) w14) ∧ ∀ (m19 : Nat) (x29_20 : Value) (junk17 : Env) (w18 : World), I16 m19 x29_20 w18 →
          bin P .lss 3 false false x29_20 x28_15 w18 fun x30_21 =>
          cnd x30_21
            (call P f_impl_column [a1, x29_20] w18 fun x36_22 w23 =>
            call P f_impl_timesVector [a0, x36_22] w23 fun x37_24 w25 =>
            xtr P x37_24 0 w25 fun x38_26 =>
            xtr P x37_24 1 w25 fun x39_27 =>
            una P .not x39_27 w25 fun x41_28 =>
            cnd x41_28
              (K (.tuple #[(.slice none 0 0), (.int .i64 3)]) w25)
              (bl0 P .len #[36] 3 [x38_26] w25 fun x43_29 =>
              ∃ I30 : Nat → Value → World → Prop, (∃ m47, I30 m47 (.int .i64 0) w25) ∧ ∀ (m33 : Nat) (x44_34 : Value) (junk31 : Env) (w32 : World), I30 m33 x44_34 w32 →
                bin P .lss 3 false false x44_34 x43_29 w32 fun x45_35 =>
                cnd x45_35
                  (ixa P 22 x26_13 x44_34 w32 fun x49_36 =>
                  ld P 36 x49_36 w32 fun x50_37 =>
                  ixa P 36 x38_26 x44_34 w32 fun x54_38 =>
                  ld P 63 x54_38 w32 fun x55_39 =>
                  ixa P 36 x50_37 x29_20 w32 fun x56_40 =>
                  sto P 63 x56_40 x55_39 w32 fun w42 =>
                  bin P .add 3 false true x44_34 (.int .i64 1) w42 fun x57_43 =>
                  ∃ m44, m44 < m33 ∧ I30 m44 x57_43 w42)
                  (bin P .add 3 false true x29_20 (.int .i64 1) w32 fun x58_45 =>
                  ∃ m46, m46 < m19 ∧ I16 m46 x58_45 w32)))
            (K (.tuple #[x26_13, (.int .i64 0)]) w18)))) ∧
    grd x13_3 false
      (call P f_impl_IsMatrix [a1] w2 fun x16_49 w50 =>
      una P .not x16_49 w50 fun x17_51 =>
      J4 x17_51 w50)
      (J4 undef w2)
def P_impl_TimesMatrix : Plan := (.seq (.reg [.op (0, 0, false), .op (1, 0, false)]) (.seq (.seq (.reg [.op (0, 0, false), .op (1, 2, false), .op (2, 0, false), .op (3, 0, false), .grp 3 false [(4, 0, false), (5, 2, false), (6, 0, false)] [17] 229376, .op (7, 0, false)]) (.cond (.seq (.reg [.op (0, 0, false), .op (1, 0, false)]) .leaf) .leaf)) (.seq (.seq (.reg [.op (0, 0, false), .op (1, 0, false), .op (2, 0, false), .op (3, 0, false), .op (4, 0, false)]) (.cond (.seq (.reg [.op (0, 0, false), .op (1, 0, false)]) .leaf) .leaf)) (.seq (.reg [.op (0, 0, false), .op (1, 0, false), .op (2, 2, false), .op (3, 0, false)]) (.seq (.seq (.reg [.op (0, 0, false), .op (1, 0, false), .op (2, 0, false)]) (.blk (.loop [29] 576460751766554544 (.seq (.reg [.op (0, 0, false)]) (.seq (.cond .leaf .leaf) (.seq (.blk (.seq (.reg [.op (0, 0, false), .op (1, 0, false)]) (.seq (.reg [.op (0, 0, false), .op (1, 0, false), .op (2, 0, false), .op (3, 2, false), .op (4, 2, false), .op (5, 0, false), .op (6, 0, false), .op (7, 0, false), .op (8, 0, false), .op (9, 0, false)]) (.seq (.seq (.reg [.op (0, 0, false), .op (1, 0, false)]) (.cond (.seq (.reg [.op (0, 0, false), .op (1, 0, false)]) .leaf) .leaf)) (.seq (.reg [.op (0, 0, false), .op (1, 0, false), .op (2, 0, false)]) (.blk (.loop [44] 288212783965668352 (.seq (.reg [.op (0, 0, false)]) (.seq (.cond .leaf .leaf) (.seq (.blk (.seq (.reg [.op (0, 0, false), .op (1, 0, false)]) (.reg [.op (0, 0, false), .op (1, 0, false), .op (2, 0, false), .op (3, 0, false), .op (4, 0, false), .op (5, 0, false), .op (6, 0, false), .op (7, 0, false), .op (8, 0, false), .op (9, 0, false), .op (10, 2, false)]))) (.reg [.op (0, 0, false), .op (1, 0, false)]))))))))))) (.reg [.op (0, 0, false), .op (1, 0, false)]))))))) (.seq (.reg [.op (0, 0, false), .op (1, 0, false), .op (2, 0, false)]) .leaf))))))
theorem I_impl_TimesMatrix {a0 a1 : Value} {w : World} {K : Value → World → Prop} (h : D_impl_TimesMatrix a0 a1 w K) : call P f_impl_TimesMatrix [a0, a1] w K :=
  call_of_vc mixed Try.func28 (c := codeOf Try.f28) (by kernel_rfl) (by kernel_rfl) (p := P_impl_TimesMatrix) (by kernel_rfl) (by rw [Try.ntmps28]; simp) (by
    have e : D_impl_TimesMatrix a0 a1 w K = vc P P_impl_TimesMatrix (codeOf Try.f28) (env0 [a0, a1]) w (retX P Try.f28.results.toList K) := by kernel_rfl
    exact e ▸ h)

/-- laws.heldFloat32SS -/
def D_laws_heldFloat32SS (a0 a1 : Value) (w : World) (K : Value → World → Prop) : Prop :=
  ∃ I1 : Nat → Value → Value → World → Prop, (∃ m16, I1 m16 a1 (.int .i64 0) w) ∧ ∀ (m4 : Nat) (x1_5 : Value) (x5_6 : Value) (junk2 : Env) (w3 : World), I1 m4 x1_5 x5_6 w3 →
    bl0 P .len #[22] 3 [a0] w3 fun x8_7 =>
    bin P .lss 3 false false x5_6 x8_7 w3 fun x9_8 =>
    cnd x9_8
      (ixa P 22 a0 x5_6 w3 fun x14_9 =>
      ld P 36 x14_9 w3 fun x15_10 =>
      call P f_laws_heldFloat32S [x15_10, x1_5] w3 fun x17_11 w12 =>
      bin P .lss 3 false true x17_11 (.int .i64 0) w12 fun x19_13 =>
      cnd x19_13
        (K (.int .i64 (-1)) w12)
        (bin P .add 3 false true x5_6 (.int .i64 1) w12 fun x11_14 =>
        ∃ m15, m15 < m4 ∧ I1 m15 x17_11 x11_14 w12))
      (K x1_5 w3)
def P_laws_heldFloat32SS : Plan := (.seq (.reg [.op (0, 0, false)]) (.seq (.seq (.reg [.op (0, 0, false)]) (.blk (.loop [1, 5] 1048562 (.seq (.seq (.reg [.op (0, 0, false), .op (1, 0, false), .op (2, 0, false), .op (3, 0, false)]) (.cond .leaf .leaf)) (.seq (.blk (.seq (.reg [.op (0, 0, false), .op (1, 0, false), .op (2, 0, false), .op (3, 0, false), .op (4, 0, false), .op (5, 2, false), .op (6, 0, false)]) (.seq (.reg [.op (0, 0, false), .op (1, 0, false)]) (.cond (.seq (.reg [.op (0, 0, false)]) .leaf) .leaf)))) (.reg [.op (0, 0, false), .op (1, 0, false), .op (2, 0, false)])))))) (.seq (.reg [.op (0, 0, false), .op (1, 0, false)]) .leaf)))
theorem I_laws_heldFloat32SS {a0 a1 : Value} {w : World} {K : Value → World → Prop} (h : D_laws_heldFloat32SS a0 a1 w K) : call P f_laws_heldFloat32SS [a0, a1] w K :=
  call_of_vc mixed Try.func29 (c := codeOf Try.f29) (by kernel_rfl) (by kernel_rfl) (p := P_laws_heldFloat32SS) (by kernel_rfl) (by rw [Try.ntmps29]; simp) (by
    have e : D_laws_heldFloat32SS a0 a1 w K = vc P P_laws_heldFloat32SS (codeOf Try.f29) (env0 [a0, a1]) w (retX P Try.f29.results.toList K) := by kernel_rfl
    exact e ▸ h)

/-- spec.EliminationOf -/
def D_spec_EliminationOf (a0 : Value) (w : World) (K : Value → World → Prop) : Prop :=
  alc P 47 w fun x2_1 w2 =>
  call P f_spec_l10Is [a0] w2 fun x7_3 w4 =>
  una P .not x7_3 w4 fun x8_5 =>
  cnd x8_5
    (bld P 47 [] w4 fun x9_6 =>
    sto P 47 x2_1 x9_6 w4 fun w8 =>
    ldc P 47 x2_1 w8 fun r9 =>
    K (.tuple #[r9, (.int .i64 1)]) w8)
    (call P f_spec_l10Eliminate [a0] w4 fun x12_10 w11 =>
    xtr P x12_10 0 w11 fun x13_12 =>
    xtr P x12_10 1 w11 fun x14_13 =>
    alc P 47 w11 fun x4_14 w15 =>
    sto P 47 x4_14 x13_12 w15 fun w17 =>
    ld P 47 x4_14 w17 fun x15_18 =>
    sto P 47 x2_1 x15_18 w17 fun w20 =>
    ldc P 47 x2_1 w20 fun r21 =>
    K (.tuple #[r21, x14_13]) w20)
def P_spec_EliminationOf : Plan := (.seq (.reg [.op (0, 2, false), .op (1, 0, false)]) (.seq (.seq (.reg [.op (0, 0, false), .op (1, 2, false), .op (2, 0, false)]) (.cond (.seq (.reg [.op (0, 0, false), .op (1, 2, false), .op (2, 0, false)]) .leaf) .leaf)) (.seq (.reg [.op (0, 0, false), .op (1, 2, false), .op (2, 0, false), .op (3, 0, false), .op (4, 0, false), .op (5, 2, false), .op (6, 2, false), .op (7, 0, false)]) (.seq (.reg [.op (0, 0, false), .op (1, 0, false), .op (2, 2, false), .op (3, 0, false)]) .leaf))))
theorem I_spec_EliminationOf {a0 : Value} {w : World} {K : Value → World → Prop} (h : D_spec_EliminationOf a0 w K) : call P f_spec_EliminationOf [a0] w K :=
  call_of_vc mixed Try.func30 (c := codeOf Try.f30) (by kernel_rfl) (by kernel_rfl) (p := P_spec_EliminationOf) (by kernel_rfl) (by rw [Try.ntmps30]; simp) (by
    have e : D_spec_EliminationOf a0 w K = vc P P_spec_EliminationOf (codeOf Try.f30) (env0 [a0]) w (retX P Try.f30.results.toList K) := by kernel_rfl
    exact e ▸ h)

/-- impl.EliminationOf -/
def D_impl_EliminationOf (a0 : Value) (w : World) (K : Value → World → Prop) : Prop :=
  alc P 47 w fun x2_1 w2 =>
  call P f_impl_IsMatrix [a0] w2 fun x5_3 w4 =>
  una P .not x5_3 w4 fun x6_5 =>
  cnd x6_5
    (bld P 47 [] w4 fun x7_6 =>
    sto P 47 x2_1 x7_6 w4 fun w8 =>
    ldc P 47 x2_1 w8 fun r9 =>
    K (.tuple #[r9, (.int .i64 1)]) w8)
    (call P f_impl_eliminate [a0] w4 fun x9_10 w11 =>
    xtr P x9_10 0 w11 fun x10_12 =>
    xtr P x9_10 1 w11 fun x11_13 =>
    sto P 47 x2_1 x10_12 w11 fun w15 =>
    ldc P 47 x2_1 w15 fun r16 =>
    K (.tuple #[r16, x11_13]) w15)
def P_impl_EliminationOf : Plan := (.seq (.reg [.op (0, 2, false), .op (1, 0, false)]) (.seq (.seq (.reg [.op (0, 0, false), .op (1, 2, false), .op (2, 0, false)]) (.cond (.seq (.reg [.op (0, 0, false), .op (1, 2, false), .op (2, 0, false)]) .leaf) .leaf)) (.seq (.reg [.op (0, 0, false), .op (1, 2, false), .op (2, 0, false), .op (3, 0, false), .op (4, 2, false), .op (5, 0, false)]) .leaf)))
theorem I_impl_EliminationOf {a0 : Value} {w : World} {K : Value → World → Prop} (h : D_impl_EliminationOf a0 w K) : call P f_impl_EliminationOf [a0] w K :=
  call_of_vc mixed Try.func31 (c := codeOf Try.f31) (by kernel_rfl) (by kernel_rfl) (p := P_impl_EliminationOf) (by kernel_rfl) (by rw [Try.ntmps31]; simp) (by
    have e : D_impl_EliminationOf a0 w K = vc P P_impl_EliminationOf (codeOf Try.f31) (env0 [a0]) w (retX P Try.f31.results.toList K) := by kernel_rfl
    exact e ▸ h)

/-- laws.eqElimination -/
def D_laws_eqElimination (a0 a1 : Value) (w : World) (K : Value → World → Prop) : Prop :=
  bx P 47 a0 w fun x2_1 w2 =>
  bx P 47 a1 w2 fun x3_3 w4 =>
  fda P 47 x2_1 0 w4 fun x5_5 =>
  ld P 45 x5_5 w4 fun x6_6 =>
  fda P 47 x3_3 0 w4 fun x7_7 =>
  ld P 45 x7_7 w4 fun x8_8 =>
  call P f_laws_eqInt64S [x6_6, x8_8] w4 fun x9_9 w10 =>
  una P .not x9_9 w10 fun x10_11 =>
  cnd x10_11
    (K (.bool false) w10)
    (fda P 47 x2_1 1 w10 fun x11_12 =>
    ld P 22 x11_12 w10 fun x12_13 =>
    fda P 47 x3_3 1 w10 fun x13_14 =>
    ld P 22 x13_14 w10 fun x14_15 =>
    call P f_laws_eqFloat32SS [x12_13, x14_15] w10 fun x15_16 w17 =>
    una P .not x15_16 w17 fun x16_18 =>
    cnd x16_18
      (K (.bool false) w17)
      (K (.bool true) w17))
def P_laws_eqElimination : Plan := (.seq (.reg [.op (0, 2, false), .op (1, 2, false), .op (2, 0, false)]) (.seq (.seq (.reg [.op (0, 0, false), .op (1, 0, false), .op (2, 0, false), .op (3, 0, false), .op (4, 2, false), .op (5, 0, false)]) (.cond (.seq (.reg [.op (0, 0, false)]) .leaf) .leaf)) (.seq (.seq (.reg [.op (0, 0, false), .op (1, 0, false), .op (2, 0, false), .op (3, 0, false), .op (4, 2, false), .op (5, 0, false)]) (.cond (.seq (.reg [.op (0, 0, false)]) .leaf) .leaf)) (.seq (.reg [.op (0, 0, false)]) .leaf))))
theorem I_laws_eqElimination {a0 a1 : Value} {w : World} {K : Value → World → Prop} (h : D_laws_eqElimination a0 a1 w K) : call P f_laws_eqElimination [a0, a1] w K :=
  call_of_vc mixed Try.func32 (c := codeOf Try.f32) (by kernel_rfl) (by kernel_rfl) (p := P_laws_eqElimination) (by kernel_rfl) (by rw [Try.ntmps32]; simp) (by
    have e : D_laws_eqElimination a0 a1 w K = vc P P_laws_eqElimination (codeOf Try.f32) (env0 [a0, a1]) w (retX P Try.f32.results.toList K) := by kernel_rfl
    exact e ▸ h)

/-- laws.markElimination -/
def D_laws_markElimination (a0 a1 : Value) (w : World) (K : Value → World → Prop) : Prop :=
  bx P 47 a0 w fun x2_1 w2 =>
  fda P 47 x2_1 0 w2 fun x5_3 =>
  ld P 45 x5_3 w2 fun x6_4 =>
  call P f_laws_markInt64S [x6_4, a1] w2 fun x8_5 w6 =>
  fda P 47 x2_1 1 w6 fun x9_7 =>
  ld P 22 x9_7 w6 fun x10_8 =>
  call P f_laws_markFloat32SS [x10_8, x8_5] w6 fun x12_9 w10 =>
  K x12_9 w10
def P_laws_markElimination : Plan := (.seq (.reg [.op (0, 2, false), .op (1, 0, false)]) (.seq (.reg [.op (0, 0, false), .op (1, 0, false), .op (2, 0, false), .op (3, 2, false), .op (4, 0, false)]) (.seq (.reg [.op (0, 0, false), .op (1, 0, false), .op (2, 0, false), .op (3, 2, false), .op (4, 0, false)]) (.seq (.reg [.op (0, 0, false), .op (1, 0, false)]) .leaf))))
theorem I_laws_markElimination {a0 a1 : Value} {w : World} {K : Value → World → Prop} (h : D_laws_markElimination a0 a1 w K) : call P f_laws_markElimination [a0, a1] w K :=
  call_of_vc mixed Try.func33 (c := codeOf Try.f33) (by kernel_rfl) (by kernel_rfl) (p := P_laws_markElimination) (by kernel_rfl) (by rw [Try.ntmps33]; simp) (by
    have e : D_laws_markElimination a0 a1 w K = vc P P_laws_markElimination (codeOf Try.f33) (env0 [a0, a1]) w (retX P Try.f33.results.toList K) := by kernel_rfl
    exact e ▸ h)

/-- laws.heldElimination -/
def D_laws_heldElimination (a0 a1 : Value) (w : World) (K : Value → World → Prop) : Prop :=
  bx P 47 a0 w fun x2_1 w2 =>
  fda P 47 x2_1 0 w2 fun x5_3 =>
  ld P 45 x5_3 w2 fun x6_4 =>
  call P f_laws_heldInt64S [x6_4, a1] w2 fun x8_5 w6 =>
  bin P .lss 3 false true x8_5 (.int .i64 0) w6 fun x10_7 =>
  cnd x10_7
    (K (.int .i64 (-1)) w6)
    (fda P 47 x2_1 1 w6 fun x11_8 =>
    ld P 22 x11_8 w6 fun x12_9 =>
    call P f_laws_heldFloat32SS [x12_9, x8_5] w6 fun x14_10 w11 =>
    bin P .lss 3 false true x14_10 (.int .i64 0) w11 fun x16_12 =>
    cnd x16_12
      (K (.int .i64 (-1)) w11)
      (K x14_10 w11))
def P_laws_heldElimination : Plan := (.seq (.reg [.op (0, 2, false), .op (1, 0, false)]) (.seq (.reg [.op (0, 0, false), .op (1, 0, false), .op (2, 0, false), .op (3, 2, false), .op (4, 0, false)]) (.seq (.seq (.reg [.op (0, 0, false), .op (1, 0, false)]) (.cond (.seq (.reg [.op (0, 0, false)]) .leaf) .leaf)) (.seq (.reg [.op (0, 0, false), .op (1, 0, false), .op (2, 0, false), .op (3, 2, false), .op (4, 0, false)]) (.seq (.seq (.reg [.op (0, 0, false), .op (1, 0, false)]) (.cond (.seq (.reg [.op (0, 0, false)]) .leaf) .leaf)) (.seq (.reg [.op (0, 0, false), .op (1, 0, false)]) .leaf))))))
theorem I_laws_heldElimination {a0 a1 : Value} {w : World} {K : Value → World → Prop} (h : D_laws_heldElimination a0 a1 w K) : call P f_laws_heldElimination [a0, a1] w K :=
  call_of_vc mixed Try.func34 (c := codeOf Try.f34) (by kernel_rfl) (by kernel_rfl) (p := P_laws_heldElimination) (by kernel_rfl) (by rw [Try.ntmps34]; simp) (by
    have e : D_laws_heldElimination a0 a1 w K = vc P P_laws_heldElimination (codeOf Try.f34) (env0 [a0, a1]) w (retX P Try.f34.results.toList K) := by kernel_rfl
    exact e ▸ h)

/-- spec.SolveSystem -/
def D_spec_SolveSystem (a0 a1 : Value) (w : World) (K : Value → World → Prop) : Prop :=
  bsl P 22 1 [(0, a1)] w fun x13_1 w2 =>
  call P f_spec_l10Code [a0, x13_1] w2 fun x14_3 w4 =>
  bin P .neq 2 false true x14_3 (.int .i64 0) w4 fun x16_5 =>
  cnd x16_5
    (K (.tuple #[(.slice none 0 0), x14_3]) w4)
    (call P f_spec_l10Eliminate [a0] w4 fun x20_6 w7 =>
    xtr P x20_6 0 w7 fun x21_8 =>
    xtr P x20_6 1 w7 fun x22_9 =>
    alc P 47 w7 fun x7_10 w11 =>
    sto P 47 x7_10 x21_8 w11 fun w13 =>
    bin P .neq 2 false true x22_9 (.int .i64 0) w13 fun x24_14 =>
    cnd x24_14
      (K (.tuple #[(.slice none 0 0), x22_9]) w13)
      (ld P 47 x7_10 w13 fun x27_15 =>
      call P f_spec_l10Solve [x27_15, a1] w13 fun x29_16 w17 =>
      xtr P x29_16 0 w17 fun x30_18 =>
      xtr P x29_16 1 w17 fun x31_19 =>
      una P .not x31_19 w17 fun x33_20 =>
      cnd x33_20
        (K (.tuple #[(.slice none 0 0), (.int .i64 3)]) w17)
        (K (.tuple #[x30_18, (.int .i64 0)]) w17)))
def P_spec_SolveSystem : Plan := (.seq (.reg [.op (0, 0, false), .op (1, 0, false)]) (.seq (.seq (.reg [.op (0, 0, false), .op (1, 0, false), .op (2, 2, false), .op (3, 2, false), .op (4, 0, false)]) (.seq (.reg [.op (0, 0, false), .op (1, 0, false)]) (.cond (.seq (.reg [.op (0, 0, false), .op (1, 0, false), .op (2, 0, false)]) .leaf) .leaf))) (.seq (.reg [.op (0, 0, false), .op (1, 2, false), .op (2, 0, false), .op (3, 0, false), .op (4, 0, false), .op (5, 2, false), .op (6, 2, false), .op (7, 0, false)]) (.seq (.seq (.reg [.op (0, 0, false), .op (1, 0, false)]) (.cond (.seq (.reg [.op (0, 0, false), .op (1, 0, false), .op (2, 0, false)]) .leaf) .leaf)) (.seq (.reg [.op (0, 0, false), .op (1, 0, false), .op (2, 2, false), .op (3, 0, false), .op (4, 0, false), .op (5, 0, false), .op (6, 0, false), .op (7, 0, false)]) (.seq (.seq (.reg [.op (0, 0, false), .op (1, 0, false)]) (.cond (.seq (.reg [.op (0, 0, false), .op (1, 0, false)]) .leaf) .leaf)) (.seq (.reg [.op (0, 0, false), .op (1, 0, false), .op (2, 0, false)]) .leaf)))))))
theorem I_spec_SolveSystem {a0 a1 : Value} {w : World} {K : Value → World → Prop} (h : D_spec_SolveSystem a0 a1 w K) : call P f_spec_SolveSystem [a0, a1] w K :=
  call_of_vc mixed Try.func35 (c := codeOf Try.f35) (by kernel_rfl) (by kernel_rfl) (p := P_spec_SolveSystem) (by kernel_rfl) (by rw [Try.ntmps35]; simp) (by
    have e : D_spec_SolveSystem a0 a1 w K = vc P P_spec_SolveSystem (codeOf Try.f35) (env0 [a0, a1]) w (retX P Try.f35.results.toList K) := by kernel_rfl
    exact e ▸ h)

/-- impl.SolveSystem -/
def D_impl_SolveSystem (a0 a1 : Value) (w : World) (K : Value → World → Prop) : Prop :=
  call P f_impl_IsMatrix [a0] w fun x11_1 w2 =>
  una P .not x11_1 w2 fun x12_3 =>
  ∃ J4 : Value → World → Prop, (∀ (x16_5 : Value) (junk7 : Env) (w6 : World), J4 x16_5 w6 →
    pick x12_3 (.bool true) x16_5 fun x17_8 =>
    cnd x17_8
      (K (.tuple #[(.slice none 0 0), (.int .i64 1)]) w6)
      (bl0 P .len #[22] 3 [a0] w6 fun x19_9 =>
      bl0 P .len #[36] 3 [a1] w6 fun x21_10 =>
      bin P .neq 3 false false x19_9 x21_10 w6 fun x22_11 =>
      cnd x22_11
        (K (.tuple #[(.slice none 0 0), (.int .i64 2)]) w6)
        (call P f_impl_eliminate [a0] w6 fun x25_12 w13 =>
        xtr P x25_12 0 w13 fun x26_14 =>
        xtr P x25_12 1 w13 fun x27_15 =>
        alc P 47 w13 fun x6_16 w17 =>
        sto P 47 x6_16 x26_14 w17 fun w19 =>
        bin P .neq 2 false true x27_15 (.int .i64 0) w19 fun x29_20 =>
        cnd x29_20
          (K (.tuple #[(.slice none 0 0), x27_15]) w19)
          (ld P 47 x6_16 w19 fun x32_21 =>
          call P f_impl_solve [x32_21, a1] w19 fun x34_22 w23 =>
          xtr P x34_22 0 w23 fun x35_24 =>
          xtr P x34_22 1 w23 fun x36_25 =>
          una P .not x36_25 w23 fun x38_26 =>
          cnd x38_26
            (K (.tuple #[(.slice none 0 0), (.int .i64 3)]) w23)
            (K (.tuple #[x35_24, (.int .i64 0)]) w23))))) ∧
    grd x12_3 false
      (call P f_impl_isVector [a1] w2 fun x15_27 w28 =>
      una P .not x15_27 w28 fun x16_29 =>
      J4 x16_29 w28)
      (J4 undef w2)
def P_impl_SolveSystem : Plan := (.seq (.reg [.op (0, 0, false), .op (1, 0, false)]) (.seq (.seq (.reg [.op (0, 0, false), .op (1, 2, false), .op (2, 0, false), .op (3, 0, false), .grp 3 false [(4, 0, false), (5, 2, false), (6, 0, false)] [16] 114688, .op (7, 0, false)]) (.cond (.seq (.reg [.op (0, 0, false), .op (1, 0, false)]) .leaf) .leaf)) (.seq (.seq (.reg [.op (0, 0, false), .op (1, 0, false), .op (2, 0, false), .op (3, 0, false), .op (4, 0, false)]) (.cond (.seq (.reg [.op (0, 0, false), .op (1, 0, false)]) .leaf) .leaf)) (.seq (.reg [.op (0, 0, false), .op (1, 2, false), .op (2, 0, false), .op (3, 0, false), .op (4, 0, false), .op (5, 2, false), .op (6, 2, false), .op (7, 0, false)]) (.seq (.seq (.reg [.op (0, 0, false), .op (1, 0, false)]) (.cond (.seq (.reg [.op (0, 0, false), .op (1, 0, false), .op (2, 0, false)]) .leaf) .leaf)) (.seq (.reg [.op (0, 0, false), .op (1, 0, false), .op (2, 2, false), .op (3, 0, false), .op (4, 0, false), .op (5, 0, false), .op (6, 0, false), .op (7, 0, false)]) (.seq (.seq (.reg [.op (0, 0, false), .op (1, 0, false)]) (.cond (.seq (.reg [.op (0, 0, false), .op (1, 0, false)]) .leaf) .leaf)) (.seq (.reg [.op (0, 0, false), .op (1, 0, false), .op (2, 0, false)]) .leaf))))))))
theorem I_impl_SolveSystem {a0 a1 : Value} {w : World} {K : Value → World → Prop} (h : D_impl_SolveSystem a0 a1 w K) : call P f_impl_SolveSystem [a0, a1] w K :=
  call_of_vc mixed Try.func36 (c := codeOf Try.f36) (by kernel_rfl) (by kernel_rfl) (p := P_impl_SolveSystem) (by kernel_rfl) (by rw [Try.ntmps36]; simp) (by
    have e : D_impl_SolveSystem a0 a1 w K = vc P P_impl_SolveSystem (codeOf Try.f36) (env0 [a0, a1]) w (retX P Try.f36.results.toList K) := by kernel_rfl
    exact e ▸ h)

/-- spec.InverseOf -/
def D_spec_InverseOf (a0 : Value) (w : World) (K : Value → World → Prop) : Prop :=
  call P f_spec_l10Is [a0] w fun x9_1 w2 =>
  una P .not x9_1 w2 fun x10_3 =>
  cnd x10_3
    (K (.tuple #[(.slice none 0 0), (.int .i64 1)]) w2)
    (call P f_spec_l10Eliminate [a0] w2 fun x13_4 w5 =>
    xtr P x13_4 0 w5 fun x14_6 =>
    xtr P x13_4 1 w5 fun x15_7 =>
    alc P 47 w5 fun x4_8 w9 =>
    sto P 47 x4_8 x14_6 w9 fun w11 =>
    bin P .neq 2 false true x15_7 (.int .i64 0) w11 fun x17_12 =>
    cnd x17_12
      (K (.tuple #[(.slice none 0 0), x15_7]) w11)
      (ld P 47 x4_8 w11 fun x20_13 =>
      call P f_spec_l10Inverse [x20_13] w11 fun x21_14 w15 =>
      xtr P x21_14 0 w15 fun x22_16 =>
      xtr P x21_14 1 w15 fun x23_17 =>
      una P .not x23_17 w15 fun x25_18 =>
      cnd x25_18
        (K (.tuple #[(.slice none 0 0), (.int .i64 3)]) w15)
        (K (.tuple #[x22_16, (.int .i64 0)]) w15)))
def P_spec_InverseOf : Plan := (.seq (.reg [.op (0, 0, false), .op (1, 0, false)]) (.seq (.seq (.reg [.op (0, 0, false), .op (1, 2, false), .op (2, 0, false)]) (.cond (.seq (.reg [.op (0, 0, false), .op (1, 0, false)]) .leaf) .leaf)) (.seq (.reg [.op (0, 0, false), .op (1, 2, false), .op (2, 0, false), .op (3, 0, false), .op (4, 0, false), .op (5, 2, false), .op (6, 2, false), .op (7, 0, false)]) (.seq (.seq (.reg [.op (0, 0, false), .op (1, 0, false)]) (.cond (.seq (.reg [.op (0, 0, false), .op (1, 0, false), .op (2, 0, false)]) .leaf) .leaf)) (.seq (.reg [.op (0, 0, false), .op (1, 2, false), .op (2, 0, false), .op (3, 0, false), .op (4, 0, false), .op (5, 0, false), .op (6, 0, false)]) (.seq (.seq (.reg [.op (0, 0, false), .op (1, 0, false)]) (.cond (.seq (.reg [.op (0, 0, false), .op (1, 0, false)]) .leaf) .leaf)) (.seq (.reg [.op (0, 0, false), .op (1, 0, false), .op (2, 0, false)]) .leaf)))))))
theorem I_spec_InverseOf {a0 : Value} {w : World} {K : Value → World → Prop} (h : D_spec_InverseOf a0 w K) : call P f_spec_InverseOf [a0] w K :=
  call_of_vc mixed Try.func37 (c := codeOf Try.f37) (by kernel_rfl) (by kernel_rfl) (p := P_spec_InverseOf) (by kernel_rfl) (by rw [Try.ntmps37]; simp) (by
    have e : D_spec_InverseOf a0 w K = vc P P_spec_InverseOf (codeOf Try.f37) (env0 [a0]) w (retX P Try.f37.results.toList K) := by kernel_rfl
    exact e ▸ h)

/-- impl.InverseOf -/
def D_impl_InverseOf (a0 : Value) (w : World) (K : Value → World → Prop) : Prop :=
  call P f_impl_IsMatrix [a0] w fun x9_1 w2 =>
  una P .not x9_1 w2 fun x10_3 =>
  cnd x10_3
    (K (.tuple #[(.slice none 0 0), (.int .i64 1)]) w2)
    (call P f_impl_eliminate [a0] w2 fun x13_4 w5 =>
    xtr P x13_4 0 w5 fun x14_6 =>
    xtr P x13_4 1 w5 fun x15_7 =>
    alc P 47 w5 fun x4_8 w9 =>
    sto P 47 x4_8 x14_6 w9 fun w11 =>
    bin P .neq 2 false true x15_7 (.int .i64 0) w11 fun x17_12 =>
    cnd x17_12
      (K (.tuple #[(.slice none 0 0), x15_7]) w11)
      (ld P 47 x4_8 w11 fun x20_13 =>
      call P f_impl_invert [x20_13] w11 fun x21_14 w15 =>
      xtr P x21_14 0 w15 fun x22_16 =>
      xtr P x21_14 1 w15 fun x23_17 =>
      una P .not x23_17 w15 fun x25_18 =>
      cnd x25_18
        (K (.tuple #[(.slice none 0 0), (.int .i64 3)]) w15)
        (K (.tuple #[x22_16, (.int .i64 0)]) w15)))
def P_impl_InverseOf : Plan := (.seq (.reg [.op (0, 0, false), .op (1, 0, false)]) (.seq (.seq (.reg [.op (0, 0, false), .op (1, 2, false), .op (2, 0, false)]) (.cond (.seq (.reg [.op (0, 0, false), .op (1, 0, false)]) .leaf) .leaf)) (.seq (.reg [.op (0, 0, false), .op (1, 2, false), .op (2, 0, false), .op (3, 0, false), .op (4, 0, false), .op (5, 2, false), .op (6, 2, false), .op (7, 0, false)]) (.seq (.seq (.reg [.op (0, 0, false), .op (1, 0, false)]) (.cond (.seq (.reg [.op (0, 0, false), .op (1, 0, false), .op (2, 0, false)]) .leaf) .leaf)) (.seq (.reg [.op (0, 0, false), .op (1, 2, false), .op (2, 0, false), .op (3, 0, false), .op (4, 0, false), .op (5, 0, false), .op (6, 0, false)]) (.seq (.seq (.reg [.op (0, 0, false), .op (1, 0, false)]) (.cond (.seq (.reg [.op (0, 0, false), .op (1, 0, false)]) .leaf) .leaf)) (.seq (.reg [.op (0, 0, false), .op (1, 0, false), .op (2, 0, false)]) .leaf)))))))
theorem I_impl_InverseOf {a0 : Value} {w : World} {K : Value → World → Prop} (h : D_impl_InverseOf a0 w K) : call P f_impl_InverseOf [a0] w K :=
  call_of_vc mixed Try.func38 (c := codeOf Try.f38) (by kernel_rfl) (by kernel_rfl) (p := P_impl_InverseOf) (by kernel_rfl) (by rw [Try.ntmps38]; simp) (by
    have e : D_impl_InverseOf a0 w K = vc P P_impl_InverseOf (codeOf Try.f38) (env0 [a0]) w (retX P Try.f38.results.toList K) := by kernel_rfl
    exact e ▸ h)

/-- laws.szFloat32S -/
def D_laws_szFloat32S (a0 a1 : Value) (w : World) (K : Value → World → Prop) : Prop :=
  bl0 P .len #[36] 3 [a0] w fun x7_1 =>
  bin P .sub 3 false false a1 x7_1 w fun x8_2 =>
  bin P .lss 3 false true x8_2 (.int .i64 0) w fun x10_3 =>
  cnd x10_3
    (K (.int .i64 (-1)) w)
    (K x8_2 w)
def P_laws_szFloat32S : Plan := (.seq (.reg [.op (0, 0, false)]) (.seq (.reg [.op (0, 0, false), .op (1, 0, false), .op (2, 0, false), .op (3, 0, false), .op (4, 0, false)]) (.seq (.seq (.reg [.op (0, 0, false), .op (1, 0, false)]) (.cond (.seq (.reg [.op (0, 0, false)]) .leaf) .leaf)) (.seq (.reg [.op (0, 0, false), .op (1, 0, false)]) .leaf))))
theorem I_laws_szFloat32S {a0 a1 : Value} {w : World} {K : Value → World → Prop} (h : D_laws_szFloat32S a0 a1 w K) : call P f_laws_szFloat32S [a0, a1] w K :=
  call_of_vc mixed Try.func39 (c := codeOf Try.f39) (by kernel_rfl) (by kernel_rfl) (p := P_laws_szFloat32S) (by kernel_rfl) (by rw [Try.ntmps39]; simp) (by
    have e : D_laws_szFloat32S a0 a1 w K = vc P P_laws_szFloat32S (codeOf Try.f39) (env0 [a0, a1]) w (retX P Try.f39.results.toList K) := by kernel_rfl
    exact e ▸ h)

/-- spec.l10Is -/
def D_spec_l10Is (a0 : Value) (w : World) (K : Value → World → Prop) : Prop :=
  ∃ I1 : Nat → Value → World → Prop, (∃ m34, I1 m34 (.int .i64 0) w) ∧ ∀ (m4 : Nat) (x3_5 : Value) (junk2 : Env) (w3 : World), I1 m4 x3_5 w3 →
    bl0 P .len #[22] 3 [a0] w3 fun x6_6 =>
    bin P .lss 3 false false x3_5 x6_6 w3 fun x7_7 =>
    cnd x7_7
      (ixa P 22 a0 x3_5 w3 fun x12_8 =>
      ld P 36 x12_8 w3 fun x13_9 =>
      bl0 P .len #[36] 3 [x13_9] w3 fun x14_10 =>
      bl0 P .len #[22] 3 [a0] w3 fun x16_11 =>
      bin P .neq 3 false false x14_10 x16_11 w3 fun x17_12 =>
      ∃ J13 : Value → World → Prop, (∀ (x24_14 : Value) (junk16 : Env) (w15 : World), J13 x24_14 w15 →
        pick x17_12 (.bool true) x24_14 fun x25_17 =>
        cnd x25_17
          (K (.bool false) w15)
          (bin P .add 3 false true x3_5 (.int .i64 1) w15 fun x9_18 =>
          ∃ m19, m19 < m4 ∧ I1 m19 x9_18 w15)) ∧
        grd x17_12 false
          (ixa P 22 a0 x3_5 w3 fun x21_20 =>
          ld P 36 x21_20 w3 fun x22_21 =>
          call P f_spec_l10Vector [x22_21] w3 fun x23_22 w23 =>
          una P .not x23_22 w23 fun x24_24 =>
          J13 x24_24 w23)
          (J13 undef w3))
      (bl0 P .len #[22] 3 [a0] w3 fun x27_25 =>
      bin P .geq 3 false true x27_25 (.int .i64 1) w3 fun x28_26 =>
      ∃ J27 : Value → World → Prop, (∀ (x32_28 : Value) (junk30 : Env) (w29 : World), J27 x32_28 w29 →
        pick x28_26 x32_28 (.bool false) fun x33_31 =>
        K x33_31 w29) ∧
        grd x28_26 true
          (bl0 P .len #[22] 3 [a0] w3 fun x31_32 =>
          bin P .leq 3 false true x31_32 (.int .i64 8) w3 fun x32_33 =>
          J27 x32_33 w3)
          (J27 undef w3))
def P_spec_l10Is : Plan := (.seq (.reg [.op (0, 0, false)]) (.seq (.seq (.reg [.op (0, 0, false)]) (.blk (.loop [3] 67108860 (.seq (.seq (.reg [.op (0, 0, false), .op (1, 0, false), .op (2, 0, false), .op (3, 0, false)]) (.cond .leaf .leaf)) (.seq (.blk (.seq (.reg [.op (0, 0, false), .op (1, 0, false), .op (2, 0, false), .op (3, 0, false), .op (4, 0, false), .op (5, 0, false), .op (6, 0, false), .op (7, 0, false), .op (8, 0, false), .grp 8 false [(9, 0, false), (10, 0, false), (11, 0, false), (12, 0, false), (13, 2, false), (14, 0, false)] [24] 33030144, .op (15, 0, false)]) (.cond (.seq (.reg [.op (0, 0, false)]) .leaf) .leaf))) (.reg [.op (0, 0, false), .op (1, 0, false), .op (2, 0, false)])))))) (.seq (.reg [.op (0, 0, false), .op (1, 0, false), .op (2, 0, false), .op (3, 0, false), .grp 3 true [(4, 0, false), (5, 0, false), (6, 0, false)] [32] 7516192768, .op (7, 0, false), .op (8, 0, false)]) .leaf)))
theorem I_spec_l10Is {a0 : Value} {w : World} {K : Value → World → Prop} (h : D_spec_l10Is a0 w K) : call P f_spec_l10Is [a0] w K :=
  call_of_vc mixed Try.func40 (c := codeOf Try.f40) (by kernel_rfl) (by kernel_rfl) (p := P_spec_l10Is) (by kernel_rfl) (by rw [Try.ntmps40]; simp) (by
    have e : D_spec_l10Is a0 w K = vc P P_spec_l10Is (codeOf Try.f40) (env0 [a0]) w (retX P Try.f40.results.toList K) := by kernel_rfl
    exact e ▸ h)

/-- impl.areFinite -/
def D_impl_areFinite (a0 : Value) (w : World) (K : Value → World → Prop) : Prop :=
  bl0 P .len #[36] 3 [a0] w fun x6_1 =>
  ∃ I2 : Nat → Value → World → Prop, (∃ m15, I2 m15 (.int .i64 0) w) ∧ ∀ (m5 : Nat) (x7_6 : Value) (junk3 : Env) (w4 : World), I2 m5 x7_6 w4 →
    bin P .lss 3 false false x7_6 x6_1 w4 fun x8_7 =>
    cnd x8_7
      (ixa P 36 a0 x7_6 w4 fun x9_8 =>
      ld P 63 x9_8 w4 fun x10_9 =>
      call P f_impl_isFinite [x10_9] w4 fun x12_10 w11 =>
      una P .not x12_10 w11 fun x13_12 =>
      cnd x13_12
        (K (.bool false) w11)
        (bin P .add 3 false true x7_6 (.int .i64 1) w11 fun x14_13 =>
        ∃ m14, m14 < m5 ∧ I2 m14 x14_13 w11))
      (K (.bool true) w4)
def P_impl_areFinite : Plan := (.seq (.reg [.op (0, 0, false)]) (.seq (.seq (.reg [.op (0, 0, false), .op (1, 0, false), .op (2, 0, false)]) (.blk (.loop [7] 32660 (.seq (.reg [.op (0, 0, false)]) (.seq (.cond .leaf .leaf) (.seq (.blk (.seq (.reg [.op (0, 0, false), .op (1, 0, false), .op (2, 0, false)]) (.seq (.reg [.op (0, 0, false), .op (1, 2, false), .op (2, 0, false)]) (.cond (.seq (.reg [.op (0, 0, false)]) .leaf) .leaf)))) (.reg [.op (0, 0, false), .op (1, 0, false)]))))))) (.seq (.reg [.op (0, 0, false)]) .leaf)))
theorem I_impl_areFinite {a0 : Value} {w : World} {K : Value → World → Prop} (h : D_impl_areFinite a0 w K) : call P f_impl_areFinite [a0] w K :=
  call_of_vc mixed Try.func41 (c := codeOf Try.f41) (by kernel_rfl) (by kernel_rfl) (p := P_impl_areFinite) (by kernel_rfl) (by rw [Try.ntmps41]; simp) (by
    have e : D_impl_areFinite a0 w K = vc P P_impl_areFinite (codeOf Try.f41) (env0 [a0]) w (retX P Try.f41.results.toList K) := by kernel_rfl
    exact e ▸ h)

/-- laws.eqStringS -/
def D_laws_eqStringS (a0 a1 : Value) (w : World) (K : Value → World → Prop) : Prop :=
  bl0 P .len #[27] 3 [a0] w fun x7_1 =>
  bl0 P .len #[27] 3 [a1] w fun x9_2 =>
  bin P .neq 3 false false x7_1 x9_2 w fun x10_3 =>
  cnd x10_3
    (K (.bool false) w)
    (∃ I4 : Nat → Value → World → Prop, (∃ m18, I4 m18 (.int .i64 0) w) ∧ ∀ (m7 : Nat) (x5_8 : Value) (junk5 : Env) (w6 : World), I4 m7 x5_8 w6 →
      bl0 P .len #[27] 3 [a0] w6 fun x13_9 =>
      bin P .lss 3 false false x5_8 x13_9 w6 fun x14_10 =>
      cnd x14_10
        (ixa P 27 a0 x5_8 w6 fun x19_11 =>
        ld P 9 x19_11 w6 fun x20_12 =>
        ixa P 27 a1 x5_8 w6 fun x23_13 =>
        ld P 9 x23_13 w6 fun x24_14 =>
        bin P .neq 9 false false x20_12 x24_14 w6 fun x25_15 =>
        cnd x25_15
          (K (.bool false) w6)
          (bin P .add 3 false true x5_8 (.int .i64 1) w6 fun x16_16 =>
          ∃ m17, m17 < m7 ∧ I4 m17 x16_16 w6))
        (K (.bool true) w6))
def P_laws_eqStringS : Plan := (.seq (.reg [.op (0, 0, false)]) (.seq (.seq (.reg [.op (0, 0, false), .op (1, 0, false), .op (2, 0, false), .op (3, 0, false), .op (4, 0, false)]) (.cond (.seq (.reg [.op (0, 0, false)]) .leaf) .leaf)) (.seq (.seq (.reg [.op (0, 0, false)]) (.blk (.loop [5] 67106864 (.seq (.seq (.reg [.op (0, 0, false), .op (1, 0, false), .op (2, 0, false), .op (3, 0, false)]) (.cond .leaf .leaf)) (.seq (.blk (.seq (.reg [.op (0, 0, false), .op (1, 0, false), .op (2, 0, false), .op (3, 0, false), .op (4, 0, false), .op (5, 0, false), .op (6, 0, false), .op (7, 0, false), .op (8, 0, false)]) (.cond (.seq (.reg [.op (0, 0, false)]) .leaf) .leaf))) (.reg [.op (0, 0, false), .op (1, 0, false), .op (2, 0, false)])))))) (.seq (.reg [.op (0, 0, false)]) .leaf))))
theorem I_laws_eqStringS {a0 a1 : Value} {w : World} {K : Value → World → Prop} (h : D_laws_eqStringS a0 a1 w K) : call P f_laws_eqStringS [a0, a1] w K :=
  call_of_vc mixed Try.func42 (c := codeOf Try.f42) (by kernel_rfl) (by kernel_rfl) (p := P_laws_eqStringS) (by kernel_rfl) (by rw [Try.ntmps42]; simp) (by
    have e : D_laws_eqStringS a0 a1 w K = vc P P_laws_eqStringS (codeOf Try.f42) (env0 [a0, a1]) w (retX P Try.f42.results.toList K) := by kernel_rfl
    exact e ▸ h)

/-- laws.eqProgramS -/
def D_laws_eqProgramS (a0 a1 : Value) (w : World) (K : Value → World → Prop) : Prop :=
  bl0 P .len #[28] 3 [a0] w fun x7_1 =>
  bl0 P .len #[28] 3 [a1] w fun x9_2 =>
  bin P .neq 3 false false x7_1 x9_2 w fun x10_3 =>
  cnd x10_3
    (K (.bool false) w)
    (∃ I4 : Nat → Value → World → Prop, (∃ m20, I4 m20 (.int .i64 0) w) ∧ ∀ (m7 : Nat) (x5_8 : Value) (junk5 : Env) (w6 : World), I4 m7 x5_8 w6 →
      bl0 P .len #[28] 3 [a0] w6 fun x13_9 =>
      bin P .lss 3 false false x5_8 x13_9 w6 fun x14_10 =>
      cnd x14_10
        (ixa P 28 a0 x5_8 w6 fun x19_11 =>
        ld P 77 x19_11 w6 fun x20_12 =>
        ixa P 28 a1 x5_8 w6 fun x23_13 =>
        ld P 77 x23_13 w6 fun x24_14 =>
        call P f_laws_eqProgram [x20_12, x24_14] w6 fun x25_15 w16 =>
        una P .not x25_15 w16 fun x26_17 =>
        cnd x26_17
          (K (.bool false) w16)
          (bin P .add 3 false true x5_8 (.int .i64 1) w16 fun x16_18 =>
          ∃ m19, m19 < m7 ∧ I4 m19 x16_18 w16))
        (K (.bool true) w6))
def P_laws_eqProgramS : Plan := (.seq (.reg [.op (0, 0, false)]) (.seq (.seq (.reg [.op (0, 0, false), .op (1, 0, false), .op (2, 0, false), .op (3, 0, false), .op (4, 0, false)]) (.cond (.seq (.reg [.op (0, 0, false)]) .leaf) .leaf)) (.seq (.seq (.reg [.op (0, 0, false)]) (.blk (.loop [5] 134215728 (.seq (.seq (.reg [.op (0, 0, false), .op (1, 0, false), .op (2, 0, false), .op (3, 0, false)]) (.cond .leaf .leaf)) (.seq (.blk (.seq (.reg [.op (0, 0, false), .op (1, 0, false), .op (2, 0, false), .op (3, 0, false), .op (4, 0, false), .op (5, 0, false), .op (6, 0, false), .op (7, 0, false), .op (8, 2, false), .op (9, 0, false)]) (.cond (.seq (.reg [.op (0, 0, false)]) .leaf) .leaf))) (.reg [.op (0, 0, false), .op (1, 0, false), .op (2, 0, false)])))))) (.seq (.reg [.op (0, 0, false)]) .leaf))))
theorem I_laws_eqProgramS {a0 a1 : Value} {w : World} {K : Value → World → Prop} (h : D_laws_eqProgramS a0 a1 w K) : call P f_laws_eqProgramS [a0, a1] w K :=
  call_of_vc mixed Try.func43 (c := codeOf Try.f43) (by kernel_rfl) (by kernel_rfl) (p := P_laws_eqProgramS) (by kernel_rfl) (by rw [Try.ntmps43]; simp) (by
    have e : D_laws_eqProgramS a0 a1 w K = vc P P_laws_eqProgramS (codeOf Try.f43) (env0 [a0, a1]) w (retX P Try.f43.results.toList K) := by kernel_rfl
    exact e ▸ h)

end Go.Proofs.Ytliagkijeigcaaa
