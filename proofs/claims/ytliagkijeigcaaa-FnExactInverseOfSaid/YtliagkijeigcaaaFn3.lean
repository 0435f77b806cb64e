/- Written by a program (gen.py): what is left to show of each function's call. -/
import Derived.Test.YtliagkijeigcaaaIds
set_option linter.unusedVariables false
namespace Go.Proofs.Ytliagkijeigcaaa
open Go Go.Vc

/-- laws.eqInt64S -/
def D_laws_eqInt64S (a0 a1 : Value) (w : World) (K : Value → World → Prop) : Prop :=
  bl0 P .len #[45] 3 [a0] w fun x7_1 =>
  bl0 P .len #[45] 3 [a1] w fun x9_2 =>
  bin P .neq 3 false false x7_1 x9_2 w fun x10_3 =>
  cnd x10_3
    (K (.bool false) w)
    (∃ I4 : Nat → Value → World → Prop, (∃ m18, I4 m18 (.int .i64 0) w) ∧ ∀ (m7 : Nat) (x5_8 : Value) (junk5 : Env) (w6 : World), I4 m7 x5_8 w6 →
      bl0 P .len #[45] 3 [a0] w6 fun x13_9 =>
      bin P .lss 3 false false x5_8 x13_9 w6 fun x14_10 =>
      cnd x14_10
        (ixa P 45 a0 x5_8 w6 fun x19_11 =>
        ld P 2 x19_11 w6 fun x20_12 =>
        ixa P 45 a1 x5_8 w6 fun x23_13 =>
        ld P 2 x23_13 w6 fun x24_14 =>
        bin P .neq 2 false false x20_12 x24_14 w6 fun x25_15 =>
        cnd x25_15
          (K (.bool false) w6)
          (bin P .add 3 false true x5_8 (.int .i64 1) w6 fun x16_16 =>
          ∃ m17, m17 < m7 ∧ I4 m17 x16_16 w6))
        (K (.bool true) w6))
def P_laws_eqInt64S : Plan := (.seq (.reg [.op (0, 0, false)]) (.seq (.seq (.reg [.op (0, 0, false), .op (1, 0, false), .op (2, 0, false), .op (3, 0, false), .op (4, 0, false)]) (.cond (.seq (.reg [.op (0, 0, false)]) .leaf) .leaf)) (.seq (.seq (.reg [.op (0, 0, false)]) (.blk (.loop [5] 67106864 (.seq (.seq (.reg [.op (0, 0, false), .op (1, 0, false), .op (2, 0, false), .op (3, 0, false)]) (.cond .leaf .leaf)) (.seq (.blk (.seq (.reg [.op (0, 0, false), .op (1, 0, false), .op (2, 0, false), .op (3, 0, false), .op (4, 0, false), .op (5, 0, false), .op (6, 0, false), .op (7, 0, false), .op (8, 0, false)]) (.cond (.seq (.reg [.op (0, 0, false)]) .leaf) .leaf))) (.reg [.op (0, 0, false), .op (1, 0, false), .op (2, 0, false)])))))) (.seq (.reg [.op (0, 0, false)]) .leaf))))
theorem I_laws_eqInt64S {a0 a1 : Value} {w : World} {K : Value → World → Prop} (h : D_laws_eqInt64S a0 a1 w K) : call P f_laws_eqInt64S [a0, a1] w K :=
  call_of_vc mixed Try.func61 (c := codeOf Try.f61) (by kernel_rfl) (by kernel_rfl) (p := P_laws_eqInt64S) (by kernel_rfl) (by rw [Try.ntmps61]; simp) (by
    have e : D_laws_eqInt64S a0 a1 w K = vc P P_laws_eqInt64S (codeOf Try.f61) (env0 [a0, a1]) w (retX P Try.f61.results.toList K) := by kernel_rfl
    exact e ▸ h)

/-- laws.markInt64S -/
def D_laws_markInt64S (a0 a1 : Value) (w : World) (K : Value → World → Prop) : Prop :=
  ∃ I1 : Nat → Value → Value → World → Prop, (∃ m15, I1 m15 a1 (.int .i64 0) w) ∧ ∀ (m4 : Nat) (x1_5 : Value) (x5_6 : Value) (junk2 : Env) (w3 : World), I1 m4 x1_5 x5_6 w3 →
    bl0 P .len #[45] 3 [a0] w3 fun x8_7 =>
    bin P .lss 3 false false x5_6 x8_7 w3 fun x9_8 =>
    cnd x9_8
      (ixa P 45 a0 x5_6 w3 fun x15_9 =>
      sto P 2 x15_9 x1_5 w3 fun w11 =>
      bin P .add 3 false true x1_5 (.int .i64 1) w11 fun x17_12 =>
      bin P .add 3 false true x5_6 (.int .i64 1) w11 fun x11_13 =>
      ∃ m14, m14 < m4 ∧ I1 m14 x17_12 x11_13 w11)
      (K x1_5 w3)
def P_laws_markInt64S : Plan := (.seq (.reg [.op (0, 0, false)]) (.seq (.seq (.reg [.op (0, 0, false)]) (.blk (.loop [1, 5] 262114 (.seq (.seq (.reg [.op (0, 0, false), .op (1, 0, false), .op (2, 0, false), .op (3, 0, false)]) (.cond .leaf .leaf)) (.seq (.blk (.seq (.reg [.op (0, 0, false), .op (1, 0, false), .op (2, 0, false), .op (3, 0, false), .op (4, 2, false)]) (.reg [.op (0, 0, false), .op (1, 0, false), .op (2, 0, false)]))) (.reg [.op (0, 0, false), .op (1, 0, false), .op (2, 0, false)])))))) (.seq (.reg [.op (0, 0, false), .op (1, 0, false)]) .leaf)))
theorem I_laws_markInt64S {a0 a1 : Value} {w : World} {K : Value → World → Prop} (h : D_laws_markInt64S a0 a1 w K) : call P f_laws_markInt64S [a0, a1] w K :=
  call_of_vc mixed Try.func62 (c := codeOf Try.f62) (by kernel_rfl) (by kernel_rfl) (p := P_laws_markInt64S) (by kernel_rfl) (by rw [Try.ntmps62]; simp) (by
    have e : D_laws_markInt64S a0 a1 w K = vc P P_laws_markInt64S (codeOf Try.f62) (env0 [a0, a1]) w (retX P Try.f62.results.toList K) := by kernel_rfl
    exact e ▸ h)

/-- laws.heldInt64S -/
def D_laws_heldInt64S (a0 a1 : Value) (w : World) (K : Value → World → Prop) : Prop :=
  ∃ I1 : Nat → Value → Value → World → Prop, (∃ m15, I1 m15 a1 (.int .i64 0) w) ∧ ∀ (m4 : Nat) (x1_5 : Value) (x5_6 : Value) (junk2 : Env) (w3 : World), I1 m4 x1_5 x5_6 w3 →
    bl0 P .len #[45] 3 [a0] w3 fun x8_7 =>
    bin P .lss 3 false false x5_6 x8_7 w3 fun x9_8 =>
    cnd x9_8
      (ixa P 45 a0 x5_6 w3 fun x14_9 =>
      ld P 2 x14_9 w3 fun x15_10 =>
      bin P .neq 2 false false x15_10 x1_5 w3 fun x17_11 =>
      cnd x17_11
        (K (.int .i64 (-1)) w3)
        (bin P .add 3 false true x1_5 (.int .i64 1) w3 fun x19_12 =>
        bin P .add 3 false true x5_6 (.int .i64 1) w3 fun x11_13 =>
        ∃ m14, m14 < m4 ∧ I1 m14 x19_12 x11_13 w3))
      (K x1_5 w3)
def P_laws_heldInt64S : Plan := (.seq (.reg [.op (0, 0, false)]) (.seq (.seq (.reg [.op (0, 0, false)]) (.blk (.loop [1, 5] 1048562 (.seq (.seq (.reg [.op (0, 0, false), .op (1, 0, false), .op (2, 0, false), .op (3, 0, false)]) (.cond .leaf .leaf)) (.seq (.blk (.seq (.seq (.reg [.op (0, 0, false), .op (1, 0, false), .op (2, 0, false), .op (3, 0, false), .op (4, 0, false), .op (5, 0, false)]) (.cond (.seq (.reg [.op (0, 0, false)]) .leaf) .leaf)) (.reg [.op (0, 0, false), .op (1, 0, false), .op (2, 0, false)]))) (.reg [.op (0, 0, false), .op (1, 0, false), .op (2, 0, false)])))))) (.seq (.reg [.op (0, 0, false), .op (1, 0, false)]) .leaf)))
theorem I_laws_heldInt64S {a0 a1 : Value} {w : World} {K : Value → World → Prop} (h : D_laws_heldInt64S a0 a1 w K) : call P f_laws_heldInt64S [a0, a1] w K :=
  call_of_vc mixed Try.func63 (c := codeOf Try.f63) (by kernel_rfl) (by kernel_rfl) (p := P_laws_heldInt64S) (by kernel_rfl) (by rw [Try.ntmps63]; simp) (by
    have e : D_laws_heldInt64S a0 a1 w K = vc P P_laws_heldInt64S (codeOf Try.f63) (env0 [a0, a1]) w (retX P Try.f63.results.toList K) := by kernel_rfl
    exact e ▸ h)

/-- spec.l10Solve -/
def D_spec_l10Solve (a0 a1 : Value) (w : World) (K : Value → World → Prop) : Prop :=
  bx P 47 a0 w fun x2_1 w2 =>
  bl0 P .len #[36] 3 [a1] w2 fun x15_3 =>
  bsl P 36 0 [] w2 fun x16_4 w5 =>
  ∃ I6 : Nat → Value → Value → World → Prop, (∃ m99, I6 m99 x16_4 (.int .i64 0) w5) ∧ ∀ (m9 : Nat) (x7_10 : Value) (x8_11 : Value) (junk7 : Env) (w8 : World), I6 m9 x7_10 x8_11 w8 →
    bin P .lss 3 false false x8_11 x15_3 w8 fun x19_12 =>
    cnd x19_12
      (fda P 47 x2_1 0 w8 fun x23_13 =>
      ld P 45 x23_13 w8 fun x24_14 =>
      ixa P 45 x24_14 x8_11 w8 fun x26_15 =>
      ld P 2 x26_15 w8 fun x27_16 =>
      ixa P 36 a1 x27_16 w8 fun x28_17 =>
      ld P 63 x28_17 w8 fun x29_18 =>
      ∃ I19 : Nat → Value → Value → World → Prop, (∃ m47, I19 m47 x29_18 (.int .i64 0) w8) ∧ ∀ (m22 : Nat) (x9_23 : Value) (x10_24 : Value) (junk20 : Env) (w21 : World), I19 m22 x9_23 x10_24 w21 →
        bin P .lss 3 false false x10_24 x8_11 w21 fun x32_25 =>
        cnd x32_25
          (fda P 47 x2_1 1 w21 fun x36_26 =>
          ld P 22 x36_26 w21 fun x37_27 =>
          ixa P 22 x37_27 x8_11 w21 fun x39_28 =>
          ld P 36 x39_28 w21 fun x40_29 =>
          ixa P 36 x40_29 x10_24 w21 fun x42_30 =>
          ld P 63 x42_30 w21 fun x43_31 =>
          ixa P 36 x7_10 x10_24 w21 fun x46_32 =>
          ld P 63 x46_32 w21 fun x47_33 =>
          rbin P .mul 63 false false x43_31 x47_33 w21 fun x48_34 =>
          rbin P .sub 63 false false x9_23 x48_34 w21 fun x49_35 =>
          call P f_spec_l01Finite [x49_35] w21 fun x51_36 w37 =>
          una P .not x51_36 w37 fun x52_38 =>
          cnd x52_38
            (K (.tuple #[(.slice none 0 0), (.bool false)]) w37)
            (bin P .add 3 false true x10_24 (.int .i64 1) w37 fun x34_39 =>
            ∃ m40, m40 < m22 ∧ I19 m40 x49_35 x34_39 w37))
          (bsl P 36 1 [(0, x9_23)] w21 fun x55_41 w42 =>
          bl2 P .append #[36, 36] 36 [x7_10, x55_41] w42 fun x56_43 w44 =>
          bin P .add 3 false true x8_11 (.int .i64 1) w44 fun x21_45 =>
          ∃ m46, m46 < m9 ∧ I6 m46 x56_43 x21_45 w44))
      (bin P .sub 3 false true x15_3 (.int .i64 1) w8 fun x58_48 =>
      ∃ I49 : Nat → Value → World → Prop, (∃ m98, I49 m98 x58_48 w8) ∧ ∀ (m52 : Nat) (x11_53 : Value) (junk50 : Env) (w51 : World), I49 m52 x11_53 w51 →
        bin P .geq 3 false true x11_53 (.int .i64 0) w51 fun x60_54 =>
        cnd x60_54
          (ixa P 36 x7_10 x11_53 w51 fun x65_55 =>
          ld P 63 x65_55 w51 fun x66_56 =>
          bin P .add 3 false true x11_53 (.int .i64 1) w51 fun x68_57 =>
          ∃ I58 : Nat → Value → Value → World → Prop, (∃ m97, I58 m97 x66_56 x68_57 w51) ∧ ∀ (m61 : Nat) (x12_62 : Value) (x13_63 : Value) (junk59 : Env) (w60 : World), I58 m61 x12_62 x13_63 w60 →
            bin P .lss 3 false false x13_63 x15_3 w60 fun x71_64 =>
            cnd x71_64
              (fda P 47 x2_1 1 w60 fun x75_65 =>
              ld P 22 x75_65 w60 fun x76_66 =>
              ixa P 22 x76_66 x11_53 w60 fun x78_67 =>
              ld P 36 x78_67 w60 fun x79_68 =>
              ixa P 36 x79_68 x13_63 w60 fun x81_69 =>
              ld P 63 x81_69 w60 fun x82_70 =>
              ixa P 36 x7_10 x13_63 w60 fun x85_71 =>
              ld P 63 x85_71 w60 fun x86_72 =>
              rbin P .mul 63 false false x82_70 x86_72 w60 fun x87_73 =>
              rbin P .sub 63 false false x12_62 x87_73 w60 fun x88_74 =>
              call P f_spec_l01Finite [x88_74] w60 fun x90_75 w76 =>
              una P .not x90_75 w76 fun x91_77 =>
              cnd x91_77
                (K (.tuple #[(.slice none 0 0), (.bool false)]) w76)
                (bin P .add 3 false true x13_63 (.int .i64 1) w76 fun x73_78 =>
                ∃ m79, m79 < m61 ∧ I58 m79 x88_74 x73_78 w76))
              (fda P 47 x2_1 1 w60 fun x95_80 =>
              ld P 22 x95_80 w60 fun x96_81 =>
              ixa P 22 x96_81 x11_53 w60 fun x98_82 =>
              ld P 36 x98_82 w60 fun x99_83 =>
              ixa P 36 x99_83 x11_53 w60 fun x101_84 =>
              ld P 63 x101_84 w60 fun x102_85 =>
              rbin P .quo 63 false false x12_62 x102_85 w60 fun x103_86 =>
              ixa P 36 x7_10 x11_53 w60 fun x104_87 =>
              sto P 63 x104_87 x103_86 w60 fun w89 =>
              ixa P 36 x7_10 x11_53 w89 fun x107_90 =>
              ld P 63 x107_90 w89 fun x108_91 =>
              call P f_spec_l01Finite [x108_91] w89 fun x109_92 w93 =>
              una P .not x109_92 w93 fun x110_94 =>
              cnd x110_94
                (K (.tuple #[(.slice none 0 0), (.bool false)]) w93)
                (bin P .sub 3 false true x11_53 (.int .i64 1) w93 fun x62_95 =>
                ∃ m96, m96 < m52 ∧ I49 m96 x62_95 w93)))
          (K (.tuple #[x7_10, (.bool true)]) w51))
def P_spec_l10Solve : Plan := (.seq (.reg [.op (0, 2, false), .op (1, 0, false), .op (2, 0, false)]) (.seq (.reg [.op (0, 0, false), .op (1, 0, false), .op (2, 2, false), .op (3, 0, false), .op (4, 0, false)]) (.seq (.seq (.reg [.op (0, 0, false)]) (.blk (.loop [7, 8] 144115188075726768 (.seq (.seq (.reg [.op (0, 0, false), .op (1, 0, false), .op (2, 0, false)]) (.cond .leaf .leaf)) (.seq (.blk (.seq (.reg [.op (0, 0, false), .op (1, 0, false), .op (2, 0, false), .op (3, 0, false), .op (4, 0, false), .op (5, 0, false), .op (6, 0, false), .op (7, 0, false), .op (8, 0, false)]) (.seq (.seq (.reg [.op (0, 0, false)]) (.blk (.loop [9, 10] 9007198181000752 (.seq (.seq (.reg [.op (0, 0, false), .op (1, 0, false), .op (2, 0, false)]) (.cond .leaf .leaf)) (.seq (.blk (.seq (.reg [.op (0, 0, false), .op (1, 0, false), .op (2, 0, false), .op (3, 0, false), .op (4, 0, false), .op (5, 0, false), .op (6, 0, false), .op (7, 0, false), .op (8, 0, false), .op (9, 0, false), .op (10, 0, false), .op (11, 0, false), .op (12, 0, false), .op (13, 1, false), .op (14, 1, false), .op (15, 0, false)]) (.seq (.reg [.op (0, 0, false), .op (1, 2, false), .op (2, 0, false)]) (.cond (.seq (.reg [.op (0, 0, false), .op (1, 0, false)]) .leaf) .leaf)))) (.reg [.op (0, 0, false), .op (1, 0, false), .op (2, 0, false)])))))) (.reg [.op (0, 0, false), .op (1, 0, false), .op (2, 2, false), .op (3, 2, false), .op (4, 0, false)])))) (.reg [.op (0, 0, false), .op (1, 0, false), .op (2, 0, false)])))))) (.seq (.seq (.reg [.op (0, 0, false), .op (1, 0, false), .op (2, 0, false)]) (.blk (.loop [11] 2596148429267413237804495861200944 (.seq (.seq (.reg [.op (0, 0, false), .op (1, 0, false)]) (.cond .leaf .leaf)) (.seq (.blk (.seq (.reg [.op (0, 0, false), .op (1, 0, false), .op (2, 0, false), .op (3, 0, false), .op (4, 0, false)]) (.seq (.seq (.reg [.op (0, 0, false), .op (1, 0, false), .op (2, 0, false)]) (.blk (.loop [12, 13] 4951759566845710740890857520 (.seq (.seq (.reg [.op (0, 0, false), .op (1, 0, false), .op (2, 0, false)]) (.cond .leaf .leaf)) (.seq (.blk (.seq (.reg [.op (0, 0, false), .op (1, 0, false), .op (2, 0, false), .op (3, 0, false), .op (4, 0, false), .op (5, 0, false), .op (6, 0, false), .op (7, 0, false), .op (8, 0, false), .op (9, 0, false), .op (10, 0, false), .op (11, 0, false), .op (12, 0, false), .op (13, 1, false), .op (14, 1, false), .op (15, 0, false)]) (.seq (.reg [.op (0, 0, false), .op (1, 2, false), .op (2, 0, false)]) (.cond (.seq (.reg [.op (0, 0, false), .op (1, 0, false)]) .leaf) .leaf)))) (.reg [.op (0, 0, false), .op (1, 0, false), .op (2, 0, false)])))))) (.seq (.reg [.op (0, 0, false), .op (1, 0, false), .op (2, 0, false), .op (3, 0, false), .op (4, 0, false), .op (5, 0, false), .op (6, 0, false), .op (7, 0, false), .op (8, 0, false), .op (9, 0, false), .op (10, 0, false), .op (11, 1, false), .op (12, 0, false), .op (13, 2, false)]) (.seq (.reg [.op (0, 0, false), .op (1, 0, false), .op (2, 0, false), .op (3, 0, false), .op (4, 2, false), .op (5, 0, false)]) (.cond (.seq (.reg [.op (0, 0, false), .op (1, 0, false)]) .leaf) .leaf)))))) (.reg [.op (0, 0, false), .op (1, 0, false), .op (2, 0, false)])))))) (.seq (.reg [.op (0, 0, false), .op (1, 0, false), .op (2, 0, false)]) .leaf)))))
theorem I_spec_l10Solve {a0 a1 : Value} {w : World} {K : Value → World → Prop} (h : D_spec_l10Solve a0 a1 w K) : call P f_spec_l10Solve [a0, a1] w K :=
  call_of_vc mixed Try.func64 (c := codeOf Try.f64) (by kernel_rfl) (by kernel_rfl) (p := P_spec_l10Solve) (by kernel_rfl) (by rw [Try.ntmps64]; simp) (by
    have e : D_spec_l10Solve a0 a1 w K = vc P P_spec_l10Solve (codeOf Try.f64) (env0 [a0, a1]) w (retX P Try.f64.results.toList K) := by kernel_rfl
    exact e ▸ h)

/-- impl.solve -/
def D_impl_solve (a0 a1 : Value) (w : World) (K : Value → World → Prop) : Prop :=
  bx P 47 a0 w fun x2_1 w2 =>
  bl0 P .len #[36] 3 [a1] w2 fun x14_3 =>
  mks P 36 x14_3 x14_3 w2 fun x16_4 w5 =>
  alc P 36 w5 fun x7_6 w7 =>
  sto P 36 x7_6 x16_4 w7 fun w9 =>
  ∃ I10 : Nat → Value → World → Prop, (∃ m84, I10 m84 (.int .i64 0) w9) ∧ ∀ (m13 : Nat) (x19_14 : Value) (junk11 : Env) (w12 : World), I10 m13 x19_14 w12 →
    bin P .lss 3 false false x19_14 x14_3 w12 fun x20_15 =>
    cnd x20_15
      (ld P 36 x7_6 w12 fun x22_16 =>
      fda P 47 x2_1 0 w12 fun x25_17 =>
      ld P 45 x25_17 w12 fun x26_18 =>
      ixa P 45 x26_18 x19_14 w12 fun x28_19 =>
      ld P 2 x28_19 w12 fun x29_20 =>
      ixa P 36 a1 x29_20 w12 fun x30_21 =>
      ld P 63 x30_21 w12 fun x31_22 =>
      ixa P 36 x22_16 x19_14 w12 fun x32_23 =>
      sto P 63 x32_23 x31_22 w12 fun w25 =>
      ∃ I26 : Nat → Value → World → Prop, (∃ m39, I26 m39 (.int .i64 0) w25) ∧ ∀ (m29 : Nat) (x34_30 : Value) (junk27 : Env) (w28 : World), I26 m29 x34_30 w28 →
        bin P .lss 3 false false x34_30 x19_14 w28 fun x35_31 =>
        cnd x35_31
          (callv P (.func (.func 76) #[] #[x2_1, x7_6]) [x19_14, x34_30] w28 fun x40_32 w33 =>
          una P .not x40_32 w33 fun x41_34 =>
          cnd x41_34
            (K (.tuple #[(.slice none 0 0), (.bool false)]) w33)
            (bin P .add 3 false true x34_30 (.int .i64 1) w33 fun x42_35 =>
            ∃ m36, m36 < m29 ∧ I26 m36 x42_35 w33))
          (bin P .add 3 false true x19_14 (.int .i64 1) w28 fun x43_37 =>
          ∃ m38, m38 < m13 ∧ I10 m38 x43_37 w28))
      (bin P .sub 3 false true x14_3 (.int .i64 1) w12 fun x45_40 =>
      ∃ I41 : Nat → Value → World → Prop, (∃ m83, I41 m83 x45_40 w12) ∧ ∀ (m44 : Nat) (x11_45 : Value) (junk42 : Env) (w43 : World), I41 m44 x11_45 w43 →
        bin P .geq 3 false true x11_45 (.int .i64 0) w43 fun x47_46 =>
        cnd x47_46
          (bin P .add 3 false true x11_45 (.int .i64 1) w43 fun x51_47 =>
          ∃ I48 : Nat → Value → World → Prop, (∃ m81, I48 m81 x51_47 w43) ∧ ∀ (m51 : Nat) (x12_52 : Value) (junk49 : Env) (w50 : World), I48 m51 x12_52 w50 →
            bin P .lss 3 false false x12_52 x14_3 w50 fun x54_53 =>
            cnd x54_53
              (callv P (.func (.func 76) #[] #[x2_1, x7_6]) [x11_45, x12_52] w50 fun x60_54 w55 =>
              una P .not x60_54 w55 fun x61_56 =>
              cnd x61_56
                (K (.tuple #[(.slice none 0 0), (.bool false)]) w55)
                (bin P .add 3 false true x12_52 (.int .i64 1) w55 fun x56_57 =>
                ∃ m58, m58 < m51 ∧ I48 m58 x56_57 w55))
              (ld P 36 x7_6 w50 fun x62_59 =>
              ld P 36 x7_6 w50 fun x64_60 =>
              ixa P 36 x64_60 x11_45 w50 fun x66_61 =>
              ld P 63 x66_61 w50 fun x67_62 =>
              fda P 47 x2_1 1 w50 fun x68_63 =>
              ld P 22 x68_63 w50 fun x69_64 =>
              ixa P 22 x69_64 x11_45 w50 fun x71_65 =>
              ld P 36 x71_65 w50 fun x72_66 =>
              ixa P 36 x72_66 x11_45 w50 fun x74_67 =>
              ld P 63 x74_67 w50 fun x75_68 =>
              rbin P .quo 63 false false x67_62 x75_68 w50 fun x76_69 =>
              ixa P 36 x62_59 x11_45 w50 fun x77_70 =>
              sto P 63 x77_70 x76_69 w50 fun w72 =>
              ld P 36 x7_6 w72 fun x78_73 =>
              ixa P 36 x78_73 x11_45 w72 fun x80_74 =>
              ld P 63 x80_74 w72 fun x81_75 =>
              call P f_impl_isFinite [x81_75] w72 fun x82_76 w77 =>
              una P .not x82_76 w77 fun x83_78 =>
              cnd x83_78
                (K (.tuple #[(.slice none 0 0), (.bool false)]) w77)
                (bin P .sub 3 false true x11_45 (.int .i64 1) w77 fun x49_79 =>
                ∃ m80, m80 < m44 ∧ I41 m80 x49_79 w77)))
          (ld P 36 x7_6 w43 fun x84_82 =>
          K (.tuple #[x84_82, (.bool true)]) w43))
def P_impl_solve : Plan := (.seq (.reg [.op (0, 2, false), .op (1, 0, false), .op (2, 0, false)]) (.seq (.reg [.op (0, 0, false), .op (1, 0, false), .op (2, 0, false)]) (.seq (.reg [.op (0, 0, false), .op (1, 2, false), .op (2, 2, false), .op (3, 2, false)]) (.seq (.reg [.op (0, 0, false), .op (1, 0, false)]) (.seq (.seq (.reg [.op (0, 0, false), .op (1, 0, false)]) (.blk (.loop [19] 17592185521712 (.seq (.reg [.op (0, 0, false)]) (.seq (.cond .leaf .leaf) (.seq (.blk (.seq (.reg [.op (0, 0, false), .op (1, 0, false)]) (.seq (.reg [.op (0, 0, false), .op (1, 0, false), .op (2, 0, false), .op (3, 0, false), .op (4, 0, false), .op (5, 0, false), .op (6, 0, false), .op (7, 0, false), .op (8, 0, false), .op (9, 0, false), .op (10, 0, false), .op (11, 2, false)]) (.seq (.reg [.op (0, 0, false), .op (1, 0, false)]) (.blk (.loop [34] 8778913154096 (.seq (.reg [.op (0, 0, false)]) (.seq (.cond .leaf .leaf) (.seq (.blk (.seq (.reg [.op (0, 0, false), .op (1, 0, false)]) (.seq (.reg [.op (0, 0, false), .op (1, 0, false), .op (2, 0, false), .op (3, 2, false), .op (4, 0, false)]) (.cond (.seq (.reg [.op (0, 0, false), .op (1, 0, false)]) .leaf) .leaf)))) (.reg [.op (0, 0, false), .op (1, 0, false)])))))))))) (.reg [.op (0, 0, false), .op (1, 0, false)]))))))) (.seq (.seq (.reg [.op (0, 0, false), .op (1, 0, false), .op (2, 0, false)]) (.blk (.loop [11] 19342813113763698051127344 (.seq (.seq (.reg [.op (0, 0, false), .op (1, 0, false)]) (.cond .leaf .leaf)) (.seq (.blk (.seq (.seq (.reg [.op (0, 0, false), .op (1, 0, false), .op (2, 0, false)]) (.blk (.loop [12] 4607182418800021552 (.seq (.seq (.reg [.op (0, 0, false), .op (1, 0, false), .op (2, 0, false)]) (.cond .leaf .leaf)) (.seq (.blk (.seq (.reg [.op (0, 0, false), .op (1, 0, false), .op (2, 0, false), .op (3, 2, false), .op (4, 0, false)]) (.cond (.seq (.reg [.op (0, 0, false), .op (1, 0, false)]) .leaf) .leaf))) (.reg [.op (0, 0, false), .op (1, 0, false), .op (2, 0, false)])))))) (.seq (.reg [.op (0, 0, false), .op (1, 0, false), .op (2, 0, false), .op (3, 0, false), .op (4, 0, false), .op (5, 0, false), .op (6, 0, false), .op (7, 0, false), .op (8, 0, false), .op (9, 0, false), .op (10, 0, false), .op (11, 0, false), .op (12, 0, false), .op (13, 0, false), .op (14, 1, false), .op (15, 0, false), .op (16, 2, false)]) (.seq (.reg [.op (0, 0, false), .op (1, 0, false), .op (2, 0, false), .op (3, 0, false), .op (4, 2, false), .op (5, 0, false)]) (.cond (.seq (.reg [.op (0, 0, false), .op (1, 0, false)]) .leaf) .leaf))))) (.reg [.op (0, 0, false), .op (1, 0, false), .op (2, 0, false)])))))) (.seq (.reg [.op (0, 0, false), .op (1, 0, false), .op (2, 0, false)]) .leaf)))))))
theorem I_impl_solve {a0 a1 : Value} {w : World} {K : Value → World → Prop} (h : D_impl_solve a0 a1 w K) : call P f_impl_solve [a0, a1] w K :=
  call_of_vc mixed Try.func65 (c := codeOf Try.f65) (by kernel_rfl) (by kernel_rfl) (p := P_impl_solve) (by kernel_rfl) (by rw [Try.ntmps65]; simp) (by
    have e : D_impl_solve a0 a1 w K = vc P P_impl_solve (codeOf Try.f65) (env0 [a0, a1]) w (retX P Try.f65.results.toList K) := by kernel_rfl
    exact e ▸ h)

/-- spec.l10Inverse -/
def D_spec_l10Inverse (a0 : Value) (w : World) (K : Value → World → Prop) : Prop :=
  bx P 47 a0 w fun x1_1 w2 =>
  bsl P 22 0 [] w2 fun x8_3 w4 =>
  ∃ I5 : Nat → Value → Value → World → Prop, (∃ m34, I5 m34 x8_3 (.int .i64 0) w4) ∧ ∀ (m8 : Nat) (x4_9 : Value) (x5_10 : Value) (junk6 : Env) (w7 : World), I5 m8 x4_9 x5_10 w7 →
    fda P 47 x1_1 0 w7 fun x10_11 =>
    ld P 45 x10_11 w7 fun x11_12 =>
    bl0 P .len #[45] 3 [x11_12] w7 fun x12_13 =>
    bin P .lss 3 false false x5_10 x12_13 w7 fun x13_14 =>
    cnd x13_14
      (ld P 47 x1_1 w7 fun x17_15 =>
      fda P 47 x1_1 0 w7 fun x18_16 =>
      ld P 45 x18_16 w7 fun x19_17 =>
      bl0 P .len #[45] 3 [x19_17] w7 fun x20_18 =>
      call P f_spec_l10Unit [x20_18, x5_10] w7 fun x22_19 w20 =>
      Ext w7 w20 ∧ call P f_spec_l10Solve [x17_15, x22_19] w20 fun x23_21 w22 =>
      xtr P x23_21 0 w22 fun x24_23 =>
      xtr P x23_21 1 w22 fun x25_24 =>
      una P .not x25_24 w22 fun x27_25 =>
      cnd x27_25
        (K (.tuple #[(.slice none 0 0), (.bool false)]) w22)
        (bsl P 22 1 [(0, x24_23)] w22 fun x30_26 w27 =>
        bl2 P .append #[22, 22] 22 [x4_9, x30_26] w27 fun x31_28 w29 =>
        bin P .add 3 false true x5_10 (.int .i64 1) w29 fun x15_30 =>
        ∃ m31, m31 < m8 ∧ I5 m31 x31_28 x15_30 w29))
      (call P f_spec_l10Turn [x4_9] w7 fun x33_32 w33 =>
      K (.tuple #[x33_32, (.bool true)]) w33)
def P_spec_l10Inverse : Plan := (.seq (.reg [.op (0, 2, false), .op (1, 0, false), .op (2, 0, false)]) (.seq (.reg [.op (0, 2, false), .op (1, 0, false)]) (.seq (.seq (.reg [.op (0, 0, false)]) (.blk (.loop [4, 5] 4294967036 (.seq (.seq (.reg [.op (0, 0, false), .op (1, 0, false), .op (2, 0, false), .op (3, 0, false), .op (4, 0, false)]) (.cond .leaf .leaf)) (.seq (.blk (.seq (.reg [.op (0, 0, false), .op (1, 0, false), .op (2, 0, false), .op (3, 0, false), .op (4, 0, false), .op (5, 2, true), .op (6, 2, false), .op (7, 0, false), .op (8, 0, false), .op (9, 0, false), .op (10, 0, false), .op (11, 0, false)]) (.seq (.seq (.reg [.op (0, 0, false), .op (1, 0, false)]) (.cond (.seq (.reg [.op (0, 0, false), .op (1, 0, false)]) .leaf) .leaf)) (.reg [.op (0, 0, false), .op (1, 0, false), .op (2, 2, false), .op (3, 2, false), .op (4, 0, false)])))) (.reg [.op (0, 0, false), .op (1, 0, false), .op (2, 0, false)])))))) (.seq (.reg [.op (0, 0, false), .op (1, 2, false), .op (2, 0, false), .op (3, 0, false)]) .leaf))))
theorem I_spec_l10Inverse {a0 : Value} {w : World} {K : Value → World → Prop} (h : D_spec_l10Inverse a0 w K) : call P f_spec_l10Inverse [a0] w K :=
  call_of_vc mixed Try.func66 (c := codeOf Try.f66) (by kernel_rfl) (by kernel_rfl) (p := P_spec_l10Inverse) (by kernel_rfl) (by rw [Try.ntmps66]; simp) (by
    have e : D_spec_l10Inverse a0 w K = vc P P_spec_l10Inverse (codeOf Try.f66) (env0 [a0]) w (retX P Try.f66.results.toList K) := by kernel_rfl
    exact e ▸ h)

/-- impl.invert -/
def D_impl_invert (a0 : Value) (w : World) (K : Value → World → Prop) : Prop :=
  bx P 47 a0 w fun x1_1 w2 =>
  fda P 47 x1_1 0 w2 fun x10_3 =>
  ld P 45 x10_3 w2 fun x11_4 =>
  bl0 P .len #[45] 3 [x11_4] w2 fun x12_5 =>
  call P f_impl_empty [x12_5] w2 fun x14_6 w7 =>
  ∃ I8 : Nat → Value → World → Prop, (∃ m40, I8 m40 (.int .i64 0) w7) ∧ ∀ (m11 : Nat) (x16_12 : Value) (junk9 : Env) (w10 : World), I8 m11 x16_12 w10 →
    bin P .lss 3 false false x16_12 x12_5 w10 fun x17_13 =>
    cnd x17_13
      (ld P 47 x1_1 w10 fun x20_14 =>
      call P f_impl_unitColumn [x12_5, x16_12] w10 fun x23_15 w16 =>
      Ext w10 w16 ∧ call P f_impl_solve [x20_14, x23_15] w16 fun x24_17 w18 =>
      xtr P x24_17 0 w18 fun x25_19 =>
      xtr P x24_17 1 w18 fun x26_20 =>
      una P .not x26_20 w18 fun x28_21 =>
      cnd x28_21
        (K (.tuple #[(.slice none 0 0), (.bool false)]) w18)
        (∃ I22 : Nat → Value → World → Prop, (∃ m39, I22 m39 (.int .i64 0) w18) ∧ ∀ (m25 : Nat) (x30_26 : Value) (junk23 : Env) (w24 : World), I22 m25 x30_26 w24 →
          bin P .lss 3 false false x30_26 x12_5 w24 fun x31_27 =>
          cnd x31_27
            (ixa P 22 x14_6 x30_26 w24 fun x35_28 =>
            ld P 36 x35_28 w24 fun x36_29 =>
            ixa P 36 x25_19 x30_26 w24 fun x40_30 =>
            ld P 63 x40_30 w24 fun x41_31 =>
            ixa P 36 x36_29 x16_12 w24 fun x42_32 =>
            sto P 63 x42_32 x41_31 w24 fun w34 =>
            bin P .add 3 false true x30_26 (.int .i64 1) w34 fun x43_35 =>
            ∃ m36, m36 < m25 ∧ I22 m36 x43_35 w34)
            (bin P .add 3 false true x16_12 (.int .i64 1) w24 fun x44_37 =>
            ∃ m38, m38 < m11 ∧ I8 m38 x44_37 w24)))
      (K (.tuple #[x14_6, (.bool true)]) w10)
def P_impl_invert : Plan := (.seq (.reg [.op (0, 2, false), .op (1, 0, false), .op (2, 0, false)]) (.seq (.reg [.op (0, 0, false), .op (1, 0, false), .op (2, 0, false), .op (3, 0, false)]) (.seq (.reg [.op (0, 0, false), .op (1, 2, false), .op (2, 0, false)]) (.seq (.seq (.reg [.op (0, 0, false), .op (1, 0, false)]) (.blk (.loop [16] 35184372024268 (.seq (.reg [.op (0, 0, false)]) (.seq (.cond .leaf .leaf) (.seq (.blk (.seq (.reg [.op (0, 0, false), .op (1, 0, false)]) (.seq (.reg [.op (0, 0, false), .op (1, 0, false), .op (2, 0, false), .op (3, 2, true), .op (4, 2, false), .op (5, 0, false), .op (6, 0, false), .op (7, 0, false), .op (8, 0, false), .op (9, 0, false)]) (.seq (.seq (.reg [.op (0, 0, false), .op (1, 0, false)]) (.cond (.seq (.reg [.op (0, 0, false), .op (1, 0, false)]) .leaf) .leaf)) (.seq (.reg [.op (0, 0, false), .op (1, 0, false)]) (.blk (.loop [30] 17591112303104 (.seq (.reg [.op (0, 0, false)]) (.seq (.cond .leaf .leaf) (.seq (.blk (.seq (.reg [.op (0, 0, false), .op (1, 0, false)]) (.reg [.op (0, 0, false), .op (1, 0, false), .op (2, 0, false), .op (3, 0, false), .op (4, 0, false), .op (5, 0, false), .op (6, 0, false), .op (7, 0, false), .op (8, 0, false), .op (9, 0, false), .op (10, 2, false)]))) (.reg [.op (0, 0, false), .op (1, 0, false)]))))))))))) (.reg [.op (0, 0, false), .op (1, 0, false)]))))))) (.seq (.reg [.op (0, 0, false), .op (1, 0, false), .op (2, 0, false)]) .leaf)))))
theorem I_impl_invert {a0 : Value} {w : World} {K : Value → World → Prop} (h : D_impl_invert a0 w K) : call P f_impl_invert [a0] w K :=
  call_of_vc mixed Try.func67 (c := codeOf Try.f67) (by kernel_rfl) (by kernel_rfl) (p := P_impl_invert) (by kernel_rfl) (by rw [Try.ntmps67]; simp) (by
    have e : D_impl_invert a0 w K = vc P P_impl_invert (codeOf Try.f67) (env0 [a0]) w (retX P Try.f67.results.toList K) := by kernel_rfl
    exact e ▸ h)

/-- spec.l10Vector -/
def D_spec_l10Vector (a0 : Value) (w : World) (K : Value → World → Prop) : Prop :=
  ∃ I1 : Nat → Value → World → Prop, (∃ m24, I1 m24 (.int .i64 0) w) ∧ ∀ (m4 : Nat) (x3_5 : Value) (junk2 : Env) (w3 : World), I1 m4 x3_5 w3 →
    bl0 P .len #[36] 3 [a0] w3 fun x6_6 =>
    bin P .lss 3 false false x3_5 x6_6 w3 fun x7_7 =>
    cnd x7_7
      (ixa P 36 a0 x3_5 w3 fun x12_8 =>
      ld P 63 x12_8 w3 fun x13_9 =>
      call P f_spec_l01Finite [x13_9] w3 fun x14_10 w11 =>
      una P .not x14_10 w11 fun x15_12 =>
      cnd x15_12
        (K (.bool false) w11)
        (bin P .add 3 false true x3_5 (.int .i64 1) w11 fun x9_13 =>
        ∃ m14, m14 < m4 ∧ I1 m14 x9_13 w11))
      (bl0 P .len #[36] 3 [a0] w3 fun x17_15 =>
      bin P .geq 3 false true x17_15 (.int .i64 1) w3 fun x18_16 =>
      ∃ J17 : Value → World → Prop, (∀ (x22_18 : Value) (junk20 : Env) (w19 : World), J17 x22_18 w19 →
        pick x18_16 x22_18 (.bool false) fun x23_21 =>
        K x23_21 w19) ∧
        grd x18_16 true
          (bl0 P .len #[36] 3 [a0] w3 fun x21_22 =>
          bin P .leq 3 false true x21_22 (.int .i64 8) w3 fun x22_23 =>
          J17 x22_23 w3)
          (J17 undef w3))
def P_spec_l10Vector : Plan := (.seq (.reg [.op (0, 0, false)]) (.seq (.seq (.reg [.op (0, 0, false)]) (.blk (.loop [3] 65532 (.seq (.seq (.reg [.op (0, 0, false), .op (1, 0, false), .op (2, 0, false), .op (3, 0, false)]) (.cond .leaf .leaf)) (.seq (.blk (.seq (.reg [.op (0, 0, false), .op (1, 0, false), .op (2, 0, false), .op (3, 0, false), .op (4, 2, false), .op (5, 0, false)]) (.cond (.seq (.reg [.op (0, 0, false)]) .leaf) .leaf))) (.reg [.op (0, 0, false), .op (1, 0, false), .op (2, 0, false)])))))) (.seq (.reg [.op (0, 0, false), .op (1, 0, false), .op (2, 0, false), .op (3, 0, false), .grp 3 true [(4, 0, false), (5, 0, false), (6, 0, false)] [22] 7340032, .op (7, 0, false), .op (8, 0, false)]) .leaf)))
theorem I_spec_l10Vector {a0 : Value} {w : World} {K : Value → World → Prop} (h : D_spec_l10Vector a0 w K) : call P f_spec_l10Vector [a0] w K :=
  call_of_vc mixed Try.func68 (c := codeOf Try.f68) (by kernel_rfl) (by kernel_rfl) (p := P_spec_l10Vector) (by kernel_rfl) (by rw [Try.ntmps68]; simp) (by
    have e : D_spec_l10Vector a0 w K = vc P P_spec_l10Vector (codeOf Try.f68) (env0 [a0]) w (retX P Try.f68.results.toList K) := by kernel_rfl
    exact e ▸ h)

/-- impl.isFinite -/
def D_impl_isFinite (a0 : Value) (w : World) (K : Value → World → Prop) : Prop :=
  call P f_math_Float32bits [a0] w fun x4_1 w2 =>
  bin P .shr 85 false true x4_1 (.int .u64 23) w2 fun x5_3 =>
  bin P .and 85 false true x5_3 (.int .u32 255) w2 fun x6_4 =>
  bin P .neq 85 false true x6_4 (.int .u32 255) w2 fun x7_5 =>
  K x7_5 w2
def P_impl_isFinite : Plan := (.seq (.reg [.op (0, 0, false)]) (.seq (.reg [.op (0, 0, false), .op (1, 2, false), .op (2, 0, false), .op (3, 0, false), .op (4, 0, false), .op (5, 0, false)]) .leaf))
theorem I_impl_isFinite {a0 : Value} {w : World} {K : Value → World → Prop} (h : D_impl_isFinite a0 w K) : call P f_impl_isFinite [a0] w K :=
  call_of_vc mixed Try.func69 (c := codeOf Try.f69) (by kernel_rfl) (by kernel_rfl) (p := P_impl_isFinite) (by kernel_rfl) (by rw [Try.ntmps69]; simp) (by
    have e : D_impl_isFinite a0 w K = vc P P_impl_isFinite (codeOf Try.f69) (env0 [a0]) w (retX P Try.f69.results.toList K) := by kernel_rfl
    exact e ▸ h)

/-- laws.eqProgram -/
def D_laws_eqProgram (a0 a1 : Value) (w : World) (K : Value → World → Prop) : Prop :=
  bx P 77 a0 w fun x2_1 w2 =>
  bx P 77 a1 w2 fun x3_3 w4 =>
  fda P 77 x2_1 0 w4 fun x5_5 =>
  ld P 27 x5_5 w4 fun x6_6 =>
  fda P 77 x3_3 0 w4 fun x7_7 =>
  ld P 27 x7_7 w4 fun x8_8 =>
  call P f_laws_eqStringS [x6_6, x8_8] w4 fun x9_9 w10 =>
  una P .not x9_9 w10 fun x10_11 =>
  cnd x10_11
    (K (.bool false) w10)
    (K (.bool true) w10)
def P_laws_eqProgram : Plan := (.seq (.reg [.op (0, 2, false), .op (1, 2, false), .op (2, 0, false)]) (.seq (.seq (.reg [.op (0, 0, false), .op (1, 0, false), .op (2, 0, false), .op (3, 0, false), .op (4, 2, false), .op (5, 0, false)]) (.cond (.seq (.reg [.op (0, 0, false)]) .leaf) .leaf)) (.seq (.reg [.op (0, 0, false)]) .leaf)))
theorem I_laws_eqProgram {a0 a1 : Value} {w : World} {K : Value → World → Prop} (h : D_laws_eqProgram a0 a1 w K) : call P f_laws_eqProgram [a0, a1] w K :=
  call_of_vc mixed Try.func70 (c := codeOf Try.f70) (by kernel_rfl) (by kernel_rfl) (p := P_laws_eqProgram) (by kernel_rfl) (by rw [Try.ntmps70]; simp) (by
    have e : D_laws_eqProgram a0 a1 w K = vc P P_laws_eqProgram (codeOf Try.f70) (env0 [a0, a1]) w (retX P Try.f70.results.toList K) := by kernel_rfl
    exact e ▸ h)

/-- laws.eqKept -/
def D_laws_eqKept (a0 a1 : Value) (w : World) (K : Value → World → Prop) : Prop :=
  bx P 80 a0 w fun x2_1 w2 =>
  bx P 80 a1 w2 fun x3_3 w4 =>
  fda P 80 x2_1 0 w4 fun x5_5 =>
  ld P 9 x5_5 w4 fun x6_6 =>
  fda P 80 x3_3 0 w4 fun x7_7 =>
  ld P 9 x7_7 w4 fun x8_8 =>
  bin P .neq 9 false false x6_6 x8_8 w4 fun x9_9 =>
  cnd x9_9
    (K (.bool false) w4)
    (fda P 80 x2_1 1 w4 fun x10_10 =>
    ld P 9 x10_10 w4 fun x11_11 =>
    fda P 80 x3_3 1 w4 fun x12_12 =>
    ld P 9 x12_12 w4 fun x13_13 =>
    bin P .neq 9 false false x11_11 x13_13 w4 fun x14_14 =>
    cnd x14_14
      (K (.bool false) w4)
      (K (.bool true) w4))
def P_laws_eqKept : Plan := (.seq (.reg [.op (0, 2, false), .op (1, 2, false), .op (2, 0, false)]) (.seq (.seq (.reg [.op (0, 0, false), .op (1, 0, false), .op (2, 0, false), .op (3, 0, false), .op (4, 0, false)]) (.cond (.seq (.reg [.op (0, 0, false)]) .leaf) .leaf)) (.seq (.seq (.reg [.op (0, 0, false), .op (1, 0, false), .op (2, 0, false), .op (3, 0, false), .op (4, 0, false)]) (.cond (.seq (.reg [.op (0, 0, false)]) .leaf) .leaf)) (.seq (.reg [.op (0, 0, false)]) .leaf))))
theorem I_laws_eqKept {a0 a1 : Value} {w : World} {K : Value → World → Prop} (h : D_laws_eqKept a0 a1 w K) : call P f_laws_eqKept [a0, a1] w K :=
  call_of_vc mixed Try.func71 (c := codeOf Try.f71) (by kernel_rfl) (by kernel_rfl) (p := P_laws_eqKept) (by kernel_rfl) (by rw [Try.ntmps71]; simp) (by
    have e : D_laws_eqKept a0 a1 w K = vc P P_laws_eqKept (codeOf Try.f71) (env0 [a0, a1]) w (retX P Try.f71.results.toList K) := by kernel_rfl
    exact e ▸ h)

/-- laws.markText -/
def D_laws_markText (a0 : Value) (w : World) (K : Value → World → Prop) : Prop :=
  bin P .leq 3 false true a0 (.int .i64 0) w fun x5_1 =>
  cnd x5_1
    (K (.string ⟨#[109, 48]⟩) w)
    (∃ I2 : Nat → Value → Value → World → Prop, (∃ m20, I2 m20 a0 (.string ⟨#[]⟩) w) ∧ ∀ (m5 : Nat) (x0_6 : Value) (x3_7 : Value) (junk3 : Env) (w4 : World), I2 m5 x0_6 x3_7 w4 →
      bin P .gtr 3 false true x0_6 (.int .i64 0) w4 fun x7_8 =>
      cnd x7_8
        (bin P .rem 3 false true x0_6 (.int .i64 10) w4 fun x9_9 =>
        bin P .add 3 true false (.int .i64 48) x9_9 w4 fun x10_10 =>
        cnv P 3 5 x10_10 w4 fun x11_11 =>
        bsl P 88 1 [(0, x11_11)] w4 fun x12_12 w13 =>
        cnv2 P 88 9 x12_12 w13 fun x13_14 w15 =>
        bin P .add 9 false false x13_14 x3_7 w15 fun x15_16 =>
        bin P .quo 3 false true x0_6 (.int .i64 10) w15 fun x17_17 =>
        ∃ m18, m18 < m5 ∧ I2 m18 x17_17 x15_16 w15)
        (bin P .add 9 true false (.string ⟨#[109]⟩) x3_7 w4 fun x19_19 =>
        K x19_19 w4))
def P_laws_markText : Plan := (.seq (.reg [.op (0, 0, false)]) (.seq (.seq (.reg [.op (0, 0, false), .op (1, 0, false)]) (.cond (.seq (.reg [.op (0, 0, false)]) .leaf) .leaf)) (.seq (.reg [.op (0, 0, false)]) (.seq (.blk (.loop [0, 3] 262089 (.seq (.seq (.reg [.op (0, 0, false), .op (1, 0, false)]) (.cond .leaf .leaf)) (.blk (.seq (.reg [.op (0, 0, false), .op (1, 0, false), .op (2, 0, false), .op (3, 0, false), .op (4, 2, false), .op (5, 2, false), .op (6, 0, false), .op (7, 0, false), .op (8, 0, false)]) (.reg [.op (0, 0, false), .op (1, 0, false), .op (2, 0, false)])))))) (.seq (.reg [.op (0, 0, false), .op (1, 0, false), .op (2, 0, false)]) .leaf)))))
theorem I_laws_markText {a0 : Value} {w : World} {K : Value → World → Prop} (h : D_laws_markText a0 w K) : call P f_laws_markText [a0] w K :=
  call_of_vc mixed Try.func72 (c := codeOf Try.f72) (by kernel_rfl) (by kernel_rfl) (p := P_laws_markText) (by kernel_rfl) (by rw [Try.ntmps72]; simp) (by
    have e : D_laws_markText a0 w K = vc P P_laws_markText (codeOf Try.f72) (env0 [a0]) w (retX P Try.f72.results.toList K) := by kernel_rfl
    exact e ▸ h)

/-- spec.l01Finite -/
def D_spec_l01Finite (a0 : Value) (w : World) (K : Value → World → Prop) : Prop :=
  rbin P .sub 63 false false a0 a0 w fun x5_1 =>
  bin P .eql 63 false true x5_1 (.float .f32 0) w fun x6_2 =>
  K x6_2 w
def P_spec_l01Finite : Plan := (.seq (.reg [.op (0, 0, false)]) (.seq (.reg [.op (0, 0, false), .op (1, 0, false), .op (2, 1, false), .op (3, 0, false), .op (4, 0, false)]) .leaf))
theorem I_spec_l01Finite {a0 : Value} {w : World} {K : Value → World → Prop} (h : D_spec_l01Finite a0 w K) : call P f_spec_l01Finite [a0] w K :=
  call_of_vc mixed Try.func73 (c := codeOf Try.f73) (by kernel_rfl) (by kernel_rfl) (p := P_spec_l01Finite) (by kernel_rfl) (by rw [Try.ntmps73]; simp) (by
    have e : D_spec_l01Finite a0 w K = vc P P_spec_l01Finite (codeOf Try.f73) (env0 [a0]) w (retX P Try.f73.results.toList K) := by kernel_rfl
    exact e ▸ h)

/-- spec.l01Abs -/
def D_spec_l01Abs (a0 : Value) (w : World) (K : Value → World → Prop) : Prop :=
  bin P .lss 63 false true a0 (.float .f32 0) w fun x4_1 =>
  cnd x4_1
    (una P .neg a0 w fun x6_2 =>
    K x6_2 w)
    (bin P .eql 63 false true a0 (.float .f32 0) w fun x8_3 =>
    cnd x8_3
      (K (.float .f32 0) w)
      (K a0 w))
def P_spec_l01Abs : Plan := (.seq (.reg [.op (0, 0, false)]) (.seq (.seq (.reg [.op (0, 0, false), .op (1, 0, false)]) (.cond (.seq (.reg [.op (0, 0, false), .op (1, 0, false), .op (2, 0, false)]) .leaf) .leaf)) (.seq (.seq (.reg [.op (0, 0, false), .op (1, 0, false)]) (.cond (.seq (.reg [.op (0, 0, false)]) .leaf) .leaf)) (.seq (.reg [.op (0, 0, false), .op (1, 0, false)]) .leaf))))
theorem I_spec_l01Abs {a0 : Value} {w : World} {K : Value → World → Prop} (h : D_spec_l01Abs a0 w K) : call P f_spec_l01Abs [a0] w K :=
  call_of_vc mixed Try.func74 (c := codeOf Try.f74) (by kernel_rfl) (by kernel_rfl) (p := P_spec_l01Abs) (by kernel_rfl) (by rw [Try.ntmps74]; simp) (by
    have e : D_spec_l01Abs a0 w K = vc P P_spec_l01Abs (codeOf Try.f74) (env0 [a0]) w (retX P Try.f74.results.toList K) := by kernel_rfl
    exact e ▸ h)

/-- impl.size -/
def D_impl_size (a0 : Value) (w : World) (K : Value → World → Prop) : Prop :=
  bin P .lss 63 false true a0 (.float .f32 0) w fun x4_1 =>
  cnd x4_1
    (una P .neg a0 w fun x6_2 =>
    K x6_2 w)
    (K a0 w)
def P_impl_size : Plan := (.seq (.reg [.op (0, 0, false)]) (.seq (.seq (.reg [.op (0, 0, false), .op (1, 0, false)]) (.cond (.seq (.reg [.op (0, 0, false), .op (1, 0, false), .op (2, 0, false)]) .leaf) .leaf)) (.seq (.reg [.op (0, 0, false), .op (1, 0, false)]) .leaf)))
theorem I_impl_size {a0 : Value} {w : World} {K : Value → World → Prop} (h : D_impl_size a0 w K) : call P f_impl_size [a0] w K :=
  call_of_vc mixed Try.func75 (c := codeOf Try.f75) (by kernel_rfl) (by kernel_rfl) (p := P_impl_size) (by kernel_rfl) (by rw [Try.ntmps75]; simp) (by
    have e : D_impl_size a0 w K = vc P P_impl_size (codeOf Try.f75) (env0 [a0]) w (retX P Try.f75.results.toList K) := by kernel_rfl
    exact e ▸ h)

/-- impl.solve$1 -/
def D_impl_solve_1 (a0 a1 a2 a3 : Value) (w : World) (K : Value → World → Prop) : Prop :=
  fda P 47 a2 1 w fun x8_1 =>
  ld P 22 x8_1 w fun x9_2 =>
  ixa P 22 x9_2 a0 w fun x11_3 =>
  ld P 36 x11_3 w fun x12_4 =>
  ixa P 36 x12_4 a1 w fun x14_5 =>
  ld P 63 x14_5 w fun x15_6 =>
  ld P 36 a3 w fun x16_7 =>
  ixa P 36 x16_7 a1 w fun x18_8 =>
  ld P 63 x18_8 w fun x19_9 =>
  rbin P .mul 63 false false x15_6 x19_9 w fun x20_10 =>
  ld P 36 a3 w fun x21_11 =>
  ld P 36 a3 w fun x23_12 =>
  ixa P 36 x23_12 a0 w fun x25_13 =>
  ld P 63 x25_13 w fun x26_14 =>
  rbin P .sub 63 false false x26_14 x20_10 w fun x28_15 =>
  ixa P 36 x21_11 a0 w fun x29_16 =>
  sto P 63 x29_16 x28_15 w fun w18 =>
  ld P 36 a3 w18 fun x31_19 =>
  ixa P 36 x31_19 a0 w18 fun x33_20 =>
  ld P 63 x33_20 w18 fun x34_21 =>
  bsl P 36 2 [(0, x20_10), (1, x34_21)] w18 fun x35_22 w23 =>
  call P f_impl_areFinite [x35_22] w23 fun x36_24 w25 =>
  K x36_24 w25
def P_impl_solve_1 : Plan := (.seq (.reg [.op (0, 0, false)]) (.seq (.reg [.op (0, 0, false), .op (1, 0, false), .op (2, 0, false), .op (3, 0, false), .op (4, 0, false), .op (5, 0, false), .op (6, 0, false), .op (7, 0, false), .op (8, 0, false), .op (9, 0, false), .op (10, 0, false), .op (11, 0, false), .op (12, 1, false), .op (13, 0, false)]) (.seq (.reg [.op (0, 0, false), .op (1, 0, false), .op (2, 0, false), .op (3, 0, false), .op (4, 0, false), .op (5, 0, false), .op (6, 0, false), .op (7, 1, false), .op (8, 0, false), .op (9, 2, false)]) (.seq (.reg [.op (0, 0, false), .op (1, 0, false), .op (2, 0, false), .op (3, 0, false), .op (4, 0, false), .op (5, 2, false), .op (6, 2, false), .op (7, 0, false)]) .leaf))))
theorem I_impl_solve_1 {a0 a1 a2 a3 : Value} {w : World} {K : Value → World → Prop} (h : D_impl_solve_1 a0 a1 a2 a3 w K) : call P f_impl_solve_1 [a0, a1, a2, a3] w K :=
  call_of_vc mixed Try.func76 (c := codeOf Try.f76) (by kernel_rfl) (by kernel_rfl) (p := P_impl_solve_1) (by kernel_rfl) (by rw [Try.ntmps76]; simp) (by
    have e : D_impl_solve_1 a0 a1 a2 a3 w K = vc P P_impl_solve_1 (codeOf Try.f76) (env0 [a0, a1, a2, a3]) w (retX P Try.f76.results.toList K) := by kernel_rfl
    exact e ▸ h)

/-- spec.l10Unit -/
def D_spec_l10Unit (a0 a1 : Value) (w : World) (K : Value → World → Prop) : Prop :=
  mks P 36 a0 a0 w fun x7_1 w2 =>
  ixa P 36 x7_1 a1 w2 fun x10_3 =>
  sto P 63 x10_3 (.float .f32 1065353216) w2 fun w5 =>
  K x7_1 w5
def P_spec_l10Unit : Plan := (.seq (.reg [.op (0, 0, false)]) (.seq (.reg [.op (0, 0, false), .op (1, 2, false), .op (2, 0, false)]) (.seq (.reg [.op (0, 0, false), .op (1, 0, false), .op (2, 0, false), .op (3, 2, false)]) (.seq (.reg [.op (0, 0, false), .op (1, 0, false)]) .leaf))))
theorem I_spec_l10Unit {a0 a1 : Value} {w : World} {K : Value → World → Prop} (h : D_spec_l10Unit a0 a1 w K) : call P f_spec_l10Unit [a0, a1] w K :=
  call_of_vc mixed Try.func77 (c := codeOf Try.f77) (by kernel_rfl) (by kernel_rfl) (p := P_spec_l10Unit) (by kernel_rfl) (by rw [Try.ntmps77]; simp) (by
    have e : D_spec_l10Unit a0 a1 w K = vc P P_spec_l10Unit (codeOf Try.f77) (env0 [a0, a1]) w (retX P Try.f77.results.toList K) := by kernel_rfl
    exact e ▸ h)

/-- impl.unitColumn -/
def D_impl_unitColumn (a0 a1 : Value) (w : World) (K : Value → World → Prop) : Prop :=
  mks P 36 a0 a0 w fun x7_1 w2 =>
  ixa P 36 x7_1 a1 w2 fun x10_3 =>
  sto P 63 x10_3 (.float .f32 1065353216) w2 fun w5 =>
  K x7_1 w5
def P_impl_unitColumn : Plan := (.seq (.reg [.op (0, 0, false)]) (.seq (.reg [.op (0, 0, false), .op (1, 2, false), .op (2, 0, false)]) (.seq (.reg [.op (0, 0, false), .op (1, 0, false), .op (2, 0, false), .op (3, 2, false)]) (.seq (.reg [.op (0, 0, false), .op (1, 0, false)]) .leaf))))
theorem I_impl_unitColumn {a0 a1 : Value} {w : World} {K : Value → World → Prop} (h : D_impl_unitColumn a0 a1 w K) : call P f_impl_unitColumn [a0, a1] w K :=
  call_of_vc mixed Try.func78 (c := codeOf Try.f78) (by kernel_rfl) (by kernel_rfl) (p := P_impl_unitColumn) (by kernel_rfl) (by rw [Try.ntmps78]; simp) (by
    have e : D_impl_unitColumn a0 a1 w K = vc P P_impl_unitColumn (codeOf Try.f78) (env0 [a0, a1]) w (retX P Try.f78.results.toList K) := by kernel_rfl
    exact e ▸ h)

end Go.Proofs.Ytliagkijeigcaaa
