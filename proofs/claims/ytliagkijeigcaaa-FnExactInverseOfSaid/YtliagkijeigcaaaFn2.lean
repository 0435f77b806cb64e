/- Written by a program (gen.py): what is left to show of each function's call. -/
import Derived.Test.YtliagkijeigcaaaIds
set_option linter.unusedVariables false
namespace Go.Proofs.Ytliagkijeigcaaa
open Go Go.Vc

/-- laws.eqKeptS -/
def D_laws_eqKeptS (a0 a1 : Value) (w : World) (K : Value → World → Prop) : Prop :=
  bl0 P .len #[29] 3 [a0] w fun x7_1 =>
  bl0 P .len #[29] 3 [a1] w fun x9_2 =>
  bin P .neq 3 false false x7_1 x9_2 w fun x10_3 =>
  cnd x10_3
    (K (.bool false) w)
    (∃ I4 : Nat → Value → World → Prop, (∃ m20, I4 m20 (.int .i64 0) w) ∧ ∀ (m7 : Nat) (x5_8 : Value) (junk5 : Env) (w6 : World), I4 m7 x5_8 w6 →
      bl0 P .len #[29] 3 [a0] w6 fun x13_9 =>
      bin P .lss 3 false false x5_8 x13_9 w6 fun x14_10 =>
      cnd x14_10
        (ixa P 29 a0 x5_8 w6 fun x19_11 =>
        ld P 80 x19_11 w6 fun x20_12 =>
        ixa P 29 a1 x5_8 w6 fun x23_13 =>
        ld P 80 x23_13 w6 fun x24_14 =>
        call P f_laws_eqKept [x20_12, x24_14] w6 fun x25_15 w16 =>
        una P .not x25_15 w16 fun x26_17 =>
        cnd x26_17
          (K (.bool false) w16)
          (bin P .add 3 false true x5_8 (.int .i64 1) w16 fun x16_18 =>
          ∃ m19, m19 < m7 ∧ I4 m19 x16_18 w16))
        (K (.bool true) w6))
def P_laws_eqKeptS : Plan := (.seq (.reg [.op (0, 0, false)]) (.seq (.seq (.reg [.op (0, 0, false), .op (1, 0, false), .op (2, 0, false), .op (3, 0, false), .op (4, 0, false)]) (.cond (.seq (.reg [.op (0, 0, false)]) .leaf) .leaf)) (.seq (.seq (.reg [.op (0, 0, false)]) (.blk (.loop [5] 134215728 (.seq (.seq (.reg [.op (0, 0, false), .op (1, 0, false), .op (2, 0, false), .op (3, 0, false)]) (.cond .leaf .leaf)) (.seq (.blk (.seq (.reg [.op (0, 0, false), .op (1, 0, false), .op (2, 0, false), .op (3, 0, false), .op (4, 0, false), .op (5, 0, false), .op (6, 0, false), .op (7, 0, false), .op (8, 2, false), .op (9, 0, false)]) (.cond (.seq (.reg [.op (0, 0, false)]) .leaf) .leaf))) (.reg [.op (0, 0, false), .op (1, 0, false), .op (2, 0, false)])))))) (.seq (.reg [.op (0, 0, false)]) .leaf))))
theorem I_laws_eqKeptS {a0 a1 : Value} {w : World} {K : Value → World → Prop} (h : D_laws_eqKeptS a0 a1 w K) : call P f_laws_eqKeptS [a0, a1] w K :=
  call_of_vc mixed Try.func44 (c := codeOf Try.f44) (by kernel_rfl) (by kernel_rfl) (p := P_laws_eqKeptS) (by kernel_rfl) (by rw [Try.ntmps44]; simp) (by
    have e : D_laws_eqKeptS a0 a1 w K = vc P P_laws_eqKeptS (codeOf Try.f44) (env0 [a0, a1]) w (retX P Try.f44.results.toList K) := by kernel_rfl
    exact e ▸ h)

/-- laws.markStringS -/
def D_laws_markStringS (a0 a1 : Value) (w : World) (K : Value → World → Prop) : Prop :=
  ∃ I1 : Nat → Value → Value → World → Prop, (∃ m17, I1 m17 a1 (.int .i64 0) w) ∧ ∀ (m4 : Nat) (x1_5 : Value) (x5_6 : Value) (junk2 : Env) (w3 : World), I1 m4 x1_5 x5_6 w3 →
    bl0 P .len #[27] 3 [a0] w3 fun x8_7 =>
    bin P .lss 3 false false x5_6 x8_7 w3 fun x9_8 =>
    cnd x9_8
      (call P f_laws_markText [x1_5] w3 fun x15_9 w10 =>
      ixa P 27 a0 x5_6 w10 fun x16_11 =>
      sto P 9 x16_11 x15_9 w10 fun w13 =>
      bin P .add 3 false true x1_5 (.int .i64 1) w13 fun x18_14 =>
      bin P .add 3 false true x5_6 (.int .i64 1) w13 fun x11_15 =>
      ∃ m16, m16 < m4 ∧ I1 m16 x18_14 x11_15 w13)
      (K x1_5 w3)
def P_laws_markStringS : Plan := (.seq (.reg [.op (0, 0, false)]) (.seq (.seq (.reg [.op (0, 0, false)]) (.blk (.loop [1, 5] 524258 (.seq (.seq (.reg [.op (0, 0, false), .op (1, 0, false), .op (2, 0, false), .op (3, 0, false)]) (.cond .leaf .leaf)) (.seq (.blk (.seq (.reg [.op (0, 0, false), .op (1, 0, false), .op (2, 0, false), .op (3, 2, false), .op (4, 0, false), .op (5, 2, false)]) (.reg [.op (0, 0, false), .op (1, 0, false), .op (2, 0, false)]))) (.reg [.op (0, 0, false), .op (1, 0, false), .op (2, 0, false)])))))) (.seq (.reg [.op (0, 0, false), .op (1, 0, false)]) .leaf)))
theorem I_laws_markStringS {a0 a1 : Value} {w : World} {K : Value → World → Prop} (h : D_laws_markStringS a0 a1 w K) : call P f_laws_markStringS [a0, a1] w K :=
  call_of_vc mixed Try.func45 (c := codeOf Try.f45) (by kernel_rfl) (by kernel_rfl) (p := P_laws_markStringS) (by kernel_rfl) (by rw [Try.ntmps45]; simp) (by
    have e : D_laws_markStringS a0 a1 w K = vc P P_laws_markStringS (codeOf Try.f45) (env0 [a0, a1]) w (retX P Try.f45.results.toList K) := by kernel_rfl
    exact e ▸ h)

/-- laws.markProgramS -/
def D_laws_markProgramS (a0 a1 : Value) (w : World) (K : Value → World → Prop) : Prop :=
  ∃ I1 : Nat → Value → Value → World → Prop, (∃ m16, I1 m16 a1 (.int .i64 0) w) ∧ ∀ (m4 : Nat) (x1_5 : Value) (x5_6 : Value) (junk2 : Env) (w3 : World), I1 m4 x1_5 x5_6 w3 →
    bl0 P .len #[28] 3 [a0] w3 fun x8_7 =>
    bin P .lss 3 false false x5_6 x8_7 w3 fun x9_8 =>
    cnd x9_8
      (ixa P 28 a0 x5_6 w3 fun x14_9 =>
      fda P 77 x14_9 0 w3 fun x15_10 =>
      ld P 27 x15_10 w3 fun x16_11 =>
      call P f_laws_markStringS [x16_11, x1_5] w3 fun x18_12 w13 =>
      bin P .add 3 false true x5_6 (.int .i64 1) w13 fun x11_14 =>
      ∃ m15, m15 < m4 ∧ I1 m15 x18_12 x11_14 w13)
      (K x1_5 w3)
def P_laws_markProgramS : Plan := (.seq (.reg [.op (0, 0, false)]) (.seq (.seq (.reg [.op (0, 0, false)]) (.blk (.loop [1, 5] 524258 (.seq (.seq (.reg [.op (0, 0, false), .op (1, 0, false), .op (2, 0, false), .op (3, 0, false)]) (.cond .leaf .leaf)) (.seq (.blk (.reg [.op (0, 0, false), .op (1, 0, false), .op (2, 0, false), .op (3, 0, false), .op (4, 0, false), .op (5, 0, false), .op (6, 2, false), .op (7, 0, false)])) (.reg [.op (0, 0, false), .op (1, 0, false), .op (2, 0, false)])))))) (.seq (.reg [.op (0, 0, false), .op (1, 0, false)]) .leaf)))
theorem I_laws_markProgramS {a0 a1 : Value} {w : World} {K : Value → World → Prop} (h : D_laws_markProgramS a0 a1 w K) : call P f_laws_markProgramS [a0, a1] w K :=
  call_of_vc mixed Try.func46 (c := codeOf Try.f46) (by kernel_rfl) (by kernel_rfl) (p := P_laws_markProgramS) (by kernel_rfl) (by rw [Try.ntmps46]; simp) (by
    have e : D_laws_markProgramS a0 a1 w K = vc P P_laws_markProgramS (codeOf Try.f46) (env0 [a0, a1]) w (retX P Try.f46.results.toList K) := by kernel_rfl
    exact e ▸ h)

/-- laws.markKeptS -/
def D_laws_markKeptS (a0 a1 : Value) (w : World) (K : Value → World → Prop) : Prop :=
  ∃ I1 : Nat → Value → Value → World → Prop, (∃ m25, I1 m25 a1 (.int .i64 0) w) ∧ ∀ (m4 : Nat) (x1_5 : Value) (x5_6 : Value) (junk2 : Env) (w3 : World), I1 m4 x1_5 x5_6 w3 →
    bl0 P .len #[29] 3 [a0] w3 fun x8_7 =>
    bin P .lss 3 false false x5_6 x8_7 w3 fun x9_8 =>
    cnd x9_8
      (call P f_laws_markText [x1_5] w3 fun x15_9 w10 =>
      ixa P 29 a0 x5_6 w10 fun x16_11 =>
      fda P 80 x16_11 0 w10 fun x17_12 =>
      sto P 9 x17_12 x15_9 w10 fun w14 =>
      bin P .add 3 false true x1_5 (.int .i64 1) w14 fun x19_15 =>
      call P f_laws_markText [x19_15] w14 fun x23_16 w17 =>
      ixa P 29 a0 x5_6 w17 fun x24_18 =>
      fda P 80 x24_18 1 w17 fun x25_19 =>
      sto P 9 x25_19 x23_16 w17 fun w21 =>
      bin P .add 3 false true x19_15 (.int .i64 1) w21 fun x27_22 =>
      bin P .add 3 false true x5_6 (.int .i64 1) w21 fun x11_23 =>
      ∃ m24, m24 < m4 ∧ I1 m24 x27_22 x11_23 w21)
      (K x1_5 w3)
def P_laws_markKeptS : Plan := (.seq (.reg [.op (0, 0, false)]) (.seq (.seq (.reg [.op (0, 0, false)]) (.blk (.loop [1, 5] 268435426 (.seq (.seq (.reg [.op (0, 0, false), .op (1, 0, false), .op (2, 0, false), .op (3, 0, false)]) (.cond .leaf .leaf)) (.seq (.blk (.seq (.reg [.op (0, 0, false), .op (1, 0, false), .op (2, 0, false), .op (3, 2, false), .op (4, 0, false), .op (5, 0, false), .op (6, 2, false)]) (.seq (.reg [.op (0, 0, false), .op (1, 0, false), .op (2, 0, false)]) (.seq (.reg [.op (0, 0, false), .op (1, 0, false), .op (2, 0, false), .op (3, 2, false), .op (4, 0, false), .op (5, 0, false), .op (6, 2, false)]) (.reg [.op (0, 0, false), .op (1, 0, false), .op (2, 0, false)]))))) (.reg [.op (0, 0, false), .op (1, 0, false), .op (2, 0, false)])))))) (.seq (.reg [.op (0, 0, false), .op (1, 0, false)]) .leaf)))
theorem I_laws_markKeptS {a0 a1 : Value} {w : World} {K : Value → World → Prop} (h : D_laws_markKeptS a0 a1 w K) : call P f_laws_markKeptS [a0, a1] w K :=
  call_of_vc mixed Try.func47 (c := codeOf Try.f47) (by kernel_rfl) (by kernel_rfl) (p := P_laws_markKeptS) (by kernel_rfl) (by rw [Try.ntmps47]; simp) (by
    have e : D_laws_markKeptS a0 a1 w K = vc P P_laws_markKeptS (codeOf Try.f47) (env0 [a0, a1]) w (retX P Try.f47.results.toList K) := by kernel_rfl
    exact e ▸ h)

/-- laws.heldStringS -/
def D_laws_heldStringS (a0 a1 : Value) (w : World) (K : Value → World → Prop) : Prop :=
  ∃ I1 : Nat → Value → Value → World → Prop, (∃ m17, I1 m17 a1 (.int .i64 0) w) ∧ ∀ (m4 : Nat) (x1_5 : Value) (x5_6 : Value) (junk2 : Env) (w3 : World), I1 m4 x1_5 x5_6 w3 →
    bl0 P .len #[27] 3 [a0] w3 fun x8_7 =>
    bin P .lss 3 false false x5_6 x8_7 w3 fun x9_8 =>
    cnd x9_8
      (ixa P 27 a0 x5_6 w3 fun x14_9 =>
      ld P 9 x14_9 w3 fun x15_10 =>
      call P f_laws_markText [x1_5] w3 fun x17_11 w12 =>
      Ext w3 w12 ∧ bin P .neq 9 false false x15_10 x17_11 w12 fun x18_13 =>
      cnd x18_13
        (K (.int .i64 (-1)) w12)
        (bin P .add 3 false true x1_5 (.int .i64 1) w12 fun x20_14 =>
        bin P .add 3 false true x5_6 (.int .i64 1) w12 fun x11_15 =>
        ∃ m16, m16 < m4 ∧ I1 m16 x20_14 x11_15 w12))
      (K x1_5 w3)
def P_laws_heldStringS : Plan := (.seq (.reg [.op (0, 0, false)]) (.seq (.seq (.reg [.op (0, 0, false)]) (.blk (.loop [1, 5] 2097138 (.seq (.seq (.reg [.op (0, 0, false), .op (1, 0, false), .op (2, 0, false), .op (3, 0, false)]) (.cond .leaf .leaf)) (.seq (.blk (.seq (.seq (.reg [.op (0, 0, false), .op (1, 0, false), .op (2, 0, false), .op (3, 0, false), .op (4, 0, false), .op (5, 2, true), .op (6, 0, false)]) (.cond (.seq (.reg [.op (0, 0, false)]) .leaf) .leaf)) (.reg [.op (0, 0, false), .op (1, 0, false), .op (2, 0, false)]))) (.reg [.op (0, 0, false), .op (1, 0, false), .op (2, 0, false)])))))) (.seq (.reg [.op (0, 0, false), .op (1, 0, false)]) .leaf)))
theorem I_laws_heldStringS {a0 a1 : Value} {w : World} {K : Value → World → Prop} (h : D_laws_heldStringS a0 a1 w K) : call P f_laws_heldStringS [a0, a1] w K :=
  call_of_vc mixed Try.func48 (c := codeOf Try.f48) (by kernel_rfl) (by kernel_rfl) (p := P_laws_heldStringS) (by kernel_rfl) (by rw [Try.ntmps48]; simp) (by
    have e : D_laws_heldStringS a0 a1 w K = vc P P_laws_heldStringS (codeOf Try.f48) (env0 [a0, a1]) w (retX P Try.f48.results.toList K) := by kernel_rfl
    exact e ▸ h)

/-- laws.heldProgramS -/
def D_laws_heldProgramS (a0 a1 : Value) (w : World) (K : Value → World → Prop) : Prop :=
  ∃ I1 : Nat → Value → Value → World → Prop, (∃ m17, I1 m17 a1 (.int .i64 0) w) ∧ ∀ (m4 : Nat) (x1_5 : Value) (x5_6 : Value) (junk2 : Env) (w3 : World), I1 m4 x1_5 x5_6 w3 →
    bl0 P .len #[28] 3 [a0] w3 fun x8_7 =>
    bin P .lss 3 false false x5_6 x8_7 w3 fun x9_8 =>
    cnd x9_8
      (ixa P 28 a0 x5_6 w3 fun x14_9 =>
      fda P 77 x14_9 0 w3 fun x15_10 =>
      ld P 27 x15_10 w3 fun x16_11 =>
      call P f_laws_heldStringS [x16_11, x1_5] w3 fun x18_12 w13 =>
      bin P .lss 3 false true x18_12 (.int .i64 0) w13 fun x20_14 =>
      cnd x20_14
        (K (.int .i64 (-1)) w13)
        (bin P .add 3 false true x5_6 (.int .i64 1) w13 fun x11_15 =>
        ∃ m16, m16 < m4 ∧ I1 m16 x18_12 x11_15 w13))
      (K x1_5 w3)
def P_laws_heldProgramS : Plan := (.seq (.reg [.op (0, 0, false)]) (.seq (.seq (.reg [.op (0, 0, false)]) (.blk (.loop [1, 5] 2097138 (.seq (.seq (.reg [.op (0, 0, false), .op (1, 0, false), .op (2, 0, false), .op (3, 0, false)]) (.cond .leaf .leaf)) (.seq (.blk (.seq (.reg [.op (0, 0, false), .op (1, 0, false), .op (2, 0, false), .op (3, 0, false), .op (4, 0, false), .op (5, 0, false), .op (6, 2, false), .op (7, 0, false)]) (.seq (.reg [.op (0, 0, false), .op (1, 0, false)]) (.cond (.seq (.reg [.op (0, 0, false)]) .leaf) .leaf)))) (.reg [.op (0, 0, false), .op (1, 0, false), .op (2, 0, false)])))))) (.seq (.reg [.op (0, 0, false), .op (1, 0, false)]) .leaf)))
theorem I_laws_heldProgramS {a0 a1 : Value} {w : World} {K : Value → World → Prop} (h : D_laws_heldProgramS a0 a1 w K) : call P f_laws_heldProgramS [a0, a1] w K :=
  call_of_vc mixed Try.func49 (c := codeOf Try.f49) (by kernel_rfl) (by kernel_rfl) (p := P_laws_heldProgramS) (by kernel_rfl) (by rw [Try.ntmps49]; simp) (by
    have e : D_laws_heldProgramS a0 a1 w K = vc P P_laws_heldProgramS (codeOf Try.f49) (env0 [a0, a1]) w (retX P Try.f49.results.toList K) := by kernel_rfl
    exact e ▸ h)

/-- laws.heldKeptS -/
def D_laws_heldKeptS (a0 a1 : Value) (w : World) (K : Value → World → Prop) : Prop :=
  ∃ I1 : Nat → Value → Value → World → Prop, (∃ m25, I1 m25 a1 (.int .i64 0) w) ∧ ∀ (m4 : Nat) (x1_5 : Value) (x5_6 : Value) (junk2 : Env) (w3 : World), I1 m4 x1_5 x5_6 w3 →
    bl0 P .len #[29] 3 [a0] w3 fun x8_7 =>
    bin P .lss 3 false false x5_6 x8_7 w3 fun x9_8 =>
    cnd x9_8
      (ixa P 29 a0 x5_6 w3 fun x14_9 =>
      fda P 80 x14_9 0 w3 fun x15_10 =>
      ld P 9 x15_10 w3 fun x16_11 =>
      call P f_laws_markText [x1_5] w3 fun x18_12 w13 =>
      Ext w3 w13 ∧ bin P .neq 9 false false x16_11 x18_12 w13 fun x19_14 =>
      cnd x19_14
        (K (.int .i64 (-1)) w13)
        (bin P .add 3 false true x1_5 (.int .i64 1) w13 fun x21_15 =>
        ixa P 29 a0 x5_6 w13 fun x24_16 =>
        fda P 80 x24_16 1 w13 fun x25_17 =>
        ld P 9 x25_17 w13 fun x26_18 =>
        call P f_laws_markText [x21_15] w13 fun x28_19 w20 =>
        Ext w13 w20 ∧ bin P .neq 9 false false x26_18 x28_19 w20 fun x29_21 =>
        cnd x29_21
          (K (.int .i64 (-1)) w20)
          (bin P .add 3 false true x21_15 (.int .i64 1) w20 fun x31_22 =>
          bin P .add 3 false true x5_6 (.int .i64 1) w20 fun x11_23 =>
          ∃ m24, m24 < m4 ∧ I1 m24 x31_22 x11_23 w20)))
      (K x1_5 w3)
def P_laws_heldKeptS : Plan := (.seq (.reg [.op (0, 0, false)]) (.seq (.seq (.reg [.op (0, 0, false)]) (.blk (.loop [1, 5] 4294967282 (.seq (.seq (.reg [.op (0, 0, false), .op (1, 0, false), .op (2, 0, false), .op (3, 0, false)]) (.cond .leaf .leaf)) (.seq (.blk (.seq (.seq (.reg [.op (0, 0, false), .op (1, 0, false), .op (2, 0, false), .op (3, 0, false), .op (4, 0, false), .op (5, 0, false), .op (6, 2, true), .op (7, 0, false)]) (.cond (.seq (.reg [.op (0, 0, false)]) .leaf) .leaf)) (.seq (.reg [.op (0, 0, false), .op (1, 0, false), .op (2, 0, false)]) (.seq (.seq (.reg [.op (0, 0, false), .op (1, 0, false), .op (2, 0, false), .op (3, 0, false), .op (4, 0, false), .op (5, 0, false), .op (6, 2, true), .op (7, 0, false)]) (.cond (.seq (.reg [.op (0, 0, false)]) .leaf) .leaf)) (.reg [.op (0, 0, false), .op (1, 0, false), .op (2, 0, false)]))))) (.reg [.op (0, 0, false), .op (1, 0, false), .op (2, 0, false)])))))) (.seq (.reg [.op (0, 0, false), .op (1, 0, false)]) .leaf)))
theorem I_laws_heldKeptS {a0 a1 : Value} {w : World} {K : Value → World → Prop} (h : D_laws_heldKeptS a0 a1 w K) : call P f_laws_heldKeptS [a0, a1] w K :=
  call_of_vc mixed Try.func50 (c := codeOf Try.f50) (by kernel_rfl) (by kernel_rfl) (p := P_laws_heldKeptS) (by kernel_rfl) (by rw [Try.ntmps50]; simp) (by
    have e : D_laws_heldKeptS a0 a1 w K = vc P P_laws_heldKeptS (codeOf Try.f50) (env0 [a0, a1]) w (retX P Try.f50.results.toList K) := by kernel_rfl
    exact e ▸ h)

/-- spec.l10Code -/
def D_spec_l10Code (a0 a1 : Value) (w : World) (K : Value → World → Prop) : Prop :=
  call P f_spec_l10Is [a0] w fun x8_1 w2 =>
  una P .not x8_1 w2 fun x9_3 =>
  cnd x9_3
    (K (.int .i64 1) w2)
    (∃ I4 : Nat → Value → World → Prop, (∃ m33, I4 m33 (.int .i64 0) w2) ∧ ∀ (m7 : Nat) (x5_8 : Value) (junk5 : Env) (w6 : World), I4 m7 x5_8 w6 →
      bl0 P .len #[22] 3 [a1] w6 fun x12_9 =>
      bin P .lss 3 false false x5_8 x12_9 w6 fun x13_10 =>
      cnd x13_10
        (ixa P 22 a1 x5_8 w6 fun x18_11 =>
        ld P 36 x18_11 w6 fun x19_12 =>
        call P f_spec_l10Vector [x19_12] w6 fun x20_13 w14 =>
        una P .not x20_13 w14 fun x21_15 =>
        cnd x21_15
          (K (.int .i64 1) w14)
          (bin P .add 3 false true x5_8 (.int .i64 1) w14 fun x15_16 =>
          ∃ m17, m17 < m7 ∧ I4 m17 x15_16 w14))
        (∃ I18 : Nat → Value → World → Prop, (∃ m32, I18 m32 (.int .i64 0) w6) ∧ ∀ (m21 : Nat) (x6_22 : Value) (junk19 : Env) (w20 : World), I18 m21 x6_22 w20 →
          bl0 P .len #[22] 3 [a1] w20 fun x24_23 =>
          bin P .lss 3 false false x6_22 x24_23 w20 fun x25_24 =>
          cnd x25_24
            (ixa P 22 a1 x6_22 w20 fun x30_25 =>
            ld P 36 x30_25 w20 fun x31_26 =>
            bl0 P .len #[36] 3 [x31_26] w20 fun x32_27 =>
            bl0 P .len #[22] 3 [a0] w20 fun x34_28 =>
            bin P .neq 3 false false x32_27 x34_28 w20 fun x35_29 =>
            cnd x35_29
              (K (.int .i64 2) w20)
              (bin P .add 3 false true x6_22 (.int .i64 1) w20 fun x27_30 =>
              ∃ m31, m31 < m21 ∧ I18 m31 x27_30 w20))
            (K (.int .i64 0) w20)))
def P_spec_l10Code : Plan := (.seq (.reg [.op (0, 0, false)]) (.seq (.seq (.reg [.op (0, 0, false), .op (1, 2, false), .op (2, 0, false)]) (.cond (.seq (.reg [.op (0, 0, false)]) .leaf) .leaf)) (.seq (.seq (.reg [.op (0, 0, false)]) (.blk (.loop [5] 4193328 (.seq (.seq (.reg [.op (0, 0, false), .op (1, 0, false), .op (2, 0, false), .op (3, 0, false)]) (.cond .leaf .leaf)) (.seq (.blk (.seq (.reg [.op (0, 0, false), .op (1, 0, false), .op (2, 0, false), .op (3, 0, false), .op (4, 2, false), .op (5, 0, false)]) (.cond (.seq (.reg [.op (0, 0, false)]) .leaf) .leaf))) (.reg [.op (0, 0, false), .op (1, 0, false), .op (2, 0, false)])))))) (.seq (.seq (.reg [.op (0, 0, false)]) (.blk (.loop [6] 68715282512 (.seq (.seq (.reg [.op (0, 0, false), .op (1, 0, false), .op (2, 0, false), .op (3, 0, false)]) (.cond .leaf .leaf)) (.seq (.blk (.seq (.reg [.op (0, 0, false), .op (1, 0, false), .op (2, 0, false), .op (3, 0, false), .op (4, 0, false), .op (5, 0, false), .op (6, 0, false), .op (7, 0, false)]) (.cond (.seq (.reg [.op (0, 0, false)]) .leaf) .leaf))) (.reg [.op (0, 0, false), .op (1, 0, false), .op (2, 0, false)])))))) (.seq (.reg [.op (0, 0, false)]) .leaf)))))
theorem I_spec_l10Code {a0 a1 : Value} {w : World} {K : Value → World → Prop} (h : D_spec_l10Code a0 a1 w K) : call P f_spec_l10Code [a0, a1] w K :=
  call_of_vc mixed Try.func51 (c := codeOf Try.f51) (by kernel_rfl) (by kernel_rfl) (p := P_spec_l10Code) (by kernel_rfl) (by rw [Try.ntmps51]; simp) (by
    have e : D_spec_l10Code a0 a1 w K = vc P P_spec_l10Code (codeOf Try.f51) (env0 [a0, a1]) w (retX P Try.f51.results.toList K) := by kernel_rfl
    exact e ▸ h)

/-- spec.l10Times -/
def D_spec_l10Times (a0 a1 : Value) (w : World) (K : Value → World → Prop) : Prop :=
  bsl P 36 0 [] w fun x10_1 w2 =>
  ∃ I3 : Nat → Value → Value → World → Prop, (∃ m39, I3 m39 x10_1 (.int .i64 0) w2) ∧ ∀ (m6 : Nat) (x6_7 : Value) (x7_8 : Value) (junk4 : Env) (w5 : World), I3 m6 x6_7 x7_8 w5 →
    bl0 P .len #[22] 3 [a0] w5 fun x13_9 =>
    bin P .lss 3 false false x7_8 x13_9 w5 fun x14_10 =>
    cnd x14_10
      (∃ I11 : Nat → Value → Value → World → Prop, (∃ m38, I11 m38 (.float .f32 0) (.int .i64 0) w5) ∧ ∀ (m14 : Nat) (x8_15 : Value) (x9_16 : Value) (junk12 : Env) (w13 : World), I11 m14 x8_15 x9_16 w13 →
        bl0 P .len #[36] 3 [a1] w13 fun x19_17 =>
        bin P .lss 3 false false x9_16 x19_17 w13 fun x20_18 =>
        cnd x20_18
          (ixa P 22 a0 x7_8 w13 fun x26_19 =>
          ld P 36 x26_19 w13 fun x27_20 =>
          ixa P 36 x27_20 x9_16 w13 fun x29_21 =>
          ld P 63 x29_21 w13 fun x30_22 =>
          ixa P 36 a1 x9_16 w13 fun x33_23 =>
          ld P 63 x33_23 w13 fun x34_24 =>
          rbin P .mul 63 false false x30_22 x34_24 w13 fun x35_25 =>
          rbin P .add 63 false false x8_15 x35_25 w13 fun x36_26 =>
          call P f_spec_l01Finite [x36_26] w13 fun x38_27 w28 =>
          una P .not x38_27 w28 fun x39_29 =>
          cnd x39_29
            (K (.tuple #[(.slice none 0 0), (.bool false)]) w28)
            (bin P .add 3 false true x9_16 (.int .i64 1) w28 fun x22_30 =>
            ∃ m31, m31 < m14 ∧ I11 m31 x36_26 x22_30 w28))
          (bsl P 36 1 [(0, x8_15)] w13 fun x42_32 w33 =>
          bl2 P .append #[36, 36] 36 [x6_7, x42_32] w33 fun x43_34 w35 =>
          bin P .add 3 false true x7_8 (.int .i64 1) w35 fun x16_36 =>
          ∃ m37, m37 < m6 ∧ I3 m37 x43_34 x16_36 w35))
      (K (.tuple #[x6_7, (.bool true)]) w5)
def P_spec_l10Times : Plan := (.seq (.reg [.op (0, 0, false), .op (1, 0, false)]) (.seq (.reg [.op (0, 2, false), .op (1, 0, false)]) (.seq (.seq (.reg [.op (0, 0, false)]) (.blk (.loop [6, 7] 17592186043376 (.seq (.seq (.reg [.op (0, 0, false), .op (1, 0, false), .op (2, 0, false), .op (3, 0, false)]) (.cond .leaf .leaf)) (.seq (.blk (.seq (.reg [.op (0, 0, false)]) (.seq (.seq (.reg [.op (0, 0, false)]) (.blk (.loop [8, 9] 1099511497520 (.seq (.seq (.reg [.op (0, 0, false), .op (1, 0, false), .op (2, 0, false), .op (3, 0, false)]) (.cond .leaf .leaf)) (.seq (.blk (.seq (.reg [.op (0, 0, false), .op (1, 0, false), .op (2, 0, false), .op (3, 0, false), .op (4, 0, false), .op (5, 0, false), .op (6, 0, false), .op (7, 0, false), .op (8, 0, false), .op (9, 0, false), .op (10, 0, false), .op (11, 0, false), .op (12, 1, false), .op (13, 1, false), .op (14, 0, false)]) (.seq (.reg [.op (0, 0, false), .op (1, 2, false), .op (2, 0, false)]) (.cond (.seq (.reg [.op (0, 0, false), .op (1, 0, false)]) .leaf) .leaf)))) (.reg [.op (0, 0, false), .op (1, 0, false), .op (2, 0, false)])))))) (.reg [.op (0, 0, false), .op (1, 0, false), .op (2, 2, false), .op (3, 2, false), .op (4, 0, false)])))) (.reg [.op (0, 0, false), .op (1, 0, false), .op (2, 0, false)])))))) (.seq (.reg [.op (0, 0, false), .op (1, 0, false), .op (2, 0, false)]) .leaf))))
theorem I_spec_l10Times {a0 a1 : Value} {w : World} {K : Value → World → Prop} (h : D_spec_l10Times a0 a1 w K) : call P f_spec_l10Times [a0, a1] w K :=
  call_of_vc mixed Try.func52 (c := codeOf Try.f52) (by kernel_rfl) (by kernel_rfl) (p := P_spec_l10Times) (by kernel_rfl) (by rw [Try.ntmps52]; simp) (by
    have e : D_spec_l10Times a0 a1 w K = vc P P_spec_l10Times (codeOf Try.f52) (env0 [a0, a1]) w (retX P Try.f52.results.toList K) := by kernel_rfl
    exact e ▸ h)

/-- impl.isVector -/
def D_impl_isVector (a0 : Value) (w : World) (K : Value → World → Prop) : Prop :=
  bl0 P .len #[36] 3 [a0] w fun x4_1 =>
  bin P .geq 3 false true x4_1 (.int .i64 1) w fun x5_2 =>
  ∃ J3 : Value → World → Prop, (∀ (x9_4 : Value) (junk6 : Env) (w5 : World), J3 x9_4 w5 →
    pick x5_2 x9_4 (.bool false) fun x10_7 =>
    ∃ J8 : Value → World → Prop, (∀ (x13_9 : Value) (junk11 : Env) (w10 : World), J8 x13_9 w10 →
    pick x10_7 x13_9 (.bool false) fun x14_12 =>
      K x14_12 w10) ∧
    grd x10_7 true
      (call P f_impl_areFinite [a0] w5 fun x13_13 w14 =>
        J8 x13_13 w14)
      (J8 undef w5)) ∧
    grd x5_2 true
      (bl0 P .len #[36] 3 [a0] w fun x8_15 =>
      bin P .leq 3 false true x8_15 (.int .i64 8) w fun x9_16 =>
      J3 x9_16 w)
      (J3 undef w)
def P_impl_isVector : Plan := (.seq (.reg [.op (0, 0, false)]) (.seq (.reg [.op (0, 0, false), .op (1, 0, false), .op (2, 0, false), .op (3, 0, false), .grp 3 true [(4, 0, false), (5, 0, false), (6, 0, false)] [9] 896, .op (7, 0, false), .op (8, 0, false), .grp 8 true [(9, 0, false), (10, 2, false)] [13] 12288, .op (11, 0, false), .op (12, 0, false)]) .leaf))
theorem I_impl_isVector {a0 : Value} {w : World} {K : Value → World → Prop} (h : D_impl_isVector a0 w K) : call P f_impl_isVector [a0] w K :=
  call_of_vc mixed Try.func53 (c := codeOf Try.f53) (by kernel_rfl) (by kernel_rfl) (p := P_impl_isVector) (by kernel_rfl) (by rw [Try.ntmps53]; simp) (by
    have e : D_impl_isVector a0 w K = vc P P_impl_isVector (codeOf Try.f53) (env0 [a0]) w (retX P Try.f53.results.toList K) := by kernel_rfl
    exact e ▸ h)

/-- impl.timesVector -/
def D_impl_timesVector (a0 a1 : Value) (w : World) (K : Value → World → Prop) : Prop :=
  bsl P 36 0 [] w fun x13_1 w2 =>
  bl0 P .len #[22] 3 [a0] w2 fun x15_3 =>
  ∃ I4 : Nat → Value → Value → World → Prop, (∃ m41, I4 m41 x13_1 (.int .i64 0) w2) ∧ ∀ (m7 : Nat) (x6_8 : Value) (x16_9 : Value) (junk5 : Env) (w6 : World), I4 m7 x6_8 x16_9 w6 →
    bin P .lss 3 false false x16_9 x15_3 w6 fun x17_10 =>
    cnd x17_10
      (ixa P 22 a0 x16_9 w6 fun x18_11 =>
      ld P 36 x18_11 w6 fun x19_12 =>
      bl0 P .len #[36] 3 [x19_12] w6 fun x21_13 =>
      ∃ I14 : Nat → Value → Value → World → Prop, (∃ m40, I14 m40 (.float .f32 0) (.int .i64 0) w6) ∧ ∀ (m17 : Nat) (x9_18 : Value) (x22_19 : Value) (junk15 : Env) (w16 : World), I14 m17 x9_18 x22_19 w16 →
        bin P .lss 3 false false x22_19 x21_13 w16 fun x23_20 =>
        cnd x23_20
          (ixa P 36 x19_12 x22_19 w16 fun x25_21 =>
          ld P 63 x25_21 w16 fun x26_22 =>
          ixa P 36 a1 x22_19 w16 fun x30_23 =>
          ld P 63 x30_23 w16 fun x31_24 =>
          rbin P .mul 63 false false x26_22 x31_24 w16 fun x32_25 =>
          rbin P .add 63 false false x9_18 x32_25 w16 fun x35_26 =>
          bsl P 36 2 [(0, x32_25), (1, x35_26)] w16 fun x38_27 w28 =>
          call P f_impl_areFinite [x38_27] w28 fun x39_29 w30 =>
          una P .not x39_29 w30 fun x40_31 =>
          cnd x40_31
            (K (.tuple #[(.slice none 0 0), (.bool false)]) w30)
            (bin P .add 3 false true x22_19 (.int .i64 1) w30 fun x41_32 =>
            ∃ m33, m33 < m17 ∧ I14 m33 x35_26 x41_32 w30))
          (bsl P 36 1 [(0, x9_18)] w16 fun x44_34 w35 =>
          bl2 P .append #[36, 36] 36 [x6_8, x44_34] w35 fun x45_36 w37 =>
          bin P .add 3 false true x16_9 (.int .i64 1) w37 fun x46_38 =>
          ∃ m39, m39 < m7 ∧ I4 m39 x45_36 x46_38 w37))
      (K (.tuple #[x6_8, (.bool true)]) w6)
def P_impl_timesVector : Plan := (.seq (.reg [.op (0, 0, false), .op (1, 0, false)]) (.seq (.reg [.op (0, 2, false), .op (1, 0, false)]) (.seq (.seq (.reg [.op (0, 0, false), .op (1, 0, false), .op (2, 0, false)]) (.blk (.loop [6, 16] 140737488297840 (.seq (.reg [.op (0, 0, false)]) (.seq (.cond .leaf .leaf) (.seq (.blk (.seq (.reg [.op (0, 0, false), .op (1, 0, false), .op (2, 0, false)]) (.seq (.reg [.op (0, 0, false)]) (.seq (.seq (.reg [.op (0, 0, false), .op (1, 0, false), .op (2, 0, false)]) (.blk (.loop [9, 22] 4398042324528 (.seq (.reg [.op (0, 0, false)]) (.seq (.cond .leaf .leaf) (.seq (.blk (.seq (.reg [.op (0, 0, false), .op (1, 0, false), .op (2, 0, false), .op (3, 0, false), .op (4, 0, false)]) (.seq (.reg [.op (0, 0, false), .op (1, 0, false), .op (2, 0, false), .op (3, 0, false), .op (4, 0, false), .op (5, 1, false), .op (6, 0, false)]) (.seq (.reg [.op (0, 0, false), .op (1, 0, false), .op (2, 1, false), .op (3, 0, false)]) (.seq (.reg [.op (0, 0, false), .op (1, 0, false), .op (2, 2, false), .op (3, 2, false), .op (4, 0, false)]) (.cond (.seq (.reg [.op (0, 0, false), .op (1, 0, false)]) .leaf) .leaf)))))) (.reg [.op (0, 0, false), .op (1, 0, false)]))))))) (.reg [.op (0, 0, false), .op (1, 0, false), .op (2, 2, false), .op (3, 2, false), .op (4, 0, false)]))))) (.reg [.op (0, 0, false), .op (1, 0, false)]))))))) (.seq (.reg [.op (0, 0, false), .op (1, 0, false), .op (2, 0, false)]) .leaf))))
theorem I_impl_timesVector {a0 a1 : Value} {w : World} {K : Value → World → Prop} (h : D_impl_timesVector a0 a1 w K) : call P f_impl_timesVector [a0, a1] w K :=
  call_of_vc mixed Try.func54 (c := codeOf Try.f54) (by kernel_rfl) (by kernel_rfl) (p := P_impl_timesVector) (by kernel_rfl) (by rw [Try.ntmps54]; simp) (by
    have e : D_impl_timesVector a0 a1 w K = vc P P_impl_timesVector (codeOf Try.f54) (env0 [a0, a1]) w (retX P Try.f54.results.toList K) := by kernel_rfl
    exact e ▸ h)

/-- laws.sameFloat -/
def D_laws_sameFloat (a0 a1 : Value) (w : World) (K : Value → World → Prop) : Prop :=
  bin P .neq 66 false false a0 a0 w fun x7_1 =>
  ∃ J2 : Value → World → Prop, (∀ (x11_3 : Value) (junk5 : Env) (w4 : World), J2 x11_3 w4 →
    pick x7_1 (.bool true) x11_3 fun x12_6 =>
    cnd x12_6
      (bin P .neq 66 false false a0 a0 w4 fun x15_7 =>
      ∃ J8 : Value → World → Prop, (∀ (x19_9 : Value) (junk11 : Env) (w10 : World), J8 x19_9 w10 →
        pick x15_7 x19_9 (.bool false) fun x20_12 =>
        K x20_12 w10) ∧
        grd x15_7 true
          (bin P .neq 66 false false a1 a1 w4 fun x19_13 =>
          J8 x19_13 w4)
          (J8 undef w4))
      (bin P .eql 66 false true a0 (.float .f64 0) w4 fun x22_14 =>
      ∃ J15 : Value → World → Prop, (∀ (x25_16 : Value) (junk18 : Env) (w17 : World), J15 x25_16 w17 →
        pick x22_14 x25_16 (.bool false) fun x26_19 =>
        cnd x26_19
          (rbin P .quo 66 true false (.float .f64 4607182418800017408) a0 w17 fun x28_20 =>
          bin P .gtr 66 false true x28_20 (.float .f64 0) w17 fun x29_21 =>
          rbin P .quo 66 true false (.float .f64 4607182418800017408) a1 w17 fun x31_22 =>
          bin P .gtr 66 false true x31_22 (.float .f64 0) w17 fun x32_23 =>
          bin P .eql 4 false false x29_21 x32_23 w17 fun x33_24 =>
          K x33_24 w17)
          (bin P .eql 66 false false a0 a1 w17 fun x36_25 =>
          K x36_25 w17)) ∧
        grd x22_14 true
          (bin P .eql 66 false true a1 (.float .f64 0) w4 fun x25_26 =>
          J15 x25_26 w4)
          (J15 undef w4))) ∧
    grd x7_1 false
      (bin P .neq 66 false false a1 a1 w fun x11_27 =>
      J2 x11_27 w)
      (J2 undef w)
def P_laws_sameFloat : Plan := (.seq (.reg [.op (0, 0, false)]) (.seq (.seq (.reg [.op (0, 0, false), .op (1, 0, false), .op (2, 0, false), .op (3, 0, false), .grp 3 false [(4, 0, false), (5, 0, false), (6, 0, false)] [11] 3584, .op (7, 0, false)]) (.cond (.seq (.reg [.op (0, 0, false), .op (1, 0, false), .op (2, 0, false), .op (3, 0, false), .grp 3 true [(4, 0, false), (5, 0, false), (6, 0, false)] [19] 917504, .op (7, 0, false), .op (8, 0, false)]) .leaf) .leaf)) (.seq (.seq (.reg [.op (0, 0, false), .op (1, 0, false), .op (2, 0, false), .grp 2 true [(3, 0, false), (4, 0, false)] [25] 50331648, .op (5, 0, false)]) (.cond (.seq (.reg [.op (0, 0, false), .op (1, 1, false), .op (2, 0, false), .op (3, 0, false), .op (4, 1, false), .op (5, 0, false), .op (6, 0, false), .op (7, 0, false)]) .leaf) .leaf)) (.seq (.reg [.op (0, 0, false), .op (1, 0, false), .op (2, 0, false), .op (3, 0, false)]) .leaf))))
theorem I_laws_sameFloat {a0 a1 : Value} {w : World} {K : Value → World → Prop} (h : D_laws_sameFloat a0 a1 w K) : call P f_laws_sameFloat [a0, a1] w K :=
  call_of_vc mixed Try.func55 (c := codeOf Try.f55) (by kernel_rfl) (by kernel_rfl) (p := P_laws_sameFloat) (by kernel_rfl) (by rw [Try.ntmps55]; simp) (by
    have e : D_laws_sameFloat a0 a1 w K = vc P P_laws_sameFloat (codeOf Try.f55) (env0 [a0, a1]) w (retX P Try.f55.results.toList K) := by kernel_rfl
    exact e ▸ h)

/-- spec.l10Turn -/
def D_spec_l10Turn (a0 : Value) (w : World) (K : Value → World → Prop) : Prop :=
  bsl P 22 0 [] w fun x7_1 w2 =>
  ∃ I3 : Nat → Value → Value → World → Prop, (∃ m38, I3 m38 x7_1 (.int .i64 0) w2) ∧ ∀ (m6 : Nat) (x3_7 : Value) (x4_8 : Value) (junk4 : Env) (w5 : World), I3 m6 x3_7 x4_8 w5 →
    bl0 P .len #[22] 3 [a0] w5 fun x10_9 =>
    bin P .lss 3 false false x4_8 x10_9 w5 fun x11_10 =>
    cnd x11_10
      (bsl P 36 0 [] w5 fun x14_11 w12 =>
      ∃ I13 : Nat → Value → Value → World → Prop, (∃ m37, I13 m37 x14_11 (.int .i64 0) w12) ∧ ∀ (m16 : Nat) (x5_17 : Value) (x6_18 : Value) (junk14 : Env) (w15 : World), I13 m16 x5_17 x6_18 w15 →
        bl0 P .len #[22] 3 [a0] w15 fun x17_19 =>
        bin P .lss 3 false false x6_18 x17_19 w15 fun x18_20 =>
        cnd x18_20
          (ixa P 22 a0 x6_18 w15 fun x24_21 =>
          ld P 36 x24_21 w15 fun x25_22 =>
          ixa P 36 x25_22 x4_8 w15 fun x27_23 =>
          ld P 63 x27_23 w15 fun x28_24 =>
          bsl P 36 1 [(0, x28_24)] w15 fun x29_25 w26 =>
          bl2 P .append #[36, 36] 36 [x5_17, x29_25] w26 fun x30_27 w28 =>
          bin P .add 3 false true x6_18 (.int .i64 1) w28 fun x20_29 =>
          ∃ m30, m30 < m16 ∧ I13 m30 x30_27 x20_29 w28)
          (bsl P 22 1 [(0, x5_17)] w15 fun x33_31 w32 =>
          bl2 P .append #[22, 22] 22 [x3_7, x33_31] w32 fun x34_33 w34 =>
          bin P .add 3 false true x4_8 (.int .i64 1) w34 fun x13_35 =>
          ∃ m36, m36 < m6 ∧ I3 m36 x34_33 x13_35 w34))
      (K x3_7 w5)
def P_spec_l10Turn : Plan := (.seq (.reg [.op (0, 0, false)]) (.seq (.reg [.op (0, 2, false), .op (1, 0, false)]) (.seq (.seq (.reg [.op (0, 0, false)]) (.blk (.loop [3, 4] 34359738232 (.seq (.seq (.reg [.op (0, 0, false), .op (1, 0, false), .op (2, 0, false), .op (3, 0, false)]) (.cond .leaf .leaf)) (.seq (.blk (.seq (.reg [.op (0, 2, false), .op (1, 0, false)]) (.seq (.seq (.reg [.op (0, 0, false)]) (.blk (.loop [5, 6] 2147450976 (.seq (.seq (.reg [.op (0, 0, false), .op (1, 0, false), .op (2, 0, false), .op (3, 0, false)]) (.cond .leaf .leaf)) (.seq (.blk (.reg [.op (0, 0, false), .op (1, 0, false), .op (2, 0, false), .op (3, 0, false), .op (4, 0, false), .op (5, 0, false), .op (6, 0, false), .op (7, 0, false), .op (8, 2, false), .op (9, 2, false), .op (10, 0, false)])) (.reg [.op (0, 0, false), .op (1, 0, false), .op (2, 0, false)])))))) (.reg [.op (0, 0, false), .op (1, 0, false), .op (2, 2, false), .op (3, 2, false), .op (4, 0, false)])))) (.reg [.op (0, 0, false), .op (1, 0, false), .op (2, 0, false)])))))) (.seq (.reg [.op (0, 0, false), .op (1, 0, false)]) .leaf))))
theorem I_spec_l10Turn {a0 : Value} {w : World} {K : Value → World → Prop} (h : D_spec_l10Turn a0 w K) : call P f_spec_l10Turn [a0] w K :=
  call_of_vc mixed Try.func56 (c := codeOf Try.f56) (by kernel_rfl) (by kernel_rfl) (p := P_spec_l10Turn) (by kernel_rfl) (by rw [Try.ntmps56]; simp) (by
    have e : D_spec_l10Turn a0 w K = vc P P_spec_l10Turn (codeOf Try.f56) (env0 [a0]) w (retX P Try.f56.results.toList K) := by kernel_rfl
    exact e ▸ h)

/-- impl.empty -/
def D_impl_empty (a0 : Value) (w : World) (K : Value → World → Prop) : Prop :=
  mks P 22 a0 a0 w fun x6_1 w2 =>
  bl0 P .len #[22] 3 [x6_1] w2 fun x8_3 =>
  ∃ I4 : Nat → Value → World → Prop, (∃ m17, I4 m17 (.int .i64 0) w2) ∧ ∀ (m7 : Nat) (x9_8 : Value) (junk5 : Env) (w6 : World), I4 m7 x9_8 w6 →
    bin P .lss 3 false false x9_8 x8_3 w6 fun x10_9 =>
    cnd x10_9
      (mks P 36 a0 a0 w6 fun x15_10 w11 =>
      ixa P 22 x6_1 x9_8 w11 fun x16_12 =>
      sto P 36 x16_12 x15_10 w11 fun w14 =>
      bin P .add 3 false true x9_8 (.int .i64 1) w14 fun x17_15 =>
      ∃ m16, m16 < m7 ∧ I4 m16 x17_15 w14)
      (K x6_1 w6)
def P_impl_empty : Plan := (.seq (.reg [.op (0, 0, false)]) (.seq (.reg [.op (0, 0, false), .op (1, 2, false), .op (2, 0, false)]) (.seq (.seq (.reg [.op (0, 0, false), .op (1, 0, false), .op (2, 0, false)]) (.blk (.loop [9] 261648 (.seq (.reg [.op (0, 0, false)]) (.seq (.cond .leaf .leaf) (.seq (.blk (.seq (.reg [.op (0, 0, false), .op (1, 0, false)]) (.reg [.op (0, 0, false), .op (1, 0, false), .op (2, 0, false), .op (3, 2, false), .op (4, 0, false), .op (5, 2, false)]))) (.reg [.op (0, 0, false), .op (1, 0, false)]))))))) (.seq (.reg [.op (0, 0, false), .op (1, 0, false)]) .leaf))))
theorem I_impl_empty {a0 : Value} {w : World} {K : Value → World → Prop} (h : D_impl_empty a0 w K) : call P f_impl_empty [a0] w K :=
  call_of_vc mixed Try.func57 (c := codeOf Try.f57) (by kernel_rfl) (by kernel_rfl) (p := P_impl_empty) (by kernel_rfl) (by rw [Try.ntmps57]; simp) (by
    have e : D_impl_empty a0 w K = vc P P_impl_empty (codeOf Try.f57) (env0 [a0]) w (retX P Try.f57.results.toList K) := by kernel_rfl
    exact e ▸ h)

/-- impl.column -/
def D_impl_column (a0 a1 : Value) (w : World) (K : Value → World → Prop) : Prop :=
  bsl P 36 0 [] w fun x8_1 w2 =>
  bl0 P .len #[22] 3 [a0] w2 fun x10_3 =>
  ∃ I4 : Nat → Value → Value → World → Prop, (∃ m21, I4 m21 x8_1 (.int .i64 0) w2) ∧ ∀ (m7 : Nat) (x5_8 : Value) (x11_9 : Value) (junk5 : Env) (w6 : World), I4 m7 x5_8 x11_9 w6 →
    bin P .lss 3 false false x11_9 x10_3 w6 fun x12_10 =>
    cnd x12_10
      (ixa P 22 a0 x11_9 w6 fun x13_11 =>
      ld P 36 x13_11 w6 fun x14_12 =>
      ixa P 36 x14_12 a1 w6 fun x18_13 =>
      ld P 63 x18_13 w6 fun x19_14 =>
      bsl P 36 1 [(0, x19_14)] w6 fun x20_15 w16 =>
      bl2 P .append #[36, 36] 36 [x5_8, x20_15] w16 fun x21_17 w18 =>
      bin P .add 3 false true x11_9 (.int .i64 1) w18 fun x22_19 =>
      ∃ m20, m20 < m7 ∧ I4 m20 x21_17 x22_19 w18)
      (K x5_8 w6)
def P_impl_column : Plan := (.seq (.reg [.op (0, 0, false)]) (.seq (.reg [.op (0, 2, false), .op (1, 0, false)]) (.seq (.seq (.reg [.op (0, 0, false), .op (1, 0, false), .op (2, 0, false)]) (.blk (.loop [5, 11] 8386720 (.seq (.reg [.op (0, 0, false)]) (.seq (.cond .leaf .leaf) (.seq (.blk (.seq (.reg [.op (0, 0, false), .op (1, 0, false), .op (2, 0, false)]) (.reg [.op (0, 0, false), .op (1, 0, false), .op (2, 0, false), .op (3, 0, false), .op (4, 0, false), .op (5, 2, false), .op (6, 2, false), .op (7, 0, false)]))) (.reg [.op (0, 0, false), .op (1, 0, false)]))))))) (.seq (.reg [.op (0, 0, false), .op (1, 0, false)]) .leaf))))
theorem I_impl_column {a0 a1 : Value} {w : World} {K : Value → World → Prop} (h : D_impl_column a0 a1 w K) : call P f_impl_column [a0, a1] w K :=
  call_of_vc mixed Try.func58 (c := codeOf Try.f58) (by kernel_rfl) (by kernel_rfl) (p := P_impl_column) (by kernel_rfl) (by rw [Try.ntmps58]; simp) (by
    have e : D_impl_column a0 a1 w K = vc P P_impl_column (codeOf Try.f58) (env0 [a0, a1]) w (retX P Try.f58.results.toList K) := by kernel_rfl
    exact e ▸ h)

/-- spec.l10Eliminate -/
def D_spec_l10Eliminate (a0 : Value) (w : World) (K : Value → World → Prop) : Prop :=
  alc P 47 w fun x2_1 w2 =>
  bl0 P .len #[22] 3 [a0] w2 fun x16_3 =>
  bld P 47 [] w2 fun x17_4 =>
  alc P 47 w2 fun x5_5 w6 =>
  sto P 47 x5_5 x17_4 w6 fun w8 =>
  ∃ I9 : Nat → Value → World → Prop, (∃ m188, I9 m188 (.int .i64 0) w8) ∧ ∀ (m12 : Nat) (x6_13 : Value) (junk10 : Env) (w11 : World), I9 m12 x6_13 w11 →
    bin P .lss 3 false false x6_13 x16_3 w11 fun x20_14 =>
    cnd x20_14
      (fda P 47 x5_5 0 w11 fun x23_15 =>
      ld P 45 x23_15 w11 fun x24_16 =>
      bsl P 45 1 [(0, x6_13)] w11 fun x26_17 w18 =>
      bl2 P .append #[45, 45] 45 [x24_16, x26_17] w18 fun x27_19 w20 =>
      fda P 47 x5_5 0 w20 fun x28_21 =>
      sto P 45 x28_21 x27_19 w20 fun w23 =>
      fda P 47 x5_5 1 w23 fun x29_24 =>
      ld P 22 x29_24 w23 fun x30_25 =>
      ixa P 22 a0 x6_13 w23 fun x34_26 =>
      ld P 36 x34_26 w23 fun x35_27 =>
      bsl P 36 0 [] w23 fun x31_28 w29 =>
      Ext w23 w29 ∧ bl2 P .append #[36, 36] 36 [x31_28, x35_27] w29 fun x36_30 w31 =>
      Ext w29 w31 ∧ bsl P 22 1 [(0, x36_30)] w31 fun x37_32 w33 =>
      Ext w31 w33 ∧ bl2 P .append #[22, 22] 22 [x30_25, x37_32] w33 fun x38_34 w35 =>
      fda P 47 x5_5 1 w35 fun x39_36 =>
      sto P 22 x39_36 x38_34 w35 fun w38 =>
      bin P .add 3 false true x6_13 (.int .i64 1) w38 fun x22_39 =>
      ∃ m40, m40 < m12 ∧ I9 m40 x22_39 w38)
      (∃ I41 : Nat → Value → World → Prop, (∃ m187, I41 m187 (.int .i64 0) w11) ∧ ∀ (m44 : Nat) (x7_45 : Value) (junk42 : Env) (w43 : World), I41 m44 x7_45 w43 →
        bin P .lss 3 false false x7_45 x16_3 w43 fun x42_46 =>
        cnd x42_46
          (bin P .add 3 false true x7_45 (.int .i64 1) w43 fun x47_47 =>
          ∃ I48 : Nat → Value → Value → World → Prop, (∃ m182, I48 m182 x7_45 x47_47 w43) ∧ ∀ (m51 : Nat) (x8_52 : Value) (x9_53 : Value) (junk49 : Env) (w50 : World), I48 m51 x8_52 x9_53 w50 →
            bin P .lss 3 false false x9_53 x16_3 w50 fun x50_54 =>
            cnd x50_54
              (fda P 47 x5_5 1 w50 fun x53_55 =>
              ld P 22 x53_55 w50 fun x54_56 =>
              ixa P 22 x54_56 x9_53 w50 fun x56_57 =>
              ld P 36 x56_57 w50 fun x57_58 =>
              ixa P 36 x57_58 x7_45 w50 fun x59_59 =>
              ld P 63 x59_59 w50 fun x60_60 =>
              fda P 47 x5_5 1 w50 fun x62_61 =>
              ld P 22 x62_61 w50 fun x63_62 =>
              ixa P 22 x63_62 x8_52 w50 fun x65_63 =>
              ld P 36 x65_63 w50 fun x66_64 =>
              ixa P 36 x66_64 x7_45 w50 fun x68_65 =>
              ld P 63 x68_65 w50 fun x69_66 =>
              call P f_spec_l01Abs [x60_60] w50 fun x61_67 w68 =>
              Ext w50 w68 ∧ call P f_spec_l01Abs [x69_66] w68 fun x70_69 w70 =>
              bin P .gtr 63 false false x61_67 x70_69 w70 fun x71_71 =>
              cnd x71_71
                (bin P .add 3 false true x9_53 (.int .i64 1) w70 fun x52_72 =>
                ∃ m73, m73 < m51 ∧ I48 m73 x9_53 x52_72 w70)
                (bin P .add 3 false true x9_53 (.int .i64 1) w70 fun x52_74 =>
                ∃ m75, m75 < m51 ∧ I48 m75 x8_52 x52_74 w70))
              (fda P 47 x5_5 1 w50 fun x73_76 =>
              ld P 22 x73_76 w50 fun x74_77 =>
              ixa P 22 x74_77 x8_52 w50 fun x76_78 =>
              ld P 36 x76_78 w50 fun x77_79 =>
              fda P 47 x5_5 0 w50 fun x78_80 =>
              ld P 45 x78_80 w50 fun x79_81 =>
              ixa P 45 x79_81 x8_52 w50 fun x81_82 =>
              ld P 2 x81_82 w50 fun x82_83 =>
              fda P 47 x5_5 1 w50 fun x83_84 =>
              ld P 22 x83_84 w50 fun x84_85 =>
              fda P 47 x5_5 1 w50 fun x86_86 =>
              ld P 22 x86_86 w50 fun x87_87 =>
              ixa P 22 x87_87 x7_45 w50 fun x89_88 =>
              ld P 36 x89_88 w50 fun x90_89 =>
              ixa P 22 x84_85 x8_52 w50 fun x91_90 =>
              sto P 36 x91_90 x90_89 w50 fun w92 =>
              fda P 47 x5_5 1 w92 fun x92_93 =>
              ld P 22 x92_93 w92 fun x93_94 =>
              ixa P 22 x93_94 x7_45 w92 fun x96_95 =>
              sto P 36 x96_95 x77_79 w92 fun w97 =>
              fda P 47 x5_5 0 w97 fun x97_98 =>
              ld P 45 x97_98 w97 fun x98_99 =>
              fda P 47 x5_5 0 w97 fun x100_100 =>
              ld P 45 x100_100 w97 fun x101_101 =>
              ixa P 45 x101_101 x7_45 w97 fun x103_102 =>
              ld P 2 x103_102 w97 fun x104_103 =>
              ixa P 45 x98_99 x8_52 w97 fun x105_104 =>
              sto P 2 x105_104 x104_103 w97 fun w106 =>
              fda P 47 x5_5 0 w106 fun x106_107 =>
              ld P 45 x106_107 w106 fun x107_108 =>
              ixa P 45 x107_108 x7_45 w106 fun x110_109 =>
              sto P 2 x110_109 x82_83 w106 fun w111 =>
              ixa P 36 x77_79 x7_45 w111 fun x113_112 =>
              ld P 63 x113_112 w111 fun x114_113 =>
              bin P .eql 63 false true x114_113 (.float .f32 0) w111 fun x115_114 =>
              cnd x115_114
                (bld P 47 [] w111 fun x116_115 =>
                sto P 47 x2_1 x116_115 w111 fun w117 =>
                ldc P 47 x2_1 w117 fun r118 =>
                K (.tuple #[r118, (.int .i64 5)]) w117)
                (bin P .add 3 false true x7_45 (.int .i64 1) w111 fun x118_119 =>
                ∃ I120 : Nat → Value → World → Prop, (∃ m181, I120 m181 x118_119 w111) ∧ ∀ (m123 : Nat) (x12_124 : Value) (junk121 : Env) (w122 : World), I120 m123 x12_124 w122 →
                  bin P .lss 3 false false x12_124 x16_3 w122 fun x121_125 =>
                  cnd x121_125
                    (fda P 47 x5_5 1 w122 fun x124_126 =>
                    ld P 22 x124_126 w122 fun x125_127 =>
                    ixa P 22 x125_127 x12_124 w122 fun x127_128 =>
                    ld P 36 x127_128 w122 fun x128_129 =>
                    ixa P 36 x128_129 x7_45 w122 fun x133_130 =>
                    ld P 63 x133_130 w122 fun x134_131 =>
                    ixa P 36 x77_79 x7_45 w122 fun x137_132 =>
                    ld P 63 x137_132 w122 fun x138_133 =>
                    rbin P .quo 63 false false x134_131 x138_133 w122 fun x139_134 =>
                    ixa P 36 x128_129 x7_45 w122 fun x140_135 =>
                    sto P 63 x140_135 x139_134 w122 fun w137 =>
                    bin P .add 3 false true x7_45 (.int .i64 1) w137 fun x142_138 =>
                    ∃ I139 : Nat → Value → World → Prop, (∃ m178, I139 m178 x142_138 w137) ∧ ∀ (m142 : Nat) (x14_143 : Value) (junk140 : Env) (w141 : World), I139 m142 x14_143 w141 →
                      bin P .lss 3 false false x14_143 x16_3 w141 fun x145_144 =>
                      cnd x145_144
                        (ixa P 36 x128_129 x14_143 w141 fun x152_145 =>
                        ld P 63 x152_145 w141 fun x153_146 =>
                        ixa P 36 x128_129 x7_45 w141 fun x156_147 =>
                        ld P 63 x156_147 w141 fun x157_148 =>
                        ixa P 36 x77_79 x14_143 w141 fun x160_149 =>
                        ld P 63 x160_149 w141 fun x161_150 =>
                        rbin P .mul 63 false false x157_148 x161_150 w141 fun x162_151 =>
                        rbin P .sub 63 false false x153_146 x162_151 w141 fun x163_152 =>
                        ixa P 36 x128_129 x14_143 w141 fun x164_153 =>
                        sto P 63 x164_153 x163_152 w141 fun w155 =>
                        ixa P 36 x128_129 x14_143 w155 fun x167_156 =>
                        ld P 63 x167_156 w155 fun x168_157 =>
                        call P f_spec_l01Finite [x168_157] w155 fun x169_158 w159 =>
                        una P .not x169_158 w159 fun x170_160 =>
                        cnd x170_160
                          (bld P 47 [] w159 fun x171_161 =>
                          sto P 47 x2_1 x171_161 w159 fun w163 =>
                          ldc P 47 x2_1 w163 fun r164 =>
                          K (.tuple #[r164, (.int .i64 3)]) w163)
                          (bin P .add 3 false true x14_143 (.int .i64 1) w159 fun x147_165 =>
                          ∃ m166, m166 < m142 ∧ I139 m166 x147_165 w159))
                        (ixa P 36 x128_129 x7_45 w141 fun x174_167 =>
                        ld P 63 x174_167 w141 fun x175_168 =>
                        call P f_spec_l01Finite [x175_168] w141 fun x176_169 w170 =>
                        una P .not x176_169 w170 fun x177_171 =>
                        cnd x177_171
                          (bld P 47 [] w170 fun x178_172 =>
                          sto P 47 x2_1 x178_172 w170 fun w174 =>
                          ldc P 47 x2_1 w174 fun r175 =>
                          K (.tuple #[r175, (.int .i64 3)]) w174)
                          (bin P .add 3 false true x12_124 (.int .i64 1) w170 fun x123_176 =>
                          ∃ m177, m177 < m123 ∧ I120 m177 x123_176 w170)))
                    (bin P .add 3 false true x7_45 (.int .i64 1) w122 fun x44_179 =>
                    ∃ m180, m180 < m44 ∧ I41 m180 x44_179 w122))))
          (ld P 47 x5_5 w43 fun x179_183 =>
          sto P 47 x2_1 x179_183 w43 fun w185 =>
          ldc P 47 x2_1 w185 fun r186 =>
          K (.tuple #[r186, (.int .i64 0)]) w185))
def P_spec_l10Eliminate : Plan := (.seq (.reg [.op (0, 2, false), .op (1, 0, false)]) (.seq (.reg [.op (0, 0, false), .op (1, 0, false), .op (2, 0, false), .op (3, 2, false), .op (4, 0, false), .op (5, 2, false)]) (.seq (.seq (.reg [.op (0, 0, false)]) (.blk (.loop [6] 1099511365696 (.seq (.seq (.reg [.op (0, 0, false), .op (1, 0, false), .op (2, 0, false)]) (.cond .leaf .leaf)) (.seq (.blk (.seq (.reg [.op (0, 0, false), .op (1, 0, false), .op (2, 0, false), .op (3, 2, false), .op (4, 2, false), .op (5, 0, false), .op (6, 2, false)]) (.reg [.op (0, 0, false), .op (1, 0, false), .op (3, 0, false), .op (4, 0, false), .op (5, 0, false), .op (6, 0, false), .op (2, 2, true), .op (7, 2, true), .op (8, 2, true), .op (9, 2, false), .op (10, 0, false), .op (11, 2, false)]))) (.reg [.op (0, 0, false), .op (1, 0, false), .op (2, 0, false)])))))) (.seq (.seq (.reg [.op (0, 0, false)]) (.blk (.loop [7] 766247770432944429179173513575154591809368461580205960 (.seq (.seq (.reg [.op (0, 0, false), .op (1, 0, false), .op (2, 0, false)]) (.cond .leaf .leaf)) (.seq (.blk (.seq (.reg [.op (0, 0, false), .op (1, 0, false)]) (.seq (.seq (.reg [.op (0, 0, false), .op (1, 0, false), .op (2, 0, false)]) (.blk (.loop [8, 9] 9444732684264313717504 (.seq (.seq (.reg [.op (0, 0, false), .op (1, 0, false), .op (2, 0, false)]) (.cond .leaf .leaf)) (.seq (.blk (.seq (.reg [.op (0, 0, false), .op (1, 0, false), .op (2, 0, false), .op (3, 0, false), .op (4, 0, false), .op (5, 0, false), .op (6, 0, false), .op (7, 0, false), .op (9, 0, false), .op (10, 0, false), .op (11, 0, false), .op (12, 0, false), .op (13, 0, false), .op (14, 0, false), .op (15, 0, false), .op (16, 0, false), .op (8, 2, true), .op (17, 2, false), .op (18, 0, false)]) (.cond (.reg [.op (0, 0, false), .op (1, 0, false)]) .leaf))) (.reg [.op (0, 0, false), .op (1, 0, false), .op (2, 0, false)])))))) (.seq (.reg [.op (0, 0, false), .op (1, 0, false), .op (2, 0, false), .op (3, 0, false), .op (4, 0, false), .op (5, 0, false), .op (6, 0, false), .op (7, 0, false), .op (8, 0, false), .op (9, 0, false), .op (10, 0, false), .op (11, 0, false)]) (.seq (.reg [.op (0, 0, false), .op (1, 0, false), .op (2, 0, false), .op (3, 0, false), .op (4, 0, false), .op (5, 0, false), .op (6, 0, false), .op (7, 0, false), .op (8, 0, false), .op (9, 2, false)]) (.seq (.reg [.op (0, 0, false), .op (1, 0, false), .op (2, 0, false), .op (3, 0, false), .op (4, 0, false), .op (5, 2, false)]) (.seq (.reg [.op (0, 0, false), .op (1, 0, false), .op (2, 0, false), .op (3, 0, false), .op (4, 0, false), .op (5, 0, false), .op (6, 0, false), .op (7, 0, false), .op (8, 0, false), .op (9, 2, false)]) (.seq (.reg [.op (0, 0, false), .op (1, 0, false), .op (2, 0, false), .op (3, 0, false), .op (4, 0, false), .op (5, 2, false)]) (.seq (.seq (.reg [.op (0, 0, false), .op (1, 0, false), .op (2, 0, false), .op (3, 0, false), .op (4, 0, false)]) (.cond (.seq (.reg [.op (0, 0, false), .op (1, 2, false), .op (2, 0, false)]) .leaf) .leaf)) (.seq (.reg [.op (0, 0, false), .op (1, 0, false), .op (2, 0, false)]) (.blk (.loop [12] 766247770432944428514559515682696655357466030951657480 (.seq (.seq (.reg [.op (0, 0, false), .op (1, 0, false), .op (2, 0, false)]) (.cond .leaf .leaf)) (.seq (.blk (.seq (.reg [.op (0, 0, false), .op (1, 0, false), .op (2, 0, false), .op (3, 0, false), .op (4, 0, false), .op (5, 0, false)]) (.seq (.reg [.op (0, 0, false), .op (1, 0, false), .op (2, 0, false), .op (3, 0, false), .op (4, 0, false), .op (5, 0, false), .op (6, 0, false), .op (7, 0, false), .op (8, 0, false), .op (9, 0, false), .op (10, 1, false), .op (11, 0, false), .op (12, 2, false)]) (.seq (.seq (.reg [.op (0, 0, false), .op (1, 0, false), .op (2, 0, false)]) (.blk (.loop [14] 5986310695357005753696981504038036112186518943055880 (.seq (.seq (.reg [.op (0, 0, false), .op (1, 0, false), .op (2, 0, false)]) (.cond .leaf .leaf)) (.seq (.blk (.seq (.reg [.op (0, 0, false), .op (1, 0, false), .op (2, 0, false), .op (3, 0, false), .op (4, 0, false), .op (5, 0, false), .op (6, 0, false), .op (7, 0, false), .op (8, 0, false), .op (9, 0, false), .op (10, 0, false), .op (11, 0, false), .op (12, 0, false), .op (13, 0, false), .op (14, 1, false), .op (15, 1, false), .op (16, 0, false), .op (17, 2, false)]) (.seq (.reg [.op (0, 0, false), .op (1, 0, false), .op (2, 0, false), .op (3, 0, false), .op (4, 2, false), .op (5, 0, false)]) (.cond (.seq (.reg [.op (0, 0, false), .op (1, 2, false), .op (2, 0, false)]) .leaf) .leaf)))) (.reg [.op (0, 0, false), .op (1, 0, false), .op (2, 0, false)])))))) (.seq (.reg [.op (0, 0, false), .op (1, 0, false), .op (2, 0, false), .op (3, 0, false), .op (4, 2, false), .op (5, 0, false)]) (.cond (.seq (.reg [.op (0, 0, false), .op (1, 2, false), .op (2, 0, false)]) .leaf) .leaf)))))) (.reg [.op (0, 0, false), .op (1, 0, false), .op (2, 0, false)]))))))))))))))) (.reg [.op (0, 0, false), .op (1, 0, false), .op (2, 0, false)])))))) (.seq (.reg [.op (0, 0, false), .op (1, 2, false), .op (2, 0, false)]) .leaf)))))
theorem I_spec_l10Eliminate {a0 : Value} {w : World} {K : Value → World → Prop} (h : D_spec_l10Eliminate a0 w K) : call P f_spec_l10Eliminate [a0] w K :=
  call_of_vc mixed Try.func59 (c := codeOf Try.f59) (by kernel_rfl) (by kernel_rfl) (p := P_spec_l10Eliminate) (by kernel_rfl) (by rw [Try.ntmps59]; simp) (by
    have e : D_spec_l10Eliminate a0 w K = vc P P_spec_l10Eliminate (codeOf Try.f59) (env0 [a0]) w (retX P Try.f59.results.toList K) := by kernel_rfl
    exact e ▸ h)

/-- impl.eliminate -/
def D_impl_eliminate (a0 : Value) (w : World) (K : Value → World → Prop) : Prop :=
  alc P 47 w fun x2_1 w2 =>
  bl0 P .len #[22] 3 [a0] w2 fun x17_3 =>
  bld P 47 [] w2 fun x18_4 =>
  alc P 47 w2 fun x5_5 w6 =>
  sto P 47 x5_5 x18_4 w6 fun w8 =>
  bl0 P .len #[22] 3 [a0] w8 fun x20_9 =>
  ∃ I10 : Nat → Value → World → Prop, (∃ m188, I10 m188 (.int .i64 0) w8) ∧ ∀ (m13 : Nat) (x21_14 : Value) (junk11 : Env) (w12 : World), I10 m13 x21_14 w12 →
    bin P .lss 3 false false x21_14 x20_9 w12 fun x22_15 =>
    cnd x22_15
      (ixa P 22 a0 x21_14 w12 fun x24_16 =>
      ld P 36 x24_16 w12 fun x25_17 =>
      fda P 47 x5_5 0 w12 fun x26_18 =>
      ld P 45 x26_18 w12 fun x27_19 =>
      bsl P 45 1 [(0, x21_14)] w12 fun x29_20 w21 =>
      bl2 P .append #[45, 45] 45 [x27_19, x29_20] w21 fun x30_22 w23 =>
      fda P 47 x5_5 0 w23 fun x31_24 =>
      sto P 45 x31_24 x30_22 w23 fun w26 =>
      fda P 47 x5_5 1 w26 fun x32_27 =>
      ld P 22 x32_27 w26 fun x33_28 =>
      bsl P 36 0 [] w26 fun x34_29 w30 =>
      Ext w26 w30 ∧ bl2 P .append #[36, 36] 36 [x34_29, x25_17] w30 fun x36_31 w32 =>
      Ext w30 w32 ∧ bsl P 22 1 [(0, x36_31)] w32 fun x37_33 w34 =>
      Ext w32 w34 ∧ bl2 P .append #[22, 22] 22 [x33_28, x37_33] w34 fun x38_35 w36 =>
      fda P 47 x5_5 1 w36 fun x39_37 =>
      sto P 22 x39_37 x38_35 w36 fun w39 =>
      bin P .add 3 false true x21_14 (.int .i64 1) w39 fun x40_40 =>
      ∃ m41, m41 < m13 ∧ I10 m41 x40_40 w39)
      (fda P 47 x5_5 1 w12 fun x41_42 =>
      ld P 22 x41_42 w12 fun x42_43 =>
      ∃ I44 : Nat → Value → World → Prop, (∃ m187, I44 m187 (.int .i64 0) w12) ∧ ∀ (m47 : Nat) (x44_48 : Value) (junk45 : Env) (w46 : World), I44 m47 x44_48 w46 →
        bin P .lss 3 false false x44_48 x17_3 w46 fun x45_49 =>
        cnd x45_49
          (∃ I50 : Nat → Value → Value → World → Prop, (∃ m182, I50 m182 x44_48 x44_48 w46) ∧ ∀ (m53 : Nat) (x10_54 : Value) (x11_55 : Value) (junk51 : Env) (w52 : World), I50 m53 x10_54 x11_55 w52 →
            bin P .lss 3 false false x11_55 x17_3 w52 fun x51_56 =>
            cnd x51_56
              (ixa P 22 x42_43 x11_55 w52 fun x56_57 =>
              ld P 36 x56_57 w52 fun x57_58 =>
              ixa P 36 x57_58 x44_48 w52 fun x59_59 =>
              ld P 63 x59_59 w52 fun x60_60 =>
              ixa P 22 x42_43 x10_54 w52 fun x64_61 =>
              ld P 36 x64_61 w52 fun x65_62 =>
              ixa P 36 x65_62 x44_48 w52 fun x67_63 =>
              ld P 63 x67_63 w52 fun x68_64 =>
              call P f_impl_size [x60_60] w52 fun x61_65 w66 =>
              Ext w52 w66 ∧ call P f_impl_size [x68_64] w66 fun x69_67 w68 =>
              bin P .gtr 63 false false x61_65 x69_67 w68 fun x70_69 =>
              cnd x70_69
                (bin P .add 3 false true x11_55 (.int .i64 1) w68 fun x53_70 =>
                ∃ m71, m71 < m53 ∧ I50 m71 x11_55 x53_70 w68)
                (bin P .add 3 false true x11_55 (.int .i64 1) w68 fun x53_72 =>
                ∃ m73, m73 < m53 ∧ I50 m73 x10_54 x53_72 w68))
              (ixa P 22 x42_43 x10_54 w52 fun x78_74 =>
              ld P 36 x78_74 w52 fun x79_75 =>
              ixa P 22 x42_43 x44_48 w52 fun x82_76 =>
              ld P 36 x82_76 w52 fun x83_77 =>
              ixa P 22 x42_43 x44_48 w52 fun x84_78 =>
              sto P 36 x84_78 x79_75 w52 fun w80 =>
              ixa P 22 x42_43 x10_54 w80 fun x85_81 =>
              sto P 36 x85_81 x83_77 w80 fun w83 =>
              fda P 47 x5_5 0 w83 fun x86_84 =>
              ld P 45 x86_84 w83 fun x87_85 =>
              fda P 47 x5_5 0 w83 fun x89_86 =>
              ld P 45 x89_86 w83 fun x90_87 =>
              fda P 47 x5_5 0 w83 fun x92_88 =>
              ld P 45 x92_88 w83 fun x93_89 =>
              ixa P 45 x93_89 x10_54 w83 fun x95_90 =>
              ld P 2 x95_90 w83 fun x96_91 =>
              fda P 47 x5_5 0 w83 fun x97_92 =>
              ld P 45 x97_92 w83 fun x98_93 =>
              ixa P 45 x98_93 x44_48 w83 fun x100_94 =>
              ld P 2 x100_94 w83 fun x101_95 =>
              ixa P 45 x87_85 x44_48 w83 fun x102_96 =>
              sto P 2 x102_96 x96_91 w83 fun w98 =>
              (fda P 47 x5_5 0 w98 fun z => z = x89_86) ∧ (ld P 45 x89_86 w98 fun z => z = x90_87) ∧ ixa P 45 x90_87 x10_54 w98 fun x103_99 =>
              sto P 2 x103_99 x101_95 w98 fun w101 =>
              ixa P 22 x42_43 x44_48 w101 fun x106_102 =>
              ld P 36 x106_102 w101 fun x107_103 =>
              ixa P 36 x107_103 x44_48 w101 fun x109_104 =>
              ld P 63 x109_104 w101 fun x110_105 =>
              bin P .eql 63 false true x110_105 (.float .f32 0) w101 fun x111_106 =>
              cnd x111_106
                (bld P 47 [] w101 fun x112_107 =>
                sto P 47 x2_1 x112_107 w101 fun w109 =>
                ldc P 47 x2_1 w109 fun r110 =>
                K (.tuple #[r110, (.int .i64 5)]) w109)
                (bin P .add 3 false true x44_48 (.int .i64 1) w101 fun x114_111 =>
                ∃ I112 : Nat → Value → World → Prop, (∃ m181, I112 m181 x114_111 w101) ∧ ∀ (m115 : Nat) (x12_116 : Value) (junk113 : Env) (w114 : World), I112 m115 x12_116 w114 →
                  bin P .lss 3 false false x12_116 x17_3 w114 fun x117_117 =>
                  cnd x117_117
                    (ixa P 22 x42_43 x12_116 w114 fun x122_118 =>
                    ld P 36 x122_118 w114 fun x123_119 =>
                    ixa P 36 x123_119 x44_48 w114 fun x125_120 =>
                    ld P 63 x125_120 w114 fun x126_121 =>
                    ixa P 22 x42_43 x44_48 w114 fun x129_122 =>
                    ld P 36 x129_122 w114 fun x130_123 =>
                    ixa P 36 x130_123 x44_48 w114 fun x132_124 =>
                    ld P 63 x132_124 w114 fun x133_125 =>
                    rbin P .quo 63 false false x126_121 x133_125 w114 fun x134_126 =>
                    call P f_impl_isFinite [x134_126] w114 fun x136_127 w128 =>
                    una P .not x136_127 w128 fun x137_129 =>
                    cnd x137_129
                      (bld P 47 [] w128 fun x138_130 =>
                      sto P 47 x2_1 x138_130 w128 fun w132 =>
                      ldc P 47 x2_1 w132 fun r133 =>
                      K (.tuple #[r133, (.int .i64 3)]) w132)
                      (ixa P 22 x42_43 x12_116 w128 fun x141_134 =>
                      ld P 36 x141_134 w128 fun x142_135 =>
                      ixa P 36 x142_135 x44_48 w128 fun x145_136 =>
                      sto P 63 x145_136 x134_126 w128 fun w138 =>
                      bin P .add 3 false true x44_48 (.int .i64 1) w138 fun x147_139 =>
                      ∃ I140 : Nat → Value → World → Prop, (∃ m178, I140 m178 x147_139 w138) ∧ ∀ (m143 : Nat) (x14_144 : Value) (junk141 : Env) (w142 : World), I140 m143 x14_144 w142 →
                        bin P .lss 3 false false x14_144 x17_3 w142 fun x150_145 =>
                        cnd x150_145
                          (ixa P 22 x42_43 x44_48 w142 fun x156_146 =>
                          ld P 36 x156_146 w142 fun x157_147 =>
                          ixa P 36 x157_147 x14_144 w142 fun x159_148 =>
                          ld P 63 x159_148 w142 fun x160_149 =>
                          rbin P .mul 63 false false x134_126 x160_149 w142 fun x161_150 =>
                          ixa P 22 x42_43 x12_116 w142 fun x164_151 =>
                          ld P 36 x164_151 w142 fun x165_152 =>
                          ixa P 22 x42_43 x12_116 w142 fun x169_153 =>
                          ld P 36 x169_153 w142 fun x170_154 =>
                          ixa P 36 x170_154 x14_144 w142 fun x172_155 =>
                          ld P 63 x172_155 w142 fun x173_156 =>
                          rbin P .sub 63 false false x173_156 x161_150 w142 fun x175_157 =>
                          ixa P 36 x165_152 x14_144 w142 fun x176_158 =>
                          sto P 63 x176_158 x175_157 w142 fun w160 =>
                          ixa P 22 x42_43 x12_116 w160 fun x180_161 =>
                          ld P 36 x180_161 w160 fun x181_162 =>
                          ixa P 36 x181_162 x14_144 w160 fun x183_163 =>
                          ld P 63 x183_163 w160 fun x184_164 =>
                          bsl P 36 2 [(0, x161_150), (1, x184_164)] w160 fun x185_165 w166 =>
                          call P f_impl_areFinite [x185_165] w166 fun x186_167 w168 =>
                          una P .not x186_167 w168 fun x187_169 =>
                          cnd x187_169
                            (bld P 47 [] w168 fun x188_170 =>
                            sto P 47 x2_1 x188_170 w168 fun w172 =>
                            ldc P 47 x2_1 w172 fun r173 =>
                            K (.tuple #[r173, (.int .i64 3)]) w172)
                            (bin P .add 3 false true x14_144 (.int .i64 1) w168 fun x152_174 =>
                            ∃ m175, m175 < m143 ∧ I140 m175 x152_174 w168))
                          (bin P .add 3 false true x12_116 (.int .i64 1) w142 fun x119_176 =>
                          ∃ m177, m177 < m115 ∧ I112 m177 x119_176 w142)))
                    (bin P .add 3 false true x44_48 (.int .i64 1) w114 fun x189_179 =>
                    ∃ m180, m180 < m47 ∧ I44 m180 x189_179 w114))))
          (ld P 47 x5_5 w46 fun x190_183 =>
          sto P 47 x2_1 x190_183 w46 fun w185 =>
          ldc P 47 x2_1 w185 fun r186 =>
          K (.tuple #[r186, (.int .i64 0)]) w185))
def P_impl_eliminate : Plan := (.seq (.reg [.op (0, 2, false), .op (1, 0, false)]) (.seq (.reg [.op (0, 0, false), .op (1, 0, false), .op (2, 0, false)]) (.seq (.reg [.op (0, 0, false), .op (1, 2, false), .op (2, 2, false)]) (.seq (.seq (.reg [.op (0, 0, false), .op (1, 0, false), .op (2, 0, false)]) (.blk (.loop [21] 2199021158592 (.seq (.reg [.op (0, 0, false)]) (.seq (.cond .leaf .leaf) (.seq (.blk (.seq (.reg [.op (0, 0, false), .op (1, 0, false), .op (2, 0, false), .op (3, 0, false), .op (4, 0, false)]) (.seq (.reg [.op (0, 0, false), .op (1, 0, false), .op (2, 0, false), .op (3, 2, false), .op (4, 2, false), .op (5, 0, false), .op (6, 2, false)]) (.reg [.op (0, 0, false), .op (1, 0, false), .op (3, 0, false), .op (2, 2, true), .op (4, 2, true), .op (5, 2, true), .op (6, 2, false), .op (7, 0, false), .op (8, 2, false)])))) (.reg [.op (0, 0, false), .op (1, 0, false)]))))))) (.seq (.reg [.op (0, 0, false), .op (1, 0, false), .op (2, 0, false)]) (.seq (.seq (.reg [.op (0, 0, false), .op (1, 0, false)]) (.blk (.loop [44] 1569275433846670190958947355801916604025588843523822648840 (.seq (.reg [.op (0, 0, false)]) (.seq (.cond .leaf .leaf) (.seq (.blk (.seq (.reg [.op (0, 0, false), .op (1, 0, false)]) (.seq (.reg [.op (0, 0, false), .op (1, 0, false)]) (.seq (.seq (.reg [.op (0, 0, false), .op (1, 0, false)]) (.blk (.loop [10, 11] 4722365919919691795456 (.seq (.seq (.reg [.op (0, 0, false), .op (1, 0, false), .op (2, 0, false)]) (.cond .leaf .leaf)) (.seq (.blk (.seq (.reg [.op (0, 0, false), .op (1, 0, false), .op (2, 0, false), .op (3, 0, false), .op (4, 0, false), .op (5, 0, false), .op (6, 0, false), .op (8, 0, false), .op (9, 0, false), .op (10, 0, false), .op (11, 0, false), .op (12, 0, false), .op (13, 0, false), .op (14, 0, false), .op (7, 2, true), .op (15, 2, false), .op (16, 0, false)]) (.cond (.reg [.op (0, 0, false), .op (1, 0, false)]) .leaf))) (.reg [.op (0, 0, false), .op (1, 0, false), .op (2, 0, false)])))))) (.seq (.reg [.op (0, 0, false), .op (1, 0, false), .op (2, 0, false), .op (3, 0, false), .op (4, 0, false), .op (5, 0, false), .op (6, 0, false), .op (7, 0, false), .op (8, 0, false), .op (9, 0, false), .op (10, 0, false), .op (11, 0, false), .op (12, 0, false), .op (13, 2, false), .op (14, 0, false), .op (15, 2, false)]) (.seq (.reg [.op (0, 0, false), .op (1, 0, false), .op (2, 0, false), .op (3, 0, false), .op (4, 0, false), .op (5, 0, false), .op (6, 0, false), .op (7, 0, false), .op (8, 0, false), .op (9, 0, false), .op (10, 0, false), .op (11, 0, false), .op (12, 0, false), .op (13, 0, false), .op (14, 0, false), .op (15, 0, false), .op (16, 0, false), .op (17, 26, false), .op (18, 0, false), .op (19, 2, false)]) (.seq (.seq (.reg [.op (0, 0, false), .op (1, 0, false), .op (2, 0, false), .op (3, 0, false), .op (4, 0, false), .op (5, 0, false), .op (6, 0, false), .op (7, 0, false)]) (.cond (.seq (.reg [.op (0, 0, false), .op (1, 2, false), .op (2, 0, false)]) .leaf) .leaf)) (.seq (.reg [.op (0, 0, false), .op (1, 0, false), .op (2, 0, false)]) (.blk (.loop [12] 784637716923335095479432139526090023391766186587370614792 (.seq (.seq (.reg [.op (0, 0, false), .op (1, 0, false), .op (2, 0, false)]) (.cond .leaf .leaf)) (.seq (.blk (.seq (.reg [.op (0, 0, false), .op (1, 0, false), .op (2, 0, false), .op (3, 0, false), .op (4, 0, false), .op (5, 0, false), .op (6, 0, false), .op (7, 0, false), .op (8, 0, false), .op (9, 0, false), .op (10, 0, false), .op (11, 0, false), .op (12, 0, false), .op (13, 0, false), .op (14, 1, false), .op (15, 0, false)]) (.seq (.seq (.reg [.op (0, 0, false), .op (1, 2, false), .op (2, 0, false)]) (.cond (.seq (.reg [.op (0, 0, false), .op (1, 2, false), .op (2, 0, false)]) .leaf) .leaf)) (.seq (.reg [.op (0, 0, false), .op (1, 0, false), .op (2, 0, false), .op (3, 0, false), .op (4, 0, false), .op (5, 0, false), .op (6, 0, false), .op (7, 2, false)]) (.seq (.reg [.op (0, 0, false), .op (1, 0, false), .op (2, 0, false)]) (.blk (.loop [14] 784637716922978283556297187930693730520432056773908676616 (.seq (.seq (.reg [.op (0, 0, false), .op (1, 0, false), .op (2, 0, false)]) (.cond .leaf .leaf)) (.seq (.blk (.seq (.reg [.op (0, 0, false), .op (1, 0, false), .op (2, 0, false), .op (3, 0, false), .op (4, 0, false), .op (5, 0, false), .op (6, 0, false), .op (7, 0, false), .op (8, 1, false), .op (9, 0, false)]) (.seq (.reg [.op (0, 0, false), .op (1, 0, false), .op (2, 0, false), .op (3, 0, false), .op (4, 0, false), .op (5, 0, false), .op (6, 0, false), .op (7, 0, false), .op (8, 0, false), .op (9, 0, false), .op (10, 0, false), .op (11, 0, false), .op (12, 0, false), .op (13, 1, false), .op (14, 0, false), .op (15, 2, false)]) (.seq (.reg [.op (0, 0, false), .op (1, 0, false), .op (2, 0, false), .op (3, 0, false), .op (4, 0, false), .op (5, 0, false), .op (6, 0, false), .op (7, 0, false), .op (8, 2, false), .op (9, 2, false), .op (10, 0, false)]) (.cond (.seq (.reg [.op (0, 0, false), .op (1, 2, false), .op (2, 0, false)]) .leaf) .leaf))))) (.reg [.op (0, 0, false), .op (1, 0, false), .op (2, 0, false)])))))))))) (.reg [.op (0, 0, false), .op (1, 0, false), .op (2, 0, false)]))))))))))))) (.reg [.op (0, 0, false), .op (1, 0, false)]))))))) (.seq (.reg [.op (0, 0, false), .op (1, 2, false), .op (2, 0, false)]) .leaf)))))))
theorem I_impl_eliminate {a0 : Value} {w : World} {K : Value → World → Prop} (h : D_impl_eliminate a0 w K) : call P f_impl_eliminate [a0] w K :=
  call_of_vc mixed Try.func60 (c := codeOf Try.f60) (by kernel_rfl) (by kernel_rfl) (p := P_impl_eliminate) (by kernel_rfl) (by rw [Try.ntmps60]; simp) (by
    have e : D_impl_eliminate a0 w K = vc P P_impl_eliminate (codeOf Try.f60) (env0 [a0]) w (retX P Try.f60.results.toList K) := by kernel_rfl
    exact e ▸ h)

end Go.Proofs.Ytliagkijeigcaaa
