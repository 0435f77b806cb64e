import Derived.Test.YtabgkpfcpncmhaaProg
import Derived.Test.YtabgkpfcpncmhaaVcH
set_option linter.unusedSimpArgs false
set_option linter.unusedVariables false
/- Written by a program (gen.py): the program's names. -/
namespace Go.Proofs.Ytabgkpfcpncmhaa
open Go Go.Vc
noncomputable abbrev P : Program := Try.prog
theorem mixed : P.follows .mixedOrders = true := by kernel_rfl
def codeOf (f : Func) : Code := match f.body with
  | some c => c
  | none => .skip
abbrev f_laws_FnExactDeterminantOf : FuncId := 3
abbrev f_laws_szFloat32SS : FuncId := 4
abbrev f_spec_DeterminantOf : FuncId := 5
abbrev f_laws_toFloat32SS : FuncId := 6
abbrev f_impl_DeterminantOf : FuncId := 7
abbrev f_laws_eqDyadic : FuncId := 8
abbrev f_laws_eqFloat32SS : FuncId := 9
abbrev f_laws_markFloat32SS : FuncId := 10
abbrev f_laws_markDyadic : FuncId := 11
abbrev f_laws_heldDyadic : FuncId := 12
abbrev f_laws_szFloat32S : FuncId := 13
abbrev f_spec_l10Is : FuncId := 14
abbrev f_spec_l03Fit : FuncId := 15
abbrev f_spec_l10Determinant : FuncId := 16
abbrev f_laws_toFloat32S : FuncId := 17
abbrev f_impl_IsMatrix : FuncId := 18
abbrev f_impl_determinant : FuncId := 19
abbrev f_impl_num_dyadic : FuncId := 20
abbrev f_laws_eqWhole : FuncId := 21
abbrev f_laws_eqFloat32S : FuncId := 22
abbrev f_laws_markFloat32S : FuncId := 23
abbrev f_laws_markWhole : FuncId := 24
abbrev f_laws_heldWhole : FuncId := 25
abbrev f_spec_l10Vector : FuncId := 26
abbrev f_spec_l03Is : FuncId := 27
abbrev f_spec_l03Make : FuncId := 28
abbrev f_spec_l02Of : FuncId := 29
abbrev f_spec_l03Mul : FuncId := 30
abbrev f_spec_l03Of : FuncId := 31
abbrev f_spec_l03Neg : FuncId := 32
abbrev f_spec_l03Add : FuncId := 33
abbrev f_impl_areFinite : FuncId := 34
abbrev f_impl_numOf : FuncId := 35
abbrev f_impl_num_at : FuncId := 36
abbrev f_impl_newInt : FuncId := 37
abbrev f_impl_integer_Sign : FuncId := 38
abbrev f_impl_zero : FuncId := 39
abbrev f_impl_integer_Mul : FuncId := 40
abbrev f_impl_integer_Sub : FuncId := 41
abbrev f_impl_integer_Quo : FuncId := 42
abbrev f_impl_num_neg : FuncId := 43
abbrev f_impl_num_odd : FuncId := 44
abbrev f_impl_fromBig : FuncId := 45
abbrev f_laws_eqInt64S : FuncId := 46
abbrev f_laws_sameFloat : FuncId := 47
abbrev f_laws_markInt64S : FuncId := 48
abbrev f_laws_heldInt64S : FuncId := 49
abbrev f_spec_l01Finite : FuncId := 50
abbrev f_spec_l02Is : FuncId := 51
abbrev f_spec_l01In : FuncId := 52
abbrev f_spec_l02Twos : FuncId := 53
abbrev f_spec_l02Cut : FuncId := 54
abbrev f_spec_l02Make : FuncId := 55
abbrev f_spec_l02Mul : FuncId := 56
abbrev f_spec_l01Parts : FuncId := 57
abbrev f_spec_l02Neg : FuncId := 58
abbrev f_spec_l02Add : FuncId := 59
abbrev f_spec_l02Left : FuncId := 60
abbrev f_impl_isFinite : FuncId := 61
abbrev f_impl_parts : FuncId := 62
abbrev f_impl_integer_Lsh : FuncId := 63
abbrev f_impl_integer_SetInt64 : FuncId := 64
abbrev f_impl_integer_put : FuncId := 65
abbrev f_impl_magMul : FuncId := 66
abbrev f_impl_integer_plus : FuncId := 67
abbrev f_impl_integer_QuoRem : FuncId := 68
abbrev f_impl_integer_Neg : FuncId := 69
abbrev f_impl_num_sign : FuncId := 70
abbrev f_impl_integer_TrailingZeroBits : FuncId := 71
abbrev f_impl_integer_Rsh : FuncId := 72
abbrev f_impl_integer_BitLen : FuncId := 73
abbrev f_impl_integer_Abs : FuncId := 74
abbrev f_impl_integer_And : FuncId := 75
abbrev f_impl_integer_Int64 : FuncId := 76
abbrev f_spec_l02Bit : FuncId := 77
abbrev f_spec_l01Own : FuncId := 78
abbrev f_spec_l01Twos : FuncId := 79
abbrev f_spec_l01Abs : FuncId := 80
abbrev f_spec_l02Plus : FuncId := 81
abbrev f_spec_l02CompareLimbs : FuncId := 82
abbrev f_spec_l02Minus : FuncId := 83
abbrev f_math_Float32bits : FuncId := 84
abbrev f_impl_magLeft : FuncId := 85
abbrev f_impl_magTrim : FuncId := 86
abbrev f_impl_magAdd : FuncId := 87
abbrev f_impl_magCmp : FuncId := 88
abbrev f_impl_magSub : FuncId := 89
abbrev f_impl_magDiv : FuncId := 90
abbrev f_slices_Clone_uint32_uint32 : FuncId := 91
abbrev f_impl_integer_Bit : FuncId := 92
abbrev f_impl_magRight : FuncId := 93
abbrev f_impl_magBits : FuncId := 94
abbrev f_impl_integer_low : FuncId := 95
abbrev f_cmp_Compare_int : FuncId := 96
abbrev f_cmp_Compare_uint32 : FuncId := 97
abbrev f_cmp_isNaN_int : FuncId := 98
abbrev f_cmp_isNaN_uint32 : FuncId := 99
abbrev f_impl_integer_String : FuncId := 115
abbrev f_impl_num_high : FuncId := 116
noncomputable abbrev F_math_Float32bits : Func := Try.f84
theorem fun_math_Float32bits : P.funcs[f_math_Float32bits]? = some F_math_Float32bits := Try.func84
abbrev t_int64 : TypeId := 2
theorem u_int64 : P.underlying 2 = some (.int .i64) := Try.underlying2
theorem i_int64 : TI P 2 (.int .i64 0) 1 8 := TI_of (by kernel_rfl)
abbrev t_int : TypeId := 3
theorem u_int : P.underlying 3 = some (.int .i64) := Try.underlying3
theorem i_int : TI P 3 (.int .i64 0) 1 8 := TI_of (by kernel_rfl)
abbrev t_bool : TypeId := 4
theorem u_bool : P.underlying 4 = some (.bool) := Try.underlying4
theorem i_bool : TI P 4 (.bool false) 1 1 := TI_of (by kernel_rfl)
abbrev t_uint8 : TypeId := 5
theorem u_uint8 : P.underlying 5 = some (.int .u8) := Try.underlying5
theorem i_uint8 : TI P 5 (.int .u8 0) 1 1 := TI_of (by kernel_rfl)
abbrev t_string : TypeId := 9
theorem u_string : P.underlying 9 = some (.string) := Try.underlying9
theorem i_string : TI P 9 (.string ⟨#[]⟩) 1 16 := TI_of (by kernel_rfl)
abbrev t_uintptr : TypeId := 12
theorem u_uintptr : P.underlying 12 = some (.int .u64) := Try.underlying12
theorem i_uintptr : TI P 12 (.int .u64 0) 1 8 := TI_of (by kernel_rfl)
abbrev t_p_runtime_TypeAssertionError : TypeId := 15
theorem u_p_runtime_TypeAssertionError : P.underlying 15 = some (.pointer 119) := Try.underlying15
theorem i_p_runtime_TypeAssertionError : TI P 15 (.pointer none) 1 8 := TI_of (by kernel_rfl)
abbrev t_p_runtime_PanicNilError : TypeId := 16
theorem u_p_runtime_PanicNilError : P.underlying 16 = some (.pointer 122) := Try.underlying16
theorem i_p_runtime_PanicNilError : TI P 16 (.pointer none) 1 8 := TI_of (by kernel_rfl)
abbrev t_p_abi_Type : TypeId := 17
theorem u_p_abi_Type : P.underlying 17 = some (.pointer 130) := Try.underlying17
theorem i_p_abi_Type : TI P 17 (.pointer none) 1 8 := TI_of (by kernel_rfl)
abbrev t_int32 : TypeId := 21
theorem u_int32 : P.underlying 21 = some (.int .i32) := Try.underlying21
theorem i_int32 : TI P 21 (.int .i32 0) 1 4 := TI_of (by kernel_rfl)
abbrev t_s_s_float32 : TypeId := 22
theorem u_s_s_float32 : P.underlying 22 = some (.slice 37) := Try.underlying22
theorem i_s_s_float32 : TI P 22 (.slice none 0 0) 1 24 := TI_of (by kernel_rfl)
abbrev t_s_int64 : TypeId := 24
theorem u_s_int64 : P.underlying 24 = some (.slice 2) := Try.underlying24
theorem i_s_int64 : TI P 24 (.slice none 0 0) 1 24 := TI_of (by kernel_rfl)
abbrev t_impl_Whole : TypeId := 26
theorem u_impl_Whole : P.underlying 26 = some (.struct #[{ name := "Sign", type := 2, offset := 0, embedded := false, tag := "", pkgPath := "", byteOffset := 0 }, { name := "Limbs", type := 24, offset := 1, embedded := false, tag := "", pkgPath := "", byteOffset := 8 }]) := Try.underlying26
theorem i_impl_Whole : TI P 26 (.agg #[(.int .i64 0), (.slice none 0 0)]) 2 32 := TI_of (by kernel_rfl)
abbrev t_impl_Dyadic : TypeId := 28
theorem u_impl_Dyadic : P.underlying 28 = some (.struct #[{ name := "Whole", type := 26, offset := 0, embedded := false, tag := "", pkgPath := "", byteOffset := 0 }, { name := "Exponent", type := 2, offset := 2, embedded := false, tag := "", pkgPath := "", byteOffset := 32 }]) := Try.underlying28
theorem i_impl_Dyadic : TI P 28 (.agg #[(.int .i64 0), (.slice none 0 0), (.int .i64 0)]) 3 40 := TI_of (by kernel_rfl)
abbrev t_s_float32 : TypeId := 37
theorem u_s_float32 : P.underlying 37 = some (.slice 57) := Try.underlying37
theorem i_s_float32 : TI P 37 (.slice none 0 0) 1 24 := TI_of (by kernel_rfl)
abbrev t_p_impl_integer : TypeId := 41
theorem u_p_impl_integer : P.underlying 41 = some (.pointer 69) := Try.underlying41
theorem i_p_impl_integer : TI P 41 (.pointer none) 1 8 := TI_of (by kernel_rfl)
abbrev t_impl_num : TypeId := 43
theorem u_impl_num : P.underlying 43 = some (.struct #[{ name := "m", type := 41, offset := 0, embedded := false, tag := "", pkgPath := "loop.example/g01172/impl", byteOffset := 0 }, { name := "e", type := 3, offset := 1, embedded := false, tag := "", pkgPath := "loop.example/g01172/impl", byteOffset := 8 }]) := Try.underlying43
theorem i_impl_num : TI P 43 (.agg #[(.pointer none), (.int .i64 0)]) 2 16 := TI_of (by kernel_rfl)
abbrev t_s_impl_Dyadic : TypeId := 53
theorem u_s_impl_Dyadic : P.underlying 53 = some (.slice 28) := Try.underlying53
theorem i_s_impl_Dyadic : TI P 53 (.slice none 0 0) 1 24 := TI_of (by kernel_rfl)
abbrev t_uint : TypeId := 54
theorem u_uint : P.underlying 54 = some (.int .u64) := Try.underlying54
theorem i_uint : TI P 54 (.int .u64 0) 1 8 := TI_of (by kernel_rfl)
abbrev t_float32 : TypeId := 57
theorem u_float32 : P.underlying 57 = some (.float .f32) := Try.underlying57
theorem i_float32 : TI P 57 (.float .f32 0) 1 4 := TI_of (by kernel_rfl)
abbrev t_s_s_p_impl_integer : TypeId := 61
theorem u_s_s_p_impl_integer : P.underlying 61 = some (.slice 62) := Try.underlying61
theorem i_s_s_p_impl_integer : TI P 61 (.slice none 0 0) 1 24 := TI_of (by kernel_rfl)
abbrev t_s_p_impl_integer : TypeId := 62
theorem u_s_p_impl_integer : P.underlying 62 = some (.slice 41) := Try.underlying62
theorem i_s_p_impl_integer : TI P 62 (.slice none 0 0) 1 24 := TI_of (by kernel_rfl)
abbrev t_s_uint32 : TypeId := 67
theorem u_s_uint32 : P.underlying 67 = some (.slice 103) := Try.underlying67
theorem i_s_uint32 : TI P 67 (.slice none 0 0) 1 24 := TI_of (by kernel_rfl)
abbrev t_impl_integer : TypeId := 69
theorem u_impl_integer : P.underlying 69 = some (.struct #[{ name := "neg", type := 4, offset := 0, embedded := false, tag := "", pkgPath := "loop.example/g01172/impl", byteOffset := 0 }, { name := "mag", type := 67, offset := 1, embedded := false, tag := "", pkgPath := "loop.example/g01172/impl", byteOffset := 8 }]) := Try.underlying69
theorem i_impl_integer : TI P 69 (.agg #[(.bool false), (.slice none 0 0)]) 2 32 := TI_of (by kernel_rfl)
abbrev t_float64 : TypeId := 75
theorem u_float64 : P.underlying 75 = some (.float .f64) := Try.underlying75
theorem i_float64 : TI P 75 (.float .f64 0) 1 8 := TI_of (by kernel_rfl)
abbrev t_uint64 : TypeId := 97
theorem u_uint64 : P.underlying 97 = some (.int .u64) := Try.underlying97
theorem i_uint64 : TI P 97 (.int .u64 0) 1 8 := TI_of (by kernel_rfl)
abbrev t_uint32 : TypeId := 103
theorem u_uint32 : P.underlying 103 = some (.int .u32) := Try.underlying103
theorem i_uint32 : TI P 103 (.int .u32 0) 1 4 := TI_of (by kernel_rfl)
abbrev t_p_uint8 : TypeId := 126
theorem u_p_uint8 : P.underlying 126 = some (.pointer 5) := Try.underlying126
theorem i_p_uint8 : TI P 126 (.pointer none) 1 8 := TI_of (by kernel_rfl)
@[simp] theorem l_s_s_float32 {w : World} {K : Value → Prop} {ty : TypeId} (a : Option Addr) (n c : Nat) : bl0 P .len #[22] ty [.slice a n c] w K = K (.int .i64 n) := bl0_len u_s_s_float32
@[simp] theorem l_s_int64 {w : World} {K : Value → Prop} {ty : TypeId} (a : Option Addr) (n c : Nat) : bl0 P .len #[24] ty [.slice a n c] w K = K (.int .i64 n) := bl0_len u_s_int64
@[simp] theorem d_impl_Whole_0 {w : World} {K : Value → Prop} (a : Addr) : fda P 26 (.pointer (some a)) 0 w K = K (.pointer (some (a.add 0))) := fda_off (s := 1) u_impl_Whole rfl i_int64 (by decide)
@[simp] theorem d_impl_Whole_1 {w : World} {K : Value → Prop} (a : Addr) : fda P 26 (.pointer (some a)) 1 w K = K (.pointer (some (a.add 1))) := fda_off (s := 1) u_impl_Whole rfl i_s_int64 (by decide)
@[simp] theorem d_impl_Dyadic_0 {w : World} {K : Value → Prop} (a : Addr) : fda P 28 (.pointer (some a)) 0 w K = K (.pointer (some (a.add 0))) := fda_off (s := 2) u_impl_Dyadic rfl i_impl_Whole (by decide)
@[simp] theorem d_impl_Dyadic_1 {w : World} {K : Value → Prop} (a : Addr) : fda P 28 (.pointer (some a)) 1 w K = K (.pointer (some (a.add 2))) := fda_off (s := 1) u_impl_Dyadic rfl i_int64 (by decide)
@[simp] theorem l_s_float32 {w : World} {K : Value → Prop} {ty : TypeId} (a : Option Addr) (n c : Nat) : bl0 P .len #[37] ty [.slice a n c] w K = K (.int .i64 n) := bl0_len u_s_float32
@[simp] theorem d_impl_num_0 {w : World} {K : Value → Prop} (a : Addr) : fda P 43 (.pointer (some a)) 0 w K = K (.pointer (some (a.add 0))) := fda_off (s := 1) u_impl_num rfl i_p_impl_integer (by decide)
@[simp] theorem d_impl_num_1 {w : World} {K : Value → Prop} (a : Addr) : fda P 43 (.pointer (some a)) 1 w K = K (.pointer (some (a.add 1))) := fda_off (s := 1) u_impl_num rfl i_int (by decide)
@[simp] theorem l_s_impl_Dyadic {w : World} {K : Value → Prop} {ty : TypeId} (a : Option Addr) (n c : Nat) : bl0 P .len #[53] ty [.slice a n c] w K = K (.int .i64 n) := bl0_len u_s_impl_Dyadic
@[simp] theorem l_s_s_p_impl_integer {w : World} {K : Value → Prop} {ty : TypeId} (a : Option Addr) (n c : Nat) : bl0 P .len #[61] ty [.slice a n c] w K = K (.int .i64 n) := bl0_len u_s_s_p_impl_integer
@[simp] theorem l_s_p_impl_integer {w : World} {K : Value → Prop} {ty : TypeId} (a : Option Addr) (n c : Nat) : bl0 P .len #[62] ty [.slice a n c] w K = K (.int .i64 n) := bl0_len u_s_p_impl_integer
@[simp] theorem l_s_uint32 {w : World} {K : Value → Prop} {ty : TypeId} (a : Option Addr) (n c : Nat) : bl0 P .len #[67] ty [.slice a n c] w K = K (.int .i64 n) := bl0_len u_s_uint32
@[simp] theorem d_impl_integer_0 {w : World} {K : Value → Prop} (a : Addr) : fda P 69 (.pointer (some a)) 0 w K = K (.pointer (some (a.add 0))) := fda_off (s := 1) u_impl_integer rfl i_bool (by decide)
@[simp] theorem d_impl_integer_1 {w : World} {K : Value → Prop} (a : Addr) : fda P 69 (.pointer (some a)) 1 w K = K (.pointer (some (a.add 1))) := fda_off (s := 1) u_impl_integer rfl i_s_uint32 (by decide)
end Go.Proofs.Ytabgkpfcpncmhaa

/- Written by a program (gen.py): what is left to show of each function's call. -/
set_option linter.unusedVariables false
set_option maxRecDepth 20000
namespace Go.Proofs.Ytabgkpfcpncmhaa
open Go Go.Vc

/-- impl.isFinite -/
def D_impl_isFinite (a0 : Value) (w : World) (K : Value → World → Prop) : Prop :=
  call P f_math_Float32bits [a0] w fun x4_1 w2 =>
  bin P .shr 103 false true x4_1 (.int .u64 23) w2 fun x5_3 =>
  bin P .and 103 false true x5_3 (.int .u32 255) w2 fun x6_4 =>
  bin P .neq 103 false true x6_4 (.int .u32 255) w2 fun x7_5 =>
  K x7_5 w2
def P_impl_isFinite : Plan := (.seq (.reg [.op (0, 0, false)]) (.seq (.reg [.op (0, 0, false), .op (1, 2, false), .op (2, 0, false), .op (3, 0, false), .op (4, 0, false), .op (5, 0, false)]) .leaf))
theorem I_impl_isFinite {a0 : Value} {w : World} {K : Value → World → Prop} (h : D_impl_isFinite a0 w K) : call P f_impl_isFinite [a0] w K :=
  call_of_vc mixed Try.func61 (c := codeOf Try.f61) (by kernel_rfl) (by kernel_rfl) (p := P_impl_isFinite) (by kernel_rfl) (by rw [Try.ntmps61]; simp) (by
    have e : D_impl_isFinite a0 w K = vc P P_impl_isFinite (codeOf Try.f61) (env0 [a0]) w (retX P Try.f61.results.toList K) := by kernel_rfl
    exact e ▸ h)

/-- impl.parts -/
def D_impl_parts (a0 : Value) (w : World) (K : Value → World → Prop) : Prop :=
  call P f_math_Float32bits [a0] w fun x8_1 w2 =>
  bin P .shr 103 false true x8_1 (.int .u64 23) w2 fun x10_3 =>
  bin P .and 103 false true x10_3 (.int .u32 255) w2 fun x11_4 =>
  cnv P 103 2 x11_4 w2 fun x12_5 =>
  bin P .and 103 false true x8_1 (.int .u32 8388607) w2 fun x14_6 =>
  cnv P 103 2 x14_6 w2 fun x15_7 =>
  ∃ J8 : Value → Value → World → Prop, (∀ (x5_11 : Value) (x6_12 : Value) (junk9 : Env) (w10 : World), J8 x5_11 x6_12 w10 →
    bin P .shr 103 false true x8_1 (.int .u64 31) w10 fun x21_13 =>
    bin P .neq 103 false true x21_13 (.int .u32 0) w10 fun x22_14 =>
    cnd x22_14
      (una P .neg x6_12 w10 fun x24_15 =>
      bin P .sub 2 false true x5_11 (.int .i64 150) w10 fun x27_16 =>
      K (.tuple #[x24_15, x27_16]) w10)
      (bin P .sub 2 false true x5_11 (.int .i64 150) w10 fun x27_17 =>
      K (.tuple #[x6_12, x27_17]) w10)) ∧
    (bin P .gtr 2 false true x12_5 (.int .i64 0) w2 fun x17_18 =>
    cnd x17_18
      (bin P .add 2 false true x15_7 (.int .i64 8388608) w2 fun x19_19 =>
      J8 x12_5 x19_19 w2)
      (J8 (.int .i64 1) x15_7 w2))
def P_impl_parts : Plan := (.seq (.reg [.op (0, 0, false), .op (1, 0, false)]) (.seq (.reg [.op (0, 0, false), .op (1, 2, false), .op (2, 0, false)]) (.seq (.reg [.op (0, 0, false), .op (1, 0, false), .op (2, 0, false), .op (3, 0, false), .op (4, 0, false), .op (5, 0, false), .op (6, 0, false), .op (7, 0, false), .op (8, 0, false)]) (.cut [5, 6] 983136 (.seq (.reg [.op (0, 0, false), .op (1, 0, false)]) (.cond (.reg [.op (0, 0, false), .op (1, 0, false), .op (2, 0, false)]) (.reg [.op (0, 0, false)]))) (.seq (.seq (.reg [.op (0, 0, false), .op (1, 0, false), .op (2, 0, false)]) (.cond (.reg [.op (0, 0, false), .op (1, 0, false), .op (2, 0, false)]) .leaf)) (.seq (.reg [.op (0, 0, false), .op (1, 0, false), .op (2, 0, false), .op (3, 0, false), .op (4, 0, false)]) .leaf))))))
theorem I_impl_parts {a0 : Value} {w : World} {K : Value → World → Prop} (h : D_impl_parts a0 w K) : call P f_impl_parts [a0] w K :=
  call_of_vc mixed Try.func62 (c := codeOf Try.f62) (by kernel_rfl) (by kernel_rfl) (p := P_impl_parts) (by kernel_rfl) (by rw [Try.ntmps62]; simp) (by
    have e : D_impl_parts a0 w K = vc P P_impl_parts (codeOf Try.f62) (env0 [a0]) w (retX P Try.f62.results.toList K) := by kernel_rfl
    exact e ▸ h)

end Go.Proofs.Ytabgkpfcpncmhaa

/- Written by a program (gen.py): what is left to show of each function's call. -/
set_option linter.unusedVariables false
set_option maxRecDepth 20000
namespace Go.Proofs.Ytabgkpfcpncmhaa
open Go Go.Vc

/-- impl.areFinite -/
def D_impl_areFinite (a0 : Value) (w : World) (K : Value → World → Prop) : Prop :=
  bl0 P .len #[37] 3 [a0] w fun x6_1 =>
  ∃ I2 : Nat → Value → World → Prop, (∃ m15, I2 m15 (.int .i64 0) w) ∧ ∀ (m5 : Nat) (x7_6 : Value) (junk3 : Env) (w4 : World), I2 m5 x7_6 w4 →
    bin P .lss 3 false false x7_6 x6_1 w4 fun x8_7 =>
    cnd x8_7
      (ixa P 37 a0 x7_6 w4 fun x9_8 =>
      ld P 57 x9_8 w4 fun x10_9 =>
      call P f_impl_isFinite [x10_9] w4 fun x12_10 w11 =>
      una P .not x12_10 w11 fun x13_12 =>
      cnd x13_12
        (K (.bool false) w11)
        (bin P .add 3 false true x7_6 (.int .i64 1) w11 fun x14_13 =>
        ∃ m14, m14 < m5 ∧ I2 m14 x14_13 w11))
      (K (.bool true) w4)
def P_impl_areFinite : Plan := (.seq (.reg [.op (0, 0, false)]) (.seq (.seq (.reg [.op (0, 0, false), .op (1, 0, false), .op (2, 0, false)]) (.blk (.loop [7] 32660 (.seq (.reg [.op (0, 0, false)]) (.seq (.cond .leaf .leaf) (.seq (.blk (.seq (.reg [.op (0, 0, false), .op (1, 0, false), .op (2, 0, false)]) (.seq (.reg [.op (0, 0, false), .op (1, 2, false), .op (2, 0, false)]) (.cond (.seq (.reg [.op (0, 0, false)]) .leaf) .leaf)))) (.reg [.op (0, 0, false), .op (1, 0, false)]))))))) (.seq (.reg [.op (0, 0, false)]) .leaf)))
theorem I_impl_areFinite {a0 : Value} {w : World} {K : Value → World → Prop} (h : D_impl_areFinite a0 w K) : call P f_impl_areFinite [a0] w K :=
  call_of_vc mixed Try.func34 (c := codeOf Try.f34) (by kernel_rfl) (by kernel_rfl) (p := P_impl_areFinite) (by kernel_rfl) (by rw [Try.ntmps34]; simp) (by
    have e : D_impl_areFinite a0 w K = vc P P_impl_areFinite (codeOf Try.f34) (env0 [a0]) w (retX P Try.f34.results.toList K) := by kernel_rfl
    exact e ▸ h)

end Go.Proofs.Ytabgkpfcpncmhaa

/- Written by a program (gen.py): what is left to show of each function's call. -/
set_option linter.unusedVariables false
set_option maxRecDepth 20000
namespace Go.Proofs.Ytabgkpfcpncmhaa
open Go Go.Vc

/-- spec.l01Finite -/
def D_spec_l01Finite (a0 : Value) (w : World) (K : Value → World → Prop) : Prop :=
  rbin P .sub 57 false false a0 a0 w fun x5_1 =>
  bin P .eql 57 false true x5_1 (.float .f32 0) w fun x6_2 =>
  K x6_2 w
def P_spec_l01Finite : Plan := (.seq (.reg [.op (0, 0, false)]) (.seq (.reg [.op (0, 0, false), .op (1, 0, false), .op (2, 1, false), .op (3, 0, false), .op (4, 0, false)]) .leaf))
theorem I_spec_l01Finite {a0 : Value} {w : World} {K : Value → World → Prop} (h : D_spec_l01Finite a0 w K) : call P f_spec_l01Finite [a0] w K :=
  call_of_vc mixed Try.func50 (c := codeOf Try.f50) (by kernel_rfl) (by kernel_rfl) (p := P_spec_l01Finite) (by kernel_rfl) (by rw [Try.ntmps50]; simp) (by
    have e : D_spec_l01Finite a0 w K = vc P P_spec_l01Finite (codeOf Try.f50) (env0 [a0]) w (retX P Try.f50.results.toList K) := by kernel_rfl
    exact e ▸ h)

/-- spec.l01In -/
def D_spec_l01In (a0 a1 a2 : Value) (w : World) (K : Value → World → Prop) : Prop :=
  bin P .geq 2 false false a0 a1 w fun x9_1 =>
  ∃ J2 : Value → World → Prop, (∀ (x13_3 : Value) (junk5 : Env) (w4 : World), J2 x13_3 w4 →
    pick x9_1 x13_3 (.bool false) fun x14_6 =>
    K x14_6 w4) ∧
    grd x9_1 true
      (bin P .leq 2 false false a0 a2 w fun x13_7 =>
      J2 x13_7 w)
      (J2 undef w)
def P_spec_l01In : Plan := (.seq (.reg [.op (0, 0, false)]) (.seq (.reg [.op (0, 0, false), .op (1, 0, false), .op (2, 0, false), .op (3, 0, false), .grp 3 true [(4, 0, false), (5, 0, false), (6, 0, false)] [13] 14336, .op (7, 0, false), .op (8, 0, false)]) .leaf))
theorem I_spec_l01In {a0 a1 a2 : Value} {w : World} {K : Value → World → Prop} (h : D_spec_l01In a0 a1 a2 w K) : call P f_spec_l01In [a0, a1, a2] w K :=
  call_of_vc mixed Try.func52 (c := codeOf Try.f52) (by kernel_rfl) (by kernel_rfl) (p := P_spec_l01In) (by kernel_rfl) (by rw [Try.ntmps52]; simp) (by
    have e : D_spec_l01In a0 a1 a2 w K = vc P P_spec_l01In (codeOf Try.f52) (env0 [a0, a1, a2]) w (retX P Try.f52.results.toList K) := by kernel_rfl
    exact e ▸ h)

/-- spec.l01Parts -/
def D_spec_l01Parts (a0 : Value) (w : World) (K : Value → World → Prop) : Prop :=
  call P f_spec_l01Abs [a0] w fun x7_1 w2 =>
  rcnv P 57 75 x7_1 w2 fun x8_3 =>
  call P f_spec_l01Twos [x8_3, (.int .i64 149)] w2 fun x9_4 w5 =>
  ∃ I6 : Nat → Value → Value → World → Prop, (∃ m17, I6 m17 (.int .i64 (-149)) x9_4 w5) ∧ ∀ (m9 : Nat) (x4_10 : Value) (x5_11 : Value) (junk7 : Env) (w8 : World), I6 m9 x4_10 x5_11 w8 →
    bin P .geq 75 false true x5_11 (.float .f64 4715268809856909312) w8 fun x11_12 =>
    cnd x11_12
      (rbin P .quo 75 false true x5_11 (.float .f64 4611686018427387904) w8 fun x13_13 =>
      bin P .add 2 false true x4_10 (.int .i64 1) w8 fun x15_14 =>
      ∃ m15, m15 < m9 ∧ I6 m15 x15_14 x13_13 w8)
      (rcnv P 75 2 x5_11 w8 fun x17_16 =>
      K (.tuple #[x17_16, x4_10]) w8)
def P_spec_l01Parts : Plan := (.seq (.reg [.op (0, 0, false), .op (1, 0, false)]) (.seq (.reg [.op (0, 0, false), .op (1, 2, false), .op (2, 1, false), .op (3, 2, false), .op (4, 0, false), .op (5, 0, false)]) (.seq (.blk (.loop [4, 5] 64560 (.seq (.seq (.reg [.op (0, 0, false), .op (1, 0, false)]) (.cond .leaf .leaf)) (.blk (.seq (.reg [.op (0, 0, false), .op (1, 1, false), .op (2, 0, false)]) (.reg [.op (0, 0, false), .op (1, 0, false), .op (2, 0, false)])))))) (.seq (.reg [.op (0, 0, false), .op (1, 1, false), .op (2, 0, false), .op (3, 0, false), .op (4, 0, false)]) .leaf))))
theorem I_spec_l01Parts {a0 : Value} {w : World} {K : Value → World → Prop} (h : D_spec_l01Parts a0 w K) : call P f_spec_l01Parts [a0] w K :=
  call_of_vc mixed Try.func57 (c := codeOf Try.f57) (by kernel_rfl) (by kernel_rfl) (p := P_spec_l01Parts) (by kernel_rfl) (by rw [Try.ntmps57]; simp) (by
    have e : D_spec_l01Parts a0 w K = vc P P_spec_l01Parts (codeOf Try.f57) (env0 [a0]) w (retX P Try.f57.results.toList K) := by kernel_rfl
    exact e ▸ h)

/-- spec.l01Own -/
def D_spec_l01Own (a0 : Value) (w : World) (K : Value → World → Prop) : Prop :=
  bsl P 24 0 [] w fun x3_1 w2 =>
  bl2 P .append #[24, 24] 24 [x3_1, a0] w2 fun x5_3 w4 =>
  K x5_3 w4
def P_spec_l01Own : Plan := (.seq (.reg [.op (0, 0, false)]) (.seq (.reg [.op (0, 2, false), .op (1, 0, false), .op (2, 2, false), .op (3, 0, false)]) .leaf))
theorem I_spec_l01Own {a0 : Value} {w : World} {K : Value → World → Prop} (h : D_spec_l01Own a0 w K) : call P f_spec_l01Own [a0] w K :=
  call_of_vc mixed Try.func78 (c := codeOf Try.f78) (by kernel_rfl) (by kernel_rfl) (p := P_spec_l01Own) (by kernel_rfl) (by rw [Try.ntmps78]; simp) (by
    have e : D_spec_l01Own a0 w K = vc P P_spec_l01Own (codeOf Try.f78) (env0 [a0]) w (retX P Try.f78.results.toList K) := by kernel_rfl
    exact e ▸ h)

/-- spec.l01Twos -/
def D_spec_l01Twos (a0 a1 : Value) (w : World) (K : Value → World → Prop) : Prop :=
  ∃ I1 : Nat → Value → Value → World → Prop, (∃ m22, I1 m22 a0 a1 w) ∧ ∀ (m4 : Nat) (x0_5 : Value) (x1_6 : Value) (junk2 : Env) (w3 : World), I1 m4 x0_5 x1_6 w3 →
    bin P .gtr 2 false true x1_6 (.int .i64 0) w3 fun x6_7 =>
    cnd x6_7
      (rbin P .mul 75 false true x0_5 (.float .f64 4611686018427387904) w3 fun x10_8 =>
      bin P .sub 2 false true x1_6 (.int .i64 1) w3 fun x8_9 =>
      ∃ m10, m10 < m4 ∧ I1 m10 x10_8 x8_9 w3)
      (∃ I11 : Nat → Value → Value → World → Prop, (∃ m21, I11 m21 x0_5 x1_6 w3) ∧ ∀ (m14 : Nat) (x0_15 : Value) (x1_16 : Value) (junk12 : Env) (w13 : World), I11 m14 x0_15 x1_16 w13 →
        bin P .lss 2 false true x1_16 (.int .i64 0) w13 fun x12_17 =>
        cnd x12_17
          (rbin P .quo 75 false true x0_15 (.float .f64 4611686018427387904) w13 fun x16_18 =>
          bin P .add 2 false true x1_16 (.int .i64 1) w13 fun x14_19 =>
          ∃ m20, m20 < m14 ∧ I11 m20 x16_18 x14_19 w13)
          (K x0_15 w13))
def P_spec_l01Twos : Plan := (.seq (.reg [.op (0, 0, false)]) (.seq (.blk (.loop [0, 1] 2019 (.seq (.seq (.reg [.op (0, 0, false), .op (1, 0, false)]) (.cond .leaf .leaf)) (.seq (.blk (.reg [.op (0, 0, false), .op (1, 1, false), .op (2, 0, false)])) (.reg [.op (0, 0, false), .op (1, 0, false), .op (2, 0, false)]))))) (.seq (.blk (.loop [0, 1] 129027 (.seq (.seq (.reg [.op (0, 0, false), .op (1, 0, false)]) (.cond .leaf .leaf)) (.seq (.blk (.reg [.op (0, 0, false), .op (1, 1, false), .op (2, 0, false)])) (.reg [.op (0, 0, false), .op (1, 0, false), .op (2, 0, false)]))))) (.seq (.reg [.op (0, 0, false), .op (1, 0, false)]) .leaf))))
theorem I_spec_l01Twos {a0 a1 : Value} {w : World} {K : Value → World → Prop} (h : D_spec_l01Twos a0 a1 w K) : call P f_spec_l01Twos [a0, a1] w K :=
  call_of_vc mixed Try.func79 (c := codeOf Try.f79) (by kernel_rfl) (by kernel_rfl) (p := P_spec_l01Twos) (by kernel_rfl) (by rw [Try.ntmps79]; simp) (by
    have e : D_spec_l01Twos a0 a1 w K = vc P P_spec_l01Twos (codeOf Try.f79) (env0 [a0, a1]) w (retX P Try.f79.results.toList K) := by kernel_rfl
    exact e ▸ h)

/-- spec.l01Abs -/
def D_spec_l01Abs (a0 : Value) (w : World) (K : Value → World → Prop) : Prop :=
  bin P .lss 57 false true a0 (.float .f32 0) w fun x4_1 =>
  cnd x4_1
    (una P .neg a0 w fun x6_2 =>
    K x6_2 w)
    (bin P .eql 57 false true a0 (.float .f32 0) w fun x8_3 =>
    cnd x8_3
      (K (.float .f32 0) w)
      (K a0 w))
def P_spec_l01Abs : Plan := (.seq (.reg [.op (0, 0, false)]) (.seq (.seq (.reg [.op (0, 0, false), .op (1, 0, false)]) (.cond (.seq (.reg [.op (0, 0, false), .op (1, 0, false), .op (2, 0, false)]) .leaf) .leaf)) (.seq (.seq (.reg [.op (0, 0, false), .op (1, 0, false)]) (.cond (.seq (.reg [.op (0, 0, false)]) .leaf) .leaf)) (.seq (.reg [.op (0, 0, false), .op (1, 0, false)]) .leaf))))
theorem I_spec_l01Abs {a0 : Value} {w : World} {K : Value → World → Prop} (h : D_spec_l01Abs a0 w K) : call P f_spec_l01Abs [a0] w K :=
  call_of_vc mixed Try.func80 (c := codeOf Try.f80) (by kernel_rfl) (by kernel_rfl) (p := P_spec_l01Abs) (by kernel_rfl) (by rw [Try.ntmps80]; simp) (by
    have e : D_spec_l01Abs a0 w K = vc P P_spec_l01Abs (codeOf Try.f80) (env0 [a0]) w (retX P Try.f80.results.toList K) := by kernel_rfl
    exact e ▸ h)

end Go.Proofs.Ytabgkpfcpncmhaa

/- Written by a program (gen.py): what is left to show of each function's call. -/
set_option linter.unusedVariables false
set_option maxRecDepth 20000
namespace Go.Proofs.Ytabgkpfcpncmhaa
open Go Go.Vc

/-- laws.szFloat32SS -/
def D_laws_szFloat32SS (a0 a1 : Value) (w : World) (K : Value → World → Prop) : Prop :=
  bl0 P .len #[22] 3 [a0] w fun x8_1 =>
  bin P .sub 3 false false a1 x8_1 w fun x9_2 =>
  bin P .lss 3 false true x9_2 (.int .i64 0) w fun x11_3 =>
  cnd x11_3
    (K (.int .i64 (-1)) w)
    (∃ I4 : Nat → Value → Value → World → Prop, (∃ m19, I4 m19 x9_2 (.int .i64 0) w) ∧ ∀ (m7 : Nat) (x1_8 : Value) (x5_9 : Value) (junk5 : Env) (w6 : World), I4 m7 x1_8 x5_9 w6 →
      bl0 P .len #[22] 3 [a0] w6 fun x14_10 =>
      bin P .lss 3 false false x5_9 x14_10 w6 fun x15_11 =>
      cnd x15_11
        (ixa P 22 a0 x5_9 w6 fun x20_12 =>
        ld P 37 x20_12 w6 fun x21_13 =>
        call P f_laws_szFloat32S [x21_13, x1_8] w6 fun x23_14 w15 =>
        bin P .lss 3 false true x23_14 (.int .i64 0) w15 fun x25_16 =>
        cnd x25_16
          (K (.int .i64 (-1)) w15)
          (bin P .add 3 false true x5_9 (.int .i64 1) w15 fun x17_17 =>
          ∃ m18, m18 < m7 ∧ I4 m18 x23_14 x17_17 w15))
        (K x1_8 w6))
def P_laws_szFloat32SS : Plan := (.seq (.reg [.op (0, 0, false)]) (.seq (.reg [.op (0, 0, false), .op (1, 0, false), .op (2, 0, false), .op (3, 0, false), .op (4, 0, false)]) (.seq (.seq (.reg [.op (0, 0, false), .op (1, 0, false)]) (.cond (.seq (.reg [.op (0, 0, false)]) .leaf) .leaf)) (.seq (.seq (.reg [.op (0, 0, false)]) (.blk (.loop [1, 5] 67104818 (.seq (.seq (.reg [.op (0, 0, false), .op (1, 0, false), .op (2, 0, false), .op (3, 0, false)]) (.cond .leaf .leaf)) (.seq (.blk (.seq (.reg [.op (0, 0, false), .op (1, 0, false), .op (2, 0, false), .op (3, 0, false), .op (4, 0, false), .op (5, 2, false), .op (6, 0, false)]) (.seq (.reg [.op (0, 0, false), .op (1, 0, false)]) (.cond (.seq (.reg [.op (0, 0, false)]) .leaf) .leaf)))) (.reg [.op (0, 0, false), .op (1, 0, false), .op (2, 0, false)])))))) (.seq (.reg [.op (0, 0, false), .op (1, 0, false)]) .leaf)))))
theorem I_laws_szFloat32SS {a0 a1 : Value} {w : World} {K : Value → World → Prop} (h : D_laws_szFloat32SS a0 a1 w K) : call P f_laws_szFloat32SS [a0, a1] w K :=
  call_of_vc mixed Try.func4 (c := codeOf Try.f4) (by kernel_rfl) (by kernel_rfl) (p := P_laws_szFloat32SS) (by kernel_rfl) (by rw [Try.ntmps4]; simp) (by
    have e : D_laws_szFloat32SS a0 a1 w K = vc P P_laws_szFloat32SS (codeOf Try.f4) (env0 [a0, a1]) w (retX P Try.f4.results.toList K) := by kernel_rfl
    exact e ▸ h)

/-- laws.toFloat32SS -/
def D_laws_toFloat32SS (a0 : Value) (w : World) (K : Value → World → Prop) : Prop :=
  bl0 P .len #[22] 3 [a0] w fun x6_1 =>
  mks P 22 x6_1 x6_1 w fun x7_2 w3 =>
  ∃ I4 : Nat → Value → World → Prop, (∃ m20, I4 m20 (.int .i64 0) w3) ∧ ∀ (m7 : Nat) (x4_8 : Value) (junk5 : Env) (w6 : World), I4 m7 x4_8 w6 →
    bl0 P .len #[22] 3 [a0] w6 fun x10_9 =>
    bin P .lss 3 false false x4_8 x10_9 w6 fun x11_10 =>
    cnd x11_10
      (ixa P 22 a0 x4_8 w6 fun x18_11 =>
      ld P 37 x18_11 w6 fun x19_12 =>
      call P f_laws_toFloat32S [x19_12] w6 fun x20_13 w14 =>
      ixa P 22 x7_2 x4_8 w14 fun x21_15 =>
      sto P 37 x21_15 x20_13 w14 fun w17 =>
      bin P .add 3 false true x4_8 (.int .i64 1) w17 fun x13_18 =>
      ∃ m19, m19 < m7 ∧ I4 m19 x13_18 w17)
      (K x7_2 w6)
def P_laws_toFloat32SS : Plan := (.seq (.reg [.op (0, 0, false)]) (.seq (.reg [.op (0, 0, false), .op (1, 0, false), .op (2, 2, false), .op (3, 0, false)]) (.seq (.seq (.reg [.op (0, 0, false)]) (.blk (.loop [4] 4194064 (.seq (.seq (.reg [.op (0, 0, false), .op (1, 0, false), .op (2, 0, false), .op (3, 0, false)]) (.cond .leaf .leaf)) (.seq (.blk (.reg [.op (0, 0, false), .op (1, 0, false), .op (2, 0, false), .op (3, 0, false), .op (4, 0, false), .op (5, 0, false), .op (6, 2, false), .op (7, 0, false), .op (8, 2, false)])) (.reg [.op (0, 0, false), .op (1, 0, false), .op (2, 0, false)])))))) (.seq (.reg [.op (0, 0, false), .op (1, 0, false)]) .leaf))))
theorem I_laws_toFloat32SS {a0 : Value} {w : World} {K : Value → World → Prop} (h : D_laws_toFloat32SS a0 w K) : call P f_laws_toFloat32SS [a0] w K :=
  call_of_vc mixed Try.func6 (c := codeOf Try.f6) (by kernel_rfl) (by kernel_rfl) (p := P_laws_toFloat32SS) (by kernel_rfl) (by rw [Try.ntmps6]; simp) (by
    have e : D_laws_toFloat32SS a0 w K = vc P P_laws_toFloat32SS (codeOf Try.f6) (env0 [a0]) w (retX P Try.f6.results.toList K) := by kernel_rfl
    exact e ▸ h)

/-- laws.eqDyadic -/
def D_laws_eqDyadic (a0 a1 : Value) (w : World) (K : Value → World → Prop) : Prop :=
  bx P 28 a0 w fun x2_1 w2 =>
  bx P 28 a1 w2 fun x3_3 w4 =>
  fda P 28 x2_1 0 w4 fun x5_5 =>
  ld P 26 x5_5 w4 fun x6_6 =>
  fda P 28 x3_3 0 w4 fun x7_7 =>
  ld P 26 x7_7 w4 fun x8_8 =>
  call P f_laws_eqWhole [x6_6, x8_8] w4 fun x9_9 w10 =>
  una P .not x9_9 w10 fun x10_11 =>
  cnd x10_11
    (K (.bool false) w10)
    (fda P 28 x2_1 1 w10 fun x11_12 =>
    ld P 2 x11_12 w10 fun x12_13 =>
    fda P 28 x3_3 1 w10 fun x13_14 =>
    ld P 2 x13_14 w10 fun x14_15 =>
    bin P .neq 2 false false x12_13 x14_15 w10 fun x15_16 =>
    cnd x15_16
      (K (.bool false) w10)
      (K (.bool true) w10))
def P_laws_eqDyadic : Plan := (.seq (.reg [.op (0, 2, false), .op (1, 2, false), .op (2, 0, false)]) (.seq (.seq (.reg [.op (0, 0, false), .op (1, 0, false), .op (2, 0, false), .op (3, 0, false), .op (4, 2, false), .op (5, 0, false)]) (.cond (.seq (.reg [.op (0, 0, false)]) .leaf) .leaf)) (.seq (.seq (.reg [.op (0, 0, false), .op (1, 0, false), .op (2, 0, false), .op (3, 0, false), .op (4, 0, false)]) (.cond (.seq (.reg [.op (0, 0, false)]) .leaf) .leaf)) (.seq (.reg [.op (0, 0, false)]) .leaf))))
theorem I_laws_eqDyadic {a0 a1 : Value} {w : World} {K : Value → World → Prop} (h : D_laws_eqDyadic a0 a1 w K) : call P f_laws_eqDyadic [a0, a1] w K :=
  call_of_vc mixed Try.func8 (c := codeOf Try.f8) (by kernel_rfl) (by kernel_rfl) (p := P_laws_eqDyadic) (by kernel_rfl) (by rw [Try.ntmps8]; simp) (by
    have e : D_laws_eqDyadic a0 a1 w K = vc P P_laws_eqDyadic (codeOf Try.f8) (env0 [a0, a1]) w (retX P Try.f8.results.toList K) := by kernel_rfl
    exact e ▸ h)

/-- laws.eqFloat32SS -/
def D_laws_eqFloat32SS (a0 a1 : Value) (w : World) (K : Value → World → Prop) : Prop :=
  bl0 P .len #[22] 3 [a0] w fun x7_1 =>
  bl0 P .len #[22] 3 [a1] w fun x9_2 =>
  bin P .neq 3 false false x7_1 x9_2 w fun x10_3 =>
  cnd x10_3
    (K (.bool false) w)
    (∃ I4 : Nat → Value → World → Prop, (∃ m20, I4 m20 (.int .i64 0) w) ∧ ∀ (m7 : Nat) (x5_8 : Value) (junk5 : Env) (w6 : World), I4 m7 x5_8 w6 →
      bl0 P .len #[22] 3 [a0] w6 fun x13_9 =>
      bin P .lss 3 false false x5_8 x13_9 w6 fun x14_10 =>
      cnd x14_10
        (ixa P 22 a0 x5_8 w6 fun x19_11 =>
        ld P 37 x19_11 w6 fun x20_12 =>
        ixa P 22 a1 x5_8 w6 fun x23_13 =>
        ld P 37 x23_13 w6 fun x24_14 =>
        call P f_laws_eqFloat32S [x20_12, x24_14] w6 fun x25_15 w16 =>
        una P .not x25_15 w16 fun x26_17 =>
        cnd x26_17
          (K (.bool false) w16)
          (bin P .add 3 false true x5_8 (.int .i64 1) w16 fun x16_18 =>
          ∃ m19, m19 < m7 ∧ I4 m19 x16_18 w16))
        (K (.bool true) w6))
def P_laws_eqFloat32SS : Plan := (.seq (.reg [.op (0, 0, false)]) (.seq (.seq (.reg [.op (0, 0, false), .op (1, 0, false), .op (2, 0, false), .op (3, 0, false), .op (4, 0, false)]) (.cond (.seq (.reg [.op (0, 0, false)]) .leaf) .leaf)) (.seq (.seq (.reg [.op (0, 0, false)]) (.blk (.loop [5] 134215728 (.seq (.seq (.reg [.op (0, 0, false), .op (1, 0, false), .op (2, 0, false), .op (3, 0, false)]) (.cond .leaf .leaf)) (.seq (.blk (.seq (.reg [.op (0, 0, false), .op (1, 0, false), .op (2, 0, false), .op (3, 0, false), .op (4, 0, false), .op (5, 0, false), .op (6, 0, false), .op (7, 0, false), .op (8, 2, false), .op (9, 0, false)]) (.cond (.seq (.reg [.op (0, 0, false)]) .leaf) .leaf))) (.reg [.op (0, 0, false), .op (1, 0, false), .op (2, 0, false)])))))) (.seq (.reg [.op (0, 0, false)]) .leaf))))
theorem I_laws_eqFloat32SS {a0 a1 : Value} {w : World} {K : Value → World → Prop} (h : D_laws_eqFloat32SS a0 a1 w K) : call P f_laws_eqFloat32SS [a0, a1] w K :=
  call_of_vc mixed Try.func9 (c := codeOf Try.f9) (by kernel_rfl) (by kernel_rfl) (p := P_laws_eqFloat32SS) (by kernel_rfl) (by rw [Try.ntmps9]; simp) (by
    have e : D_laws_eqFloat32SS a0 a1 w K = vc P P_laws_eqFloat32SS (codeOf Try.f9) (env0 [a0, a1]) w (retX P Try.f9.results.toList K) := by kernel_rfl
    exact e ▸ h)

/-- laws.markFloat32SS -/
def D_laws_markFloat32SS (a0 a1 : Value) (w : World) (K : Value → World → Prop) : Prop :=
  ∃ I1 : Nat → Value → Value → World → Prop, (∃ m15, I1 m15 a1 (.int .i64 0) w) ∧ ∀ (m4 : Nat) (x1_5 : Value) (x5_6 : Value) (junk2 : Env) (w3 : World), I1 m4 x1_5 x5_6 w3 →
    bl0 P .len #[22] 3 [a0] w3 fun x8_7 =>
    bin P .lss 3 false false x5_6 x8_7 w3 fun x9_8 =>
    cnd x9_8
      (ixa P 22 a0 x5_6 w3 fun x14_9 =>
      ld P 37 x14_9 w3 fun x15_10 =>
      call P f_laws_markFloat32S [x15_10, x1_5] w3 fun x17_11 w12 =>
      bin P .add 3 false true x5_6 (.int .i64 1) w12 fun x11_13 =>
      ∃ m14, m14 < m4 ∧ I1 m14 x17_11 x11_13 w12)
      (K x1_5 w3)
def P_laws_markFloat32SS : Plan := (.seq (.reg [.op (0, 0, false)]) (.seq (.seq (.reg [.op (0, 0, false)]) (.blk (.loop [1, 5] 262114 (.seq (.seq (.reg [.op (0, 0, false), .op (1, 0, false), .op (2, 0, false), .op (3, 0, false)]) (.cond .leaf .leaf)) (.seq (.blk (.reg [.op (0, 0, false), .op (1, 0, false), .op (2, 0, false), .op (3, 0, false), .op (4, 0, false), .op (5, 2, false), .op (6, 0, false)])) (.reg [.op (0, 0, false), .op (1, 0, false), .op (2, 0, false)])))))) (.seq (.reg [.op (0, 0, false), .op (1, 0, false)]) .leaf)))
theorem I_laws_markFloat32SS {a0 a1 : Value} {w : World} {K : Value → World → Prop} (h : D_laws_markFloat32SS a0 a1 w K) : call P f_laws_markFloat32SS [a0, a1] w K :=
  call_of_vc mixed Try.func10 (c := codeOf Try.f10) (by kernel_rfl) (by kernel_rfl) (p := P_laws_markFloat32SS) (by kernel_rfl) (by rw [Try.ntmps10]; simp) (by
    have e : D_laws_markFloat32SS a0 a1 w K = vc P P_laws_markFloat32SS (codeOf Try.f10) (env0 [a0, a1]) w (retX P Try.f10.results.toList K) := by kernel_rfl
    exact e ▸ h)

/-- laws.markDyadic -/
def D_laws_markDyadic (a0 a1 : Value) (w : World) (K : Value → World → Prop) : Prop :=
  bx P 28 a0 w fun x2_1 w2 =>
  fda P 28 x2_1 0 w2 fun x5_3 =>
  ld P 26 x5_3 w2 fun x6_4 =>
  call P f_laws_markWhole [x6_4, a1] w2 fun x8_5 w6 =>
  K x8_5 w6
def P_laws_markDyadic : Plan := (.seq (.reg [.op (0, 2, false), .op (1, 0, false)]) (.seq (.reg [.op (0, 0, false), .op (1, 0, false), .op (2, 0, false), .op (3, 2, false), .op (4, 0, false)]) (.seq (.reg [.op (0, 0, false), .op (1, 0, false)]) .leaf)))
theorem I_laws_markDyadic {a0 a1 : Value} {w : World} {K : Value → World → Prop} (h : D_laws_markDyadic a0 a1 w K) : call P f_laws_markDyadic [a0, a1] w K :=
  call_of_vc mixed Try.func11 (c := codeOf Try.f11) (by kernel_rfl) (by kernel_rfl) (p := P_laws_markDyadic) (by kernel_rfl) (by rw [Try.ntmps11]; simp) (by
    have e : D_laws_markDyadic a0 a1 w K = vc P P_laws_markDyadic (codeOf Try.f11) (env0 [a0, a1]) w (retX P Try.f11.results.toList K) := by kernel_rfl
    exact e ▸ h)

/-- laws.heldDyadic -/
def D_laws_heldDyadic (a0 a1 : Value) (w : World) (K : Value → World → Prop) : Prop :=
  bx P 28 a0 w fun x2_1 w2 =>
  fda P 28 x2_1 0 w2 fun x5_3 =>
  ld P 26 x5_3 w2 fun x6_4 =>
  call P f_laws_heldWhole [x6_4, a1] w2 fun x8_5 w6 =>
  bin P .lss 3 false true x8_5 (.int .i64 0) w6 fun x10_7 =>
  cnd x10_7
    (K (.int .i64 (-1)) w6)
    (K x8_5 w6)
def P_laws_heldDyadic : Plan := (.seq (.reg [.op (0, 2, false), .op (1, 0, false)]) (.seq (.reg [.op (0, 0, false), .op (1, 0, false), .op (2, 0, false), .op (3, 2, false), .op (4, 0, false)]) (.seq (.seq (.reg [.op (0, 0, false), .op (1, 0, false)]) (.cond (.seq (.reg [.op (0, 0, false)]) .leaf) .leaf)) (.seq (.reg [.op (0, 0, false), .op (1, 0, false)]) .leaf))))
theorem I_laws_heldDyadic {a0 a1 : Value} {w : World} {K : Value → World → Prop} (h : D_laws_heldDyadic a0 a1 w K) : call P f_laws_heldDyadic [a0, a1] w K :=
  call_of_vc mixed Try.func12 (c := codeOf Try.f12) (by kernel_rfl) (by kernel_rfl) (p := P_laws_heldDyadic) (by kernel_rfl) (by rw [Try.ntmps12]; simp) (by
    have e : D_laws_heldDyadic a0 a1 w K = vc P P_laws_heldDyadic (codeOf Try.f12) (env0 [a0, a1]) w (retX P Try.f12.results.toList K) := by kernel_rfl
    exact e ▸ h)

/-- laws.szFloat32S -/
def D_laws_szFloat32S (a0 a1 : Value) (w : World) (K : Value → World → Prop) : Prop :=
  bl0 P .len #[37] 3 [a0] w fun x7_1 =>
  bin P .sub 3 false false a1 x7_1 w fun x8_2 =>
  bin P .lss 3 false true x8_2 (.int .i64 0) w fun x10_3 =>
  cnd x10_3
    (K (.int .i64 (-1)) w)
    (K x8_2 w)
def P_laws_szFloat32S : Plan := (.seq (.reg [.op (0, 0, false)]) (.seq (.reg [.op (0, 0, false), .op (1, 0, false), .op (2, 0, false), .op (3, 0, false), .op (4, 0, false)]) (.seq (.seq (.reg [.op (0, 0, false), .op (1, 0, false)]) (.cond (.seq (.reg [.op (0, 0, false)]) .leaf) .leaf)) (.seq (.reg [.op (0, 0, false), .op (1, 0, false)]) .leaf))))
theorem I_laws_szFloat32S {a0 a1 : Value} {w : World} {K : Value → World → Prop} (h : D_laws_szFloat32S a0 a1 w K) : call P f_laws_szFloat32S [a0, a1] w K :=
  call_of_vc mixed Try.func13 (c := codeOf Try.f13) (by kernel_rfl) (by kernel_rfl) (p := P_laws_szFloat32S) (by kernel_rfl) (by rw [Try.ntmps13]; simp) (by
    have e : D_laws_szFloat32S a0 a1 w K = vc P P_laws_szFloat32S (codeOf Try.f13) (env0 [a0, a1]) w (retX P Try.f13.results.toList K) := by kernel_rfl
    exact e ▸ h)

/-- laws.toFloat32S -/
def D_laws_toFloat32S (a0 : Value) (w : World) (K : Value → World → Prop) : Prop :=
  bl0 P .len #[37] 3 [a0] w fun x6_1 =>
  mks P 37 x6_1 x6_1 w fun x7_2 w3 =>
  ∃ I4 : Nat → Value → World → Prop, (∃ m18, I4 m18 (.int .i64 0) w3) ∧ ∀ (m7 : Nat) (x4_8 : Value) (junk5 : Env) (w6 : World), I4 m7 x4_8 w6 →
    bl0 P .len #[37] 3 [a0] w6 fun x10_9 =>
    bin P .lss 3 false false x4_8 x10_9 w6 fun x11_10 =>
    cnd x11_10
      (ixa P 37 a0 x4_8 w6 fun x18_11 =>
      ld P 57 x18_11 w6 fun x19_12 =>
      ixa P 37 x7_2 x4_8 w6 fun x20_13 =>
      sto P 57 x20_13 x19_12 w6 fun w15 =>
      bin P .add 3 false true x4_8 (.int .i64 1) w15 fun x13_16 =>
      ∃ m17, m17 < m7 ∧ I4 m17 x13_16 w15)
      (K x7_2 w6)
def P_laws_toFloat32S : Plan := (.seq (.reg [.op (0, 0, false)]) (.seq (.reg [.op (0, 0, false), .op (1, 0, false), .op (2, 2, false), .op (3, 0, false)]) (.seq (.seq (.reg [.op (0, 0, false)]) (.blk (.loop [4] 2096912 (.seq (.seq (.reg [.op (0, 0, false), .op (1, 0, false), .op (2, 0, false), .op (3, 0, false)]) (.cond .leaf .leaf)) (.seq (.blk (.reg [.op (0, 0, false), .op (1, 0, false), .op (2, 0, false), .op (3, 0, false), .op (4, 0, false), .op (5, 0, false), .op (6, 0, false), .op (7, 2, false)])) (.reg [.op (0, 0, false), .op (1, 0, false), .op (2, 0, false)])))))) (.seq (.reg [.op (0, 0, false), .op (1, 0, false)]) .leaf))))
theorem I_laws_toFloat32S {a0 : Value} {w : World} {K : Value → World → Prop} (h : D_laws_toFloat32S a0 w K) : call P f_laws_toFloat32S [a0] w K :=
  call_of_vc mixed Try.func17 (c := codeOf Try.f17) (by kernel_rfl) (by kernel_rfl) (p := P_laws_toFloat32S) (by kernel_rfl) (by rw [Try.ntmps17]; simp) (by
    have e : D_laws_toFloat32S a0 w K = vc P P_laws_toFloat32S (codeOf Try.f17) (env0 [a0]) w (retX P Try.f17.results.toList K) := by kernel_rfl
    exact e ▸ h)

/-- laws.eqWhole -/
def D_laws_eqWhole (a0 a1 : Value) (w : World) (K : Value → World → Prop) : Prop :=
  bx P 26 a0 w fun x2_1 w2 =>
  bx P 26 a1 w2 fun x3_3 w4 =>
  fda P 26 x2_1 0 w4 fun x5_5 =>
  ld P 2 x5_5 w4 fun x6_6 =>
  fda P 26 x3_3 0 w4 fun x7_7 =>
  ld P 2 x7_7 w4 fun x8_8 =>
  bin P .neq 2 false false x6_6 x8_8 w4 fun x9_9 =>
  cnd x9_9
    (K (.bool false) w4)
    (fda P 26 x2_1 1 w4 fun x10_10 =>
    ld P 24 x10_10 w4 fun x11_11 =>
    fda P 26 x3_3 1 w4 fun x12_12 =>
    ld P 24 x12_12 w4 fun x13_13 =>
    call P f_laws_eqInt64S [x11_11, x13_13] w4 fun x14_14 w15 =>
    una P .not x14_14 w15 fun x15_16 =>
    cnd x15_16
      (K (.bool false) w15)
      (K (.bool true) w15))
def P_laws_eqWhole : Plan := (.seq (.reg [.op (0, 2, false), .op (1, 2, false), .op (2, 0, false)]) (.seq (.seq (.reg [.op (0, 0, false), .op (1, 0, false), .op (2, 0, false), .op (3, 0, false), .op (4, 0, false)]) (.cond (.seq (.reg [.op (0, 0, false)]) .leaf) .leaf)) (.seq (.seq (.reg [.op (0, 0, false), .op (1, 0, false), .op (2, 0, false), .op (3, 0, false), .op (4, 2, false), .op (5, 0, false)]) (.cond (.seq (.reg [.op (0, 0, false)]) .leaf) .leaf)) (.seq (.reg [.op (0, 0, false)]) .leaf))))
theorem I_laws_eqWhole {a0 a1 : Value} {w : World} {K : Value → World → Prop} (h : D_laws_eqWhole a0 a1 w K) : call P f_laws_eqWhole [a0, a1] w K :=
  call_of_vc mixed Try.func21 (c := codeOf Try.f21) (by kernel_rfl) (by kernel_rfl) (p := P_laws_eqWhole) (by kernel_rfl) (by rw [Try.ntmps21]; simp) (by
    have e : D_laws_eqWhole a0 a1 w K = vc P P_laws_eqWhole (codeOf Try.f21) (env0 [a0, a1]) w (retX P Try.f21.results.toList K) := by kernel_rfl
    exact e ▸ h)

/-- laws.eqFloat32S -/
def D_laws_eqFloat32S (a0 a1 : Value) (w : World) (K : Value → World → Prop) : Prop :=
  bl0 P .len #[37] 3 [a0] w fun x7_1 =>
  bl0 P .len #[37] 3 [a1] w fun x9_2 =>
  bin P .neq 3 false false x7_1 x9_2 w fun x10_3 =>
  cnd x10_3
    (K (.bool false) w)
    (∃ I4 : Nat → Value → World → Prop, (∃ m22, I4 m22 (.int .i64 0) w) ∧ ∀ (m7 : Nat) (x5_8 : Value) (junk5 : Env) (w6 : World), I4 m7 x5_8 w6 →
      bl0 P .len #[37] 3 [a0] w6 fun x13_9 =>
      bin P .lss 3 false false x5_8 x13_9 w6 fun x14_10 =>
      cnd x14_10
        (ixa P 37 a0 x5_8 w6 fun x19_11 =>
        ld P 57 x19_11 w6 fun x20_12 =>
        ixa P 37 a1 x5_8 w6 fun x24_13 =>
        ld P 57 x24_13 w6 fun x25_14 =>
        rcnv P 57 75 x20_12 w6 fun x21_15 =>
        rcnv P 57 75 x25_14 w6 fun x26_16 =>
        call P f_laws_sameFloat [x21_15, x26_16] w6 fun x27_17 w18 =>
        una P .not x27_17 w18 fun x28_19 =>
        cnd x28_19
          (K (.bool false) w18)
          (bin P .add 3 false true x5_8 (.int .i64 1) w18 fun x16_20 =>
          ∃ m21, m21 < m7 ∧ I4 m21 x16_20 w18))
        (K (.bool true) w6))
def P_laws_eqFloat32S : Plan := (.seq (.reg [.op (0, 0, false)]) (.seq (.seq (.reg [.op (0, 0, false), .op (1, 0, false), .op (2, 0, false), .op (3, 0, false), .op (4, 0, false)]) (.cond (.seq (.reg [.op (0, 0, false)]) .leaf) .leaf)) (.seq (.seq (.reg [.op (0, 0, false)]) (.blk (.loop [5] 536868912 (.seq (.seq (.reg [.op (0, 0, false), .op (1, 0, false), .op (2, 0, false), .op (3, 0, false)]) (.cond .leaf .leaf)) (.seq (.blk (.seq (.reg [.op (0, 0, false), .op (1, 0, false), .op (2, 0, false), .op (3, 0, false), .op (5, 0, false), .op (6, 0, false), .op (7, 0, false), .op (8, 0, false), .op (4, 1, false), .op (9, 1, false), .op (10, 2, false), .op (11, 0, false)]) (.cond (.seq (.reg [.op (0, 0, false)]) .leaf) .leaf))) (.reg [.op (0, 0, false), .op (1, 0, false), .op (2, 0, false)])))))) (.seq (.reg [.op (0, 0, false)]) .leaf))))
theorem I_laws_eqFloat32S {a0 a1 : Value} {w : World} {K : Value → World → Prop} (h : D_laws_eqFloat32S a0 a1 w K) : call P f_laws_eqFloat32S [a0, a1] w K :=
  call_of_vc mixed Try.func22 (c := codeOf Try.f22) (by kernel_rfl) (by kernel_rfl) (p := P_laws_eqFloat32S) (by kernel_rfl) (by rw [Try.ntmps22]; simp) (by
    have e : D_laws_eqFloat32S a0 a1 w K = vc P P_laws_eqFloat32S (codeOf Try.f22) (env0 [a0, a1]) w (retX P Try.f22.results.toList K) := by kernel_rfl
    exact e ▸ h)

/-- laws.markFloat32S -/
def D_laws_markFloat32S (a0 a1 : Value) (w : World) (K : Value → World → Prop) : Prop :=
  ∃ I1 : Nat → Value → Value → World → Prop, (∃ m16, I1 m16 a1 (.int .i64 0) w) ∧ ∀ (m4 : Nat) (x1_5 : Value) (x5_6 : Value) (junk2 : Env) (w3 : World), I1 m4 x1_5 x5_6 w3 →
    bl0 P .len #[37] 3 [a0] w3 fun x8_7 =>
    bin P .lss 3 false false x5_6 x8_7 w3 fun x9_8 =>
    cnd x9_8
      (cnv P 3 57 x1_5 w3 fun x15_9 =>
      ixa P 37 a0 x5_6 w3 fun x16_10 =>
      sto P 57 x16_10 x15_9 w3 fun w12 =>
      bin P .add 3 false true x1_5 (.int .i64 1) w12 fun x18_13 =>
      bin P .add 3 false true x5_6 (.int .i64 1) w12 fun x11_14 =>
      ∃ m15, m15 < m4 ∧ I1 m15 x18_13 x11_14 w12)
      (K x1_5 w3)
def P_laws_markFloat32S : Plan := (.seq (.reg [.op (0, 0, false)]) (.seq (.seq (.reg [.op (0, 0, false)]) (.blk (.loop [1, 5] 524258 (.seq (.seq (.reg [.op (0, 0, false), .op (1, 0, false), .op (2, 0, false), .op (3, 0, false)]) (.cond .leaf .leaf)) (.seq (.blk (.seq (.reg [.op (0, 0, false), .op (1, 0, false), .op (2, 0, false), .op (3, 0, false), .op (4, 0, false), .op (5, 2, false)]) (.reg [.op (0, 0, false), .op (1, 0, false), .op (2, 0, false)]))) (.reg [.op (0, 0, false), .op (1, 0, false), .op (2, 0, false)])))))) (.seq (.reg [.op (0, 0, false), .op (1, 0, false)]) .leaf)))
theorem I_laws_markFloat32S {a0 a1 : Value} {w : World} {K : Value → World → Prop} (h : D_laws_markFloat32S a0 a1 w K) : call P f_laws_markFloat32S [a0, a1] w K :=
  call_of_vc mixed Try.func23 (c := codeOf Try.f23) (by kernel_rfl) (by kernel_rfl) (p := P_laws_markFloat32S) (by kernel_rfl) (by rw [Try.ntmps23]; simp) (by
    have e : D_laws_markFloat32S a0 a1 w K = vc P P_laws_markFloat32S (codeOf Try.f23) (env0 [a0, a1]) w (retX P Try.f23.results.toList K) := by kernel_rfl
    exact e ▸ h)

/-- laws.markWhole -/
def D_laws_markWhole (a0 a1 : Value) (w : World) (K : Value → World → Prop) : Prop :=
  bx P 26 a0 w fun x2_1 w2 =>
  fda P 26 x2_1 1 w2 fun x5_3 =>
  ld P 24 x5_3 w2 fun x6_4 =>
  call P f_laws_markInt64S [x6_4, a1] w2 fun x8_5 w6 =>
  K x8_5 w6
def P_laws_markWhole : Plan := (.seq (.reg [.op (0, 2, false), .op (1, 0, false)]) (.seq (.reg [.op (0, 0, false), .op (1, 0, false), .op (2, 0, false), .op (3, 2, false), .op (4, 0, false)]) (.seq (.reg [.op (0, 0, false), .op (1, 0, false)]) .leaf)))
theorem I_laws_markWhole {a0 a1 : Value} {w : World} {K : Value → World → Prop} (h : D_laws_markWhole a0 a1 w K) : call P f_laws_markWhole [a0, a1] w K :=
  call_of_vc mixed Try.func24 (c := codeOf Try.f24) (by kernel_rfl) (by kernel_rfl) (p := P_laws_markWhole) (by kernel_rfl) (by rw [Try.ntmps24]; simp) (by
    have e : D_laws_markWhole a0 a1 w K = vc P P_laws_markWhole (codeOf Try.f24) (env0 [a0, a1]) w (retX P Try.f24.results.toList K) := by kernel_rfl
    exact e ▸ h)

/-- laws.heldWhole -/
def D_laws_heldWhole (a0 a1 : Value) (w : World) (K : Value → World → Prop) : Prop :=
  bx P 26 a0 w fun x2_1 w2 =>
  fda P 26 x2_1 1 w2 fun x5_3 =>
  ld P 24 x5_3 w2 fun x6_4 =>
  call P f_laws_heldInt64S [x6_4, a1] w2 fun x8_5 w6 =>
  bin P .lss 3 false true x8_5 (.int .i64 0) w6 fun x10_7 =>
  cnd x10_7
    (K (.int .i64 (-1)) w6)
    (K x8_5 w6)
def P_laws_heldWhole : Plan := (.seq (.reg [.op (0, 2, false), .op (1, 0, false)]) (.seq (.reg [.op (0, 0, false), .op (1, 0, false), .op (2, 0, false), .op (3, 2, false), .op (4, 0, false)]) (.seq (.seq (.reg [.op (0, 0, false), .op (1, 0, false)]) (.cond (.seq (.reg [.op (0, 0, false)]) .leaf) .leaf)) (.seq (.reg [.op (0, 0, false), .op (1, 0, false)]) .leaf))))
theorem I_laws_heldWhole {a0 a1 : Value} {w : World} {K : Value → World → Prop} (h : D_laws_heldWhole a0 a1 w K) : call P f_laws_heldWhole [a0, a1] w K :=
  call_of_vc mixed Try.func25 (c := codeOf Try.f25) (by kernel_rfl) (by kernel_rfl) (p := P_laws_heldWhole) (by kernel_rfl) (by rw [Try.ntmps25]; simp) (by
    have e : D_laws_heldWhole a0 a1 w K = vc P P_laws_heldWhole (codeOf Try.f25) (env0 [a0, a1]) w (retX P Try.f25.results.toList K) := by kernel_rfl
    exact e ▸ h)

/-- laws.eqInt64S -/
def D_laws_eqInt64S (a0 a1 : Value) (w : World) (K : Value → World → Prop) : Prop :=
  bl0 P .len #[24] 3 [a0] w fun x7_1 =>
  bl0 P .len #[24] 3 [a1] w fun x9_2 =>
  bin P .neq 3 false false x7_1 x9_2 w fun x10_3 =>
  cnd x10_3
    (K (.bool false) w)
    (∃ I4 : Nat → Value → World → Prop, (∃ m18, I4 m18 (.int .i64 0) w) ∧ ∀ (m7 : Nat) (x5_8 : Value) (junk5 : Env) (w6 : World), I4 m7 x5_8 w6 →
      bl0 P .len #[24] 3 [a0] w6 fun x13_9 =>
      bin P .lss 3 false false x5_8 x13_9 w6 fun x14_10 =>
      cnd x14_10
        (ixa P 24 a0 x5_8 w6 fun x19_11 =>
        ld P 2 x19_11 w6 fun x20_12 =>
        ixa P 24 a1 x5_8 w6 fun x23_13 =>
        ld P 2 x23_13 w6 fun x24_14 =>
        bin P .neq 2 false false x20_12 x24_14 w6 fun x25_15 =>
        cnd x25_15
          (K (.bool false) w6)
          (bin P .add 3 false true x5_8 (.int .i64 1) w6 fun x16_16 =>
          ∃ m17, m17 < m7 ∧ I4 m17 x16_16 w6))
        (K (.bool true) w6))
def P_laws_eqInt64S : Plan := (.seq (.reg [.op (0, 0, false)]) (.seq (.seq (.reg [.op (0, 0, false), .op (1, 0, false), .op (2, 0, false), .op (3, 0, false), .op (4, 0, false)]) (.cond (.seq (.reg [.op (0, 0, false)]) .leaf) .leaf)) (.seq (.seq (.reg [.op (0, 0, false)]) (.blk (.loop [5] 67106864 (.seq (.seq (.reg [.op (0, 0, false), .op (1, 0, false), .op (2, 0, false), .op (3, 0, false)]) (.cond .leaf .leaf)) (.seq (.blk (.seq (.reg [.op (0, 0, false), .op (1, 0, false), .op (2, 0, false), .op (3, 0, false), .op (4, 0, false), .op (5, 0, false), .op (6, 0, false), .op (7, 0, false), .op (8, 0, false)]) (.cond (.seq (.reg [.op (0, 0, false)]) .leaf) .leaf))) (.reg [.op (0, 0, false), .op (1, 0, false), .op (2, 0, false)])))))) (.seq (.reg [.op (0, 0, false)]) .leaf))))
theorem I_laws_eqInt64S {a0 a1 : Value} {w : World} {K : Value → World → Prop} (h : D_laws_eqInt64S a0 a1 w K) : call P f_laws_eqInt64S [a0, a1] w K :=
  call_of_vc mixed Try.func46 (c := codeOf Try.f46) (by kernel_rfl) (by kernel_rfl) (p := P_laws_eqInt64S) (by kernel_rfl) (by rw [Try.ntmps46]; simp) (by
    have e : D_laws_eqInt64S a0 a1 w K = vc P P_laws_eqInt64S (codeOf Try.f46) (env0 [a0, a1]) w (retX P Try.f46.results.toList K) := by kernel_rfl
    exact e ▸ h)

/-- laws.sameFloat -/
def D_laws_sameFloat (a0 a1 : Value) (w : World) (K : Value → World → Prop) : Prop :=
  bin P .neq 75 false false a0 a0 w fun x7_1 =>
  ∃ J2 : Value → World → Prop, (∀ (x11_3 : Value) (junk5 : Env) (w4 : World), J2 x11_3 w4 →
    pick x7_1 (.bool true) x11_3 fun x12_6 =>
    cnd x12_6
      (bin P .neq 75 false false a0 a0 w4 fun x15_7 =>
      ∃ J8 : Value → World → Prop, (∀ (x19_9 : Value) (junk11 : Env) (w10 : World), J8 x19_9 w10 →
        pick x15_7 x19_9 (.bool false) fun x20_12 =>
        K x20_12 w10) ∧
        grd x15_7 true
          (bin P .neq 75 false false a1 a1 w4 fun x19_13 =>
          J8 x19_13 w4)
          (J8 undef w4))
      (bin P .eql 75 false true a0 (.float .f64 0) w4 fun x22_14 =>
      ∃ J15 : Value → World → Prop, (∀ (x25_16 : Value) (junk18 : Env) (w17 : World), J15 x25_16 w17 →
        pick x22_14 x25_16 (.bool false) fun x26_19 =>
        cnd x26_19
          (rbin P .quo 75 true false (.float .f64 4607182418800017408) a0 w17 fun x28_20 =>
          bin P .gtr 75 false true x28_20 (.float .f64 0) w17 fun x29_21 =>
          rbin P .quo 75 true false (.float .f64 4607182418800017408) a1 w17 fun x31_22 =>
          bin P .gtr 75 false true x31_22 (.float .f64 0) w17 fun x32_23 =>
          bin P .eql 4 false false x29_21 x32_23 w17 fun x33_24 =>
          K x33_24 w17)
          (bin P .eql 75 false false a0 a1 w17 fun x36_25 =>
          K x36_25 w17)) ∧
        grd x22_14 true
          (bin P .eql 75 false true a1 (.float .f64 0) w4 fun x25_26 =>
          J15 x25_26 w4)
          (J15 undef w4))) ∧
    grd x7_1 false
      (bin P .neq 75 false false a1 a1 w fun x11_27 =>
      J2 x11_27 w)
      (J2 undef w)
def P_laws_sameFloat : Plan := (.seq (.reg [.op (0, 0, false)]) (.seq (.seq (.reg [.op (0, 0, false), .op (1, 0, false), .op (2, 0, false), .op (3, 0, false), .grp 3 false [(4, 0, false), (5, 0, false), (6, 0, false)] [11] 3584, .op (7, 0, false)]) (.cond (.seq (.reg [.op (0, 0, false), .op (1, 0, false), .op (2, 0, false), .op (3, 0, false), .grp 3 true [(4, 0, false), (5, 0, false), (6, 0, false)] [19] 917504, .op (7, 0, false), .op (8, 0, false)]) .leaf) .leaf)) (.seq (.seq (.reg [.op (0, 0, false), .op (1, 0, false), .op (2, 0, false), .grp 2 true [(3, 0, false), (4, 0, false)] [25] 50331648, .op (5, 0, false)]) (.cond (.seq (.reg [.op (0, 0, false), .op (1, 1, false), .op (2, 0, false), .op (3, 0, false), .op (4, 1, false), .op (5, 0, false), .op (6, 0, false), .op (7, 0, false)]) .leaf) .leaf)) (.seq (.reg [.op (0, 0, false), .op (1, 0, false), .op (2, 0, false), .op (3, 0, false)]) .leaf))))
theorem I_laws_sameFloat {a0 a1 : Value} {w : World} {K : Value → World → Prop} (h : D_laws_sameFloat a0 a1 w K) : call P f_laws_sameFloat [a0, a1] w K :=
  call_of_vc mixed Try.func47 (c := codeOf Try.f47) (by kernel_rfl) (by kernel_rfl) (p := P_laws_sameFloat) (by kernel_rfl) (by rw [Try.ntmps47]; simp) (by
    have e : D_laws_sameFloat a0 a1 w K = vc P P_laws_sameFloat (codeOf Try.f47) (env0 [a0, a1]) w (retX P Try.f47.results.toList K) := by kernel_rfl
    exact e ▸ h)

/-- laws.markInt64S -/
def D_laws_markInt64S (a0 a1 : Value) (w : World) (K : Value → World → Prop) : Prop :=
  ∃ I1 : Nat → Value → Value → World → Prop, (∃ m15, I1 m15 a1 (.int .i64 0) w) ∧ ∀ (m4 : Nat) (x1_5 : Value) (x5_6 : Value) (junk2 : Env) (w3 : World), I1 m4 x1_5 x5_6 w3 →
    bl0 P .len #[24] 3 [a0] w3 fun x8_7 =>
    bin P .lss 3 false false x5_6 x8_7 w3 fun x9_8 =>
    cnd x9_8
      (ixa P 24 a0 x5_6 w3 fun x15_9 =>
      sto P 2 x15_9 x1_5 w3 fun w11 =>
      bin P .add 3 false true x1_5 (.int .i64 1) w11 fun x17_12 =>
      bin P .add 3 false true x5_6 (.int .i64 1) w11 fun x11_13 =>
      ∃ m14, m14 < m4 ∧ I1 m14 x17_12 x11_13 w11)
      (K x1_5 w3)
def P_laws_markInt64S : Plan := (.seq (.reg [.op (0, 0, false)]) (.seq (.seq (.reg [.op (0, 0, false)]) (.blk (.loop [1, 5] 262114 (.seq (.seq (.reg [.op (0, 0, false), .op (1, 0, false), .op (2, 0, false), .op (3, 0, false)]) (.cond .leaf .leaf)) (.seq (.blk (.seq (.reg [.op (0, 0, false), .op (1, 0, false), .op (2, 0, false), .op (3, 0, false), .op (4, 2, false)]) (.reg [.op (0, 0, false), .op (1, 0, false), .op (2, 0, false)]))) (.reg [.op (0, 0, false), .op (1, 0, false), .op (2, 0, false)])))))) (.seq (.reg [.op (0, 0, false), .op (1, 0, false)]) .leaf)))
theorem I_laws_markInt64S {a0 a1 : Value} {w : World} {K : Value → World → Prop} (h : D_laws_markInt64S a0 a1 w K) : call P f_laws_markInt64S [a0, a1] w K :=
  call_of_vc mixed Try.func48 (c := codeOf Try.f48) (by kernel_rfl) (by kernel_rfl) (p := P_laws_markInt64S) (by kernel_rfl) (by rw [Try.ntmps48]; simp) (by
    have e : D_laws_markInt64S a0 a1 w K = vc P P_laws_markInt64S (codeOf Try.f48) (env0 [a0, a1]) w (retX P Try.f48.results.toList K) := by kernel_rfl
    exact e ▸ h)

/-- laws.heldInt64S -/
def D_laws_heldInt64S (a0 a1 : Value) (w : World) (K : Value → World → Prop) : Prop :=
  ∃ I1 : Nat → Value → Value → World → Prop, (∃ m15, I1 m15 a1 (.int .i64 0) w) ∧ ∀ (m4 : Nat) (x1_5 : Value) (x5_6 : Value) (junk2 : Env) (w3 : World), I1 m4 x1_5 x5_6 w3 →
    bl0 P .len #[24] 3 [a0] w3 fun x8_7 =>
    bin P .lss 3 false false x5_6 x8_7 w3 fun x9_8 =>
    cnd x9_8
      (ixa P 24 a0 x5_6 w3 fun x14_9 =>
      ld P 2 x14_9 w3 fun x15_10 =>
      bin P .neq 2 false false x15_10 x1_5 w3 fun x17_11 =>
      cnd x17_11
        (K (.int .i64 (-1)) w3)
        (bin P .add 3 false true x1_5 (.int .i64 1) w3 fun x19_12 =>
        bin P .add 3 false true x5_6 (.int .i64 1) w3 fun x11_13 =>
        ∃ m14, m14 < m4 ∧ I1 m14 x19_12 x11_13 w3))
      (K x1_5 w3)
def P_laws_heldInt64S : Plan := (.seq (.reg [.op (0, 0, false)]) (.seq (.seq (.reg [.op (0, 0, false)]) (.blk (.loop [1, 5] 1048562 (.seq (.seq (.reg [.op (0, 0, false), .op (1, 0, false), .op (2, 0, false), .op (3, 0, false)]) (.cond .leaf .leaf)) (.seq (.blk (.seq (.seq (.reg [.op (0, 0, false), .op (1, 0, false), .op (2, 0, false), .op (3, 0, false), .op (4, 0, false), .op (5, 0, false)]) (.cond (.seq (.reg [.op (0, 0, false)]) .leaf) .leaf)) (.reg [.op (0, 0, false), .op (1, 0, false), .op (2, 0, false)]))) (.reg [.op (0, 0, false), .op (1, 0, false), .op (2, 0, false)])))))) (.seq (.reg [.op (0, 0, false), .op (1, 0, false)]) .leaf)))
theorem I_laws_heldInt64S {a0 a1 : Value} {w : World} {K : Value → World → Prop} (h : D_laws_heldInt64S a0 a1 w K) : call P f_laws_heldInt64S [a0, a1] w K :=
  call_of_vc mixed Try.func49 (c := codeOf Try.f49) (by kernel_rfl) (by kernel_rfl) (p := P_laws_heldInt64S) (by kernel_rfl) (by rw [Try.ntmps49]; simp) (by
    have e : D_laws_heldInt64S a0 a1 w K = vc P P_laws_heldInt64S (codeOf Try.f49) (env0 [a0, a1]) w (retX P Try.f49.results.toList K) := by kernel_rfl
    exact e ▸ h)

end Go.Proofs.Ytabgkpfcpncmhaa

/- Written by a program (gen.py): what is left to show of each function's call. -/
set_option linter.unusedVariables false
set_option maxRecDepth 20000
namespace Go.Proofs.Ytabgkpfcpncmhaa
open Go Go.Vc

/-- impl.DeterminantOf -/
def D_impl_DeterminantOf (a0 : Value) (w : World) (K : Value → World → Prop) : Prop :=
  alc P 28 w fun x2_1 w2 =>
  call P f_impl_IsMatrix [a0] w2 fun x5_3 w4 =>
  una P .not x5_3 w4 fun x6_5 =>
  cnd x6_5
    (bld P 28 [] w4 fun x7_6 =>
    sto P 28 x2_1 x7_6 w4 fun w8 =>
    ldc P 28 x2_1 w8 fun r9 =>
    K (.tuple #[r9, (.int .i64 1)]) w8)
    (call P f_impl_determinant [a0] w4 fun x9_10 w11 =>
    call P f_impl_num_dyadic [x9_10] w11 fun x10_12 w13 =>
    xtr P x10_12 0 w13 fun x11_14 =>
    xtr P x10_12 1 w13 fun x12_15 =>
    sto P 28 x2_1 x11_14 w13 fun w17 =>
    ldc P 28 x2_1 w17 fun r18 =>
    K (.tuple #[r18, x12_15]) w17)
def P_impl_DeterminantOf : Plan := (.seq (.reg [.op (0, 2, false), .op (1, 0, false)]) (.seq (.seq (.reg [.op (0, 0, false), .op (1, 2, false), .op (2, 0, false)]) (.cond (.seq (.reg [.op (0, 0, false), .op (1, 2, false), .op (2, 0, false)]) .leaf) .leaf)) (.seq (.reg [.op (0, 0, false), .op (1, 2, false), .op (2, 2, false), .op (3, 0, false), .op (4, 0, false), .op (5, 2, false), .op (6, 0, false)]) .leaf)))
theorem I_impl_DeterminantOf {a0 : Value} {w : World} {K : Value → World → Prop} (h : D_impl_DeterminantOf a0 w K) : call P f_impl_DeterminantOf [a0] w K :=
  call_of_vc mixed Try.func7 (c := codeOf Try.f7) (by kernel_rfl) (by kernel_rfl) (p := P_impl_DeterminantOf) (by kernel_rfl) (by rw [Try.ntmps7]; simp) (by
    have e : D_impl_DeterminantOf a0 w K = vc P P_impl_DeterminantOf (codeOf Try.f7) (env0 [a0]) w (retX P Try.f7.results.toList K) := by kernel_rfl
    exact e ▸ h)

/-- impl.IsMatrix -/
def D_impl_IsMatrix (a0 : Value) (w : World) (K : Value → World → Prop) : Prop :=
  bl0 P .len #[22] 3 [a0] w fun x6_1 =>
  bin P .lss 3 false true x6_1 (.int .i64 1) w fun x7_2 =>
  ∃ J3 : Value → World → Prop, (∀ (x11_4 : Value) (junk6 : Env) (w5 : World), J3 x11_4 w5 →
    pick x7_2 (.bool true) x11_4 fun x12_7 =>
    cnd x12_7
      (K (.bool false) w5)
      (bl0 P .len #[22] 3 [a0] w5 fun x14_8 =>
      ∃ I9 : Nat → Value → World → Prop, (∃ m30, I9 m30 (.int .i64 0) w5) ∧ ∀ (m12 : Nat) (x15_13 : Value) (junk10 : Env) (w11 : World), I9 m12 x15_13 w11 →
        bin P .lss 3 false false x15_13 x14_8 w11 fun x16_14 =>
        cnd x16_14
          (ixa P 22 a0 x15_13 w11 fun x17_15 =>
          ld P 37 x17_15 w11 fun x18_16 =>
          bl0 P .len #[37] 3 [x18_16] w11 fun x20_17 =>
          bl0 P .len #[22] 3 [a0] w11 fun x22_18 =>
          bin P .neq 3 false false x20_17 x22_18 w11 fun x23_19 =>
          ∃ J20 : Value → World → Prop, (∀ (x27_21 : Value) (junk23 : Env) (w22 : World), J20 x27_21 w22 →
            pick x23_19 (.bool true) x27_21 fun x28_24 =>
            cnd x28_24
              (K (.bool false) w22)
              (bin P .add 3 false true x15_13 (.int .i64 1) w22 fun x29_25 =>
              ∃ m26, m26 < m12 ∧ I9 m26 x29_25 w22)) ∧
            grd x23_19 false
              (call P f_impl_areFinite [x18_16] w11 fun x26_27 w28 =>
              una P .not x26_27 w28 fun x27_29 =>
              J20 x27_29 w28)
              (J20 undef w11))
          (K (.bool true) w11))) ∧
    grd x7_2 false
      (bl0 P .len #[22] 3 [a0] w fun x10_31 =>
      bin P .gtr 3 false true x10_31 (.int .i64 8) w fun x11_32 =>
      J3 x11_32 w)
      (J3 undef w)
def P_impl_IsMatrix : Plan := (.seq (.reg [.op (0, 0, false)]) (.seq (.seq (.reg [.op (0, 0, false), .op (1, 0, false), .op (2, 0, false), .op (3, 0, false), .grp 3 false [(4, 0, false), (5, 0, false), (6, 0, false)] [11] 3584, .op (7, 0, false)]) (.cond (.seq (.reg [.op (0, 0, false)]) .leaf) .leaf)) (.seq (.seq (.reg [.op (0, 0, false), .op (1, 0, false), .op (2, 0, false)]) (.blk (.loop [15] 1073709076 (.seq (.reg [.op (0, 0, false)]) (.seq (.cond .leaf .leaf) (.seq (.blk (.seq (.reg [.op (0, 0, false), .op (1, 0, false), .op (2, 0, false)]) (.seq (.reg [.op (0, 0, false), .op (1, 0, false), .op (2, 0, false), .op (3, 0, false), .op (4, 0, false), .op (5, 0, false), .grp 5 false [(6, 0, false), (7, 2, false), (8, 0, false)] [27] 234881024, .op (9, 0, false)]) (.cond (.seq (.reg [.op (0, 0, false)]) .leaf) .leaf)))) (.reg [.op (0, 0, false), .op (1, 0, false)]))))))) (.seq (.reg [.op (0, 0, false)]) .leaf))))
theorem I_impl_IsMatrix {a0 : Value} {w : World} {K : Value → World → Prop} (h : D_impl_IsMatrix a0 w K) : call P f_impl_IsMatrix [a0] w K :=
  call_of_vc mixed Try.func18 (c := codeOf Try.f18) (by kernel_rfl) (by kernel_rfl) (p := P_impl_IsMatrix) (by kernel_rfl) (by rw [Try.ntmps18]; simp) (by
    have e : D_impl_IsMatrix a0 w K = vc P P_impl_IsMatrix (codeOf Try.f18) (env0 [a0]) w (retX P Try.f18.results.toList K) := by kernel_rfl
    exact e ▸ h)

/-- impl.determinant -/
def D_impl_determinant (a0 : Value) (w : World) (K : Value → World → Prop) : Prop :=
  alc P 43 w fun x2_1 w2 =>
  bl0 P .len #[22] 3 [a0] w2 fun x25_3 =>
  bl0 P .len #[22] 3 [a0] w2 fun x27_4 =>
  ∃ I5 : Nat → Value → Value → World → Prop, (∃ m223, I5 m223 (.int .i64 0) (.int .i64 0) w2) ∧ ∀ (m8 : Nat) (x4_9 : Value) (x28_10 : Value) (junk6 : Env) (w7 : World), I5 m8 x4_9 x28_10 w7 →
    bin P .lss 3 false false x28_10 x27_4 w7 fun x29_11 =>
    cnd x29_11
      (ixa P 22 a0 x28_10 w7 fun x30_12 =>
      ld P 37 x30_12 w7 fun x31_13 =>
      bl0 P .len #[37] 3 [x31_13] w7 fun x33_14 =>
      ∃ I15 : Nat → Value → Value → World → Prop, (∃ m32, I15 m32 x4_9 (.int .i64 0) w7) ∧ ∀ (m18 : Nat) (x4_19 : Value) (x34_20 : Value) (junk16 : Env) (w17 : World), I15 m18 x4_19 x34_20 w17 →
        bin P .lss 3 false false x34_20 x33_14 w17 fun x35_21 =>
        cnd x35_21
          (ixa P 37 x31_13 x34_20 w17 fun x36_22 =>
          ld P 57 x36_22 w17 fun x37_23 =>
          call P f_impl_numOf [x37_23] w17 fun x40_24 w25 =>
          fld P 43 x40_24 1 w25 fun x41_26 =>
          bl0 P .min #[3, 3] 3 [x4_19, x41_26] w25 fun x42_27 =>
          bin P .add 3 false true x34_20 (.int .i64 1) w25 fun x43_28 =>
          ∃ m29, m29 < m18 ∧ I15 m29 x42_27 x43_28 w25)
          (bin P .add 3 false true x28_10 (.int .i64 1) w17 fun x44_30 =>
          ∃ m31, m31 < m8 ∧ I5 m31 x4_19 x44_30 w17))
      (bsl P 61 0 [] w7 fun x45_33 w34 =>
      bl0 P .len #[22] 3 [a0] w34 fun x47_35 =>
      ∃ I36 : Nat → Value → Value → World → Prop, (∃ m222, I36 m222 x45_33 (.int .i64 0) w34) ∧ ∀ (m39 : Nat) (x9_40 : Value) (x48_41 : Value) (junk37 : Env) (w38 : World), I36 m39 x9_40 x48_41 w38 →
        bin P .lss 3 false false x48_41 x47_35 w38 fun x49_42 =>
        cnd x49_42
          (ixa P 22 a0 x48_41 w38 fun x50_43 =>
          ld P 37 x50_43 w38 fun x51_44 =>
          bsl P 62 0 [] w38 fun x52_45 w46 =>
          bl0 P .len #[37] 3 [x51_44] w46 fun x54_47 =>
          ∃ I48 : Nat → Value → Value → World → Prop, (∃ m73, I48 m73 x52_45 (.int .i64 0) w46) ∧ ∀ (m51 : Nat) (x12_52 : Value) (x55_53 : Value) (junk49 : Env) (w50 : World), I48 m51 x12_52 x55_53 w50 →
            bin P .lss 3 false false x55_53 x54_47 w50 fun x56_54 =>
            cnd x56_54
              (ixa P 37 x51_44 x55_53 w50 fun x57_55 =>
              ld P 57 x57_55 w50 fun x58_56 =>
              call P f_impl_numOf [x58_56] w50 fun x61_57 w58 =>
              call P f_impl_num_at [x61_57, x4_9] w58 fun x63_59 w60 =>
              bsl P 62 1 [(0, x63_59)] w60 fun x64_61 w62 =>
              bl2 P .append #[62, 62] 62 [x12_52, x64_61] w62 fun x65_63 w64 =>
              bin P .add 3 false true x55_53 (.int .i64 1) w64 fun x66_65 =>
              ∃ m66, m66 < m51 ∧ I48 m66 x65_63 x66_65 w64)
              (bsl P 61 1 [(0, x12_52)] w50 fun x69_67 w68 =>
              bl2 P .append #[61, 61] 61 [x9_40, x69_67] w68 fun x70_69 w70 =>
              bin P .add 3 false true x48_41 (.int .i64 1) w70 fun x71_71 =>
              ∃ m72, m72 < m39 ∧ I36 m72 x70_69 x71_71 w70))
          (call P f_impl_newInt [(.int .i64 1)] w38 fun x72_74 w75 =>
          ∃ I76 : Nat → Value → Value → Value → World → Prop, (∃ m221, I76 m221 (.int .i64 1) x72_74 (.int .i64 0) w75) ∧ ∀ (m79 : Nat) (x15_80 : Value) (x16_81 : Value) (x17_82 : Value) (junk77 : Env) (w78 : World), I76 m79 x15_80 x16_81 x17_82 w78 →
            bin P .sub 3 false true x25_3 (.int .i64 1) w78 fun x75_83 =>
            bin P .lss 3 false false x17_82 x75_83 w78 fun x76_84 =>
            cnd x76_84
              (∃ J85 : Value → World → Prop, (∀ (x15_88 : Value) (junk86 : Env) (w87 : World), J85 x15_88 w87 →
                bin P .add 3 false true x17_82 (.int .i64 1) w87 fun x129_89 =>
                ∃ I90 : Nat → Value → World → Prop, (∃ m147, I90 m147 x129_89 w87) ∧ ∀ (m93 : Nat) (x20_94 : Value) (junk91 : Env) (w92 : World), I90 m93 x20_94 w92 →
                  bin P .lss 3 false false x20_94 x25_3 w92 fun x132_95 =>
                  cnd x132_95
                    (bin P .add 3 false true x17_82 (.int .i64 1) w92 fun x136_96 =>
                    ∃ I97 : Nat → Value → World → Prop, (∃ m140, I97 m140 x136_96 w92) ∧ ∀ (m100 : Nat) (x21_101 : Value) (junk98 : Env) (w99 : World), I97 m100 x21_101 w99 →
                      bin P .lss 3 false false x21_101 x25_3 w99 fun x139_102 =>
                      cnd x139_102
                        (ixa P 61 x9_40 x20_94 w99 fun x145_103 =>
                        ld P 62 x145_103 w99 fun x146_104 =>
                        ixa P 62 x146_104 x21_101 w99 fun x148_105 =>
                        ld P 41 x148_105 w99 fun x149_106 =>
                        ixa P 61 x9_40 x17_82 w99 fun x152_107 =>
                        ld P 62 x152_107 w99 fun x153_108 =>
                        ixa P 62 x153_108 x17_82 w99 fun x155_109 =>
                        ld P 41 x155_109 w99 fun x156_110 =>
                        alc P 69 w99 fun x142_111 w112 =>
                        Ext w99 w112 ∧ call P f_impl_integer_Mul [x142_111, x149_106, x156_110] w112 fun x157_113 w114 =>
                        ixa P 61 x9_40 x20_94 w114 fun x163_115 =>
                        ld P 62 x163_115 w114 fun x164_116 =>
                        ixa P 62 x164_116 x17_82 w114 fun x166_117 =>
                        ld P 41 x166_117 w114 fun x167_118 =>
                        ixa P 61 x9_40 x17_82 w114 fun x170_119 =>
                        ld P 62 x170_119 w114 fun x171_120 =>
                        ixa P 62 x171_120 x21_101 w114 fun x173_121 =>
                        ld P 41 x173_121 w114 fun x174_122 =>
                        alc P 69 w114 fun x160_123 w124 =>
                        Ext w114 w124 ∧ call P f_impl_integer_Mul [x160_123, x167_118, x174_122] w124 fun x175_125 w126 =>
                        call P f_impl_integer_Sub [x157_113, x157_113, x175_125] w126 fun x176_127 w128 =>
                        ixa P 61 x9_40 x20_94 w128 fun x179_129 =>
                        ld P 62 x179_129 w128 fun x180_130 =>
                        call P f_impl_integer_Quo [x157_113, x157_113, x16_81] w128 fun x185_131 w132 =>
                        (ixa P 61 x9_40 x20_94 w132 fun z => z = x179_129) ∧ (ld P 62 x179_129 w132 fun z => z = x180_130) ∧ ixa P 62 x180_130 x21_101 w132 fun x186_133 =>
                        sto P 41 x186_133 x185_131 w132 fun w135 =>
                        bin P .add 3 false true x21_101 (.int .i64 1) w135 fun x141_136 =>
                        ∃ m137, m137 < m100 ∧ I97 m137 x141_136 w135)
                        (bin P .add 3 false true x20_94 (.int .i64 1) w99 fun x134_138 =>
                        ∃ m139, m139 < m93 ∧ I90 m139 x134_138 w99))
                    (ixa P 61 x9_40 x17_82 w92 fun x189_141 =>
                    ld P 62 x189_141 w92 fun x190_142 =>
                    ixa P 62 x190_142 x17_82 w92 fun x192_143 =>
                    ld P 41 x192_143 w92 fun x193_144 =>
                    bin P .add 3 false true x17_82 (.int .i64 1) w92 fun x78_145 =>
                    ∃ m146, m146 < m79 ∧ I76 m146 x15_88 x193_144 x78_145 w92)) ∧
                (ixa P 61 x9_40 x17_82 w78 fun x81_148 =>
                ld P 62 x81_148 w78 fun x82_149 =>
                ixa P 62 x82_149 x17_82 w78 fun x84_150 =>
                ld P 41 x84_150 w78 fun x85_151 =>
                call P f_impl_integer_Sign [x85_151] w78 fun x86_152 w153 =>
                bin P .eql 3 false true x86_152 (.int .i64 0) w153 fun x87_154 =>
                cnd x87_154
                  (bin P .add 3 false true x17_82 (.int .i64 1) w153 fun x89_155 =>
                  ∃ I156 : Nat → Value → Value → World → Prop, (∃ m197, I156 m197 (.int .i64 (-1)) x89_155 w153) ∧ ∀ (m159 : Nat) (x18_160 : Value) (x19_161 : Value) (junk157 : Env) (w158 : World), I156 m159 x18_160 x19_161 w158 →
                    bin P .lss 3 false false x19_161 x25_3 w158 fun x92_162 =>
                    ∃ J163 : Value → World → Prop, (∀ (x95_164 : Value) (junk166 : Env) (w165 : World), J163 x95_164 w165 →
                      pick x92_162 x95_164 (.bool false) fun x96_167 =>
                      cnd x96_167
                        (ixa P 61 x9_40 x19_161 w165 fun x101_168 =>
                        ld P 62 x101_168 w165 fun x102_169 =>
                        ixa P 62 x102_169 x17_82 w165 fun x104_170 =>
                        ld P 41 x104_170 w165 fun x105_171 =>
                        call P f_impl_integer_Sign [x105_171] w165 fun x106_172 w173 =>
                        bin P .neq 3 false true x106_172 (.int .i64 0) w173 fun x107_174 =>
                        cnd x107_174
                          (bin P .add 3 false true x19_161 (.int .i64 1) w173 fun x98_175 =>
                          ∃ m176, m176 < m159 ∧ I156 m176 x19_161 x98_175 w173)
                          (bin P .add 3 false true x19_161 (.int .i64 1) w173 fun x98_177 =>
                          ∃ m178, m178 < m159 ∧ I156 m178 x18_160 x98_177 w173))
                        (bin P .lss 3 false true x18_160 (.int .i64 0) w165 fun x110_179 =>
                        cnd x110_179
                          (call P f_impl_zero [] w165 fun x111_180 w181 =>
                          sto P 43 x2_1 x111_180 w181 fun w183 =>
                          ldc P 43 x2_1 w183 fun r184 =>
                          K r184 w183)
                          (ixa P 61 x9_40 x18_160 w165 fun x118_185 =>
                          ld P 62 x118_185 w165 fun x119_186 =>
                          ixa P 61 x9_40 x17_82 w165 fun x122_187 =>
                          ld P 62 x122_187 w165 fun x123_188 =>
                          ixa P 61 x9_40 x17_82 w165 fun x124_189 =>
                          sto P 62 x124_189 x119_186 w165 fun w191 =>
                          ixa P 61 x9_40 x18_160 w191 fun x125_192 =>
                          sto P 62 x125_192 x123_188 w191 fun w194 =>
                          una P .neg x15_80 w194 fun x127_195 =>
                          J85 x127_195 w194))) ∧
                      grd x92_162 true
                        (bin P .lss 3 false true x18_160 (.int .i64 0) w158 fun x95_196 =>
                        J163 x95_196 w158)
                        (J163 undef w158))
                  (J85 x15_80 w153)))
              (bin P .sub 3 false true x25_3 (.int .i64 1) w78 fun x196_198 =>
              ixa P 61 x9_40 x196_198 w78 fun x197_199 =>
              ld P 62 x197_199 w78 fun x198_200 =>
              bin P .sub 3 false true x25_3 (.int .i64 1) w78 fun x200_201 =>
              ixa P 62 x198_200 x200_201 w78 fun x201_202 =>
              ld P 41 x201_202 w78 fun x202_203 =>
              bin P .mul 3 false false x25_3 x4_9 w78 fun x205_204 =>
              bld P 43 [(0, x202_203), (1, x205_204)] w78 fun x206_205 =>
              alc P 43 w78 fun x23_206 w207 =>
              sto P 43 x23_206 x206_205 w207 fun w209 =>
              bin P .lss 3 false true x15_80 (.int .i64 0) w209 fun x208_210 =>
              cnd x208_210
                (ld P 43 x23_206 w209 fun x209_211 =>
                call P f_impl_num_neg [x209_211] w209 fun x210_212 w213 =>
                sto P 43 x2_1 x210_212 w213 fun w215 =>
                ldc P 43 x2_1 w215 fun r216 =>
                K r216 w215)
                (ld P 43 x23_206 w209 fun x211_217 =>
                sto P 43 x2_1 x211_217 w209 fun w219 =>
                ldc P 43 x2_1 w219 fun r220 =>
                K r220 w219))))
def P_impl_determinant : Plan := (.seq (.reg [.op (0, 2, false)]) (.seq (.reg [.op (0, 0, false), .op (1, 0, false), .op (2, 0, false)]) (.seq (.reg [.op (0, 0, false)]) (.seq (.seq (.reg [.op (0, 0, false), .op (1, 0, false), .op (2, 0, false)]) (.blk (.loop [4, 28] 35184103653712 (.seq (.reg [.op (0, 0, false)]) (.seq (.cond .leaf .leaf) (.seq (.blk (.seq (.reg [.op (0, 0, false), .op (1, 0, false), .op (2, 0, false)]) (.seq (.reg [.op (0, 0, false), .op (1, 0, false), .op (2, 0, false)]) (.blk (.loop [4, 34] 17575006175504 (.seq (.reg [.op (0, 0, false)]) (.seq (.cond .leaf .leaf) (.seq (.blk (.seq (.reg [.op (0, 0, false), .op (1, 0, false), .op (2, 0, false)]) (.reg [.op (0, 0, false), .op (1, 0, false), .op (2, 2, false), .op (3, 0, false), .op (4, 0, false), .op (5, 0, false)]))) (.reg [.op (0, 0, false), .op (1, 0, false)]))))))))) (.reg [.op (0, 0, false), .op (1, 0, false)]))))))) (.seq (.reg [.op (0, 2, false), .op (1, 0, false)]) (.seq (.seq (.reg [.op (0, 0, false), .op (1, 0, false), .op (2, 0, false)]) (.blk (.loop [9, 48] 4722366201394668526080 (.seq (.reg [.op (0, 0, false)]) (.seq (.cond .leaf .leaf) (.seq (.blk (.seq (.reg [.op (0, 0, false), .op (1, 0, false), .op (2, 0, false)]) (.seq (.reg [.op (0, 2, false), .op (1, 0, false)]) (.seq (.seq (.reg [.op (0, 0, false), .op (1, 0, false), .op (2, 0, false)]) (.blk (.loop [12, 55] 147537923792657469440 (.seq (.reg [.op (0, 0, false)]) (.seq (.cond .leaf .leaf) (.seq (.blk (.seq (.reg [.op (0, 0, false), .op (1, 0, false), .op (2, 0, false)]) (.reg [.op (0, 0, false), .op (1, 0, false), .op (2, 2, false), .op (3, 0, false), .op (4, 2, false), .op (5, 2, false), .op (6, 2, false), .op (7, 0, false)]))) (.reg [.op (0, 0, false), .op (1, 0, false)]))))))) (.reg [.op (0, 0, false), .op (1, 0, false), .op (2, 2, false), .op (3, 2, false), .op (4, 0, false)]))))) (.reg [.op (0, 0, false), .op (1, 0, false)]))))))) (.seq (.reg [.op (0, 2, false), .op (1, 0, false), .op (2, 0, false)]) (.seq (.seq (.reg [.op (0, 0, false)]) (.blk (.loop [15, 16, 17] 25108406941546723055343157692830665654964688812116855980032 (.seq (.seq (.reg [.op (0, 0, false), .op (1, 0, false), .op (2, 0, false), .op (3, 0, false)]) (.cond .leaf .leaf)) (.seq (.blk (.cut [15] 340282366920937859000464800117181677568 (.seq (.reg [.op (0, 0, false), .op (1, 0, false), .op (2, 0, false), .op (3, 0, false), .op (4, 0, false), .op (5, 0, false), .op (6, 0, false), .op (7, 2, false), .op (8, 0, false)]) (.cond (.seq (.reg [.op (0, 0, false)]) (.seq (.seq (.reg [.op (0, 0, false), .op (1, 0, false), .op (2, 0, false)]) (.blk (.loop [18, 19] 649035869376814168186037142814720 (.seq (.seq (.reg [.op (0, 0, false), .op (1, 0, false), .op (2, 0, false), .op (3, 0, false), .grp 3 true [(4, 0, false), (5, 0, false)] [95] 59421121885698253195157962752, .op (6, 0, false)]) (.cond .leaf .leaf)) (.seq (.blk (.seq (.reg [.op (0, 0, false), .op (1, 0, false), .op (2, 0, false), .op (3, 0, false), .op (4, 0, false), .op (5, 0, false), .op (6, 0, false), .op (7, 2, false), .op (8, 0, false)]) (.cond (.reg [.op (0, 0, false), .op (1, 0, false)]) .leaf))) (.reg [.op (0, 0, false), .op (1, 0, false), .op (2, 0, false)])))))) (.seq (.seq (.reg [.op (0, 0, false), .op (1, 0, false)]) (.cond (.seq (.reg [.op (0, 2, false), .op (1, 2, false)]) .leaf) .leaf)) (.seq (.reg [.op (0, 0, false), .op (1, 0, false), .op (2, 0, false), .op (3, 0, false), .op (4, 0, false), .op (5, 0, false), .op (6, 0, false), .op (7, 0, false), .op (8, 0, false), .op (9, 0, false), .op (10, 0, false), .op (11, 0, false), .op (12, 0, false), .op (13, 2, false), .op (14, 0, false), .op (15, 2, false)]) (.reg [.op (0, 0, false), .op (1, 0, false), .op (2, 0, false)]))))) .leaf)) (.seq (.seq (.reg [.op (0, 0, false), .op (1, 0, false), .op (2, 0, false)]) (.blk (.loop [20] 196159429230833772508738951791485721649700177912435572736 (.seq (.seq (.reg [.op (0, 0, false), .op (1, 0, false), .op (2, 0, false)]) (.cond .leaf .leaf)) (.seq (.blk (.seq (.reg [.op (0, 0, false), .op (1, 0, false), .op (2, 0, false)]) (.blk (.loop [21] 196159429230833599645296555954746282255399602574183104512 (.seq (.seq (.reg [.op (0, 0, false), .op (1, 0, false), .op (2, 0, false)]) (.cond .leaf .leaf)) (.seq (.blk (.seq (.reg [.op (1, 0, false), .op (2, 0, false), .op (3, 0, false), .op (4, 0, false), .op (5, 0, false), .op (6, 0, false), .op (7, 0, false), .op (8, 0, false), .op (9, 0, false), .op (10, 0, false), .op (11, 0, false), .op (12, 0, false), .op (13, 0, false), .op (14, 0, false), .op (0, 2, true), .op (15, 2, false), .op (16, 0, false)]) (.seq (.reg [.op (0, 0, false), .op (1, 0, false), .op (3, 0, false), .op (4, 0, false), .op (5, 0, false), .op (6, 0, false), .op (7, 0, false), .op (8, 0, false), .op (9, 0, false), .op (10, 0, false), .op (11, 0, false), .op (12, 0, false), .op (13, 0, false), .op (14, 0, false), .op (15, 0, false), .op (16, 0, false), .op (2, 2, true), .op (17, 2, false), .op (18, 2, false)]) (.reg [.op (0, 0, false), .op (1, 0, false), .op (2, 0, false), .op (3, 0, false), .op (4, 0, false), .op (5, 0, false), .op (6, 0, false), .op (7, 0, false), .op (8, 14, false), .op (9, 0, false), .op (10, 2, false)])))) (.reg [.op (0, 0, false), .op (1, 0, false), .op (2, 0, false)]))))))) (.reg [.op (0, 0, false), .op (1, 0, false), .op (2, 0, false)])))))) (.reg [.op (0, 0, false), .op (1, 0, false), .op (2, 0, false), .op (3, 0, false), .op (4, 0, false), .op (5, 0, false), .op (6, 0, false), .op (7, 0, false)])))) (.reg [.op (0, 0, false), .op (1, 0, false), .op (2, 0, false)])))))) (.seq (.reg [.op (0, 0, false), .op (1, 0, false), .op (2, 0, false), .op (3, 0, false), .op (4, 0, false), .op (5, 0, false), .op (6, 0, false), .op (7, 0, false), .op (8, 0, false), .op (9, 0, false), .op (10, 0, false), .op (11, 0, false), .op (12, 0, false), .op (13, 2, false), .op (14, 2, false)]) (.seq (.seq (.reg [.op (0, 0, false), .op (1, 0, false)]) (.cond (.seq (.reg [.op (0, 0, false), .op (1, 2, false), .op (2, 2, false)]) .leaf) .leaf)) (.seq (.reg [.op (0, 0, false), .op (1, 2, false)]) .leaf)))))))))))
theorem I_impl_determinant {a0 : Value} {w : World} {K : Value → World → Prop} (h : D_impl_determinant a0 w K) : call P f_impl_determinant [a0] w K :=
  call_of_vc mixed Try.func19 (c := codeOf Try.f19) (by kernel_rfl) (by kernel_rfl) (p := P_impl_determinant) (by kernel_rfl) (by rw [Try.ntmps19]; simp) (by
    have e : D_impl_determinant a0 w K = vc P P_impl_determinant (codeOf Try.f19) (env0 [a0]) w (retX P Try.f19.results.toList K) := by kernel_rfl
    exact e ▸ h)

end Go.Proofs.Ytabgkpfcpncmhaa

/- Written by a program (gen.py): what is left to show of each function's call. -/
set_option linter.unusedVariables false
set_option maxRecDepth 20000
namespace Go.Proofs.Ytabgkpfcpncmhaa
open Go Go.Vc

/-- spec.DeterminantOf -/
def D_spec_DeterminantOf (a0 : Value) (w : World) (K : Value → World → Prop) : Prop :=
  alc P 28 w fun x2_1 w2 =>
  call P f_spec_l10Is [a0] w2 fun x7_3 w4 =>
  una P .not x7_3 w4 fun x8_5 =>
  cnd x8_5
    (bld P 28 [] w4 fun x9_6 =>
    sto P 28 x2_1 x9_6 w4 fun w8 =>
    ldc P 28 x2_1 w8 fun r9 =>
    K (.tuple #[r9, (.int .i64 1)]) w8)
    (call P f_spec_l10Determinant [a0] w4 fun x12_10 w11 =>
    call P f_spec_l03Fit [x12_10] w11 fun x13_12 w13 =>
    xtr P x13_12 0 w13 fun x14_14 =>
    xtr P x13_12 1 w13 fun x15_15 =>
    alc P 28 w13 fun x4_16 w17 =>
    sto P 28 x4_16 x14_14 w17 fun w19 =>
    ld P 28 x4_16 w19 fun x16_20 =>
    sto P 28 x2_1 x16_20 w19 fun w22 =>
    ldc P 28 x2_1 w22 fun r23 =>
    K (.tuple #[r23, x15_15]) w22)
def P_spec_DeterminantOf : Plan := (.seq (.reg [.op (0, 2, false), .op (1, 0, false)]) (.seq (.seq (.reg [.op (0, 0, false), .op (1, 2, false), .op (2, 0, false)]) (.cond (.seq (.reg [.op (0, 0, false), .op (1, 2, false), .op (2, 0, false)]) .leaf) .leaf)) (.seq (.reg [.op (0, 0, false), .op (1, 2, false), .op (2, 2, false), .op (3, 0, false), .op (4, 0, false), .op (5, 0, false), .op (6, 2, false), .op (7, 2, false), .op (8, 0, false)]) (.seq (.reg [.op (0, 0, false), .op (1, 0, false), .op (2, 2, false), .op (3, 0, false)]) .leaf))))
theorem I_spec_DeterminantOf {a0 : Value} {w : World} {K : Value → World → Prop} (h : D_spec_DeterminantOf a0 w K) : call P f_spec_DeterminantOf [a0] w K :=
  call_of_vc mixed Try.func5 (c := codeOf Try.f5) (by kernel_rfl) (by kernel_rfl) (p := P_spec_DeterminantOf) (by kernel_rfl) (by rw [Try.ntmps5]; simp) (by
    have e : D_spec_DeterminantOf a0 w K = vc P P_spec_DeterminantOf (codeOf Try.f5) (env0 [a0]) w (retX P Try.f5.results.toList K) := by kernel_rfl
    exact e ▸ h)

/-- spec.l10Is -/
def D_spec_l10Is (a0 : Value) (w : World) (K : Value → World → Prop) : Prop :=
  ∃ I1 : Nat → Value → World → Prop, (∃ m34, I1 m34 (.int .i64 0) w) ∧ ∀ (m4 : Nat) (x3_5 : Value) (junk2 : Env) (w3 : World), I1 m4 x3_5 w3 →
    bl0 P .len #[22] 3 [a0] w3 fun x6_6 =>
    bin P .lss 3 false false x3_5 x6_6 w3 fun x7_7 =>
    cnd x7_7
      (ixa P 22 a0 x3_5 w3 fun x12_8 =>
      ld P 37 x12_8 w3 fun x13_9 =>
      bl0 P .len #[37] 3 [x13_9] w3 fun x14_10 =>
      bl0 P .len #[22] 3 [a0] w3 fun x16_11 =>
      bin P .neq 3 false false x14_10 x16_11 w3 fun x17_12 =>
      ∃ J13 : Value → World → Prop, (∀ (x24_14 : Value) (junk16 : Env) (w15 : World), J13 x24_14 w15 →
        pick x17_12 (.bool true) x24_14 fun x25_17 =>
        cnd x25_17
          (K (.bool false) w15)
          (bin P .add 3 false true x3_5 (.int .i64 1) w15 fun x9_18 =>
          ∃ m19, m19 < m4 ∧ I1 m19 x9_18 w15)) ∧
        grd x17_12 false
          (ixa P 22 a0 x3_5 w3 fun x21_20 =>
          ld P 37 x21_20 w3 fun x22_21 =>
          call P f_spec_l10Vector [x22_21] w3 fun x23_22 w23 =>
          una P .not x23_22 w23 fun x24_24 =>
          J13 x24_24 w23)
          (J13 undef w3))
      (bl0 P .len #[22] 3 [a0] w3 fun x27_25 =>
      bin P .geq 3 false true x27_25 (.int .i64 1) w3 fun x28_26 =>
      ∃ J27 : Value → World → Prop, (∀ (x32_28 : Value) (junk30 : Env) (w29 : World), J27 x32_28 w29 →
        pick x28_26 x32_28 (.bool false) fun x33_31 =>
        K x33_31 w29) ∧
        grd x28_26 true
          (bl0 P .len #[22] 3 [a0] w3 fun x31_32 =>
          bin P .leq 3 false true x31_32 (.int .i64 8) w3 fun x32_33 =>
          J27 x32_33 w3)
          (J27 undef w3))
def P_spec_l10Is : Plan := (.seq (.reg [.op (0, 0, false)]) (.seq (.seq (.reg [.op (0, 0, false)]) (.blk (.loop [3] 67108860 (.seq (.seq (.reg [.op (0, 0, false), .op (1, 0, false), .op (2, 0, false), .op (3, 0, false)]) (.cond .leaf .leaf)) (.seq (.blk (.seq (.reg [.op (0, 0, false), .op (1, 0, false), .op (2, 0, false), .op (3, 0, false), .op (4, 0, false), .op (5, 0, false), .op (6, 0, false), .op (7, 0, false), .op (8, 0, false), .grp 8 false [(9, 0, false), (10, 0, false), (11, 0, false), (12, 0, false), (13, 2, false), (14, 0, false)] [24] 33030144, .op (15, 0, false)]) (.cond (.seq (.reg [.op (0, 0, false)]) .leaf) .leaf))) (.reg [.op (0, 0, false), .op (1, 0, false), .op (2, 0, false)])))))) (.seq (.reg [.op (0, 0, false), .op (1, 0, false), .op (2, 0, false), .op (3, 0, false), .grp 3 true [(4, 0, false), (5, 0, false), (6, 0, false)] [32] 7516192768, .op (7, 0, false), .op (8, 0, false)]) .leaf)))
theorem I_spec_l10Is {a0 : Value} {w : World} {K : Value → World → Prop} (h : D_spec_l10Is a0 w K) : call P f_spec_l10Is [a0] w K :=
  call_of_vc mixed Try.func14 (c := codeOf Try.f14) (by kernel_rfl) (by kernel_rfl) (p := P_spec_l10Is) (by kernel_rfl) (by rw [Try.ntmps14]; simp) (by
    have e : D_spec_l10Is a0 w K = vc P P_spec_l10Is (codeOf Try.f14) (env0 [a0]) w (retX P Try.f14.results.toList K) := by kernel_rfl
    exact e ▸ h)

/-- spec.l10Determinant -/
def D_spec_l10Determinant (a0 : Value) (w : World) (K : Value → World → Prop) : Prop :=
  alc P 28 w fun x2_1 w2 =>
  bl0 P .len #[22] 3 [a0] w2 fun x13_3 =>
  call P f_spec_l02Of [(.int .i64 1)] w2 fun x14_4 w5 =>
  call P f_spec_l03Make [x14_4, (.int .i64 0)] w5 fun x15_6 w7 =>
  bsl P 53 1 [(0, x15_6)] w7 fun x16_8 w9 =>
  ∃ I10 : Nat → Value → Value → World → Prop, (∃ m119, I10 m119 x16_8 (.int .i64 1) w9) ∧ ∀ (m13 : Nat) (x4_14 : Value) (x5_15 : Value) (junk11 : Env) (w12 : World), I10 m13 x4_14 x5_15 w12 →
    cnv P 3 54 x13_3 w12 fun x19_16 =>
    bin P .shl 3 true false (.int .i64 1) x19_16 w12 fun x20_17 =>
    bin P .lss 3 false false x5_15 x20_17 w12 fun x21_18 =>
    cnd x21_18
      (bld P 28 [] w12 fun x24_19 =>
      alc P 28 w12 fun x7_20 w21 =>
      sto P 28 x7_20 x24_19 w21 fun w23 =>
      ∃ I24 : Nat → Value → Value → World → Prop, (∃ m111, I24 m111 (.int .i64 0) (.int .i64 0) w23) ∧ ∀ (m27 : Nat) (x6_28 : Value) (x8_29 : Value) (junk25 : Env) (w26 : World), I24 m27 x6_28 x8_29 w26 →
        bin P .lss 3 false false x8_29 x13_3 w26 fun x27_30 =>
        cnd x27_30
          (cnv P 3 54 x8_29 w26 fun x33_31 =>
          bin P .shr 3 false false x5_15 x33_31 w26 fun x34_32 =>
          bin P .and 3 false true x34_32 (.int .i64 1) w26 fun x35_33 =>
          bin P .add 3 false false x6_28 x35_33 w26 fun x36_34 =>
          bin P .add 3 false true x8_29 (.int .i64 1) w26 fun x29_35 =>
          ∃ m36, m36 < m27 ∧ I24 m36 x36_34 x29_35 w26)
          (∃ I37 : Nat → Value → Value → World → Prop, (∃ m110, I37 m110 (.bool false) (.int .i64 0) w26) ∧ ∀ (m40 : Nat) (x9_41 : Value) (x10_42 : Value) (junk38 : Env) (w39 : World), I37 m40 x9_41 x10_42 w39 →
            bin P .lss 3 false false x10_42 x13_3 w39 fun x39_43 =>
            cnd x39_43
              (cnv P 3 54 x10_42 w39 fun x44_44 =>
              bin P .shr 3 false false x5_15 x44_44 w39 fun x45_45 =>
              bin P .and 3 false true x45_45 (.int .i64 1) w39 fun x46_46 =>
              bin P .eql 3 false true x46_46 (.int .i64 0) w39 fun x47_47 =>
              cnd x47_47
                (bin P .add 3 false true x10_42 (.int .i64 1) w39 fun x41_48 =>
                ∃ m49, m49 < m40 ∧ I37 m49 x9_41 x41_48 w39)
                (∃ J50 : Value → World → Prop, (∀ (x11_53 : Value) (junk51 : Env) (w52 : World), J50 x11_53 w52 →
                  ∃ J54 : World → Prop, (∀ (junk55 : Env) (w56 : World), J54 w56 →
                    ld P 28 x7_20 w56 fun x70_57 =>
                    ld P 28 x11_53 w56 fun x71_58 =>
                    call P f_spec_l03Add [x70_57, x71_58] w56 fun x72_59 w60 =>
                    sto P 28 x7_20 x72_59 w60 fun w62 =>
                    una P .not x9_41 w62 fun x74_63 =>
                    bin P .add 3 false true x10_42 (.int .i64 1) w62 fun x41_64 =>
                    ∃ m65, m65 < m40 ∧ I37 m65 x74_63 x41_64 w62) ∧
                    (cnd x9_41
                      (ld P 28 x11_53 w52 fun x68_66 =>
                      call P f_spec_l03Neg [x68_66] w52 fun x69_67 w68 =>
                      sto P 28 x11_53 x69_67 w68 fun w70 =>
                      J54 w70)
                      (J54 w52))) ∧
                  (bin P .sub 3 false false x13_3 x6_28 w39 fun x51_71 =>
                  ixa P 22 a0 x51_71 w39 fun x52_72 =>
                  ld P 37 x52_72 w39 fun x53_73 =>
                  ixa P 37 x53_73 x10_42 w39 fun x55_74 =>
                  ld P 57 x55_74 w39 fun x56_75 =>
                  cnv P 3 54 x10_42 w39 fun x61_76 =>
                  bin P .shl 3 true false (.int .i64 1) x61_76 w39 fun x62_77 =>
                  bin P .sub 3 false false x5_15 x62_77 w39 fun x63_78 =>
                  ixa P 53 x4_14 x63_78 w39 fun x64_79 =>
                  ld P 28 x64_79 w39 fun x65_80 =>
                  (call P f_spec_l03Of [x56_75] w39 fun x57_81 w82 =>
                    Ext w39 w82 ∧ (call P f_spec_l03Mul [x57_81, x65_80] w82 fun x66_83 w84 =>
                      alc P 28 w84 fun x11_85 w86 =>
                      Ext w84 w86 ∧ sto P 28 x11_85 x66_83 w86 fun w88 =>
                      J50 x11_85 w88) ∧
                      (alc P 28 w82 fun x11_89 w90 =>
                      Ext w82 w90 ∧ call P f_spec_l03Mul [x57_81, x65_80] w90 fun x66_91 w92 =>
                      sto P 28 x11_89 x66_91 w92 fun w94 =>
                      J50 x11_89 w94)) ∧
                    (alc P 28 w39 fun x11_95 w96 =>
                    Ext w39 w96 ∧ call P f_spec_l03Of [x56_75] w96 fun x57_97 w98 =>
                    Ext w96 w98 ∧ call P f_spec_l03Mul [x57_97, x65_80] w98 fun x66_99 w100 =>
                    sto P 28 x11_95 x66_99 w100 fun w102 =>
                    J50 x11_95 w102))))
              (ld P 28 x7_20 w39 fun x76_103 =>
              bsl P 53 1 [(0, x76_103)] w39 fun x77_104 w105 =>
              bl2 P .append #[53, 53] 53 [x4_14, x77_104] w105 fun x78_106 w107 =>
              bin P .add 3 false true x5_15 (.int .i64 1) w107 fun x23_108 =>
              ∃ m109, m109 < m13 ∧ I10 m109 x78_106 x23_108 w107)))
      (bl0 P .len #[53] 3 [x4_14] w12 fun x81_112 =>
      bin P .sub 3 false true x81_112 (.int .i64 1) w12 fun x82_113 =>
      ixa P 53 x4_14 x82_113 w12 fun x83_114 =>
      ld P 28 x83_114 w12 fun x84_115 =>
      sto P 28 x2_1 x84_115 w12 fun w117 =>
      ldc P 28 x2_1 w117 fun r118 =>
      K r118 w117)
def P_spec_l10Determinant : Plan := (.seq (.reg [.op (0, 2, false)]) (.seq (.reg [.op (0, 0, false), .op (1, 0, false), .op (2, 0, false)]) (.seq (.reg [.op (0, 2, false), .op (1, 2, false), .op (2, 2, false), .op (3, 0, false)]) (.seq (.seq (.reg [.op (0, 0, false)]) (.blk (.loop [4, 5] 604462909807314587226096 (.seq (.seq (.reg [.op (0, 0, false), .op (1, 0, false), .op (2, 0, false), .op (3, 0, false), .op (4, 0, false)]) (.cond .leaf .leaf)) (.seq (.blk (.seq (.reg [.op (0, 0, false), .op (1, 2, false), .op (2, 0, false), .op (3, 2, false)]) (.seq (.seq (.reg [.op (0, 0, false)]) (.blk (.loop [6, 8] 137405399360 (.seq (.seq (.reg [.op (0, 0, false), .op (1, 0, false), .op (2, 0, false)]) (.cond .leaf .leaf)) (.seq (.blk (.reg [.op (0, 0, false), .op (1, 0, false), .op (2, 0, false), .op (3, 0, false), .op (4, 0, false), .op (5, 0, false), .op (6, 0, false), .op (7, 0, false)])) (.reg [.op (0, 0, false), .op (1, 0, false), .op (2, 0, false)])))))) (.seq (.reg [.op (0, 0, false)]) (.seq (.seq (.reg [.op (0, 0, false)]) (.blk (.loop [9, 10] 37778931862819722759680 (.seq (.seq (.reg [.op (0, 0, false), .op (1, 0, false), .op (2, 0, false)]) (.cond .leaf .leaf)) (.seq (.blk (.seq (.seq (.reg [.op (0, 0, false), .op (1, 0, false), .op (2, 0, false), .op (3, 0, false), .op (4, 0, false), .op (5, 0, false)]) (.cond .leaf .leaf)) (.seq (.tree [11] 147573671114699704320 (.op (0, 0, false) (.op (1, 0, false) (.op (2, 0, false) (.op (3, 0, false) (.op (4, 0, false) (.op (5, 0, false) (.op (6, 0, false) (.op (7, 0, false) (.op (8, 0, false) (.op (10, 0, false) (.op (11, 0, false) (.op (12, 0, false) (.op (13, 0, false) (.op (14, 0, false) (.op (15, 0, false) (.op (16, 0, false) (.op (17, 0, false) (.fork (9, 2, true) (.fork (18, 2, false) (.fork (19, 2, true) (.fork (20, 2, false) .done .stop) .stop) (.fork (19, 2, true) (.fork (18, 2, false) (.fork (20, 2, false) .done .stop) .stop) .stop)) (.fork (19, 2, true) (.fork (9, 2, true) (.fork (18, 2, false) (.fork (20, 2, false) .done .stop) .stop) .stop) .stop)))))))))))))))))))) (.cut [] 1033017668127734890496 (.seq (.reg [.op (0, 0, false)]) (.cond (.reg [.op (0, 0, false), .op (1, 2, false), .op (2, 2, false)]) .leaf)) (.seq (.reg [.op (0, 0, false), .op (1, 0, false), .op (2, 2, false), .op (3, 2, false)]) (.reg [.op (0, 0, false), .op (1, 0, false), .op (2, 0, false)])))))) (.reg [.op (0, 0, false), .op (1, 0, false), .op (2, 0, false)])))))) (.reg [.op (0, 0, false), .op (1, 0, false), .op (2, 2, false), .op (3, 2, false), .op (4, 0, false)])))))) (.reg [.op (0, 0, false), .op (1, 0, false), .op (2, 0, false)])))))) (.seq (.reg [.op (0, 0, false), .op (1, 0, false), .op (2, 0, false), .op (3, 0, false), .op (4, 0, false), .op (5, 0, false), .op (6, 2, false)]) .leaf)))))
theorem I_spec_l10Determinant {a0 : Value} {w : World} {K : Value → World → Prop} (h : D_spec_l10Determinant a0 w K) : call P f_spec_l10Determinant [a0] w K :=
  call_of_vc mixed Try.func16 (c := codeOf Try.f16) (by kernel_rfl) (by kernel_rfl) (p := P_spec_l10Determinant) (by kernel_rfl) (by rw [Try.ntmps16]; simp) (by
    have e : D_spec_l10Determinant a0 w K = vc P P_spec_l10Determinant (codeOf Try.f16) (env0 [a0]) w (retX P Try.f16.results.toList K) := by kernel_rfl
    exact e ▸ h)

/-- spec.l10Vector -/
def D_spec_l10Vector (a0 : Value) (w : World) (K : Value → World → Prop) : Prop :=
  ∃ I1 : Nat → Value → World → Prop, (∃ m24, I1 m24 (.int .i64 0) w) ∧ ∀ (m4 : Nat) (x3_5 : Value) (junk2 : Env) (w3 : World), I1 m4 x3_5 w3 →
    bl0 P .len #[37] 3 [a0] w3 fun x6_6 =>
    bin P .lss 3 false false x3_5 x6_6 w3 fun x7_7 =>
    cnd x7_7
      (ixa P 37 a0 x3_5 w3 fun x12_8 =>
      ld P 57 x12_8 w3 fun x13_9 =>
      call P f_spec_l01Finite [x13_9] w3 fun x14_10 w11 =>
      una P .not x14_10 w11 fun x15_12 =>
      cnd x15_12
        (K (.bool false) w11)
        (bin P .add 3 false true x3_5 (.int .i64 1) w11 fun x9_13 =>
        ∃ m14, m14 < m4 ∧ I1 m14 x9_13 w11))
      (bl0 P .len #[37] 3 [a0] w3 fun x17_15 =>
      bin P .geq 3 false true x17_15 (.int .i64 1) w3 fun x18_16 =>
      ∃ J17 : Value → World → Prop, (∀ (x22_18 : Value) (junk20 : Env) (w19 : World), J17 x22_18 w19 →
        pick x18_16 x22_18 (.bool false) fun x23_21 =>
        K x23_21 w19) ∧
        grd x18_16 true
          (bl0 P .len #[37] 3 [a0] w3 fun x21_22 =>
          bin P .leq 3 false true x21_22 (.int .i64 8) w3 fun x22_23 =>
          J17 x22_23 w3)
          (J17 undef w3))
def P_spec_l10Vector : Plan := (.seq (.reg [.op (0, 0, false)]) (.seq (.seq (.reg [.op (0, 0, false)]) (.blk (.loop [3] 65532 (.seq (.seq (.reg [.op (0, 0, false), .op (1, 0, false), .op (2, 0, false), .op (3, 0, false)]) (.cond .leaf .leaf)) (.seq (.blk (.seq (.reg [.op (0, 0, false), .op (1, 0, false), .op (2, 0, false), .op (3, 0, false), .op (4, 2, false), .op (5, 0, false)]) (.cond (.seq (.reg [.op (0, 0, false)]) .leaf) .leaf))) (.reg [.op (0, 0, false), .op (1, 0, false), .op (2, 0, false)])))))) (.seq (.reg [.op (0, 0, false), .op (1, 0, false), .op (2, 0, false), .op (3, 0, false), .grp 3 true [(4, 0, false), (5, 0, false), (6, 0, false)] [22] 7340032, .op (7, 0, false), .op (8, 0, false)]) .leaf)))
theorem I_spec_l10Vector {a0 : Value} {w : World} {K : Value → World → Prop} (h : D_spec_l10Vector a0 w K) : call P f_spec_l10Vector [a0] w K :=
  call_of_vc mixed Try.func26 (c := codeOf Try.f26) (by kernel_rfl) (by kernel_rfl) (p := P_spec_l10Vector) (by kernel_rfl) (by rw [Try.ntmps26]; simp) (by
    have e : D_spec_l10Vector a0 w K = vc P P_spec_l10Vector (codeOf Try.f26) (env0 [a0]) w (retX P Try.f26.results.toList K) := by kernel_rfl
    exact e ▸ h)

end Go.Proofs.Ytabgkpfcpncmhaa

/- Written by a program (gen.py): what is left to show of each function's call. -/
set_option linter.unusedVariables false
set_option maxRecDepth 20000
namespace Go.Proofs.Ytabgkpfcpncmhaa
open Go Go.Vc

/-- slices.Clone[[]uint32,uint32] -/
def D_slices_Clone_uint32_uint32 (a0 : Value) (w : World) (K : Value → World → Prop) : Prop :=
  bin P .eql 67 false true a0 (.slice none 0 0) w fun x4_1 =>
  cnd x4_1
    (K (.slice none 0 0) w)
    (bsl P 67 0 [] w fun x5_2 w3 =>
    bl2 P .append #[67, 67] 67 [x5_2, a0] w3 fun x7_4 w5 =>
    K x7_4 w5)
def P_slices_Clone_uint32_uint32 : Plan := (.seq (.reg [.op (0, 0, false)]) (.seq (.seq (.reg [.op (0, 0, false), .op (1, 0, false)]) (.cond (.seq (.reg [.op (0, 0, false)]) .leaf) .leaf)) (.seq (.reg [.op (0, 2, false), .op (1, 0, false), .op (2, 2, false), .op (3, 0, false)]) .leaf)))
theorem I_slices_Clone_uint32_uint32 {a0 : Value} {w : World} {K : Value → World → Prop} (h : D_slices_Clone_uint32_uint32 a0 w K) : call P f_slices_Clone_uint32_uint32 [a0] w K :=
  call_of_vc mixed Try.func91 (c := codeOf Try.f91) (by kernel_rfl) (by kernel_rfl) (p := P_slices_Clone_uint32_uint32) (by kernel_rfl) (by rw [Try.ntmps91]; simp) (by
    have e : D_slices_Clone_uint32_uint32 a0 w K = vc P P_slices_Clone_uint32_uint32 (codeOf Try.f91) (env0 [a0]) w (retX P Try.f91.results.toList K) := by kernel_rfl
    exact e ▸ h)

/-- cmp.Compare[int] -/
def D_cmp_Compare_int (a0 a1 : Value) (w : World) (K : Value → World → Prop) : Prop :=
  call P f_cmp_isNaN_int [a0] w fun x8_1 w2 =>
  call P f_cmp_isNaN_int [a1] w2 fun x10_3 w4 =>
  cnd x8_1
    (cnd x10_3
      (K (.int .i64 0) w4)
      (K (.int .i64 (-1)) w4))
    (cnd x10_3
      (K (.int .i64 1) w4)
      (bin P .lss 3 false false a0 a1 w4 fun x16_5 =>
      cnd x16_5
        (K (.int .i64 (-1)) w4)
        (bin P .gtr 3 false false a0 a1 w4 fun x19_6 =>
        cnd x19_6
          (K (.int .i64 1) w4)
          (K (.int .i64 0) w4))))
def P_cmp_Compare_int : Plan := (.seq (.reg [.op (0, 0, false)]) (.seq (.reg [.op (0, 0, false), .op (1, 2, false), .op (2, 0, false)]) (.seq (.reg [.op (0, 0, false), .op (1, 2, false), .op (2, 0, false)]) (.seq (.seq (.reg [.op (0, 0, false)]) (.cond (.seq (.seq (.reg [.op (0, 0, false)]) (.cond (.seq (.reg [.op (0, 0, false)]) .leaf) .leaf)) (.seq (.reg [.op (0, 0, false)]) .leaf)) .leaf)) (.seq (.seq (.reg [.op (0, 0, false)]) (.cond (.seq (.reg [.op (0, 0, false)]) .leaf) .leaf)) (.seq (.seq (.reg [.op (0, 0, false), .op (1, 0, false), .op (2, 0, false)]) (.cond (.seq (.reg [.op (0, 0, false)]) .leaf) .leaf)) (.seq (.seq (.reg [.op (0, 0, false), .op (1, 0, false), .op (2, 0, false)]) (.cond (.seq (.reg [.op (0, 0, false)]) .leaf) .leaf)) (.seq (.reg [.op (0, 0, false)]) .leaf))))))))
theorem I_cmp_Compare_int {a0 a1 : Value} {w : World} {K : Value → World → Prop} (h : D_cmp_Compare_int a0 a1 w K) : call P f_cmp_Compare_int [a0, a1] w K :=
  call_of_vc mixed Try.func96 (c := codeOf Try.f96) (by kernel_rfl) (by kernel_rfl) (p := P_cmp_Compare_int) (by kernel_rfl) (by rw [Try.ntmps96]; simp) (by
    have e : D_cmp_Compare_int a0 a1 w K = vc P P_cmp_Compare_int (codeOf Try.f96) (env0 [a0, a1]) w (retX P Try.f96.results.toList K) := by kernel_rfl
    exact e ▸ h)

/-- cmp.Compare[uint32] -/
def D_cmp_Compare_uint32 (a0 a1 : Value) (w : World) (K : Value → World → Prop) : Prop :=
  call P f_cmp_isNaN_uint32 [a0] w fun x8_1 w2 =>
  call P f_cmp_isNaN_uint32 [a1] w2 fun x10_3 w4 =>
  cnd x8_1
    (cnd x10_3
      (K (.int .i64 0) w4)
      (K (.int .i64 (-1)) w4))
    (cnd x10_3
      (K (.int .i64 1) w4)
      (bin P .lss 103 false false a0 a1 w4 fun x16_5 =>
      cnd x16_5
        (K (.int .i64 (-1)) w4)
        (bin P .gtr 103 false false a0 a1 w4 fun x19_6 =>
        cnd x19_6
          (K (.int .i64 1) w4)
          (K (.int .i64 0) w4))))
def P_cmp_Compare_uint32 : Plan := (.seq (.reg [.op (0, 0, false)]) (.seq (.reg [.op (0, 0, false), .op (1, 2, false), .op (2, 0, false)]) (.seq (.reg [.op (0, 0, false), .op (1, 2, false), .op (2, 0, false)]) (.seq (.seq (.reg [.op (0, 0, false)]) (.cond (.seq (.seq (.reg [.op (0, 0, false)]) (.cond (.seq (.reg [.op (0, 0, false)]) .leaf) .leaf)) (.seq (.reg [.op (0, 0, false)]) .leaf)) .leaf)) (.seq (.seq (.reg [.op (0, 0, false)]) (.cond (.seq (.reg [.op (0, 0, false)]) .leaf) .leaf)) (.seq (.seq (.reg [.op (0, 0, false), .op (1, 0, false), .op (2, 0, false)]) (.cond (.seq (.reg [.op (0, 0, false)]) .leaf) .leaf)) (.seq (.seq (.reg [.op (0, 0, false), .op (1, 0, false), .op (2, 0, false)]) (.cond (.seq (.reg [.op (0, 0, false)]) .leaf) .leaf)) (.seq (.reg [.op (0, 0, false)]) .leaf))))))))
theorem I_cmp_Compare_uint32 {a0 a1 : Value} {w : World} {K : Value → World → Prop} (h : D_cmp_Compare_uint32 a0 a1 w K) : call P f_cmp_Compare_uint32 [a0, a1] w K :=
  call_of_vc mixed Try.func97 (c := codeOf Try.f97) (by kernel_rfl) (by kernel_rfl) (p := P_cmp_Compare_uint32) (by kernel_rfl) (by rw [Try.ntmps97]; simp) (by
    have e : D_cmp_Compare_uint32 a0 a1 w K = vc P P_cmp_Compare_uint32 (codeOf Try.f97) (env0 [a0, a1]) w (retX P Try.f97.results.toList K) := by kernel_rfl
    exact e ▸ h)

/-- cmp.isNaN[int] -/
def D_cmp_isNaN_int (a0 : Value) (w : World) (K : Value → World → Prop) : Prop :=
  bin P .neq 3 false false a0 a0 w fun x5_1 =>
  K x5_1 w
def P_cmp_isNaN_int : Plan := (.seq (.reg [.op (0, 0, false)]) (.seq (.reg [.op (0, 0, false), .op (1, 0, false), .op (2, 0, false), .op (3, 0, false)]) .leaf))
theorem I_cmp_isNaN_int {a0 : Value} {w : World} {K : Value → World → Prop} (h : D_cmp_isNaN_int a0 w K) : call P f_cmp_isNaN_int [a0] w K :=
  call_of_vc mixed Try.func98 (c := codeOf Try.f98) (by kernel_rfl) (by kernel_rfl) (p := P_cmp_isNaN_int) (by kernel_rfl) (by rw [Try.ntmps98]; simp) (by
    have e : D_cmp_isNaN_int a0 w K = vc P P_cmp_isNaN_int (codeOf Try.f98) (env0 [a0]) w (retX P Try.f98.results.toList K) := by kernel_rfl
    exact e ▸ h)

/-- cmp.isNaN[uint32] -/
def D_cmp_isNaN_uint32 (a0 : Value) (w : World) (K : Value → World → Prop) : Prop :=
  bin P .neq 103 false false a0 a0 w fun x5_1 =>
  K x5_1 w
def P_cmp_isNaN_uint32 : Plan := (.seq (.reg [.op (0, 0, false)]) (.seq (.reg [.op (0, 0, false), .op (1, 0, false), .op (2, 0, false), .op (3, 0, false)]) .leaf))
theorem I_cmp_isNaN_uint32 {a0 : Value} {w : World} {K : Value → World → Prop} (h : D_cmp_isNaN_uint32 a0 w K) : call P f_cmp_isNaN_uint32 [a0] w K :=
  call_of_vc mixed Try.func99 (c := codeOf Try.f99) (by kernel_rfl) (by kernel_rfl) (p := P_cmp_isNaN_uint32) (by kernel_rfl) (by rw [Try.ntmps99]; simp) (by
    have e : D_cmp_isNaN_uint32 a0 w K = vc P P_cmp_isNaN_uint32 (codeOf Try.f99) (env0 [a0]) w (retX P Try.f99.results.toList K) := by kernel_rfl
    exact e ▸ h)

end Go.Proofs.Ytabgkpfcpncmhaa

/- Written by a program (gen.py): what is left to show of each function's call. -/
set_option linter.unusedVariables false
set_option maxRecDepth 20000
namespace Go.Proofs.Ytabgkpfcpncmhaa
open Go Go.Vc

/-- impl.newInt -/
def D_impl_newInt (a0 : Value) (w : World) (K : Value → World → Prop) : Prop :=
  alc P 69 w fun x3_1 w2 =>
  call P f_impl_integer_SetInt64 [x3_1, a0] w2 fun x5_3 w4 =>
  K x5_3 w4
def P_impl_newInt : Plan := (.seq (.reg [.op (0, 0, false)]) (.seq (.reg [.op (0, 2, false), .op (1, 0, false), .op (2, 2, false), .op (3, 0, false)]) .leaf))
theorem I_impl_newInt {a0 : Value} {w : World} {K : Value → World → Prop} (h : D_impl_newInt a0 w K) : call P f_impl_newInt [a0] w K :=
  call_of_vc mixed Try.func37 (c := codeOf Try.f37) (by kernel_rfl) (by kernel_rfl) (p := P_impl_newInt) (by kernel_rfl) (by rw [Try.ntmps37]; simp) (by
    have e : D_impl_newInt a0 w K = vc P P_impl_newInt (codeOf Try.f37) (env0 [a0]) w (retX P Try.f37.results.toList K) := by kernel_rfl
    exact e ▸ h)

/-- (*impl.integer).Sign -/
def D_impl_integer_Sign (a0 : Value) (w : World) (K : Value → World → Prop) : Prop :=
  nch a0 fun x5_1 =>
  fda P 69 x5_1 0 w fun x6_2 =>
  ld P 4 x6_2 w fun x7_3 =>
  cnd x7_3
    (K (.int .i64 (-1)) w)
    (nch a0 fun x10_4 =>
    fda P 69 x10_4 1 w fun x11_5 =>
    ld P 67 x11_5 w fun x12_6 =>
    bl0 P .len #[67] 3 [x12_6] w fun x13_7 =>
    bin P .gtr 3 false true x13_7 (.int .i64 0) w fun x14_8 =>
    cnd x14_8
      (K (.int .i64 1) w)
      (K (.int .i64 0) w))
def P_impl_integer_Sign : Plan := (.seq (.reg [.op (0, 0, false)]) (.seq (.blk (.seq (.reg [.op (0, 0, false), .op (1, 0, false), .op (2, 0, false), .op (3, 0, false), .op (4, 0, false)]) (.cond (.seq (.reg [.op (0, 0, false)]) .leaf) (.seq (.reg [.op (0, 0, false), .op (1, 0, false), .op (2, 0, false), .op (3, 0, false), .op (4, 0, false), .op (5, 0, false), .op (6, 0, false)]) (.cond (.seq (.reg [.op (0, 0, false)]) .leaf) .leaf))))) (.seq (.reg [.op (0, 0, false)]) .leaf)))
theorem I_impl_integer_Sign {a0 : Value} {w : World} {K : Value → World → Prop} (h : D_impl_integer_Sign a0 w K) : call P f_impl_integer_Sign [a0] w K :=
  call_of_vc mixed Try.func38 (c := codeOf Try.f38) (by kernel_rfl) (by kernel_rfl) (p := P_impl_integer_Sign) (by kernel_rfl) (by rw [Try.ntmps38]; simp) (by
    have e : D_impl_integer_Sign a0 w K = vc P P_impl_integer_Sign (codeOf Try.f38) (env0 [a0]) w (retX P Try.f38.results.toList K) := by kernel_rfl
    exact e ▸ h)

/-- (*impl.integer).Mul -/
def D_impl_integer_Mul (a0 a1 a2 : Value) (w : World) (K : Value → World → Prop) : Prop :=
  nch a1 fun x9_1 =>
  fda P 69 x9_1 0 w fun x10_2 =>
  ld P 4 x10_2 w fun x11_3 =>
  nch a2 fun x13_4 =>
  fda P 69 x13_4 0 w fun x14_5 =>
  ld P 4 x14_5 w fun x15_6 =>
  bin P .neq 4 false false x11_3 x15_6 w fun x16_7 =>
  nch a1 fun x18_8 =>
  fda P 69 x18_8 1 w fun x19_9 =>
  ld P 67 x19_9 w fun x20_10 =>
  nch a2 fun x22_11 =>
  fda P 69 x22_11 1 w fun x23_12 =>
  ld P 67 x23_12 w fun x24_13 =>
  call P f_impl_magMul [x20_10, x24_13] w fun x25_14 w15 =>
  Ext w w15 ∧ call P f_impl_integer_put [a0, x16_7, x25_14] w15 fun x26_16 w17 =>
  K x26_16 w17
def P_impl_integer_Mul : Plan := (.seq (.reg [.op (0, 0, false)]) (.seq (.reg [.op (0, 0, false), .op (1, 0, false), .op (2, 0, false), .op (3, 0, false), .op (4, 0, false), .op (5, 0, false), .op (6, 0, false), .op (7, 0, false), .op (8, 0, false), .op (9, 0, false), .op (10, 0, false), .op (11, 0, false), .op (12, 0, false), .op (13, 0, false), .op (14, 0, false), .op (15, 0, false), .op (16, 0, false), .op (17, 0, false), .op (18, 2, true), .op (19, 2, false), .op (20, 0, false)]) .leaf))
theorem I_impl_integer_Mul {a0 a1 a2 : Value} {w : World} {K : Value → World → Prop} (h : D_impl_integer_Mul a0 a1 a2 w K) : call P f_impl_integer_Mul [a0, a1, a2] w K :=
  call_of_vc mixed Try.func40 (c := codeOf Try.f40) (by kernel_rfl) (by kernel_rfl) (p := P_impl_integer_Mul) (by kernel_rfl) (by rw [Try.ntmps40]; simp) (by
    have e : D_impl_integer_Mul a0 a1 a2 w K = vc P P_impl_integer_Mul (codeOf Try.f40) (env0 [a0, a1, a2]) w (retX P Try.f40.results.toList K) := by kernel_rfl
    exact e ▸ h)

/-- (*impl.integer).Sub -/
def D_impl_integer_Sub (a0 a1 a2 : Value) (w : World) (K : Value → World → Prop) : Prop :=
  nch a2 fun x10_1 =>
  fda P 69 x10_1 0 w fun x11_2 =>
  ld P 4 x11_2 w fun x12_3 =>
  una P .not x12_3 w fun x13_4 =>
  nch a2 fun x15_5 =>
  fda P 69 x15_5 1 w fun x16_6 =>
  ld P 67 x16_6 w fun x17_7 =>
  call P f_impl_integer_plus [a0, a1, x13_4, x17_7] w fun x18_8 w9 =>
  K x18_8 w9
def P_impl_integer_Sub : Plan := (.seq (.reg [.op (0, 0, false)]) (.seq (.reg [.op (0, 0, false), .op (1, 0, false), .op (2, 0, false), .op (3, 0, false), .op (4, 0, false), .op (5, 0, false), .op (6, 0, false), .op (7, 0, false), .op (8, 0, false), .op (9, 0, false), .op (10, 0, false), .op (11, 2, false), .op (12, 0, false)]) .leaf))
theorem I_impl_integer_Sub {a0 a1 a2 : Value} {w : World} {K : Value → World → Prop} (h : D_impl_integer_Sub a0 a1 a2 w K) : call P f_impl_integer_Sub [a0, a1, a2] w K :=
  call_of_vc mixed Try.func41 (c := codeOf Try.f41) (by kernel_rfl) (by kernel_rfl) (p := P_impl_integer_Sub) (by kernel_rfl) (by rw [Try.ntmps41]; simp) (by
    have e : D_impl_integer_Sub a0 a1 a2 w K = vc P P_impl_integer_Sub (codeOf Try.f41) (env0 [a0, a1, a2]) w (retX P Try.f41.results.toList K) := by kernel_rfl
    exact e ▸ h)

/-- (*impl.integer).Quo -/
def D_impl_integer_Quo (a0 a1 a2 : Value) (w : World) (K : Value → World → Prop) : Prop :=
  alc P 69 w fun x13_1 w2 =>
  call P f_impl_integer_QuoRem [a0, a1, a2, x13_1] w2 fun x14_3 w4 =>
  xtr P x14_3 0 w4 fun x15_5 =>
  xtr P x14_3 1 w4 fun x16_6 =>
  K x15_5 w4
def P_impl_integer_Quo : Plan := (.seq (.reg [.op (0, 0, false)]) (.seq (.reg [.op (0, 0, false), .op (1, 0, false), .op (2, 0, false), .op (3, 2, false), .op (4, 2, false), .op (5, 0, false), .op (6, 0, false), .op (7, 0, false), .op (8, 0, false), .op (9, 0, false)]) (.seq (.reg [.op (0, 0, false), .op (1, 0, false)]) .leaf)))
theorem I_impl_integer_Quo {a0 a1 a2 : Value} {w : World} {K : Value → World → Prop} (h : D_impl_integer_Quo a0 a1 a2 w K) : call P f_impl_integer_Quo [a0, a1, a2] w K :=
  call_of_vc mixed Try.func42 (c := codeOf Try.f42) (by kernel_rfl) (by kernel_rfl) (p := P_impl_integer_Quo) (by kernel_rfl) (by rw [Try.ntmps42]; simp) (by
    have e : D_impl_integer_Quo a0 a1 a2 w K = vc P P_impl_integer_Quo (codeOf Try.f42) (env0 [a0, a1, a2]) w (retX P Try.f42.results.toList K) := by kernel_rfl
    exact e ▸ h)

/-- impl.fromBig -/
def D_impl_fromBig (a0 : Value) (w : World) (K : Value → World → Prop) : Prop :=
  alc P 26 w fun x2_1 w2 =>
  call P f_impl_integer_BitLen [a0] w2 fun x8_3 w4 =>
  bin P .gtr 3 false true x8_3 (.int .i64 2400) w4 fun x9_5 =>
  cnd x9_5
    (bld P 26 [] w4 fun x10_6 =>
    sto P 26 x2_1 x10_6 w4 fun w8 =>
    ldc P 26 x2_1 w8 fun r9 =>
    K (.tuple #[r9, (.bool false)]) w8)
    (call P f_impl_integer_Sign [a0] w4 fun x12_10 w11 =>
    bld P 26 [(0, x12_10)] w11 fun x13_12 =>
    alc P 26 w11 fun x4_13 w14 =>
    sto P 26 x4_13 x13_12 w14 fun w16 =>
    alc P 69 w16 fun x14_17 w18 =>
    call P f_impl_integer_Abs [x14_17, a0] w18 fun x16_19 w20 =>
    call P f_impl_newInt [(.int .i64 16777215)] w20 fun x17_21 w22 =>
    ∃ I23 : Nat → World → Prop, (∃ m52, I23 m52 w22) ∧ ∀ (m26 : Nat) (junk24 : Env) (w25 : World), I23 m26 w25 →
      call P f_impl_integer_Sign [x16_19] w25 fun x19_27 w28 =>
      bin P .gtr 3 false true x19_27 (.int .i64 0) w28 fun x20_29 =>
      cnd x20_29
        (fda P 26 x4_13 1 w28 fun x21_30 =>
        ld P 24 x21_30 w28 fun x22_31 =>
        alc P 69 w28 fun x23_32 w33 =>
        Ext w28 w33 ∧ call P f_impl_integer_And [x23_32, x16_19, x17_21] w33 fun x26_34 w35 =>
        (fda P 26 x4_13 1 w35 fun z => z = x21_30) ∧ (ld P 24 x21_30 w35 fun z => z = x22_31) ∧ call P f_impl_integer_Int64 [x26_34] w35 fun x27_36 w37 =>
        Ext w35 w37 ∧ bsl P 24 1 [(0, x27_36)] w37 fun x28_38 w39 =>
        Ext w37 w39 ∧ bl2 P .append #[24, 24] 24 [x22_31, x28_38] w39 fun x29_40 w41 =>
        fda P 26 x4_13 1 w41 fun x30_42 =>
        sto P 24 x30_42 x29_40 w41 fun w44 =>
        call P f_impl_integer_Rsh [x16_19, x16_19, (.int .u64 24)] w44 fun x33_45 w46 =>
        ∃ m47, m47 < m26 ∧ I23 m47 w46)
        (ld P 26 x4_13 w28 fun x34_48 =>
        sto P 26 x2_1 x34_48 w28 fun w50 =>
        ldc P 26 x2_1 w50 fun r51 =>
        K (.tuple #[r51, (.bool true)]) w50))
def P_impl_fromBig : Plan := (.seq (.reg [.op (0, 2, false), .op (1, 0, false)]) (.seq (.seq (.reg [.op (0, 0, false), .op (1, 2, false), .op (2, 0, false)]) (.cond (.seq (.reg [.op (0, 0, false), .op (1, 2, false), .op (2, 0, false)]) .leaf) .leaf)) (.seq (.reg [.op (0, 0, false), .op (1, 2, false), .op (2, 0, false), .op (3, 2, false), .op (4, 2, false)]) (.seq (.reg [.op (0, 2, false), .op (1, 0, false), .op (2, 2, false), .op (3, 0, false)]) (.seq (.reg [.op (0, 2, false), .op (1, 0, false)]) (.seq (.blk (.loop [] 17179607040 (.seq (.seq (.reg [.op (0, 0, false), .op (1, 2, false), .op (2, 0, false)]) (.cond .leaf .leaf)) (.blk (.seq (.reg [.op (0, 0, false), .op (1, 0, false), .op (3, 0, false), .op (4, 0, false), .op (2, 2, true), .op (5, 5, false), .op (6, 2, true), .op (7, 2, true), .op (8, 2, false), .op (9, 0, false), .op (10, 2, false)]) (.reg [.op (0, 0, false), .op (1, 0, false), .op (2, 2, false)])))))) (.seq (.reg [.op (0, 0, false), .op (1, 2, false), .op (2, 0, false)]) .leaf)))))))
theorem I_impl_fromBig {a0 : Value} {w : World} {K : Value → World → Prop} (h : D_impl_fromBig a0 w K) : call P f_impl_fromBig [a0] w K :=
  call_of_vc mixed Try.func45 (c := codeOf Try.f45) (by kernel_rfl) (by kernel_rfl) (p := P_impl_fromBig) (by kernel_rfl) (by rw [Try.ntmps45]; simp) (by
    have e : D_impl_fromBig a0 w K = vc P P_impl_fromBig (codeOf Try.f45) (env0 [a0]) w (retX P Try.f45.results.toList K) := by kernel_rfl
    exact e ▸ h)

/-- (*impl.integer).Lsh -/
def D_impl_integer_Lsh (a0 a1 a2 : Value) (w : World) (K : Value → World → Prop) : Prop :=
  nch a1 fun x9_1 =>
  fda P 69 x9_1 0 w fun x10_2 =>
  ld P 4 x10_2 w fun x11_3 =>
  nch a1 fun x13_4 =>
  fda P 69 x13_4 1 w fun x14_5 =>
  ld P 67 x14_5 w fun x15_6 =>
  call P f_impl_magLeft [x15_6, a2] w fun x17_7 w8 =>
  Ext w w8 ∧ call P f_impl_integer_put [a0, x11_3, x17_7] w8 fun x18_9 w10 =>
  K x18_9 w10
def P_impl_integer_Lsh : Plan := (.seq (.reg [.op (0, 0, false)]) (.seq (.reg [.op (0, 0, false), .op (1, 0, false), .op (2, 0, false), .op (3, 0, false), .op (4, 0, false), .op (5, 0, false), .op (6, 0, false), .op (7, 0, false), .op (8, 0, false), .op (9, 0, false), .op (10, 2, true), .op (11, 2, false), .op (12, 0, false)]) .leaf))
theorem I_impl_integer_Lsh {a0 a1 a2 : Value} {w : World} {K : Value → World → Prop} (h : D_impl_integer_Lsh a0 a1 a2 w K) : call P f_impl_integer_Lsh [a0, a1, a2] w K :=
  call_of_vc mixed Try.func63 (c := codeOf Try.f63) (by kernel_rfl) (by kernel_rfl) (p := P_impl_integer_Lsh) (by kernel_rfl) (by rw [Try.ntmps63]; simp) (by
    have e : D_impl_integer_Lsh a0 a1 a2 w K = vc P P_impl_integer_Lsh (codeOf Try.f63) (env0 [a0, a1, a2]) w (retX P Try.f63.results.toList K) := by kernel_rfl
    exact e ▸ h)

/-- (*impl.integer).SetInt64 -/
def D_impl_integer_SetInt64 (a0 a1 : Value) (w : World) (K : Value → World → Prop) : Prop :=
  cnv P 2 97 a1 w fun x7_1 =>
  ∃ J2 : Value → World → Prop, (∀ (x5_5 : Value) (junk3 : Env) (w4 : World), J2 x5_5 w4 →
    bin P .lss 2 false true a1 (.int .i64 0) w4 fun x14_6 =>
    cnv P 97 103 x5_5 w4 fun x16_7 =>
    bin P .shr 97 false true x5_5 (.int .u64 32) w4 fun x18_8 =>
    cnv P 97 103 x18_8 w4 fun x19_9 =>
    bsl P 67 2 [(0, x16_7), (1, x19_9)] w4 fun x20_10 w11 =>
    call P f_impl_integer_put [a0, x14_6, x20_10] w11 fun x21_12 w13 =>
    K x21_12 w13) ∧
    (bin P .lss 2 false true a1 (.int .i64 0) w fun x9_14 =>
    cnd x9_14
      (una P .neg x7_1 w fun x11_15 =>
      J2 x11_15 w)
      (J2 x7_1 w))
def P_impl_integer_SetInt64 : Plan := (.seq (.reg [.op (0, 0, false)]) (.seq (.reg [.op (0, 0, false), .op (1, 0, false), .op (2, 0, false)]) (.cut [5] 3872 (.seq (.reg [.op (0, 0, false), .op (1, 0, false)]) (.cond (.reg [.op (0, 0, false), .op (1, 0, false), .op (2, 0, false)]) .leaf)) (.seq (.reg [.op (0, 0, false), .op (1, 0, false), .op (2, 0, false), .op (3, 0, false), .op (4, 0, false), .op (5, 0, false), .op (6, 0, false), .op (7, 0, false), .op (8, 2, false), .op (9, 2, false), .op (10, 0, false)]) .leaf))))
theorem I_impl_integer_SetInt64 {a0 a1 : Value} {w : World} {K : Value → World → Prop} (h : D_impl_integer_SetInt64 a0 a1 w K) : call P f_impl_integer_SetInt64 [a0, a1] w K :=
  call_of_vc mixed Try.func64 (c := codeOf Try.f64) (by kernel_rfl) (by kernel_rfl) (p := P_impl_integer_SetInt64) (by kernel_rfl) (by rw [Try.ntmps64]; simp) (by
    have e : D_impl_integer_SetInt64 a0 a1 w K = vc P P_impl_integer_SetInt64 (codeOf Try.f64) (env0 [a0, a1]) w (retX P Try.f64.results.toList K) := by kernel_rfl
    exact e ▸ h)

/-- (*impl.integer).put -/
def D_impl_integer_put (a0 a1 a2 : Value) (w : World) (K : Value → World → Prop) : Prop :=
  call P f_impl_magTrim [a2] w fun x9_1 w2 =>
  nch a0 fun x10_3 =>
  fda P 69 x10_3 1 w2 fun x11_4 =>
  sto P 67 x11_4 x9_1 w2 fun w6 =>
  ∃ J7 : Value → World → Prop, (∀ (x20_8 : Value) (junk10 : Env) (w9 : World), J7 x20_8 w9 →
    pick a1 x20_8 (.bool false) fun x21_11 =>
    nch a0 fun x22_12 =>
    fda P 69 x22_12 0 w9 fun x23_13 =>
    sto P 4 x23_13 x21_11 w9 fun w15 =>
    K a0 w15) ∧
    grd a1 true
      (nch a0 fun x16_16 =>
      fda P 69 x16_16 1 w6 fun x17_17 =>
      ld P 67 x17_17 w6 fun x18_18 =>
      bl0 P .len #[67] 3 [x18_18] w6 fun x19_19 =>
      bin P .gtr 3 false true x19_19 (.int .i64 0) w6 fun x20_20 =>
      J7 x20_20 w6)
      (J7 undef w6)
def P_impl_integer_put : Plan := (.seq (.reg [.op (0, 0, false)]) (.seq (.reg [.op (0, 0, false), .op (1, 0, false), .op (2, 2, false), .op (3, 0, false), .op (4, 0, false), .op (5, 2, false)]) (.seq (.reg [.op (0, 0, false), .op (1, 0, false), .op (2, 0, false), .grp 2 true [(3, 0, false), (4, 0, false), (5, 0, false), (6, 0, false), (7, 0, false), (8, 0, false)] [20] 2064384, .op (9, 0, false), .op (10, 0, false), .op (11, 0, false), .op (12, 2, false)]) (.seq (.reg [.op (0, 0, false), .op (1, 0, false)]) .leaf))))
theorem I_impl_integer_put {a0 a1 a2 : Value} {w : World} {K : Value → World → Prop} (h : D_impl_integer_put a0 a1 a2 w K) : call P f_impl_integer_put [a0, a1, a2] w K :=
  call_of_vc mixed Try.func65 (c := codeOf Try.f65) (by kernel_rfl) (by kernel_rfl) (p := P_impl_integer_put) (by kernel_rfl) (by rw [Try.ntmps65]; simp) (by
    have e : D_impl_integer_put a0 a1 a2 w K = vc P P_impl_integer_put (codeOf Try.f65) (env0 [a0, a1, a2]) w (retX P Try.f65.results.toList K) := by kernel_rfl
    exact e ▸ h)

/-- impl.magMul -/
def D_impl_magMul (a0 a1 : Value) (w : World) (K : Value → World → Prop) : Prop :=
  bl0 P .len #[67] 3 [a0] w fun x12_1 =>
  bl0 P .len #[67] 3 [a1] w fun x14_2 =>
  bin P .add 3 false false x12_1 x14_2 w fun x15_3 =>
  mks P 67 x15_3 x15_3 w fun x16_4 w5 =>
  bl0 P .len #[67] 3 [a0] w5 fun x18_6 =>
  ∃ I7 : Nat → Value → World → Prop, (∃ m53, I7 m53 (.int .i64 0) w5) ∧ ∀ (m10 : Nat) (x19_11 : Value) (junk8 : Env) (w9 : World), I7 m10 x19_11 w9 →
    bin P .lss 3 false false x19_11 x18_6 w9 fun x20_12 =>
    cnd x20_12
      (ixa P 67 a0 x19_11 w9 fun x22_13 =>
      ld P 103 x22_13 w9 fun x23_14 =>
      bl0 P .len #[67] 3 [a1] w9 fun x25_15 =>
      ∃ I16 : Nat → Value → Value → World → Prop, (∃ m50, I16 m50 (.int .u64 0) (.int .i64 0) w9) ∧ ∀ (m19 : Nat) (x8_20 : Value) (x26_21 : Value) (junk17 : Env) (w18 : World), I16 m19 x8_20 x26_21 w18 →
        bin P .lss 3 false false x26_21 x25_15 w18 fun x27_22 =>
        cnd x27_22
          (ixa P 67 a1 x26_21 w18 fun x29_23 =>
          ld P 103 x29_23 w18 fun x30_24 =>
          cnv P 103 97 x23_14 w18 fun x33_25 =>
          cnv P 103 97 x30_24 w18 fun x35_26 =>
          bin P .mul 97 false false x33_25 x35_26 w18 fun x36_27 =>
          bin P .add 3 false false x19_11 x26_21 w18 fun x40_28 =>
          ixa P 67 x16_4 x40_28 w18 fun x41_29 =>
          ld P 103 x41_29 w18 fun x42_30 =>
          cnv P 103 97 x42_30 w18 fun x43_31 =>
          bin P .add 97 false false x36_27 x43_31 w18 fun x44_32 =>
          bin P .add 97 false false x8_20 x44_32 w18 fun x45_33 =>
          bin P .add 3 false false x19_11 x26_21 w18 fun x49_34 =>
          cnv P 97 103 x45_33 w18 fun x51_35 =>
          ixa P 67 x16_4 x49_34 w18 fun x52_36 =>
          sto P 103 x52_36 x51_35 w18 fun w38 =>
          bin P .shr 97 false true x45_33 (.int .u64 32) w38 fun x54_39 =>
          bin P .add 3 false true x26_21 (.int .i64 1) w38 fun x55_40 =>
          ∃ m41, m41 < m19 ∧ I16 m41 x54_39 x55_40 w38)
          (bl0 P .len #[67] 3 [a1] w18 fun x59_42 =>
          bin P .add 3 false false x19_11 x59_42 w18 fun x60_43 =>
          cnv P 97 103 x8_20 w18 fun x62_44 =>
          ixa P 67 x16_4 x60_43 w18 fun x63_45 =>
          sto P 103 x63_45 x62_44 w18 fun w47 =>
          bin P .add 3 false true x19_11 (.int .i64 1) w47 fun x64_48 =>
          ∃ m49, m49 < m10 ∧ I7 m49 x64_48 w47))
      (call P f_impl_magTrim [x16_4] w9 fun x66_51 w52 =>
      K x66_51 w52)
def P_impl_magMul : Plan := (.seq (.reg [.op (0, 0, false)]) (.seq (.reg [.op (0, 0, false), .op (1, 0, false), .op (2, 0, false), .op (3, 0, false), .op (4, 0, false), .op (5, 2, false), .op (6, 0, false)]) (.seq (.seq (.reg [.op (0, 0, false), .op (1, 0, false), .op (2, 0, false)]) (.blk (.loop [19] 36893488147418580928 (.seq (.reg [.op (0, 0, false)]) (.seq (.cond .leaf .leaf) (.seq (.blk (.seq (.reg [.op (0, 0, false), .op (1, 0, false), .op (2, 0, false), .op (3, 0, false), .op (4, 0, false)]) (.seq (.reg [.op (0, 0, false)]) (.seq (.seq (.reg [.op (0, 0, false), .op (1, 0, false), .op (2, 0, false)]) (.blk (.loop [8, 26] 72057593970820864 (.seq (.reg [.op (0, 0, false)]) (.seq (.cond .leaf .leaf) (.seq (.blk (.seq (.reg [.op (0, 0, false), .op (1, 0, false), .op (2, 0, false), .op (3, 0, false), .op (4, 0, false)]) (.seq (.reg [.op (0, 0, false), .op (1, 0, false), .op (2, 0, false), .op (3, 0, false), .op (4, 0, false), .op (5, 0, false), .op (6, 0, false), .op (7, 0, false), .op (8, 0, false), .op (9, 0, false), .op (10, 0, false), .op (11, 0, false), .op (12, 0, false), .op (13, 0, false), .op (14, 0, false), .op (15, 0, false)]) (.seq (.reg [.op (0, 0, false), .op (1, 0, false), .op (2, 0, false), .op (3, 0, false), .op (4, 0, false), .op (5, 0, false), .op (6, 0, false), .op (7, 2, false)]) (.reg [.op (0, 0, false), .op (1, 0, false), .op (2, 0, false)]))))) (.reg [.op (0, 0, false), .op (1, 0, false)]))))))) (.reg [.op (0, 0, false), .op (1, 0, false), .op (2, 0, false), .op (3, 0, false), .op (4, 0, false), .op (5, 0, false), .op (6, 0, false), .op (7, 0, false), .op (8, 2, false)]))))) (.reg [.op (0, 0, false), .op (1, 0, false)]))))))) (.seq (.reg [.op (0, 0, false), .op (1, 2, false), .op (2, 0, false)]) .leaf))))
theorem I_impl_magMul {a0 a1 : Value} {w : World} {K : Value → World → Prop} (h : D_impl_magMul a0 a1 w K) : call P f_impl_magMul [a0, a1] w K :=
  call_of_vc mixed Try.func66 (c := codeOf Try.f66) (by kernel_rfl) (by kernel_rfl) (p := P_impl_magMul) (by kernel_rfl) (by rw [Try.ntmps66]; simp) (by
    have e : D_impl_magMul a0 a1 w K = vc P P_impl_magMul (codeOf Try.f66) (env0 [a0, a1]) w (retX P Try.f66.results.toList K) := by kernel_rfl
    exact e ▸ h)

/-- (*impl.integer).plus -/
def D_impl_integer_plus (a0 a1 a2 a3 : Value) (w : World) (K : Value → World → Prop) : Prop :=
  nch a1 fun x11_1 =>
  fda P 69 x11_1 0 w fun x12_2 =>
  ld P 4 x12_2 w fun x13_3 =>
  bin P .eql 4 false false x13_3 a2 w fun x15_4 =>
  cnd x15_4
    (nch a1 fun x19_5 =>
    fda P 69 x19_5 1 w fun x20_6 =>
    ld P 67 x20_6 w fun x21_7 =>
    call P f_impl_magAdd [x21_7, a3] w fun x23_8 w9 =>
    call P f_impl_integer_put [a0, a2, x23_8] w9 fun x24_10 w11 =>
    K x24_10 w11)
    (nch a1 fun x27_12 =>
    fda P 69 x27_12 1 w fun x28_13 =>
    ld P 67 x28_13 w fun x29_14 =>
    call P f_impl_magCmp [x29_14, a3] w fun x31_15 w16 =>
    bin P .geq 3 false true x31_15 (.int .i64 0) w16 fun x32_17 =>
    cnd x32_17
      (nch a1 fun x35_18 =>
      fda P 69 x35_18 0 w16 fun x36_19 =>
      ld P 4 x36_19 w16 fun x37_20 =>
      nch a1 fun x39_21 =>
      fda P 69 x39_21 1 w16 fun x40_22 =>
      ld P 67 x40_22 w16 fun x41_23 =>
      call P f_impl_magSub [x41_23, a3] w16 fun x43_24 w25 =>
      Ext w16 w25 ∧ call P f_impl_integer_put [a0, x37_20, x43_24] w25 fun x44_26 w27 =>
      K x44_26 w27)
      (nch a1 fun x49_28 =>
      fda P 69 x49_28 1 w16 fun x50_29 =>
      ld P 67 x50_29 w16 fun x51_30 =>
      call P f_impl_magSub [a3, x51_30] w16 fun x52_31 w32 =>
      call P f_impl_integer_put [a0, a2, x52_31] w32 fun x53_33 w34 =>
      K x53_33 w34))
def P_impl_integer_plus : Plan := (.seq (.reg [.op (0, 0, false)]) (.seq (.blk (.seq (.reg [.op (0, 0, false), .op (1, 0, false), .op (2, 0, false), .op (3, 0, false), .op (4, 0, false), .op (5, 0, false), .op (6, 0, false)]) (.cond (.seq (.reg [.op (0, 0, false), .op (1, 0, false), .op (2, 0, false), .op (3, 0, false), .op (4, 0, false), .op (5, 0, false), .op (6, 0, false), .op (7, 2, false), .op (8, 2, false), .op (9, 0, false)]) .leaf) (.seq (.reg [.op (0, 0, false), .op (1, 0, false), .op (2, 0, false), .op (3, 0, false), .op (4, 0, false), .op (5, 2, false), .op (6, 0, false), .op (7, 0, false)]) (.cond (.seq (.reg [.op (0, 0, false), .op (1, 0, false), .op (2, 0, false), .op (3, 0, false), .op (4, 0, false), .op (5, 0, false), .op (6, 0, false), .op (7, 0, false), .op (8, 0, false), .op (9, 0, false), .op (10, 2, true), .op (11, 2, false), .op (12, 0, false)]) .leaf) .leaf))))) (.seq (.reg [.op (0, 0, false), .op (1, 0, false), .op (2, 0, false), .op (3, 0, false), .op (4, 0, false), .op (5, 0, false), .op (6, 0, false), .op (7, 2, false), .op (8, 2, false), .op (9, 0, false)]) .leaf)))
theorem I_impl_integer_plus {a0 a1 a2 a3 : Value} {w : World} {K : Value → World → Prop} (h : D_impl_integer_plus a0 a1 a2 a3 w K) : call P f_impl_integer_plus [a0, a1, a2, a3] w K :=
  call_of_vc mixed Try.func67 (c := codeOf Try.f67) (by kernel_rfl) (by kernel_rfl) (p := P_impl_integer_plus) (by kernel_rfl) (by rw [Try.ntmps67]; simp) (by
    have e : D_impl_integer_plus a0 a1 a2 a3 w K = vc P P_impl_integer_plus (codeOf Try.f67) (env0 [a0, a1, a2, a3]) w (retX P Try.f67.results.toList K) := by kernel_rfl
    exact e ▸ h)

/-- (*impl.integer).QuoRem -/
def D_impl_integer_QuoRem (a0 a1 a2 a3 : Value) (w : World) (K : Value → World → Prop) : Prop :=
  nch a1 fun x16_1 =>
  fda P 69 x16_1 1 w fun x17_2 =>
  ld P 67 x17_2 w fun x18_3 =>
  nch a2 fun x20_4 =>
  fda P 69 x20_4 1 w fun x21_5 =>
  ld P 67 x21_5 w fun x22_6 =>
  call P f_impl_magDiv [x18_3, x22_6] w fun x23_7 w8 =>
  xtr P x23_7 0 w8 fun x24_9 =>
  xtr P x23_7 1 w8 fun x25_10 =>
  nch a1 fun x27_11 =>
  fda P 69 x27_11 0 w8 fun x28_12 =>
  ld P 4 x28_12 w8 fun x29_13 =>
  nch a1 fun x31_14 =>
  fda P 69 x31_14 0 w8 fun x32_15 =>
  ld P 4 x32_15 w8 fun x33_16 =>
  nch a2 fun x35_17 =>
  fda P 69 x35_17 0 w8 fun x36_18 =>
  ld P 4 x36_18 w8 fun x37_19 =>
  bin P .neq 4 false false x33_16 x37_19 w8 fun x38_20 =>
  call P f_impl_integer_put [a3, x29_13, x25_10] w8 fun x42_21 w22 =>
  call P f_impl_integer_put [a0, x38_20, x24_9] w22 fun x46_23 w24 =>
  K (.tuple #[x46_23, a3]) w24
def P_impl_integer_QuoRem : Plan := (.seq (.reg [.op (0, 0, false), .op (1, 0, false)]) (.seq (.reg [.op (0, 0, false), .op (1, 0, false), .op (2, 0, false), .op (3, 0, false), .op (4, 0, false), .op (5, 0, false), .op (6, 0, false), .op (7, 0, false), .op (8, 2, false), .op (9, 0, false), .op (10, 0, false), .op (11, 0, false), .op (12, 0, false), .op (13, 0, false)]) (.seq (.reg [.op (0, 0, false), .op (1, 0, false), .op (2, 0, false), .op (3, 0, false), .op (4, 0, false), .op (5, 0, false), .op (6, 0, false), .op (7, 0, false), .op (8, 0, false), .op (9, 0, false), .op (10, 0, false), .op (11, 0, false), .op (12, 0, false), .op (13, 0, false), .op (14, 0, false)]) (.seq (.reg [.op (0, 0, false), .op (1, 0, false), .op (2, 0, false), .op (3, 2, false)]) (.seq (.reg [.op (0, 0, false), .op (1, 0, false), .op (2, 0, false), .op (3, 2, false), .op (4, 0, false), .op (5, 0, false), .op (6, 0, false)]) .leaf)))))
theorem I_impl_integer_QuoRem {a0 a1 a2 a3 : Value} {w : World} {K : Value → World → Prop} (h : D_impl_integer_QuoRem a0 a1 a2 a3 w K) : call P f_impl_integer_QuoRem [a0, a1, a2, a3] w K :=
  call_of_vc mixed Try.func68 (c := codeOf Try.f68) (by kernel_rfl) (by kernel_rfl) (p := P_impl_integer_QuoRem) (by kernel_rfl) (by rw [Try.ntmps68]; simp) (by
    have e : D_impl_integer_QuoRem a0 a1 a2 a3 w K = vc P P_impl_integer_QuoRem (codeOf Try.f68) (env0 [a0, a1, a2, a3]) w (retX P Try.f68.results.toList K) := by kernel_rfl
    exact e ▸ h)

/-- (*impl.integer).Neg -/
def D_impl_integer_Neg (a0 a1 : Value) (w : World) (K : Value → World → Prop) : Prop :=
  nch a1 fun x7_1 =>
  fda P 69 x7_1 0 w fun x8_2 =>
  ld P 4 x8_2 w fun x9_3 =>
  una P .not x9_3 w fun x10_4 =>
  nch a1 fun x12_5 =>
  fda P 69 x12_5 1 w fun x13_6 =>
  ld P 67 x13_6 w fun x14_7 =>
  call P f_slices_Clone_uint32_uint32 [x14_7] w fun x15_8 w9 =>
  Ext w w9 ∧ call P f_impl_integer_put [a0, x10_4, x15_8] w9 fun x16_10 w11 =>
  K x16_10 w11
def P_impl_integer_Neg : Plan := (.seq (.reg [.op (0, 0, false)]) (.seq (.reg [.op (0, 0, false), .op (1, 0, false), .op (2, 0, false), .op (3, 0, false), .op (4, 0, false), .op (5, 0, false), .op (6, 0, false), .op (7, 0, false), .op (8, 0, false), .op (9, 0, false), .op (10, 2, true), .op (11, 2, false), .op (12, 0, false)]) .leaf))
theorem I_impl_integer_Neg {a0 a1 : Value} {w : World} {K : Value → World → Prop} (h : D_impl_integer_Neg a0 a1 w K) : call P f_impl_integer_Neg [a0, a1] w K :=
  call_of_vc mixed Try.func69 (c := codeOf Try.f69) (by kernel_rfl) (by kernel_rfl) (p := P_impl_integer_Neg) (by kernel_rfl) (by rw [Try.ntmps69]; simp) (by
    have e : D_impl_integer_Neg a0 a1 w K = vc P P_impl_integer_Neg (codeOf Try.f69) (env0 [a0, a1]) w (retX P Try.f69.results.toList K) := by kernel_rfl
    exact e ▸ h)

/-- (*impl.integer).TrailingZeroBits -/
def D_impl_integer_TrailingZeroBits (a0 : Value) (w : World) (K : Value → World → Prop) : Prop :=
  ∃ I1 : Nat → Value → World → Prop, (∃ m20, I1 m20 (.int .i64 0) w) ∧ ∀ (m4 : Nat) (x3_5 : Value) (junk2 : Env) (w3 : World), I1 m4 x3_5 w3 →
    call P f_impl_integer_BitLen [a0] w3 fun x6_6 w7 =>
    bin P .lss 3 false false x3_5 x6_6 w7 fun x7_8 =>
    ∃ J9 : Value → World → Prop, (∀ (x12_10 : Value) (junk12 : Env) (w11 : World), J9 x12_10 w11 →
      pick x7_8 x12_10 (.bool false) fun x13_13 =>
      cnd x13_13
        (bin P .add 3 false true x3_5 (.int .i64 1) w11 fun x15_14 =>
        ∃ m15, m15 < m4 ∧ I1 m15 x15_14 w11)
        (cnv P 3 54 x3_5 w11 fun x17_16 =>
        K x17_16 w11)) ∧
      grd x7_8 true
        (call P f_impl_integer_Bit [a0, x3_5] w7 fun x11_17 w18 =>
        bin P .eql 54 false true x11_17 (.int .u64 0) w18 fun x12_19 =>
        J9 x12_19 w18)
        (J9 undef w7)
def P_impl_integer_TrailingZeroBits : Plan := (.seq (.reg [.op (0, 0, false)]) (.seq (.reg [.op (0, 0, false)]) (.seq (.blk (.loop [3] 65528 (.seq (.seq (.reg [.op (0, 0, false), .op (1, 0, false), .op (2, 2, false), .op (3, 0, false), .op (4, 0, false), .grp 4 true [(5, 0, false), (6, 0, false), (7, 2, false), (8, 0, false)] [12] 7680, .op (9, 0, false)]) (.cond .leaf .leaf)) (.blk (.reg [.op (0, 0, false), .op (1, 0, false), .op (2, 0, false)]))))) (.seq (.reg [.op (0, 0, false), .op (1, 0, false), .op (2, 0, false)]) .leaf))))
theorem I_impl_integer_TrailingZeroBits {a0 : Value} {w : World} {K : Value → World → Prop} (h : D_impl_integer_TrailingZeroBits a0 w K) : call P f_impl_integer_TrailingZeroBits [a0] w K :=
  call_of_vc mixed Try.func71 (c := codeOf Try.f71) (by kernel_rfl) (by kernel_rfl) (p := P_impl_integer_TrailingZeroBits) (by kernel_rfl) (by rw [Try.ntmps71]; simp) (by
    have e : D_impl_integer_TrailingZeroBits a0 w K = vc P P_impl_integer_TrailingZeroBits (codeOf Try.f71) (env0 [a0]) w (retX P Try.f71.results.toList K) := by kernel_rfl
    exact e ▸ h)

/-- (*impl.integer).Rsh -/
def D_impl_integer_Rsh (a0 a1 a2 : Value) (w : World) (K : Value → World → Prop) : Prop :=
  nch a1 fun x9_1 =>
  fda P 69 x9_1 0 w fun x10_2 =>
  ld P 4 x10_2 w fun x11_3 =>
  una P .not x11_3 w fun x12_4 =>
  cnd x12_4
    (nch a1 fun x15_5 =>
    fda P 69 x15_5 1 w fun x16_6 =>
    ld P 67 x16_6 w fun x17_7 =>
    call P f_impl_magRight [x17_7, a2] w fun x19_8 w9 =>
    call P f_impl_integer_put [a0, (.bool false), x19_8] w9 fun x20_10 w11 =>
    K x20_10 w11)
    (nch a1 fun x22_12 =>
    fda P 69 x22_12 1 w fun x23_13 =>
    ld P 67 x23_13 w fun x24_14 =>
    bsl P 67 1 [(0, (.int .u32 1))] w fun x25_15 w16 =>
    call P f_impl_magSub [x24_14, x25_15] w16 fun x26_17 w18 =>
    call P f_impl_magRight [x26_17, a2] w18 fun x30_19 w20 =>
    bsl P 67 1 [(0, (.int .u32 1))] w20 fun x31_21 w22 =>
    call P f_impl_magAdd [x30_19, x31_21] w22 fun x32_23 w24 =>
    call P f_impl_integer_put [a0, (.bool true), x32_23] w24 fun x33_25 w26 =>
    K x33_25 w26)
def P_impl_integer_Rsh : Plan := (.seq (.reg [.op (0, 0, false)]) (.seq (.seq (.reg [.op (0, 0, false), .op (1, 0, false), .op (2, 0, false), .op (3, 0, false), .op (4, 0, false)]) (.cond (.seq (.reg [.op (0, 0, false), .op (1, 0, false), .op (2, 0, false), .op (3, 0, false), .op (4, 0, false), .op (5, 0, false), .op (6, 2, false), .op (7, 2, false), .op (8, 0, false)]) .leaf) .leaf)) (.seq (.reg [.op (0, 0, false), .op (1, 0, false), .op (2, 0, false), .op (3, 0, false), .op (4, 2, false), .op (5, 2, false), .op (6, 0, false)]) (.seq (.reg [.op (0, 0, false), .op (1, 0, false), .op (2, 0, false), .op (3, 2, false), .op (4, 2, false), .op (5, 2, false), .op (6, 2, false), .op (7, 0, false)]) .leaf))))
theorem I_impl_integer_Rsh {a0 a1 a2 : Value} {w : World} {K : Value → World → Prop} (h : D_impl_integer_Rsh a0 a1 a2 w K) : call P f_impl_integer_Rsh [a0, a1, a2] w K :=
  call_of_vc mixed Try.func72 (c := codeOf Try.f72) (by kernel_rfl) (by kernel_rfl) (p := P_impl_integer_Rsh) (by kernel_rfl) (by rw [Try.ntmps72]; simp) (by
    have e : D_impl_integer_Rsh a0 a1 a2 w K = vc P P_impl_integer_Rsh (codeOf Try.f72) (env0 [a0, a1, a2]) w (retX P Try.f72.results.toList K) := by kernel_rfl
    exact e ▸ h)

/-- (*impl.integer).BitLen -/
def D_impl_integer_BitLen (a0 : Value) (w : World) (K : Value → World → Prop) : Prop :=
  nch a0 fun x4_1 =>
  fda P 69 x4_1 1 w fun x5_2 =>
  ld P 67 x5_2 w fun x6_3 =>
  call P f_impl_magBits [x6_3] w fun x7_4 w5 =>
  K x7_4 w5
def P_impl_integer_BitLen : Plan := (.seq (.reg [.op (0, 0, false)]) (.seq (.reg [.op (0, 0, false), .op (1, 0, false), .op (2, 0, false), .op (3, 0, false), .op (4, 2, false), .op (5, 0, false)]) .leaf))
theorem I_impl_integer_BitLen {a0 : Value} {w : World} {K : Value → World → Prop} (h : D_impl_integer_BitLen a0 w K) : call P f_impl_integer_BitLen [a0] w K :=
  call_of_vc mixed Try.func73 (c := codeOf Try.f73) (by kernel_rfl) (by kernel_rfl) (p := P_impl_integer_BitLen) (by kernel_rfl) (by rw [Try.ntmps73]; simp) (by
    have e : D_impl_integer_BitLen a0 w K = vc P P_impl_integer_BitLen (codeOf Try.f73) (env0 [a0]) w (retX P Try.f73.results.toList K) := by kernel_rfl
    exact e ▸ h)

/-- (*impl.integer).Abs -/
def D_impl_integer_Abs (a0 a1 : Value) (w : World) (K : Value → World → Prop) : Prop :=
  nch a1 fun x7_1 =>
  fda P 69 x7_1 1 w fun x8_2 =>
  ld P 67 x8_2 w fun x9_3 =>
  call P f_slices_Clone_uint32_uint32 [x9_3] w fun x10_4 w5 =>
  call P f_impl_integer_put [a0, (.bool false), x10_4] w5 fun x11_6 w7 =>
  K x11_6 w7
def P_impl_integer_Abs : Plan := (.seq (.reg [.op (0, 0, false)]) (.seq (.reg [.op (0, 0, false), .op (1, 0, false), .op (2, 0, false), .op (3, 0, false), .op (4, 0, false), .op (5, 2, false), .op (6, 2, false), .op (7, 0, false)]) .leaf))
theorem I_impl_integer_Abs {a0 a1 : Value} {w : World} {K : Value → World → Prop} (h : D_impl_integer_Abs a0 a1 w K) : call P f_impl_integer_Abs [a0, a1] w K :=
  call_of_vc mixed Try.func74 (c := codeOf Try.f74) (by kernel_rfl) (by kernel_rfl) (p := P_impl_integer_Abs) (by kernel_rfl) (by rw [Try.ntmps74]; simp) (by
    have e : D_impl_integer_Abs a0 a1 w K = vc P P_impl_integer_Abs (codeOf Try.f74) (env0 [a0, a1]) w (retX P Try.f74.results.toList K) := by kernel_rfl
    exact e ▸ h)

/-- (*impl.integer).And -/
def D_impl_integer_And (a0 a1 a2 : Value) (w : World) (K : Value → World → Prop) : Prop :=
  bsl P 67 0 [] w fun x9_1 w2 =>
  nch a1 fun x11_3 =>
  fda P 69 x11_3 1 w2 fun x12_4 =>
  ld P 67 x12_4 w2 fun x13_5 =>
  bl0 P .len #[67] 3 [x13_5] w2 fun x14_6 =>
  nch a2 fun x16_7 =>
  fda P 69 x16_7 1 w2 fun x17_8 =>
  ld P 67 x17_8 w2 fun x18_9 =>
  bl0 P .len #[67] 3 [x18_9] w2 fun x19_10 =>
  bl0 P .min #[3, 3] 3 [x14_6, x19_10] w2 fun x20_11 =>
  ∃ I12 : Nat → Value → Value → World → Prop, (∃ m38, I12 m38 x9_1 (.int .i64 0) w2) ∧ ∀ (m15 : Nat) (x7_16 : Value) (x21_17 : Value) (junk13 : Env) (w14 : World), I12 m15 x7_16 x21_17 w14 →
    bin P .lss 3 false false x21_17 x20_11 w14 fun x22_18 =>
    cnd x22_18
      (nch a1 fun x26_19 =>
      fda P 69 x26_19 1 w14 fun x27_20 =>
      ld P 67 x27_20 w14 fun x28_21 =>
      ixa P 67 x28_21 x21_17 w14 fun x30_22 =>
      ld P 103 x30_22 w14 fun x31_23 =>
      nch a2 fun x33_24 =>
      fda P 69 x33_24 1 w14 fun x34_25 =>
      ld P 67 x34_25 w14 fun x35_26 =>
      ixa P 67 x35_26 x21_17 w14 fun x37_27 =>
      ld P 103 x37_27 w14 fun x38_28 =>
      bin P .and 103 false false x31_23 x38_28 w14 fun x39_29 =>
      bsl P 67 1 [(0, x39_29)] w14 fun x40_30 w31 =>
      bl2 P .append #[67, 67] 67 [x7_16, x40_30] w31 fun x41_32 w33 =>
      bin P .add 3 false true x21_17 (.int .i64 1) w33 fun x42_34 =>
      ∃ m35, m35 < m15 ∧ I12 m35 x41_32 x42_34 w33)
      (call P f_impl_integer_put [a0, (.bool false), x7_16] w14 fun x45_36 w37 =>
      K x45_36 w37)
def P_impl_integer_And : Plan := (.seq (.reg [.op (0, 0, false)]) (.seq (.reg [.op (0, 2, false), .op (1, 0, false)]) (.seq (.seq (.reg [.op (0, 0, false), .op (1, 0, false), .op (2, 0, false), .op (3, 0, false), .op (4, 0, false), .op (5, 0, false), .op (6, 0, false), .op (7, 0, false), .op (8, 0, false), .op (9, 0, false), .op (10, 0, false), .op (11, 0, false)]) (.blk (.loop [7, 21] 8796090925440 (.seq (.reg [.op (0, 0, false)]) (.seq (.cond .leaf .leaf) (.seq (.blk (.seq (.reg [.op (0, 0, false), .op (1, 0, false)]) (.reg [.op (0, 0, false), .op (1, 0, false), .op (2, 0, false), .op (3, 0, false), .op (4, 0, false), .op (5, 0, false), .op (6, 0, false), .op (7, 0, false), .op (8, 0, false), .op (9, 0, false), .op (10, 0, false), .op (11, 0, false), .op (12, 0, false), .op (13, 0, false), .op (14, 0, false), .op (15, 0, false), .op (16, 2, false), .op (17, 2, false), .op (18, 0, false)]))) (.reg [.op (0, 0, false), .op (1, 0, false)]))))))) (.seq (.reg [.op (0, 0, false), .op (1, 0, false), .op (2, 2, false), .op (3, 0, false)]) .leaf))))
theorem I_impl_integer_And {a0 a1 a2 : Value} {w : World} {K : Value → World → Prop} (h : D_impl_integer_And a0 a1 a2 w K) : call P f_impl_integer_And [a0, a1, a2] w K :=
  call_of_vc mixed Try.func75 (c := codeOf Try.f75) (by kernel_rfl) (by kernel_rfl) (p := P_impl_integer_And) (by kernel_rfl) (by rw [Try.ntmps75]; simp) (by
    have e : D_impl_integer_And a0 a1 a2 w K = vc P P_impl_integer_And (codeOf Try.f75) (env0 [a0, a1, a2]) w (retX P Try.f75.results.toList K) := by kernel_rfl
    exact e ▸ h)

/-- (*impl.integer).Int64 -/
def D_impl_integer_Int64 (a0 : Value) (w : World) (K : Value → World → Prop) : Prop :=
  nch a0 fun x4_1 =>
  fda P 69 x4_1 0 w fun x5_2 =>
  ld P 4 x5_2 w fun x6_3 =>
  cnd x6_3
    (call P f_impl_integer_low [a0] w fun x8_4 w5 =>
    cnv P 97 2 x8_4 w5 fun x9_6 =>
    una P .neg x9_6 w5 fun x10_7 =>
    K x10_7 w5)
    (call P f_impl_integer_low [a0] w fun x12_8 w9 =>
    cnv P 97 2 x12_8 w9 fun x13_10 =>
    K x13_10 w9)
def P_impl_integer_Int64 : Plan := (.seq (.reg [.op (0, 0, false)]) (.seq (.seq (.reg [.op (0, 0, false), .op (1, 0, false), .op (2, 0, false), .op (3, 0, false)]) (.cond (.seq (.reg [.op (0, 0, false), .op (1, 2, false), .op (2, 0, false), .op (3, 0, false), .op (4, 0, false)]) .leaf) .leaf)) (.seq (.reg [.op (0, 0, false), .op (1, 2, false), .op (2, 0, false), .op (3, 0, false)]) .leaf)))
theorem I_impl_integer_Int64 {a0 : Value} {w : World} {K : Value → World → Prop} (h : D_impl_integer_Int64 a0 w K) : call P f_impl_integer_Int64 [a0] w K :=
  call_of_vc mixed Try.func76 (c := codeOf Try.f76) (by kernel_rfl) (by kernel_rfl) (p := P_impl_integer_Int64) (by kernel_rfl) (by rw [Try.ntmps76]; simp) (by
    have e : D_impl_integer_Int64 a0 w K = vc P P_impl_integer_Int64 (codeOf Try.f76) (env0 [a0]) w (retX P Try.f76.results.toList K) := by kernel_rfl
    exact e ▸ h)

/-- impl.magLeft -/
def D_impl_magLeft (a0 a1 : Value) (w : World) (K : Value → World → Prop) : Prop :=
  bl0 P .len #[67] 3 [a0] w fun x10_1 =>
  bin P .eql 3 false true x10_1 (.int .i64 0) w fun x11_2 =>
  cnd x11_2
    (K (.slice none 0 0) w)
    (bin P .quo 54 false true a1 (.int .u64 32) w fun x13_3 =>
    cnv P 54 3 x13_3 w fun x14_4 =>
    bl0 P .len #[67] 3 [a0] w fun x16_5 =>
    bin P .add 3 false false x14_4 x16_5 w fun x17_6 =>
    bin P .add 3 false true x17_6 (.int .i64 1) w fun x18_7 =>
    mks P 67 x18_7 x18_7 w fun x19_8 w9 =>
    bl0 P .len #[67] 3 [a0] w9 fun x21_10 =>
    ∃ I11 : Nat → Value → World → Prop, (∃ m45, I11 m45 (.int .i64 0) w9) ∧ ∀ (m14 : Nat) (x22_15 : Value) (junk12 : Env) (w13 : World), I11 m14 x22_15 w13 →
      bin P .lss 3 false false x22_15 x21_10 w13 fun x23_16 =>
      cnd x23_16
        (ixa P 67 a0 x22_15 w13 fun x25_17 =>
        ld P 103 x25_17 w13 fun x26_18 =>
        cnv P 103 97 x26_18 w13 fun x28_19 =>
        bin P .rem 54 false true a1 (.int .u64 32) w13 fun x30_20 =>
        bin P .shl 97 false false x28_19 x30_20 w13 fun x31_21 =>
        bin P .quo 54 false true a1 (.int .u64 32) w13 fun x34_22 =>
        cnv P 54 3 x34_22 w13 fun x35_23 =>
        bin P .add 3 false false x35_23 x22_15 w13 fun x37_24 =>
        ixa P 67 x19_8 x37_24 w13 fun x38_25 =>
        ld P 103 x38_25 w13 fun x39_26 =>
        cnv P 97 103 x31_21 w13 fun x41_27 =>
        bin P .or 103 false false x39_26 x41_27 w13 fun x42_28 =>
        ixa P 67 x19_8 x37_24 w13 fun x43_29 =>
        sto P 103 x43_29 x42_28 w13 fun w31 =>
        bin P .quo 54 false true a1 (.int .u64 32) w31 fun x46_32 =>
        cnv P 54 3 x46_32 w31 fun x47_33 =>
        bin P .add 3 false false x47_33 x22_15 w31 fun x49_34 =>
        bin P .add 3 false true x49_34 (.int .i64 1) w31 fun x50_35 =>
        bin P .shr 97 false true x31_21 (.int .u64 32) w31 fun x52_36 =>
        cnv P 97 103 x52_36 w31 fun x53_37 =>
        ixa P 67 x19_8 x50_35 w31 fun x54_38 =>
        sto P 103 x54_38 x53_37 w31 fun w40 =>
        bin P .add 3 false true x22_15 (.int .i64 1) w40 fun x55_41 =>
        ∃ m42, m42 < m14 ∧ I11 m42 x55_41 w40)
        (call P f_impl_magTrim [x19_8] w13 fun x57_43 w44 =>
        K x57_43 w44))
def P_impl_magLeft : Plan := (.seq (.reg [.op (0, 0, false)]) (.seq (.seq (.reg [.op (0, 0, false), .op (1, 0, false), .op (2, 0, false)]) (.cond (.seq (.reg [.op (0, 0, false)]) .leaf) .leaf)) (.seq (.reg [.op (0, 0, false), .op (1, 0, false), .op (2, 0, false), .op (3, 0, false), .op (4, 0, false), .op (5, 0, false), .op (6, 0, false), .op (7, 2, false), .op (8, 0, false)]) (.seq (.seq (.reg [.op (0, 0, false), .op (1, 0, false), .op (2, 0, false)]) (.blk (.loop [22] 72057594033734080 (.seq (.reg [.op (0, 0, false)]) (.seq (.cond .leaf .leaf) (.seq (.blk (.seq (.reg [.op (0, 0, false), .op (1, 0, false), .op (2, 0, false), .op (3, 0, false), .op (4, 0, false)]) (.seq (.reg [.op (0, 0, false), .op (1, 0, false), .op (2, 0, false), .op (3, 0, false), .op (4, 0, false), .op (5, 0, false)]) (.seq (.reg [.op (0, 0, false), .op (1, 0, false), .op (2, 0, false), .op (3, 0, false), .op (4, 0, false), .op (5, 0, false), .op (6, 0, false), .op (7, 0, false), .op (8, 0, false), .op (9, 0, false), .op (10, 0, false), .op (11, 0, false), .op (12, 2, false)]) (.reg [.op (0, 0, false), .op (1, 0, false), .op (2, 0, false), .op (3, 0, false), .op (4, 0, false), .op (5, 0, false), .op (6, 0, false), .op (7, 0, false), .op (8, 0, false), .op (9, 0, false), .op (10, 0, false), .op (11, 2, false)]))))) (.reg [.op (0, 0, false), .op (1, 0, false)]))))))) (.seq (.reg [.op (0, 0, false), .op (1, 2, false), .op (2, 0, false)]) .leaf)))))
theorem I_impl_magLeft {a0 a1 : Value} {w : World} {K : Value → World → Prop} (h : D_impl_magLeft a0 a1 w K) : call P f_impl_magLeft [a0, a1] w K :=
  call_of_vc mixed Try.func85 (c := codeOf Try.f85) (by kernel_rfl) (by kernel_rfl) (p := P_impl_magLeft) (by kernel_rfl) (by rw [Try.ntmps85]; simp) (by
    have e : D_impl_magLeft a0 a1 w K = vc P P_impl_magLeft (codeOf Try.f85) (env0 [a0, a1]) w (retX P Try.f85.results.toList K) := by kernel_rfl
    exact e ▸ h)

/-- impl.magTrim -/
def D_impl_magTrim (a0 : Value) (w : World) (K : Value → World → Prop) : Prop :=
  ∃ I1 : Nat → Value → World → Prop, (∃ m22, I1 m22 a0 w) ∧ ∀ (m4 : Nat) (x0_5 : Value) (junk2 : Env) (w3 : World), I1 m4 x0_5 w3 →
    bl0 P .len #[67] 3 [x0_5] w3 fun x4_6 =>
    bin P .gtr 3 false true x4_6 (.int .i64 0) w3 fun x5_7 =>
    ∃ J8 : Value → World → Prop, (∀ (x13_9 : Value) (junk11 : Env) (w10 : World), J8 x13_9 w10 →
      pick x5_7 x13_9 (.bool false) fun x14_12 =>
      cnd x14_12
        (bl0 P .len #[67] 3 [x0_5] w10 fun x17_13 =>
        bin P .sub 3 false true x17_13 (.int .i64 1) w10 fun x18_14 =>
        sli P 67 x0_5 none (some x18_14) none w10 fun x19_15 =>
        ∃ m16, m16 < m4 ∧ I1 m16 x19_15 w10)
        (K x0_5 w10)) ∧
      grd x5_7 true
        (bl0 P .len #[67] 3 [x0_5] w3 fun x9_17 =>
        bin P .sub 3 false true x9_17 (.int .i64 1) w3 fun x10_18 =>
        ixa P 67 x0_5 x10_18 w3 fun x11_19 =>
        ld P 103 x11_19 w3 fun x12_20 =>
        bin P .eql 103 false true x12_20 (.int .u32 0) w3 fun x13_21 =>
        J8 x13_21 w3)
        (J8 undef w3)
def P_impl_magTrim : Plan := (.seq (.reg [.op (0, 0, false)]) (.seq (.blk (.loop [0] 1048569 (.seq (.seq (.reg [.op (0, 0, false), .op (1, 0, false), .op (2, 0, false), .op (3, 0, false), .grp 3 true [(4, 0, false), (5, 0, false), (6, 0, false), (7, 0, false), (8, 0, false), (9, 0, false), (10, 0, false)] [13] 16256, .op (11, 0, false)]) (.cond .leaf .leaf)) (.blk (.reg [.op (0, 0, false), .op (1, 0, false), .op (2, 0, false), .op (3, 0, false), .op (4, 0, false), .op (5, 0, false)]))))) (.seq (.reg [.op (0, 0, false), .op (1, 0, false)]) .leaf)))
theorem I_impl_magTrim {a0 : Value} {w : World} {K : Value → World → Prop} (h : D_impl_magTrim a0 w K) : call P f_impl_magTrim [a0] w K :=
  call_of_vc mixed Try.func86 (c := codeOf Try.f86) (by kernel_rfl) (by kernel_rfl) (p := P_impl_magTrim) (by kernel_rfl) (by rw [Try.ntmps86]; simp) (by
    have e : D_impl_magTrim a0 w K = vc P P_impl_magTrim (codeOf Try.f86) (env0 [a0]) w (retX P Try.f86.results.toList K) := by kernel_rfl
    exact e ▸ h)

/-- impl.magAdd -/
def D_impl_magAdd (a0 a1 : Value) (w : World) (K : Value → World → Prop) : Prop :=
  ∃ J1 : Value → Value → World → Prop, (∀ (x0_4 : Value) (x1_5 : Value) (junk2 : Env) (w3 : World), J1 x0_4 x1_5 w3 →
    bl0 P .len #[67] 3 [x0_4] w3 fun x17_6 =>
    bin P .add 3 false true x17_6 (.int .i64 1) w3 fun x18_7 =>
    mks P 67 x18_7 x18_7 w3 fun x19_8 w9 =>
    bl0 P .len #[67] 3 [x0_4] w9 fun x21_10 =>
    ∃ I11 : Nat → Value → Value → World → Prop, (∃ m46, I11 m46 (.int .u64 0) (.int .i64 0) w9) ∧ ∀ (m14 : Nat) (x6_15 : Value) (x22_16 : Value) (junk12 : Env) (w13 : World), I11 m14 x6_15 x22_16 w13 →
      bin P .lss 3 false false x22_16 x21_10 w13 fun x23_17 =>
      cnd x23_17
        (ixa P 67 x0_4 x22_16 w13 fun x25_18 =>
        ld P 103 x25_18 w13 fun x26_19 =>
        cnv P 103 97 x26_19 w13 fun x29_20 =>
        bin P .add 97 false false x6_15 x29_20 w13 fun x30_21 =>
        ∃ J22 : Value → World → Prop, (∀ (x6_25 : Value) (junk23 : Env) (w24 : World), J22 x6_25 w24 →
          cnv P 97 103 x6_25 w24 fun x45_26 =>
          ixa P 67 x19_8 x22_16 w24 fun x46_27 =>
          sto P 103 x46_27 x45_26 w24 fun w29 =>
          bin P .shr 97 false true x6_25 (.int .u64 32) w29 fun x48_30 =>
          bin P .add 3 false true x22_16 (.int .i64 1) w29 fun x49_31 =>
          ∃ m32, m32 < m14 ∧ I11 m32 x48_30 x49_31 w29) ∧
          (bl0 P .len #[67] 3 [x1_5] w13 fun x33_33 =>
          bin P .lss 3 false false x22_16 x33_33 w13 fun x34_34 =>
          cnd x34_34
            (ixa P 67 x1_5 x22_16 w13 fun x38_35 =>
            ld P 103 x38_35 w13 fun x39_36 =>
            cnv P 103 97 x39_36 w13 fun x40_37 =>
            bin P .add 97 false false x30_21 x40_37 w13 fun x41_38 =>
            J22 x41_38 w13)
            (J22 x30_21 w13)))
        (bl0 P .len #[67] 3 [x0_4] w13 fun x52_39 =>
        cnv P 97 103 x6_15 w13 fun x54_40 =>
        ixa P 67 x19_8 x52_39 w13 fun x55_41 =>
        sto P 103 x55_41 x54_40 w13 fun w43 =>
        call P f_impl_magTrim [x19_8] w43 fun x57_44 w45 =>
        K x57_44 w45)) ∧
    (bl0 P .len #[67] 3 [a0] w fun x10_47 =>
    bl0 P .len #[67] 3 [a1] w fun x12_48 =>
    bin P .lss 3 false false x10_47 x12_48 w fun x13_49 =>
    cnd x13_49
      (J1 a1 a0 w)
      (J1 a0 a1 w))
def P_impl_magAdd : Plan := (.seq (.reg [.op (0, 0, false)]) (.cut [0, 1] 65027 (.seq (.reg [.op (0, 0, false), .op (1, 0, false), .op (2, 0, false), .op (3, 0, false), .op (4, 0, false)]) (.cond (.reg [.op (0, 0, false), .op (1, 0, false), .op (2, 0, false), .op (3, 0, false)]) .leaf)) (.seq (.reg [.op (0, 0, false), .op (1, 0, false), .op (2, 0, false), .op (3, 2, false), .op (4, 0, false)]) (.seq (.reg [.op (0, 0, false)]) (.seq (.seq (.reg [.op (0, 0, false), .op (1, 0, false), .op (2, 0, false)]) (.blk (.loop [6, 22] 1125899902648768 (.seq (.reg [.op (0, 0, false)]) (.seq (.cond .leaf .leaf) (.seq (.blk (.seq (.reg [.op (0, 0, false), .op (1, 0, false), .op (2, 0, false), .op (3, 0, false), .op (4, 0, false)]) (.seq (.reg [.op (0, 0, false), .op (1, 0, false), .op (2, 0, false), .op (3, 0, false), .op (4, 0, false)]) (.cut [6] 4395899027520 (.seq (.reg [.op (0, 0, false), .op (1, 0, false), .op (2, 0, false), .op (3, 0, false)]) (.cond (.reg [.op (0, 0, false), .op (1, 0, false), .op (2, 0, false), .op (3, 0, false), .op (4, 0, false), .op (5, 0, false), .op (6, 0, false), .op (7, 0, false)]) .leaf)) (.seq (.reg [.op (0, 0, false), .op (1, 0, false), .op (2, 0, false), .op (3, 0, false), .op (4, 0, false), .op (5, 2, false)]) (.reg [.op (0, 0, false), .op (1, 0, false), .op (2, 0, false)])))))) (.reg [.op (0, 0, false), .op (1, 0, false)]))))))) (.seq (.reg [.op (0, 0, false), .op (1, 0, false), .op (2, 0, false), .op (3, 0, false), .op (4, 0, false), .op (5, 0, false), .op (6, 2, false)]) (.seq (.reg [.op (0, 0, false), .op (1, 2, false), .op (2, 0, false)]) .leaf)))))))
theorem I_impl_magAdd {a0 a1 : Value} {w : World} {K : Value → World → Prop} (h : D_impl_magAdd a0 a1 w K) : call P f_impl_magAdd [a0, a1] w K :=
  call_of_vc mixed Try.func87 (c := codeOf Try.f87) (by kernel_rfl) (by kernel_rfl) (p := P_impl_magAdd) (by kernel_rfl) (by rw [Try.ntmps87]; simp) (by
    have e : D_impl_magAdd a0 a1 w K = vc P P_impl_magAdd (codeOf Try.f87) (env0 [a0, a1]) w (retX P Try.f87.results.toList K) := by kernel_rfl
    exact e ▸ h)

/-- impl.magCmp -/
def D_impl_magCmp (a0 a1 : Value) (w : World) (K : Value → World → Prop) : Prop :=
  bl0 P .len #[67] 3 [a0] w fun x7_1 =>
  bl0 P .len #[67] 3 [a1] w fun x9_2 =>
  bin P .neq 3 false false x7_1 x9_2 w fun x10_3 =>
  cnd x10_3
    (bl0 P .len #[67] 3 [a0] w fun x12_4 =>
    bl0 P .len #[67] 3 [a1] w fun x14_5 =>
    call P f_cmp_Compare_int [x12_4, x14_5] w fun x15_6 w7 =>
    K x15_6 w7)
    (bl0 P .len #[67] 3 [a0] w fun x17_8 =>
    bin P .sub 3 false true x17_8 (.int .i64 1) w fun x18_9 =>
    ∃ I10 : Nat → Value → World → Prop, (∃ m29, I10 m29 x18_9 w) ∧ ∀ (m13 : Nat) (x5_14 : Value) (junk11 : Env) (w12 : World), I10 m13 x5_14 w12 →
      bin P .geq 3 false true x5_14 (.int .i64 0) w12 fun x20_15 =>
      cnd x20_15
        (ixa P 67 a0 x5_14 w12 fun x25_16 =>
        ld P 103 x25_16 w12 fun x26_17 =>
        ixa P 67 a1 x5_14 w12 fun x29_18 =>
        ld P 103 x29_18 w12 fun x30_19 =>
        bin P .neq 103 false false x26_17 x30_19 w12 fun x31_20 =>
        cnd x31_20
          (ixa P 67 a0 x5_14 w12 fun x34_21 =>
          ld P 103 x34_21 w12 fun x35_22 =>
          ixa P 67 a1 x5_14 w12 fun x38_23 =>
          ld P 103 x38_23 w12 fun x39_24 =>
          call P f_cmp_Compare_uint32 [x35_22, x39_24] w12 fun x40_25 w26 =>
          K x40_25 w26)
          (bin P .sub 3 false true x5_14 (.int .i64 1) w12 fun x22_27 =>
          ∃ m28, m28 < m13 ∧ I10 m28 x22_27 w12))
        (K (.int .i64 0) w12))
def P_impl_magCmp : Plan := (.seq (.reg [.op (0, 0, false)]) (.seq (.seq (.reg [.op (0, 0, false), .op (1, 0, false), .op (2, 0, false), .op (3, 0, false), .op (4, 0, false)]) (.cond (.seq (.reg [.op (0, 0, false), .op (1, 0, false), .op (2, 0, false), .op (3, 0, false), .op (4, 2, false), .op (5, 0, false)]) .leaf) .leaf)) (.seq (.seq (.reg [.op (0, 0, false), .op (1, 0, false), .op (2, 0, false), .op (3, 0, false)]) (.blk (.loop [5] 2199022731312 (.seq (.seq (.reg [.op (0, 0, false), .op (1, 0, false)]) (.cond .leaf .leaf)) (.seq (.blk (.seq (.reg [.op (0, 0, false), .op (1, 0, false), .op (2, 0, false), .op (3, 0, false), .op (4, 0, false), .op (5, 0, false), .op (6, 0, false), .op (7, 0, false), .op (8, 0, false)]) (.cond (.seq (.reg [.op (0, 0, false), .op (1, 0, false), .op (2, 0, false), .op (3, 0, false), .op (4, 0, false), .op (5, 0, false), .op (6, 0, false), .op (7, 0, false), .op (8, 2, false), .op (9, 0, false)]) .leaf) .leaf))) (.reg [.op (0, 0, false), .op (1, 0, false), .op (2, 0, false)])))))) (.seq (.reg [.op (0, 0, false)]) .leaf))))
theorem I_impl_magCmp {a0 a1 : Value} {w : World} {K : Value → World → Prop} (h : D_impl_magCmp a0 a1 w K) : call P f_impl_magCmp [a0, a1] w K :=
  call_of_vc mixed Try.func88 (c := codeOf Try.f88) (by kernel_rfl) (by kernel_rfl) (p := P_impl_magCmp) (by kernel_rfl) (by rw [Try.ntmps88]; simp) (by
    have e : D_impl_magCmp a0 a1 w K = vc P P_impl_magCmp (codeOf Try.f88) (env0 [a0, a1]) w (retX P Try.f88.results.toList K) := by kernel_rfl
    exact e ▸ h)

/-- impl.magSub -/
def D_impl_magSub (a0 a1 : Value) (w : World) (K : Value → World → Prop) : Prop :=
  bl0 P .len #[67] 3 [a0] w fun x12_1 =>
  mks P 67 x12_1 x12_1 w fun x13_2 w3 =>
  bl0 P .len #[67] 3 [a0] w3 fun x15_4 =>
  ∃ I5 : Nat → Value → Value → World → Prop, (∃ m35, I5 m35 (.int .u64 0) (.int .i64 0) w3) ∧ ∀ (m8 : Nat) (x6_9 : Value) (x16_10 : Value) (junk6 : Env) (w7 : World), I5 m8 x6_9 x16_10 w7 →
    bin P .lss 3 false false x16_10 x15_4 w7 fun x17_11 =>
    cnd x17_11
      (ixa P 67 a0 x16_10 w7 fun x19_12 =>
      ld P 103 x19_12 w7 fun x20_13 =>
      ∃ J14 : Value → World → Prop, (∀ (x9_17 : Value) (junk15 : Env) (w16 : World), J14 x9_17 w16 →
        cnv P 103 97 x20_13 w16 fun x34_18 =>
        bin P .sub 97 false false x34_18 x9_17 w16 fun x36_19 =>
        cnv P 97 103 x36_19 w16 fun x40_20 =>
        ixa P 67 x13_2 x16_10 w16 fun x41_21 =>
        sto P 103 x41_21 x40_20 w16 fun w23 =>
        bin P .shr 97 false true x36_19 (.int .u64 63) w23 fun x43_24 =>
        bin P .add 3 false true x16_10 (.int .i64 1) w23 fun x44_25 =>
        ∃ m26, m26 < m8 ∧ I5 m26 x43_24 x44_25 w23) ∧
        (bl0 P .len #[67] 3 [a1] w7 fun x24_27 =>
        bin P .lss 3 false false x16_10 x24_27 w7 fun x25_28 =>
        cnd x25_28
          (ixa P 67 a1 x16_10 w7 fun x29_29 =>
          ld P 103 x29_29 w7 fun x30_30 =>
          cnv P 103 97 x30_30 w7 fun x31_31 =>
          bin P .add 97 false false x6_9 x31_31 w7 fun x32_32 =>
          J14 x32_32 w7)
          (J14 x6_9 w7)))
      (call P f_impl_magTrim [x13_2] w7 fun x46_33 w34 =>
      K x46_33 w34)
def P_impl_magSub : Plan := (.seq (.reg [.op (0, 0, false)]) (.seq (.reg [.op (0, 0, false), .op (1, 0, false), .op (2, 2, false), .op (3, 0, false)]) (.seq (.reg [.op (0, 0, false)]) (.seq (.seq (.reg [.op (0, 0, false), .op (1, 0, false), .op (2, 0, false)]) (.blk (.loop [6, 16] 35184372025280 (.seq (.reg [.op (0, 0, false)]) (.seq (.cond .leaf .leaf) (.seq (.blk (.seq (.reg [.op (0, 0, false), .op (1, 0, false), .op (2, 0, false), .op (3, 0, false), .op (4, 0, false)]) (.seq (.reg [.op (0, 0, false), .op (1, 0, false)]) (.cut [9] 8585740800 (.seq (.reg [.op (0, 0, false), .op (1, 0, false), .op (2, 0, false), .op (3, 0, false)]) (.cond (.reg [.op (0, 0, false), .op (1, 0, false), .op (2, 0, false), .op (3, 0, false), .op (4, 0, false), .op (5, 0, false), .op (6, 0, false), .op (7, 0, false)]) .leaf)) (.seq (.reg [.op (0, 0, false), .op (1, 0, false), .op (2, 0, false), .op (3, 0, false), .op (4, 0, false)]) (.seq (.reg [.op (0, 0, false), .op (1, 0, false), .op (2, 0, false), .op (3, 0, false), .op (4, 0, false), .op (5, 2, false)]) (.reg [.op (0, 0, false), .op (1, 0, false), .op (2, 0, false)]))))))) (.reg [.op (0, 0, false), .op (1, 0, false)]))))))) (.seq (.reg [.op (0, 0, false), .op (1, 2, false), .op (2, 0, false)]) .leaf)))))
theorem I_impl_magSub {a0 a1 : Value} {w : World} {K : Value → World → Prop} (h : D_impl_magSub a0 a1 w K) : call P f_impl_magSub [a0, a1] w K :=
  call_of_vc mixed Try.func89 (c := codeOf Try.f89) (by kernel_rfl) (by kernel_rfl) (p := P_impl_magSub) (by kernel_rfl) (by rw [Try.ntmps89]; simp) (by
    have e : D_impl_magSub a0 a1 w K = vc P P_impl_magSub (codeOf Try.f89) (env0 [a0, a1]) w (retX P Try.f89.results.toList K) := by kernel_rfl
    exact e ▸ h)

/-- impl.magDiv -/
def D_impl_magDiv (a0 a1 : Value) (w : World) (K : Value → World → Prop) : Prop :=
  call P f_impl_magCmp [a0, a1] w fun x25_1 w2 =>
  bin P .lss 3 false true x25_1 (.int .i64 0) w2 fun x26_3 =>
  cnd x26_3
    (call P f_slices_Clone_uint32_uint32 [a0] w2 fun x28_4 w5 =>
    K (.tuple #[(.slice none 0 0), x28_4]) w5)
    (bl0 P .len #[67] 3 [a1] w2 fun x30_6 =>
    bin P .eql 3 false true x30_6 (.int .i64 1) w2 fun x31_7 =>
    cnd x31_7
      (bl0 P .len #[67] 3 [a0] w2 fun x33_8 =>
      mks P 67 x33_8 x33_8 w2 fun x34_9 w10 =>
      bl0 P .len #[67] 3 [a0] w10 fun x36_11 =>
      bin P .sub 3 false true x36_11 (.int .i64 1) w10 fun x37_12 =>
      ∃ I13 : Nat → Value → Value → World → Prop, (∃ m46, I13 m46 (.int .u64 0) x37_12 w10) ∧ ∀ (m16 : Nat) (x7_17 : Value) (x8_18 : Value) (junk14 : Env) (w15 : World), I13 m16 x7_17 x8_18 w15 →
        bin P .geq 3 false true x8_18 (.int .i64 0) w15 fun x39_19 =>
        cnd x39_19
          (bin P .shl 97 false true x7_17 (.int .u64 32) w15 fun x43_20 =>
          ixa P 67 a0 x8_18 w15 fun x46_21 =>
          ld P 103 x46_21 w15 fun x47_22 =>
          cnv P 103 97 x47_22 w15 fun x48_23 =>
          bin P .or 97 false false x43_20 x48_23 w15 fun x49_24 =>
          ixa P 67 a1 (.int .i64 0) w15 fun x54_25 =>
          ld P 103 x54_25 w15 fun x55_26 =>
          cnv P 103 97 x55_26 w15 fun x56_27 =>
          bin P .quo 97 false false x49_24 x56_27 w15 fun x57_28 =>
          cnv P 97 103 x57_28 w15 fun x58_29 =>
          ixa P 67 x34_9 x8_18 w15 fun x59_30 =>
          sto P 103 x59_30 x58_29 w15 fun w32 =>
          ixa P 67 a1 (.int .i64 0) w32 fun x62_33 =>
          ld P 103 x62_33 w32 fun x63_34 =>
          cnv P 103 97 x63_34 w32 fun x64_35 =>
          bin P .rem 97 false false x49_24 x64_35 w32 fun x65_36 =>
          bin P .sub 3 false true x8_18 (.int .i64 1) w32 fun x41_37 =>
          ∃ m38, m38 < m16 ∧ I13 m38 x65_36 x41_37 w32)
          (call P f_impl_magTrim [x34_9] w15 fun x67_39 w40 =>
          cnv P 97 103 x7_17 w40 fun x69_41 =>
          bsl P 67 1 [(0, x69_41)] w40 fun x70_42 w43 =>
          call P f_impl_magTrim [x70_42] w43 fun x71_44 w45 =>
          K (.tuple #[x67_39, x71_44]) w45))
      (bl0 P .len #[67] 3 [a1] w2 fun x73_47 =>
      bin P .mul 3 true false (.int .i64 32) x73_47 w2 fun x74_48 =>
      call P f_impl_magBits [a1] w2 fun x76_49 w50 =>
      bin P .sub 3 false false x74_48 x76_49 w50 fun x77_51 =>
      cnv P 3 54 x77_51 w50 fun x78_52 =>
      call P f_impl_magLeft [a1, x78_52] w50 fun x81_53 w54 =>
      call P f_impl_magLeft [a0, x78_52] w54 fun x84_55 w56 =>
      bsl P 67 1 [(0, (.int .u32 0))] w56 fun x85_57 w58 =>
      bl2 P .append #[67, 67] 67 [x84_55, x85_57] w58 fun x86_59 w60 =>
      ∃ I61 : Nat → Value → World → Prop, (∃ m232, I61 m232 x86_59 w60) ∧ ∀ (m64 : Nat) (x10_65 : Value) (junk62 : Env) (w63 : World), I61 m64 x10_65 w63 →
        bl0 P .len #[67] 3 [x10_65] w63 fun x88_66 =>
        bl0 P .len #[67] 3 [a0] w63 fun x90_67 =>
        bin P .leq 3 false false x88_66 x90_67 w63 fun x91_68 =>
        cnd x91_68
          (bsl P 67 1 [(0, (.int .u32 0))] w63 fun x93_69 w70 =>
          bl2 P .append #[67, 67] 67 [x10_65, x93_69] w70 fun x94_71 w72 =>
          ∃ m73, m73 < m64 ∧ I61 m73 x94_71 w72)
          (bl0 P .len #[67] 3 [x81_53] w63 fun x96_74 =>
          bl0 P .len #[67] 3 [x10_65] w63 fun x98_75 =>
          bin P .sub 3 false false x98_75 x96_74 w63 fun x100_76 =>
          mks P 67 x100_76 x100_76 w63 fun x101_77 w78 =>
          bl0 P .len #[67] 3 [x101_77] w78 fun x103_79 =>
          bin P .sub 3 false true x103_79 (.int .i64 1) w78 fun x104_80 =>
          ∃ I81 : Nat → Value → World → Prop, (∃ m231, I81 m231 x104_80 w78) ∧ ∀ (m84 : Nat) (x13_85 : Value) (junk82 : Env) (w83 : World), I81 m84 x13_85 w83 →
            bin P .geq 3 false true x13_85 (.int .i64 0) w83 fun x106_86 =>
            cnd x106_86
              (bin P .add 3 false false x13_85 x96_74 w83 fun x112_87 =>
              ixa P 67 x10_65 x112_87 w83 fun x113_88 =>
              ld P 103 x113_88 w83 fun x114_89 =>
              cnv P 103 97 x114_89 w83 fun x115_90 =>
              bin P .shl 97 false true x115_90 (.int .u64 32) w83 fun x116_91 =>
              bin P .add 3 false false x13_85 x96_74 w83 fun x120_92 =>
              bin P .sub 3 false true x120_92 (.int .i64 1) w83 fun x121_93 =>
              ixa P 67 x10_65 x121_93 w83 fun x122_94 =>
              ld P 103 x122_94 w83 fun x123_95 =>
              cnv P 103 97 x123_95 w83 fun x124_96 =>
              bin P .or 97 false false x116_91 x124_96 w83 fun x125_97 =>
              bin P .sub 3 false true x96_74 (.int .i64 1) w83 fun x129_98 =>
              ixa P 67 x81_53 x129_98 w83 fun x130_99 =>
              ld P 103 x130_99 w83 fun x131_100 =>
              cnv P 103 97 x131_100 w83 fun x132_101 =>
              bin P .quo 97 false false x125_97 x132_101 w83 fun x133_102 =>
              bin P .sub 3 false true x96_74 (.int .i64 1) w83 fun x137_103 =>
              ixa P 67 x81_53 x137_103 w83 fun x138_104 =>
              ld P 103 x138_104 w83 fun x139_105 =>
              cnv P 103 97 x139_105 w83 fun x140_106 =>
              bin P .rem 97 false false x125_97 x140_106 w83 fun x141_107 =>
              ∃ J108 : Value → World → Prop, (∀ (x15_111 : Value) (junk109 : Env) (w110 : World), J108 x15_111 w110 →
                ∃ I112 : Nat → Value → Value → Value → World → Prop, (∃ m188, I112 m188 (.int .u64 0) (.int .u64 0) (.int .i64 0) w110) ∧ ∀ (m115 : Nat) (x17_116 : Value) (x18_117 : Value) (x19_118 : Value) (junk113 : Env) (w114 : World), I112 m115 x17_116 x18_117 x19_118 w114 →
                  bin P .leq 3 false false x19_118 x96_74 w114 fun x182_119 =>
                  cnd x182_119
                    (∃ J120 : Value → World → Prop, (∀ (x17_123 : Value) (junk121 : Env) (w122 : World), J120 x17_123 w122 →
                      bin P .add 3 false false x13_85 x19_118 w122 fun x200_124 =>
                      ixa P 67 x10_65 x200_124 w122 fun x201_125 =>
                      ld P 103 x201_125 w122 fun x202_126 =>
                      cnv P 103 97 x202_126 w122 fun x203_127 =>
                      bin P .and 97 false true x17_123 (.int .u64 4294967295) w122 fun x205_128 =>
                      bin P .sub 97 false false x203_127 x205_128 w122 fun x206_129 =>
                      bin P .sub 97 false false x206_129 x18_117 w122 fun x208_130 =>
                      bin P .add 3 false false x13_85 x19_118 w122 fun x212_131 =>
                      cnv P 97 103 x208_130 w122 fun x214_132 =>
                      ixa P 67 x10_65 x212_131 w122 fun x215_133 =>
                      sto P 103 x215_133 x214_132 w122 fun w135 =>
                      bin P .shr 97 false true x208_130 (.int .u64 63) w135 fun x217_136 =>
                      bin P .shr 97 false true x17_123 (.int .u64 32) w135 fun x219_137 =>
                      bin P .add 3 false true x19_118 (.int .i64 1) w135 fun x184_138 =>
                      ∃ m139, m139 < m115 ∧ I112 m139 x219_137 x217_136 x184_138 w135) ∧
                      (bin P .lss 3 false false x19_118 x96_74 w114 fun x187_140 =>
                      cnd x187_140
                        (ixa P 67 x81_53 x19_118 w114 fun x192_141 =>
                        ld P 103 x192_141 w114 fun x193_142 =>
                        cnv P 103 97 x193_142 w114 fun x194_143 =>
                        bin P .mul 97 false false x15_111 x194_143 w114 fun x195_144 =>
                        bin P .add 97 false false x17_116 x195_144 w114 fun x196_145 =>
                        J120 x196_145 w114)
                        (J120 x17_116 w114)))
                    (∃ J146 : Value → World → Prop, (∀ (x15_149 : Value) (junk147 : Env) (w148 : World), J146 x15_149 w148 →
                      cnv P 97 103 x15_149 w148 fun x260_150 =>
                      ixa P 67 x101_77 x13_85 w148 fun x261_151 =>
                      sto P 103 x261_151 x260_150 w148 fun w153 =>
                      bin P .sub 3 false true x13_85 (.int .i64 1) w153 fun x108_154 =>
                      ∃ m155, m155 < m84 ∧ I81 m155 x108_154 w153) ∧
                      (bin P .gtr 97 false true x18_117 (.int .u64 0) w114 fun x221_156 =>
                      cnd x221_156
                        (bin P .sub 97 false true x15_111 (.int .u64 1) w114 fun x223_157 =>
                        ∃ I158 : Nat → Value → Value → World → Prop, (∃ m187, I158 m187 (.int .u64 0) (.int .i64 0) w114) ∧ ∀ (m161 : Nat) (x21_162 : Value) (x22_163 : Value) (junk159 : Env) (w160 : World), I158 m161 x21_162 x22_163 w160 →
                          bin P .leq 3 false false x22_163 x96_74 w160 fun x226_164 =>
                          cnd x226_164
                            (bin P .add 3 false false x13_85 x22_163 w160 fun x233_165 =>
                            ixa P 67 x10_65 x233_165 w160 fun x234_166 =>
                            ld P 103 x234_166 w160 fun x235_167 =>
                            cnv P 103 97 x235_167 w160 fun x236_168 =>
                            bin P .add 97 false false x21_162 x236_168 w160 fun x237_169 =>
                            ∃ J170 : Value → World → Prop, (∀ (x21_173 : Value) (junk171 : Env) (w172 : World), J170 x21_173 w172 →
                              bin P .add 3 false false x13_85 x22_163 w172 fun x251_174 =>
                              cnv P 97 103 x21_173 w172 fun x253_175 =>
                              ixa P 67 x10_65 x251_174 w172 fun x254_176 =>
                              sto P 103 x254_176 x253_175 w172 fun w178 =>
                              bin P .shr 97 false true x21_173 (.int .u64 32) w178 fun x256_179 =>
                              bin P .add 3 false true x22_163 (.int .i64 1) w178 fun x228_180 =>
                              ∃ m181, m181 < m161 ∧ I158 m181 x256_179 x228_180 w178) ∧
                              (bin P .lss 3 false false x22_163 x96_74 w160 fun x240_182 =>
                              cnd x240_182
                                (ixa P 67 x81_53 x22_163 w160 fun x244_183 =>
                                ld P 103 x244_183 w160 fun x245_184 =>
                                cnv P 103 97 x245_184 w160 fun x246_185 =>
                                bin P .add 97 false false x237_169 x246_185 w160 fun x247_186 =>
                                J170 x247_186 w160)
                                (J170 x237_169 w160)))
                            (J146 x223_157 w160))
                        (J146 x15_111 w114)))) ∧
                (∃ I189 : Nat → Value → Value → World → Prop, (∃ m224, I189 m224 x133_102 x141_107 w83) ∧ ∀ (m192 : Nat) (x15_193 : Value) (x16_194 : Value) (junk190 : Env) (w191 : World), I189 m192 x15_193 x16_194 w191 →
                  bin P .shr 97 false true x15_193 (.int .u64 32) w191 fun x143_195 =>
                  bin P .gtr 97 false true x143_195 (.int .u64 0) w191 fun x144_196 =>
                  ∃ J197 : Value → World → Prop, (∀ (x165_198 : Value) (junk200 : Env) (w199 : World), J197 x165_198 w199 →
                    pick x144_196 (.bool true) x165_198 fun x166_201 =>
                    cnd x166_201
                      (bin P .sub 97 false true x15_193 (.int .u64 1) w199 fun x168_202 =>
                      bin P .sub 3 false true x96_74 (.int .i64 1) w199 fun x172_203 =>
                      ixa P 67 x81_53 x172_203 w199 fun x173_204 =>
                      ld P 103 x173_204 w199 fun x174_205 =>
                      cnv P 103 97 x174_205 w199 fun x175_206 =>
                      bin P .add 97 false false x16_194 x175_206 w199 fun x176_207 =>
                      bin P .shr 97 false true x176_207 (.int .u64 32) w199 fun x178_208 =>
                      bin P .gtr 97 false true x178_208 (.int .u64 0) w199 fun x179_209 =>
                      cnd x179_209
                        (J108 x168_202 w199)
                        (∃ m210, m210 < m192 ∧ I189 m210 x168_202 x176_207 w199))
                      (J108 x15_193 w199)) ∧
                    grd x144_196 false
                      (bin P .sub 3 false true x96_74 (.int .i64 2) w191 fun x149_211 =>
                      ixa P 67 x81_53 x149_211 w191 fun x150_212 =>
                      ld P 103 x150_212 w191 fun x151_213 =>
                      cnv P 103 97 x151_213 w191 fun x152_214 =>
                      bin P .mul 97 false false x15_193 x152_214 w191 fun x153_215 =>
                      bin P .shl 97 false true x16_194 (.int .u64 32) w191 fun x155_216 =>
                      bin P .add 3 false false x13_85 x96_74 w191 fun x159_217 =>
                      bin P .sub 3 false true x159_217 (.int .i64 2) w191 fun x160_218 =>
                      ixa P 67 x10_65 x160_218 w191 fun x161_219 =>
                      ld P 103 x161_219 w191 fun x162_220 =>
                      cnv P 103 97 x162_220 w191 fun x163_221 =>
                      bin P .or 97 false false x155_216 x163_221 w191 fun x164_222 =>
                      bin P .gtr 97 false false x153_215 x164_222 w191 fun x165_223 =>
                      J197 x165_223 w191)
                      (J197 undef w191)))
              (call P f_impl_magTrim [x101_77] w83 fun x263_225 w226 =>
              call P f_impl_magTrim [x10_65] w226 fun x265_227 w228 =>
              call P f_impl_magRight [x265_227, x78_52] w228 fun x267_229 w230 =>
              K (.tuple #[x263_225, x267_229]) w230))))
def P_impl_magDiv : Plan := (.seq (.reg [.op (0, 0, false), .op (1, 0, false)]) (.seq (.seq (.reg [.op (0, 0, false), .op (1, 0, false), .op (2, 2, false), .op (3, 0, false)]) (.cond (.seq (.reg [.op (0, 0, false), .op (1, 2, false), .op (2, 0, false), .op (3, 0, false)]) .leaf) .leaf)) (.seq (.seq (.reg [.op (0, 0, false), .op (1, 0, false), .op (2, 0, false)]) (.cond (.seq (.reg [.op (0, 0, false), .op (1, 0, false), .op (2, 2, false), .op (3, 0, false), .op (4, 0, false)]) (.seq (.seq (.reg [.op (0, 0, false), .op (1, 0, false), .op (2, 0, false), .op (3, 0, false)]) (.blk (.loop [7, 8] 73786976019960299904 (.seq (.seq (.reg [.op (0, 0, false), .op (1, 0, false)]) (.cond .leaf .leaf)) (.seq (.blk (.seq (.reg [.op (0, 0, false), .op (1, 0, false), .op (2, 0, false), .op (3, 0, false), .op (4, 0, false), .op (5, 0, false), .op (6, 0, false), .op (7, 0, false), .op (8, 0, false)]) (.seq (.reg [.op (0, 0, false), .op (1, 0, false), .op (2, 0, false), .op (3, 0, false), .op (4, 0, false), .op (5, 0, false), .op (6, 0, false), .op (7, 0, false), .op (8, 0, false), .op (9, 0, false), .op (10, 2, false)]) (.reg [.op (0, 0, false), .op (1, 0, false), .op (2, 0, false), .op (3, 0, false), .op (4, 0, false), .op (5, 0, false), .op (6, 0, false)])))) (.reg [.op (0, 0, false), .op (1, 0, false), .op (2, 0, false)])))))) (.seq (.reg [.op (0, 0, false), .op (1, 2, false), .op (2, 0, false), .op (3, 0, false), .op (4, 2, false), .op (5, 2, false), .op (6, 0, false), .op (7, 0, false)]) .leaf))) .leaf)) (.seq (.reg [.op (0, 0, false), .op (1, 0, false), .op (2, 0, false), .op (3, 0, false), .op (4, 2, false), .op (5, 0, false), .op (6, 0, false), .op (7, 0, false)]) (.seq (.reg [.op (0, 0, false), .op (1, 0, false), .op (2, 2, false), .op (3, 0, false)]) (.seq (.reg [.op (0, 0, false), .op (1, 0, false), .op (2, 2, false), .op (3, 2, false), .op (4, 2, false), .op (5, 0, false)]) (.seq (.blk (.loop [10] 39459338752221496262409585664 (.seq (.seq (.reg [.op (0, 0, false), .op (1, 0, false), .op (2, 0, false), .op (3, 0, false), .op (4, 0, false)]) (.cond .leaf .leaf)) (.blk (.reg [.op (0, 0, false), .op (1, 2, false), .op (2, 2, false), .op (3, 0, false)]))))) (.seq (.reg [.op (0, 0, false), .op (1, 0, false), .op (2, 0, false)]) (.seq (.reg [.op (0, 0, false), .op (1, 0, false), .op (2, 0, false), .op (3, 0, false), .op (4, 2, false), .op (5, 0, false)]) (.seq (.seq (.reg [.op (0, 0, false), .op (1, 0, false), .op (2, 0, false), .op (3, 0, false)]) (.blk (.loop [13] 7410693711188236507108543040556026102609279018560431279317982035658545802764288 (.seq (.seq (.reg [.op (0, 0, false), .op (1, 0, false)]) (.cond .leaf .leaf)) (.seq (.blk (.seq (.reg [.op (0, 0, false), .op (1, 0, false), .op (2, 0, false), .op (3, 0, false), .op (4, 0, false), .op (5, 0, false), .op (6, 0, false), .op (7, 0, false), .op (8, 0, false), .op (9, 0, false), .op (10, 0, false), .op (11, 0, false), .op (12, 0, false), .op (13, 0, false), .op (14, 0, false), .op (15, 0, false), .op (16, 0, false), .op (17, 0, false)]) (.seq (.reg [.op (0, 0, false), .op (1, 0, false), .op (2, 0, false), .op (3, 0, false), .op (4, 0, false), .op (5, 0, false), .op (6, 0, false), .op (7, 0, false), .op (8, 0, false), .op (9, 0, false), .op (10, 0, false), .op (11, 0, false), .op (12, 0, false), .op (13, 0, false), .op (14, 0, false), .op (15, 0, false), .op (16, 0, false), .op (17, 0, false)]) (.cut [15] 1532495540860313672058714371364925254050577031807205376 (.blk (.loop [15, 16] 1532495540860313672058714371364925254050577031807205376 (.seq (.seq (.reg [.op (0, 0, false), .op (1, 0, false), .op (2, 0, false), .op (3, 0, false), .grp 3 false [(4, 0, false), (5, 0, false), (6, 0, false), (7, 0, false), (8, 0, false), (9, 0, false), (10, 0, false), (11, 0, false), (12, 0, false), (13, 0, false), (14, 0, false), (15, 0, false), (16, 0, false), (17, 0, false), (18, 0, false), (19, 0, false), (20, 0, false), (21, 0, false), (22, 0, false), (23, 0, false)] [165] 93536015586196992642543263150969022664533658828800, .op (24, 0, false)]) (.cond .leaf .leaf)) (.blk (.seq (.reg [.op (0, 0, false), .op (1, 0, false), .op (2, 0, false)]) (.seq (.reg [.op (0, 0, false), .op (1, 0, false), .op (2, 0, false), .op (3, 0, false), .op (4, 0, false), .op (5, 0, false), .op (6, 0, false), .op (7, 0, false), .op (8, 0, false)]) (.seq (.reg [.op (0, 0, false), .op (1, 0, false), .op (2, 0, false)]) (.cond .leaf .leaf)))))))) (.seq (.reg [.op (0, 0, false), .op (1, 0, false)]) (.seq (.seq (.reg [.op (0, 0, false)]) (.blk (.loop [17, 18, 19] 1684996666695382491625822554080368570075171217225167040946794004480 (.seq (.seq (.reg [.op (0, 0, false), .op (1, 0, false), .op (2, 0, false)]) (.cond .leaf .leaf)) (.seq (.blk (.cut [17] 200818215675066075999277794437776515421399574570939229274112 (.seq (.reg [.op (0, 0, false), .op (1, 0, false), .op (2, 0, false)]) (.cond (.reg [.op (0, 0, false), .op (1, 0, false), .op (2, 0, false), .op (3, 0, false), .op (4, 0, false), .op (5, 0, false), .op (6, 0, false), .op (7, 0, false), .op (8, 0, false), .op (9, 0, false)]) .leaf)) (.seq (.reg [.op (0, 0, false), .op (1, 0, false), .op (2, 0, false), .op (3, 0, false), .op (4, 0, false), .op (5, 0, false), .op (6, 0, false), .op (7, 0, false), .op (8, 0, false), .op (9, 0, false), .op (10, 0, false), .op (11, 0, false), .op (12, 0, false)]) (.seq (.reg [.op (0, 0, false), .op (1, 0, false), .op (2, 0, false), .op (3, 0, false), .op (4, 0, false), .op (5, 0, false), .op (6, 0, false), .op (7, 2, false)]) (.seq (.reg [.op (0, 0, false), .op (1, 0, false), .op (2, 0, false)]) (.reg [.op (0, 0, false), .op (1, 0, false), .op (2, 0, false)])))))) (.reg [.op (0, 0, false), .op (1, 0, false), .op (2, 0, false)])))))) (.cut [15] 231584178472947394180445055030209127263601242414178806552506382235757289963520 (.seq (.reg [.op (0, 0, false), .op (1, 0, false)]) (.cond (.seq (.reg [.op (0, 0, false), .op (1, 0, false), .op (2, 0, false)]) (.seq (.reg [.op (0, 0, false)]) (.seq (.reg [.op (0, 0, false)]) (.blk (.loop [21, 22] 231584178447672444179991330222708800619520338657643983656374595534722655322112 (.seq (.seq (.reg [.op (0, 0, false), .op (1, 0, false), .op (2, 0, false)]) (.cond .leaf .leaf)) (.seq (.blk (.seq (.reg [.op (0, 0, false), .op (1, 0, false), .op (2, 0, false), .op (3, 0, false), .op (4, 0, false), .op (5, 0, false), .op (6, 0, false), .op (7, 0, false), .op (8, 0, false), .op (9, 0, false)]) (.cut [21] 451871136817071792290928335815001410422879006625939548539600785980589604864 (.seq (.reg [.op (0, 0, false), .op (1, 0, false), .op (2, 0, false)]) (.cond (.reg [.op (0, 0, false), .op (1, 0, false), .op (2, 0, false), .op (3, 0, false), .op (4, 0, false), .op (5, 0, false), .op (6, 0, false), .op (7, 0, false)]) .leaf)) (.seq (.reg [.op (0, 0, false), .op (1, 0, false), .op (2, 0, false), .op (3, 0, false), .op (4, 0, false), .op (5, 0, false), .op (6, 0, false), .op (7, 2, false)]) (.reg [.op (0, 0, false), .op (1, 0, false), .op (2, 0, false)]))))) (.reg [.op (0, 0, false), .op (1, 0, false), .op (2, 0, false)])))))))) .leaf)) (.reg [.op (0, 0, false), .op (1, 0, false), .op (2, 0, false), .op (3, 0, false), .op (4, 0, false), .op (5, 2, false)])))))))) (.reg [.op (0, 0, false), .op (1, 0, false), .op (2, 0, false)])))))) (.seq (.reg [.op (0, 0, false), .op (1, 2, false), .op (2, 0, false), .op (3, 2, false), .op (4, 0, false), .op (5, 2, false), .op (6, 0, false), .op (7, 0, false)]) .leaf)))))))))))
theorem I_impl_magDiv {a0 a1 : Value} {w : World} {K : Value → World → Prop} (h : D_impl_magDiv a0 a1 w K) : call P f_impl_magDiv [a0, a1] w K :=
  call_of_vc mixed Try.func90 (c := codeOf Try.f90) (by kernel_rfl) (by kernel_rfl) (p := P_impl_magDiv) (by kernel_rfl) (by rw [Try.ntmps90]; simp) (by
    have e : D_impl_magDiv a0 a1 w K = vc P P_impl_magDiv (codeOf Try.f90) (env0 [a0, a1]) w (retX P Try.f90.results.toList K) := by kernel_rfl
    exact e ▸ h)

/-- (*impl.integer).Bit -/
def D_impl_integer_Bit (a0 a1 : Value) (w : World) (K : Value → World → Prop) : Prop :=
  bin P .quo 3 false true a1 (.int .i64 32) w fun x6_1 =>
  nch a0 fun x8_2 =>
  fda P 69 x8_2 1 w fun x9_3 =>
  ld P 67 x9_3 w fun x10_4 =>
  bl0 P .len #[67] 3 [x10_4] w fun x11_5 =>
  bin P .geq 3 false false x6_1 x11_5 w fun x12_6 =>
  cnd x12_6
    (K (.int .u64 0) w)
    (nch a0 fun x14_7 =>
    fda P 69 x14_7 1 w fun x15_8 =>
    ld P 67 x15_8 w fun x16_9 =>
    bin P .quo 3 false true a1 (.int .i64 32) w fun x18_10 =>
    ixa P 67 x16_9 x18_10 w fun x19_11 =>
    ld P 103 x19_11 w fun x20_12 =>
    bin P .rem 3 false true a1 (.int .i64 32) w fun x22_13 =>
    bin P .shr 103 false false x20_12 x22_13 w fun x23_14 =>
    bin P .and 103 false true x23_14 (.int .u32 1) w fun x24_15 =>
    cnv P 103 54 x24_15 w fun x25_16 =>
    K x25_16 w)
def P_impl_integer_Bit : Plan := (.seq (.reg [.op (0, 0, false)]) (.seq (.seq (.reg [.op (0, 0, false), .op (1, 0, false), .op (2, 0, false), .op (3, 0, false), .op (4, 0, false), .op (5, 0, false), .op (6, 0, false), .op (7, 0, false)]) (.cond (.seq (.reg [.op (0, 0, false)]) .leaf) .leaf)) (.seq (.reg [.op (0, 0, false), .op (1, 0, false), .op (2, 0, false), .op (3, 0, false), .op (4, 0, false), .op (5, 0, false), .op (6, 0, false), .op (7, 0, false), .op (8, 0, false), .op (9, 0, false), .op (10, 0, false), .op (11, 0, false), .op (12, 0, false), .op (13, 0, false)]) .leaf)))
theorem I_impl_integer_Bit {a0 a1 : Value} {w : World} {K : Value → World → Prop} (h : D_impl_integer_Bit a0 a1 w K) : call P f_impl_integer_Bit [a0, a1] w K :=
  call_of_vc mixed Try.func92 (c := codeOf Try.f92) (by kernel_rfl) (by kernel_rfl) (p := P_impl_integer_Bit) (by kernel_rfl) (by rw [Try.ntmps92]; simp) (by
    have e : D_impl_integer_Bit a0 a1 w K = vc P P_impl_integer_Bit (codeOf Try.f92) (env0 [a0, a1]) w (retX P Try.f92.results.toList K) := by kernel_rfl
    exact e ▸ h)

/-- impl.magRight -/
def D_impl_magRight (a0 a1 : Value) (w : World) (K : Value → World → Prop) : Prop :=
  bl0 P .len #[67] 3 [a0] w fun x10_1 =>
  cnv P 3 54 x10_1 w fun x11_2 =>
  bin P .quo 54 false true a1 (.int .u64 32) w fun x13_3 =>
  bin P .leq 54 false false x11_2 x13_3 w fun x14_4 =>
  cnd x14_4
    (K (.slice none 0 0) w)
    (bin P .quo 54 false true a1 (.int .u64 32) w fun x17_5 =>
    sli P 67 a0 (some x17_5) none none w fun x18_6 =>
    bl0 P .len #[67] 3 [x18_6] w fun x20_7 =>
    mks P 67 x20_7 x20_7 w fun x21_8 w9 =>
    bl0 P .len #[67] 3 [x18_6] w9 fun x23_10 =>
    ∃ I11 : Nat → Value → World → Prop, (∃ m43, I11 m43 (.int .i64 0) w9) ∧ ∀ (m14 : Nat) (x24_15 : Value) (junk12 : Env) (w13 : World), I11 m14 x24_15 w13 →
      bin P .lss 3 false false x24_15 x23_10 w13 fun x25_16 =>
      cnd x25_16
        (ixa P 67 x18_6 x24_15 w13 fun x27_17 =>
        ld P 103 x27_17 w13 fun x28_18 =>
        cnv P 103 97 x28_18 w13 fun x30_19 =>
        ∃ J20 : Value → World → Prop, (∀ (x8_23 : Value) (junk21 : Env) (w22 : World), J20 x8_23 w22 →
          bin P .rem 54 false true a1 (.int .u64 32) w22 fun x49_24 =>
          bin P .shr 97 false false x8_23 x49_24 w22 fun x50_25 =>
          cnv P 97 103 x50_25 w22 fun x51_26 =>
          ixa P 67 x21_8 x24_15 w22 fun x52_27 =>
          sto P 103 x52_27 x51_26 w22 fun w29 =>
          bin P .add 3 false true x24_15 (.int .i64 1) w29 fun x53_30 =>
          ∃ m31, m31 < m14 ∧ I11 m31 x53_30 w29) ∧
          (bin P .add 3 false true x24_15 (.int .i64 1) w13 fun x32_32 =>
          bl0 P .len #[67] 3 [x18_6] w13 fun x34_33 =>
          bin P .lss 3 false false x32_32 x34_33 w13 fun x35_34 =>
          cnd x35_34
            (bin P .add 3 false true x24_15 (.int .i64 1) w13 fun x39_35 =>
            ixa P 67 x18_6 x39_35 w13 fun x40_36 =>
            ld P 103 x40_36 w13 fun x41_37 =>
            cnv P 103 97 x41_37 w13 fun x42_38 =>
            bin P .shl 97 false true x42_38 (.int .u64 32) w13 fun x43_39 =>
            bin P .or 97 false false x30_19 x43_39 w13 fun x44_40 =>
            J20 x44_40 w13)
            (J20 x30_19 w13)))
        (call P f_impl_magTrim [x21_8] w13 fun x55_41 w42 =>
        K x55_41 w42))
def P_impl_magRight : Plan := (.seq (.reg [.op (0, 0, false)]) (.seq (.seq (.reg [.op (0, 0, false), .op (1, 0, false), .op (2, 0, false), .op (3, 0, false), .op (4, 0, false), .op (5, 0, false)]) (.cond (.seq (.reg [.op (0, 0, false)]) .leaf) .leaf)) (.seq (.reg [.op (0, 0, false), .op (1, 0, false), .op (2, 0, false), .op (3, 0, false), .op (4, 0, false)]) (.seq (.reg [.op (0, 0, false), .op (1, 0, false), .op (2, 2, false), .op (3, 0, false)]) (.seq (.seq (.reg [.op (0, 0, false), .op (1, 0, false), .op (2, 0, false)]) (.blk (.loop [24] 18014398492705216 (.seq (.reg [.op (0, 0, false)]) (.seq (.cond .leaf .leaf) (.seq (.blk (.seq (.reg [.op (0, 0, false), .op (1, 0, false), .op (2, 0, false), .op (3, 0, false), .op (4, 0, false)]) (.seq (.reg [.op (0, 0, false), .op (1, 0, false), .op (2, 0, false)]) (.cut [8] 35182224605440 (.seq (.reg [.op (0, 0, false), .op (1, 0, false), .op (2, 0, false), .op (3, 0, false), .op (4, 0, false)]) (.cond (.reg [.op (0, 0, false), .op (1, 0, false), .op (2, 0, false), .op (3, 0, false), .op (4, 0, false), .op (5, 0, false), .op (6, 0, false), .op (7, 0, false), .op (8, 0, false), .op (9, 0, false)]) .leaf)) (.reg [.op (0, 0, false), .op (1, 0, false), .op (2, 0, false), .op (3, 0, false), .op (4, 0, false), .op (5, 0, false), .op (6, 0, false), .op (7, 0, false), .op (8, 2, false)]))))) (.reg [.op (0, 0, false), .op (1, 0, false)]))))))) (.seq (.reg [.op (0, 0, false), .op (1, 2, false), .op (2, 0, false)]) .leaf))))))
theorem I_impl_magRight {a0 a1 : Value} {w : World} {K : Value → World → Prop} (h : D_impl_magRight a0 a1 w K) : call P f_impl_magRight [a0, a1] w K :=
  call_of_vc mixed Try.func93 (c := codeOf Try.f93) (by kernel_rfl) (by kernel_rfl) (p := P_impl_magRight) (by kernel_rfl) (by rw [Try.ntmps93]; simp) (by
    have e : D_impl_magRight a0 a1 w K = vc P P_impl_magRight (codeOf Try.f93) (env0 [a0, a1]) w (retX P Try.f93.results.toList K) := by kernel_rfl
    exact e ▸ h)

/-- impl.magBits -/
def D_impl_magBits (a0 : Value) (w : World) (K : Value → World → Prop) : Prop :=
  bl0 P .len #[67] 3 [a0] w fun x6_1 =>
  bin P .eql 3 false true x6_1 (.int .i64 0) w fun x7_2 =>
  cnd x7_2
    (K (.int .i64 0) w)
    (bl0 P .len #[67] 3 [a0] w fun x9_3 =>
    bin P .sub 3 false true x9_3 (.int .i64 1) w fun x10_4 =>
    bin P .mul 3 true false (.int .i64 32) x10_4 w fun x11_5 =>
    bl0 P .len #[67] 3 [a0] w fun x14_6 =>
    bin P .sub 3 false true x14_6 (.int .i64 1) w fun x15_7 =>
    ixa P 67 a0 x15_7 w fun x16_8 =>
    ld P 103 x16_8 w fun x17_9 =>
    ∃ I10 : Nat → Value → Value → World → Prop, (∃ m20, I10 m20 x11_5 x17_9 w) ∧ ∀ (m13 : Nat) (x3_14 : Value) (x4_15 : Value) (junk11 : Env) (w12 : World), I10 m13 x3_14 x4_15 w12 →
      bin P .gtr 103 false true x4_15 (.int .u32 0) w12 fun x19_16 =>
      cnd x19_16
        (bin P .add 3 false true x3_14 (.int .i64 1) w12 fun x23_17 =>
        bin P .shr 103 false true x4_15 (.int .u64 1) w12 fun x21_18 =>
        ∃ m19, m19 < m13 ∧ I10 m19 x23_17 x21_18 w12)
        (K x3_14 w12))
def P_impl_magBits : Plan := (.seq (.reg [.op (0, 0, false)]) (.seq (.seq (.reg [.op (0, 0, false), .op (1, 0, false), .op (2, 0, false)]) (.cond (.seq (.reg [.op (0, 0, false)]) .leaf) .leaf)) (.seq (.reg [.op (0, 0, false), .op (1, 0, false), .op (2, 0, false), .op (3, 0, false), .op (4, 0, false)]) (.seq (.seq (.reg [.op (0, 0, false), .op (1, 0, false), .op (2, 0, false), .op (3, 0, false), .op (4, 0, false), .op (5, 0, false), .op (6, 0, false)]) (.blk (.loop [3, 4] 16515096 (.seq (.seq (.reg [.op (0, 0, false), .op (1, 0, false)]) (.cond .leaf .leaf)) (.seq (.blk (.reg [.op (0, 0, false), .op (1, 0, false), .op (2, 0, false)])) (.reg [.op (0, 0, false), .op (1, 0, false), .op (2, 0, false)])))))) (.seq (.reg [.op (0, 0, false), .op (1, 0, false)]) .leaf)))))
theorem I_impl_magBits {a0 : Value} {w : World} {K : Value → World → Prop} (h : D_impl_magBits a0 w K) : call P f_impl_magBits [a0] w K :=
  call_of_vc mixed Try.func94 (c := codeOf Try.f94) (by kernel_rfl) (by kernel_rfl) (p := P_impl_magBits) (by kernel_rfl) (by rw [Try.ntmps94]; simp) (by
    have e : D_impl_magBits a0 w K = vc P P_impl_magBits (codeOf Try.f94) (env0 [a0]) w (retX P Try.f94.results.toList K) := by kernel_rfl
    exact e ▸ h)

/-- (*impl.integer).low -/
def D_impl_integer_low (a0 : Value) (w : World) (K : Value → World → Prop) : Prop :=
  nch a0 fun x6_1 =>
  fda P 69 x6_1 1 w fun x7_2 =>
  ld P 67 x7_2 w fun x8_3 =>
  bl0 P .len #[67] 3 [x8_3] w fun x9_4 =>
  bl0 P .min #[3, 3] 3 [x9_4, (.int .i64 2)] w fun x10_5 =>
  bin P .sub 3 false true x10_5 (.int .i64 1) w fun x11_6 =>
  ∃ I7 : Nat → Value → Value → World → Prop, (∃ m24, I7 m24 (.int .u64 0) x11_6 w) ∧ ∀ (m10 : Nat) (x3_11 : Value) (x4_12 : Value) (junk8 : Env) (w9 : World), I7 m10 x3_11 x4_12 w9 →
    bin P .geq 3 false true x4_12 (.int .i64 0) w9 fun x13_13 =>
    cnd x13_13
      (bin P .shl 97 false true x3_11 (.int .u64 32) w9 fun x17_14 =>
      nch a0 fun x19_15 =>
      fda P 69 x19_15 1 w9 fun x20_16 =>
      ld P 67 x20_16 w9 fun x21_17 =>
      ixa P 67 x21_17 x4_12 w9 fun x23_18 =>
      ld P 103 x23_18 w9 fun x24_19 =>
      cnv P 103 97 x24_19 w9 fun x25_20 =>
      bin P .or 97 false false x17_14 x25_20 w9 fun x26_21 =>
      bin P .sub 3 false true x4_12 (.int .i64 1) w9 fun x15_22 =>
      ∃ m23, m23 < m10 ∧ I7 m23 x26_21 x15_22 w9)
      (K x3_11 w9)
def P_impl_integer_low : Plan := (.seq (.reg [.op (0, 0, false)]) (.seq (.reg [.op (0, 0, false)]) (.seq (.seq (.reg [.op (0, 0, false), .op (1, 0, false), .op (2, 0, false), .op (3, 0, false), .op (4, 0, false), .op (5, 0, false), .op (6, 0, false), .op (7, 0, false)]) (.blk (.loop [3, 4] 134213656 (.seq (.seq (.reg [.op (0, 0, false), .op (1, 0, false)]) (.cond .leaf .leaf)) (.seq (.blk (.reg [.op (0, 0, false), .op (1, 0, false), .op (2, 0, false), .op (3, 0, false), .op (4, 0, false), .op (5, 0, false), .op (6, 0, false), .op (7, 0, false), .op (8, 0, false), .op (9, 0, false), .op (10, 0, false), .op (11, 0, false)])) (.reg [.op (0, 0, false), .op (1, 0, false), .op (2, 0, false)])))))) (.seq (.reg [.op (0, 0, false), .op (1, 0, false)]) .leaf))))
theorem I_impl_integer_low {a0 : Value} {w : World} {K : Value → World → Prop} (h : D_impl_integer_low a0 w K) : call P f_impl_integer_low [a0] w K :=
  call_of_vc mixed Try.func95 (c := codeOf Try.f95) (by kernel_rfl) (by kernel_rfl) (p := P_impl_integer_low) (by kernel_rfl) (by rw [Try.ntmps95]; simp) (by
    have e : D_impl_integer_low a0 w K = vc P P_impl_integer_low (codeOf Try.f95) (env0 [a0]) w (retX P Try.f95.results.toList K) := by kernel_rfl
    exact e ▸ h)

end Go.Proofs.Ytabgkpfcpncmhaa
