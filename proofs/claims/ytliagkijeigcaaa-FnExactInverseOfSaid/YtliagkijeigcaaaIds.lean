/- Written by a program (gen.py): the program's names. -/
import Derived.Test.YtliagkijeigcaaaProg
import Derived.Test.YtliagkijeigcaaaVcH
namespace Go.Proofs.Ytliagkijeigcaaa
open Go Go.Vc
noncomputable abbrev P : Program := Try.prog
theorem mixed : P.follows .mixedOrders = true := by kernel_rfl
def codeOf (f : Func) : Code := match f.body with
  | some c => c
  | none => .skip
abbrev f_laws_FnExactIsMatrix : FuncId := 3
abbrev f_laws_FnExactNewServer : FuncId := 4
abbrev f_laws_FnExactTimesVector : FuncId := 5
abbrev f_laws_FnExactTimesMatrix : FuncId := 6
abbrev f_laws_FnExactEliminationOf : FuncId := 7
abbrev f_laws_FnExactSolveSystem : FuncId := 8
abbrev f_laws_FnExactInverseOf : FuncId := 9
abbrev f_laws_szFloat32SS : FuncId := 10
abbrev f_spec_IsMatrix : FuncId := 11
abbrev f_laws_toFloat32SS : FuncId := 12
abbrev f_impl_IsMatrix : FuncId := 13
abbrev f_laws_eqFloat32SS : FuncId := 14
abbrev f_spec_NewServer : FuncId := 15
abbrev f_impl_NewServer : FuncId := 16
abbrev f_laws_eqServer : FuncId := 17
abbrev f_laws_markServer : FuncId := 18
abbrev f_laws_heldServer : FuncId := 19
abbrev f_spec_TimesVector : FuncId := 20
abbrev f_laws_toFloat32S : FuncId := 21
abbrev f_impl_TimesVector : FuncId := 22
abbrev f_laws_eqFloat32S : FuncId := 23
abbrev f_laws_markFloat32SS : FuncId := 24
abbrev f_laws_markFloat32S : FuncId := 25
abbrev f_laws_heldFloat32S : FuncId := 26
abbrev f_spec_TimesMatrix : FuncId := 27
abbrev f_impl_TimesMatrix : FuncId := 28
abbrev f_laws_heldFloat32SS : FuncId := 29
abbrev f_spec_EliminationOf : FuncId := 30
abbrev f_impl_EliminationOf : FuncId := 31
abbrev f_laws_eqElimination : FuncId := 32
abbrev f_laws_markElimination : FuncId := 33
abbrev f_laws_heldElimination : FuncId := 34
abbrev f_spec_SolveSystem : FuncId := 35
abbrev f_impl_SolveSystem : FuncId := 36
abbrev f_spec_InverseOf : FuncId := 37
abbrev f_impl_InverseOf : FuncId := 38
abbrev f_laws_szFloat32S : FuncId := 39
abbrev f_spec_l10Is : FuncId := 40
abbrev f_impl_areFinite : FuncId := 41
abbrev f_laws_eqStringS : FuncId := 42
abbrev f_laws_eqProgramS : FuncId := 43
abbrev f_laws_eqKeptS : FuncId := 44
abbrev f_laws_markStringS : FuncId := 45
abbrev f_laws_markProgramS : FuncId := 46
abbrev f_laws_markKeptS : FuncId := 47
abbrev f_laws_heldStringS : FuncId := 48
abbrev f_laws_heldProgramS : FuncId := 49
abbrev f_laws_heldKeptS : FuncId := 50
abbrev f_spec_l10Code : FuncId := 51
abbrev f_spec_l10Times : FuncId := 52
abbrev f_impl_isVector : FuncId := 53
abbrev f_impl_timesVector : FuncId := 54
abbrev f_laws_sameFloat : FuncId := 55
abbrev f_spec_l10Turn : FuncId := 56
abbrev f_impl_empty : FuncId := 57
abbrev f_impl_column : FuncId := 58
abbrev f_spec_l10Eliminate : FuncId := 59
abbrev f_impl_eliminate : FuncId := 60
abbrev f_laws_eqInt64S : FuncId := 61
abbrev f_laws_markInt64S : FuncId := 62
abbrev f_laws_heldInt64S : FuncId := 63
abbrev f_spec_l10Solve : FuncId := 64
abbrev f_impl_solve : FuncId := 65
abbrev f_spec_l10Inverse : FuncId := 66
abbrev f_impl_invert : FuncId := 67
abbrev f_spec_l10Vector : FuncId := 68
abbrev f_impl_isFinite : FuncId := 69
abbrev f_laws_eqProgram : FuncId := 70
abbrev f_laws_eqKept : FuncId := 71
abbrev f_laws_markText : FuncId := 72
abbrev f_spec_l01Finite : FuncId := 73
abbrev f_spec_l01Abs : FuncId := 74
abbrev f_impl_size : FuncId := 75
abbrev f_impl_solve_1 : FuncId := 76
abbrev f_spec_l10Unit : FuncId := 77
abbrev f_impl_unitColumn : FuncId := 78
abbrev f_math_Float32bits : FuncId := 79
noncomputable abbrev F_math_Float32bits : Func := Try.f79
theorem fun_math_Float32bits : P.funcs[f_math_Float32bits]? = some F_math_Float32bits := Try.func79
abbrev t_int64 : TypeId := 2
theorem u_int64 : P.underlying 2 = some (.int .i64) := Try.underlying2
theorem i_int64 : TI P 2 (.int .i64 0) 1 8 := TI_of (by kernel_rfl)
abbrev t_int : TypeId := 3
theorem u_int : P.underlying 3 = some (.int .i64) := Try.underlying3
theorem i_int : TI P 3 (.int .i64 0) 1 8 := TI_of (by kernel_rfl)
abbrev t_bool : TypeId := 4
theorem u_bool : P.underlying 4 = some (.bool) := Try.underlying4
theorem i_bool : TI P 4 (.bool false) 1 1 := TI_of (by kernel_rfl)
abbrev t_uint8 : TypeId := 5
theorem u_uint8 : P.underlying 5 = some (.int .u8) := Try.underlying5
theorem i_uint8 : TI P 5 (.int .u8 0) 1 1 := TI_of (by kernel_rfl)
abbrev t_string : TypeId := 9
theorem u_string : P.underlying 9 = some (.string) := Try.underlying9
theorem i_string : TI P 9 (.string ⟨#[]⟩) 1 16 := TI_of (by kernel_rfl)
abbrev t_uintptr : TypeId := 12
theorem u_uintptr : P.underlying 12 = some (.int .u64) := Try.underlying12
theorem i_uintptr : TI P 12 (.int .u64 0) 1 8 := TI_of (by kernel_rfl)
abbrev t_p_runtime_TypeAssertionError : TypeId := 15
theorem u_p_runtime_TypeAssertionError : P.underlying 15 = some (.pointer 91) := Try.underlying15
theorem i_p_runtime_TypeAssertionError : TI P 15 (.pointer none) 1 8 := TI_of (by kernel_rfl)
abbrev t_p_runtime_PanicNilError : TypeId := 16
theorem u_p_runtime_PanicNilError : P.underlying 16 = some (.pointer 94) := Try.underlying16
theorem i_p_runtime_PanicNilError : TI P 16 (.pointer none) 1 8 := TI_of (by kernel_rfl)
abbrev t_p_abi_Type : TypeId := 17
theorem u_p_abi_Type : P.underlying 17 = some (.pointer 103) := Try.underlying17
theorem i_p_abi_Type : TI P 17 (.pointer none) 1 8 := TI_of (by kernel_rfl)
abbrev t_int32 : TypeId := 21
theorem u_int32 : P.underlying 21 = some (.int .i32) := Try.underlying21
theorem i_int32 : TI P 21 (.int .i32 0) 1 4 := TI_of (by kernel_rfl)
abbrev t_s_s_float32 : TypeId := 22
theorem u_s_s_float32 : P.underlying 22 = some (.slice 36) := Try.underlying22
theorem i_s_s_float32 : TI P 22 (.slice none 0 0) 1 24 := TI_of (by kernel_rfl)
abbrev t_s_string : TypeId := 27
theorem u_s_string : P.underlying 27 = some (.slice 9) := Try.underlying27
theorem i_s_string : TI P 27 (.slice none 0 0) 1 24 := TI_of (by kernel_rfl)
abbrev t_s_impl_Program : TypeId := 28
theorem u_s_impl_Program : P.underlying 28 = some (.slice 77) := Try.underlying28
theorem i_s_impl_Program : TI P 28 (.slice none 0 0) 1 24 := TI_of (by kernel_rfl)
abbrev t_s_impl_Kept : TypeId := 29
theorem u_s_impl_Kept : P.underlying 29 = some (.slice 80) := Try.underlying29
theorem i_s_impl_Kept : TI P 29 (.slice none 0 0) 1 24 := TI_of (by kernel_rfl)
abbrev t_impl_Server : TypeId := 31
theorem u_impl_Server : P.underlying 31 = some (.struct #[{ name := "Names", type := 27, offset := 0, embedded := false, tag := "", pkgPath := "", byteOffset := 0 }, { name := "Programs", type := 28, offset := 1, embedded := false, tag := "", pkgPath := "", byteOffset := 24 }, { name := "Results", type := 29, offset := 2, embedded := false, tag := "", pkgPath := "", byteOffset := 48 }]) := Try.underlying31
theorem i_impl_Server : TI P 31 (.agg #[(.slice none 0 0), (.slice none 0 0), (.slice none 0 0)]) 3 72 := TI_of (by kernel_rfl)
abbrev t_s_float32 : TypeId := 36
theorem u_s_float32 : P.underlying 36 = some (.slice 63) := Try.underlying36
theorem i_s_float32 : TI P 36 (.slice none 0 0) 1 24 := TI_of (by kernel_rfl)
abbrev t_s_int64 : TypeId := 45
theorem u_s_int64 : P.underlying 45 = some (.slice 2) := Try.underlying45
theorem i_s_int64 : TI P 45 (.slice none 0 0) 1 24 := TI_of (by kernel_rfl)
abbrev t_impl_Elimination : TypeId := 47
theorem u_impl_Elimination : P.underlying 47 = some (.struct #[{ name := "Order", type := 45, offset := 0, embedded := false, tag := "", pkgPath := "", byteOffset := 0 }, { name := "Table", type := 22, offset := 1, embedded := false, tag := "", pkgPath := "", byteOffset := 24 }]) := Try.underlying47
theorem i_impl_Elimination : TI P 47 (.agg #[(.slice none 0 0), (.slice none 0 0)]) 2 48 := TI_of (by kernel_rfl)
abbrev t_float32 : TypeId := 63
theorem u_float32 : P.underlying 63 = some (.float .f32) := Try.underlying63
theorem i_float32 : TI P 63 (.float .f32 0) 1 4 := TI_of (by kernel_rfl)
abbrev t_float64 : TypeId := 66
theorem u_float64 : P.underlying 66 = some (.float .f64) := Try.underlying66
theorem i_float64 : TI P 66 (.float .f64 0) 1 8 := TI_of (by kernel_rfl)
abbrev t_impl_Program : TypeId := 77
theorem u_impl_Program : P.underlying 77 = some (.struct #[{ name := "Words", type := 27, offset := 0, embedded := false, tag := "", pkgPath := "", byteOffset := 0 }]) := Try.underlying77
theorem i_impl_Program : TI P 77 (.agg #[(.slice none 0 0)]) 1 24 := TI_of (by kernel_rfl)
abbrev t_impl_Kept : TypeId := 80
theorem u_impl_Kept : P.underlying 80 = some (.struct #[{ name := "Key", type := 9, offset := 0, embedded := false, tag := "", pkgPath := "", byteOffset := 0 }, { name := "Output", type := 9, offset := 1, embedded := false, tag := "", pkgPath := "", byteOffset := 16 }]) := Try.underlying80
theorem i_impl_Kept : TI P 80 (.agg #[(.string ⟨#[]⟩), (.string ⟨#[]⟩)]) 2 32 := TI_of (by kernel_rfl)
abbrev t_uint32 : TypeId := 85
theorem u_uint32 : P.underlying 85 = some (.int .u32) := Try.underlying85
theorem i_uint32 : TI P 85 (.int .u32 0) 1 4 := TI_of (by kernel_rfl)
abbrev t_uint : TypeId := 87
theorem u_uint : P.underlying 87 = some (.int .u64) := Try.underlying87
theorem i_uint : TI P 87 (.int .u64 0) 1 8 := TI_of (by kernel_rfl)
abbrev t_s_uint8 : TypeId := 88
theorem u_s_uint8 : P.underlying 88 = some (.slice 5) := Try.underlying88
theorem i_s_uint8 : TI P 88 (.slice none 0 0) 1 24 := TI_of (by kernel_rfl)
abbrev t_p_uint8 : TypeId := 99
theorem u_p_uint8 : P.underlying 99 = some (.pointer 5) := Try.underlying99
theorem i_p_uint8 : TI P 99 (.pointer none) 1 8 := TI_of (by kernel_rfl)
@[simp] theorem l_s_s_float32 {w : World} {K : Value → Prop} {ty : TypeId} (a : Option Addr) (n c : Nat) : bl0 P .len #[22] ty [.slice a n c] w K = K (.int .i64 n) := bl0_len u_s_s_float32
@[simp] theorem l_s_string {w : World} {K : Value → Prop} {ty : TypeId} (a : Option Addr) (n c : Nat) : bl0 P .len #[27] ty [.slice a n c] w K = K (.int .i64 n) := bl0_len u_s_string
@[simp] theorem l_s_impl_Program {w : World} {K : Value → Prop} {ty : TypeId} (a : Option Addr) (n c : Nat) : bl0 P .len #[28] ty [.slice a n c] w K = K (.int .i64 n) := bl0_len u_s_impl_Program
@[simp] theorem l_s_impl_Kept {w : World} {K : Value → Prop} {ty : TypeId} (a : Option Addr) (n c : Nat) : bl0 P .len #[29] ty [.slice a n c] w K = K (.int .i64 n) := bl0_len u_s_impl_Kept
@[simp] theorem d_impl_Server_0 {w : World} {K : Value → Prop} (a : Addr) : fda P 31 (.pointer (some a)) 0 w K = K (.pointer (some (a.add 0))) := fda_off (s := 1) u_impl_Server rfl i_s_string (by decide)
@[simp] theorem d_impl_Server_1 {w : World} {K : Value → Prop} (a : Addr) : fda P 31 (.pointer (some a)) 1 w K = K (.pointer (some (a.add 1))) := fda_off (s := 1) u_impl_Server rfl i_s_impl_Program (by decide)
@[simp] theorem d_impl_Server_2 {w : World} {K : Value → Prop} (a : Addr) : fda P 31 (.pointer (some a)) 2 w K = K (.pointer (some (a.add 2))) := fda_off (s := 1) u_impl_Server rfl i_s_impl_Kept (by decide)
@[simp] theorem l_s_float32 {w : World} {K : Value → Prop} {ty : TypeId} (a : Option Addr) (n c : Nat) : bl0 P .len #[36] ty [.slice a n c] w K = K (.int .i64 n) := bl0_len u_s_float32
@[simp] theorem l_s_int64 {w : World} {K : Value → Prop} {ty : TypeId} (a : Option Addr) (n c : Nat) : bl0 P .len #[45] ty [.slice a n c] w K = K (.int .i64 n) := bl0_len u_s_int64
@[simp] theorem d_impl_Elimination_0 {w : World} {K : Value → Prop} (a : Addr) : fda P 47 (.pointer (some a)) 0 w K = K (.pointer (some (a.add 0))) := fda_off (s := 1) u_impl_Elimination rfl i_s_int64 (by decide)
@[simp] theorem d_impl_Elimination_1 {w : World} {K : Value → Prop} (a : Addr) : fda P 47 (.pointer (some a)) 1 w K = K (.pointer (some (a.add 1))) := fda_off (s := 1) u_impl_Elimination rfl i_s_s_float32 (by decide)
@[simp] theorem d_impl_Program_0 {w : World} {K : Value → Prop} (a : Addr) : fda P 77 (.pointer (some a)) 0 w K = K (.pointer (some (a.add 0))) := fda_off (s := 1) u_impl_Program rfl i_s_string (by decide)
@[simp] theorem d_impl_Kept_0 {w : World} {K : Value → Prop} (a : Addr) : fda P 80 (.pointer (some a)) 0 w K = K (.pointer (some (a.add 0))) := fda_off (s := 1) u_impl_Kept rfl i_string (by decide)
@[simp] theorem d_impl_Kept_1 {w : World} {K : Value → Prop} (a : Addr) : fda P 80 (.pointer (some a)) 1 w K = K (.pointer (some (a.add 1))) := fda_off (s := 1) u_impl_Kept rfl i_string (by decide)
@[simp] theorem l_s_uint8 {w : World} {K : Value → Prop} {ty : TypeId} (a : Option Addr) (n c : Nat) : bl0 P .len #[88] ty [.slice a n c] w K = K (.int .i64 n) := bl0_len u_s_uint8
end Go.Proofs.Ytliagkijeigcaaa
