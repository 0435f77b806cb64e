import Derived.Test.YtabgkpfcpncmhaaGreatProg
import Derived.Test.YtabgkpfcpncmhaaGreatVcH
set_option linter.unusedSimpArgs false
set_option linter.unusedVariables false
/- Written by a program (gen.py): the program's names. -/
namespace Go.Proofs.YtabgkpfcpncmhaaGreat
open Go Go.Vc
noncomputable abbrev P : Program := Tryz.prog
theorem mixed : P.follows .mixedOrders = true := by kernel_rfl
def codeOf (f : Func) : Code := match f.body with
  | some c => c
  | none => .skip
abbrev f_laws_FnExactGapOf : FuncId := 3
abbrev f_laws_FnExactNormOfMatrix : FuncId := 4
abbrev f_laws_FnExactResidualOf : FuncId := 5
abbrev f_laws_FnExactHalvesOfBox : FuncId := 6
abbrev f_laws_FnExactRoundedDeterminant : FuncId := 7
abbrev f_laws_FnExactVolumeOfBox : FuncId := 8
abbrev f_laws_FnExactRefineSolution : FuncId := 9
abbrev f_laws_FnExactEncloseSolution : FuncId := 10
abbrev f_laws_FnExactEncloseInverse : FuncId := 11
abbrev f_laws_FnEliminations : FuncId := 12
abbrev f_laws_FnMatrices : FuncId := 13
abbrev f_laws_szFloat32SS : FuncId := 14
abbrev f_spec_GapOf : FuncId := 15
abbrev f_laws_toFloat32SS : FuncId := 16
abbrev f_impl_GapOf : FuncId := 17
abbrev f_laws_eqDyadic : FuncId := 18
abbrev f_laws_eqFloat32SS : FuncId := 19
abbrev f_laws_markFloat32SS : FuncId := 20
abbrev f_laws_markDyadic : FuncId := 21
abbrev f_laws_heldDyadic : FuncId := 22
abbrev f_spec_NormOfMatrix : FuncId := 23
abbrev f_impl_NormOfMatrix : FuncId := 24
abbrev f_laws_sameFloat : FuncId := 25
abbrev f_spec_ResidualOf : FuncId := 26
abbrev f_laws_toFloat32S : FuncId := 27
abbrev f_impl_ResidualOf : FuncId := 28
abbrev f_laws_eqFloat32S : FuncId := 29
abbrev f_laws_markFloat32S : FuncId := 30
abbrev f_laws_heldFloat32S : FuncId := 31
abbrev f_laws_szIntervalS : FuncId := 32
abbrev f_spec_HalvesOfBox : FuncId := 33
abbrev f_laws_toIntervalS : FuncId := 34
abbrev f_impl_HalvesOfBox : FuncId := 35
abbrev f_laws_eqIntervalS : FuncId := 36
abbrev f_laws_markIntervalS : FuncId := 37
abbrev f_laws_heldIntervalS : FuncId := 38
abbrev f_spec_RoundedDeterminant : FuncId := 39
abbrev f_impl_RoundedDeterminant : FuncId := 40
abbrev f_spec_VolumeOfBox : FuncId := 41
abbrev f_impl_VolumeOfBox : FuncId := 42
abbrev f_laws_eqInterval : FuncId := 43
abbrev f_spec_RefineSolution : FuncId := 44
abbrev f_impl_RefineSolution : FuncId := 45
abbrev f_spec_EncloseSolution : FuncId := 46
abbrev f_impl_EncloseSolution : FuncId := 47
abbrev f_spec_EncloseInverse : FuncId := 48
abbrev f_impl_EncloseInverse : FuncId := 49
abbrev f_laws_eqIntervalSS : FuncId := 50
abbrev f_laws_markIntervalSS : FuncId := 51
abbrev f_laws_heldIntervalSS : FuncId := 52
abbrev f_laws_big : FuncId := 53
abbrev f_spec_DrawEliminationOf : FuncId := 54
abbrev f_impl_EliminationOf : FuncId := 55
abbrev f_spec_EliminationOf : FuncId := 56
abbrev f_laws_likeInts : FuncId := 57
abbrev f_laws_tables5 : FuncId := 58
abbrev f_impl_IsMatrix : FuncId := 59
abbrev f_spec_IsMatrix : FuncId := 60
abbrev f_laws_hasInt : FuncId := 61
abbrev f_spec_DrawSolveSystem : FuncId := 62
abbrev f_impl_SolveSystem : FuncId := 63
abbrev f_spec_SolveSystem : FuncId := 64
abbrev f_spec_DrawInverseOf : FuncId := 65
abbrev f_impl_InverseOf : FuncId := 66
abbrev f_spec_InverseOf : FuncId := 67
abbrev f_spec_DrawRefineSolution : FuncId := 68
abbrev f_laws_floats5 : FuncId := 69
abbrev f_spec_DrawDeterminantOf : FuncId := 70
abbrev f_impl_DeterminantOf : FuncId := 71
abbrev f_spec_DeterminantOf : FuncId := 72
abbrev f_laws_dyadic5 : FuncId := 73
abbrev f_impl_AddDyadics : FuncId := 74
abbrev f_spec_DrawRoundedDeterminant : FuncId := 75
abbrev f_laws_float5 : FuncId := 76
abbrev f_spec_DrawTimesMatrix : FuncId := 77
abbrev f_impl_TimesMatrix : FuncId := 78
abbrev f_spec_TimesMatrix : FuncId := 79
abbrev f_impl_TimesVector : FuncId := 80
abbrev f_spec_DrawGapOf : FuncId := 81
abbrev f_spec_DrawEncloseInverse : FuncId := 82
abbrev f_laws_spans5 : FuncId := 83
abbrev f_laws_span5 : FuncId := 84
abbrev f_spec_DrawNormOfMatrix : FuncId := 85
abbrev f_spec_DrawResidualOf : FuncId := 86
abbrev f_laws_szFloat32S : FuncId := 87
abbrev f_spec_l10Is : FuncId := 88
abbrev f_spec_l03Fit : FuncId := 89
abbrev f_spec_l10Gap : FuncId := 90
abbrev f_impl_gap : FuncId := 91
abbrev f_impl_num_dyadic : FuncId := 92
abbrev f_laws_eqWhole : FuncId := 93
abbrev f_laws_markWhole : FuncId := 94
abbrev f_laws_heldWhole : FuncId := 95
abbrev f_spec_l03Add : FuncId := 96
abbrev f_spec_l03Of : FuncId := 97
abbrev f_spec_l01Abs : FuncId := 98
abbrev f_spec_l03Compare : FuncId := 99
abbrev f_spec_l06Up : FuncId := 100
abbrev f_impl_zero : FuncId := 101
abbrev f_impl_num_add : FuncId := 102
abbrev f_impl_numOf : FuncId := 103
abbrev f_impl_num_abs : FuncId := 104
abbrev f_impl_num_cmp : FuncId := 105
abbrev f_impl_num_round : FuncId := 106
abbrev f_spec_l10Code : FuncId := 107
abbrev f_spec_l10Residual : FuncId := 108
abbrev f_impl_systemCode : FuncId := 109
abbrev f_impl_roundedResidual : FuncId := 110
abbrev f_spec_l11Box : FuncId := 111
abbrev f_spec_l11Side : FuncId := 112
abbrev f_spec_l11Halves : FuncId := 113
abbrev f_laws_toInterval : FuncId := 114
abbrev f_impl_sidesCode : FuncId := 115
abbrev f_impl_halvesOf : FuncId := 116
abbrev f_spec_l03Mode : FuncId := 117
abbrev f_spec_l03Round : FuncId := 118
abbrev f_spec_l10Determinant : FuncId := 119
abbrev f_impl_isMode : FuncId := 120
abbrev f_impl_determinant : FuncId := 121
abbrev f_spec_l06Sub : FuncId := 122
abbrev f_spec_l06Of : FuncId := 123
abbrev f_spec_l06Mul : FuncId := 124
abbrev f_impl_long : FuncId := 125
abbrev f_impl_mulI : FuncId := 126
abbrev f_spec_l01In : FuncId := 127
abbrev f_spec_l10Eliminate : FuncId := 128
abbrev f_spec_l10Zeros : FuncId := 129
abbrev f_spec_l10Solve : FuncId := 130
abbrev f_spec_l01Finite : FuncId := 131
abbrev f_impl_eliminate : FuncId := 132
abbrev f_impl_solve : FuncId := 133
abbrev f_impl_same : FuncId := 134
abbrev f_impl_areFinite : FuncId := 135
abbrev f_spec_l10Ready : FuncId := 136
abbrev f_spec_l10Enclose : FuncId := 137
abbrev f_impl_isVector : FuncId := 138
abbrev f_impl_certify : FuncId := 139
abbrev f_impl_certificate_enclose : FuncId := 140
abbrev f_spec_l10Unit : FuncId := 141
abbrev f_impl_unitColumn : FuncId := 142
abbrev f_spec_l10Spoil : FuncId := 143
abbrev f_spec_l01From : FuncId := 144
abbrev f_spec_DrawTimesVector : FuncId := 145
abbrev f_impl_invert : FuncId := 146
abbrev f_spec_l10Inverse : FuncId := 147
abbrev f_spec_l10Beside : FuncId := 148
abbrev f_spec_l01Next : FuncId := 149
abbrev f_spec_l01Pick : FuncId := 150
abbrev f_spec_l01Count : FuncId := 151
abbrev f_laws_whole5 : FuncId := 152
abbrev f_impl_IsDyadic : FuncId := 153
abbrev f_impl_numberOf : FuncId := 154
abbrev f_spec_l10With : FuncId := 155
abbrev f_impl_empty : FuncId := 156
abbrev f_impl_timesVector : FuncId := 157
abbrev f_impl_column : FuncId := 158
abbrev f_spec_l10Turn : FuncId := 159
abbrev f_spec_l10Times : FuncId := 160
abbrev f_spec_l10Vector : FuncId := 161
abbrev f_spec_l03Is : FuncId := 162
abbrev f_spec_l03Make : FuncId := 163
abbrev f_spec_l02Of : FuncId := 164
abbrev f_spec_l03Sub : FuncId := 165
abbrev f_spec_l03Mul : FuncId := 166
abbrev f_spec_l02Abs : FuncId := 167
abbrev f_impl_num_sub : FuncId := 168
abbrev f_impl_num_mul : FuncId := 169
abbrev f_impl_num_odd : FuncId := 170
abbrev f_impl_fromBig : FuncId := 171
abbrev f_laws_eqInt64S : FuncId := 172
abbrev f_laws_markInt64S : FuncId := 173
abbrev f_laws_heldInt64S : FuncId := 174
abbrev f_spec_l02Add : FuncId := 175
abbrev f_spec_l02Left : FuncId := 176
abbrev f_spec_l01Parts : FuncId := 177
abbrev f_impl_num_sign : FuncId := 178
abbrev f_impl_integer_Add : FuncId := 179
abbrev f_impl_num_at : FuncId := 180
abbrev f_impl_parts : FuncId := 181
abbrev f_impl_newInt : FuncId := 182
abbrev f_impl_integer_Abs : FuncId := 183
abbrev f_impl_integer_BitLen : FuncId := 184
abbrev f_impl_num_round_1 : FuncId := 185
abbrev f_impl_atPlace : FuncId := 186
abbrev f_impl_infinite : FuncId := 187
abbrev f_impl_integer_Lsh : FuncId := 188
abbrev f_impl_integer_Rsh : FuncId := 189
abbrev f_impl_integer_Sub : FuncId := 190
abbrev f_impl_integer_Sign : FuncId := 191
abbrev f_impl_integer_Cmp : FuncId := 192
abbrev f_impl_integer_Bit : FuncId := 193
abbrev f_math_Ldexp : FuncId := 194
abbrev f_impl_integer_Int64 : FuncId := 195
abbrev f_spec_l10Rest : FuncId := 196
abbrev f_impl_residual : FuncId := 197
abbrev f_spec_l06Is : FuncId := 198
abbrev f_spec_l06Bounded : FuncId := 199
abbrev f_spec_HalvesOf : FuncId := 200
abbrev f_spec_l06Width : FuncId := 201
abbrev f_impl_areIntervals : FuncId := 202
abbrev f_impl_endless : FuncId := 203
abbrev f_impl_halves : FuncId := 204
abbrev f_impl_width : FuncId := 205
abbrev f_spec_l03Multiple : FuncId := 206
abbrev f_spec_l02Length : FuncId := 207
abbrev f_spec_l03Over : FuncId := 208
abbrev f_spec_l01Twos : FuncId := 209
abbrev f_spec_l01Turned : FuncId := 210
abbrev f_spec_l03Neg : FuncId := 211
abbrev f_impl_integer_Mul : FuncId := 212
abbrev f_impl_integer_Quo : FuncId := 213
abbrev f_impl_num_neg : FuncId := 214
abbrev f_spec_l06Add : FuncId := 215
abbrev f_spec_l06Neg : FuncId := 216
abbrev f_spec_l06Make : FuncId := 217
abbrev f_spec_l01Huge : FuncId := 218
abbrev f_spec_l06Ends : FuncId := 219
abbrev f_impl_subI : FuncId := 220
abbrev f_impl_point : FuncId := 221
abbrev f_impl_overEnds : FuncId := 222
abbrev f_impl_mulI_1 : FuncId := 223
abbrev f_impl_mulEnd : FuncId := 224
abbrev f_impl_size : FuncId := 225
abbrev f_impl_isFinite : FuncId := 226
abbrev f_impl_solve_1 : FuncId := 227
abbrev f_impl_isNaN : FuncId := 228
abbrev f_math_Float32bits : FuncId := 229
abbrev f_spec_l10Reach : FuncId := 230
abbrev f_spec_l06Down : FuncId := 231
abbrev f_impl_above : FuncId := 232
abbrev f_impl_plain : FuncId := 233
abbrev f_spec_l10Order : FuncId := 234
abbrev f_spec_l01Strange : FuncId := 235
abbrev f_spec_l10List : FuncId := 236
abbrev f_impl_IsWhole : FuncId := 237
abbrev f_impl_toBig : FuncId := 238
abbrev f_spec_l02Is : FuncId := 239
abbrev f_spec_l02Twos : FuncId := 240
abbrev f_spec_l02Cut : FuncId := 241
abbrev f_spec_l02Make : FuncId := 242
abbrev f_spec_l02Mul : FuncId := 243
abbrev f_impl_integer_TrailingZeroBits : FuncId := 244
abbrev f_impl_integer_And : FuncId := 245
abbrev f_spec_l02Plus : FuncId := 246
abbrev f_spec_l02CompareLimbs : FuncId := 247
abbrev f_spec_l02Minus : FuncId := 248
abbrev f_impl_integer_plus : FuncId := 249
abbrev f_impl_integer_SetInt64 : FuncId := 250
abbrev f_impl_integer_put : FuncId := 251
abbrev f_slices_Clone_uint32_uint32 : FuncId := 252
abbrev f_impl_magBits : FuncId := 253
abbrev f_math_Float32frombits : FuncId := 254
abbrev f_math_Inf : FuncId := 255
abbrev f_impl_magLeft : FuncId := 256
abbrev f_impl_magRight : FuncId := 257
abbrev f_impl_magSub : FuncId := 258
abbrev f_impl_magAdd : FuncId := 259
abbrev f_impl_magCmp : FuncId := 260
abbrev f_math_archLdexp : FuncId := 261
abbrev f_math_ldexp : FuncId := 262
abbrev f_impl_integer_low : FuncId := 263
abbrev f_spec_l06Plain : FuncId := 264
abbrev f_spec_l06Middle : FuncId := 265
abbrev f_spec_l06Zero : FuncId := 266
abbrev f_impl_IsInterval : FuncId := 267
abbrev f_impl_isInf : FuncId := 268
abbrev f_impl_middle : FuncId := 269
abbrev f_impl_addIn : FuncId := 270
abbrev f_spec_l02Bit : FuncId := 271
abbrev f_spec_l01At : FuncId := 272
abbrev f_spec_l02Neg : FuncId := 273
abbrev f_impl_magMul : FuncId := 274
abbrev f_impl_integer_QuoRem : FuncId := 275
abbrev f_impl_integer_Neg : FuncId := 276
abbrev f_impl_addI : FuncId := 277
abbrev f_impl_negI : FuncId := 278
abbrev f_impl_signOf : FuncId := 279
abbrev f_impl_mulIn : FuncId := 280
abbrev f_spec_l03Quotient : FuncId := 281
abbrev f_spec_l10Number : FuncId := 282
abbrev f_impl_integer_Or : FuncId := 283
abbrev f_spec_l01Own : FuncId := 284
abbrev f_impl_magTrim : FuncId := 285
abbrev f_math_Float64frombits : FuncId := 286
abbrev f_cmp_Compare_int : FuncId := 287
abbrev f_cmp_Compare_uint32 : FuncId := 288
abbrev f_math_IsInf : FuncId := 289
abbrev f_math_IsNaN : FuncId := 290
abbrev f_math_normalize : FuncId := 291
abbrev f_math_Float64bits : FuncId := 292
abbrev f_math_Copysign : FuncId := 293
abbrev f_spec_l01NaN : FuncId := 294
abbrev f_spec_l01Minus : FuncId := 295
abbrev f_impl_minus : FuncId := 296
abbrev f_impl_num_scale : FuncId := 297
abbrev f_impl_zeroSum : FuncId := 298
abbrev f_impl_magDiv : FuncId := 299
abbrev f_impl_sumEnd : FuncId := 300
abbrev f_impl_signedZero : FuncId := 301
abbrev f_spec_l02DivMod : FuncId := 302
abbrev f_spec_l02Sub : FuncId := 303
abbrev f_spec_l01Draw : FuncId := 304
abbrev f_cmp_isNaN_int : FuncId := 305
abbrev f_cmp_isNaN_uint32 : FuncId := 306
abbrev f_math_Abs : FuncId := 307
abbrev f_impl_minusZero : FuncId := 308
abbrev f_impl_integer_String : FuncId := 324
abbrev f_impl_num_high : FuncId := 325
noncomputable abbrev F_math_Float32bits : Func := Tryz.f229
theorem fun_math_Float32bits : P.funcs[f_math_Float32bits]? = some F_math_Float32bits := Tryz.func229
noncomputable abbrev F_math_Float32frombits : Func := Tryz.f254
theorem fun_math_Float32frombits : P.funcs[f_math_Float32frombits]? = some F_math_Float32frombits := Tryz.func254
noncomputable abbrev F_math_Float64frombits : Func := Tryz.f286
theorem fun_math_Float64frombits : P.funcs[f_math_Float64frombits]? = some F_math_Float64frombits := Tryz.func286
noncomputable abbrev F_math_Float64bits : Func := Tryz.f292
theorem fun_math_Float64bits : P.funcs[f_math_Float64bits]? = some F_math_Float64bits := Tryz.func292
abbrev t_int64 : TypeId := 2
theorem u_int64 : P.underlying 2 = some (.int .i64) := Tryz.underlying2
theorem i_int64 : TI P 2 (.int .i64 0) 1 8 := TI_of (by kernel_rfl)
abbrev t_int : TypeId := 3
theorem u_int : P.underlying 3 = some (.int .i64) := Tryz.underlying3
theorem i_int : TI P 3 (.int .i64 0) 1 8 := TI_of (by kernel_rfl)
abbrev t_bool : TypeId := 4
theorem u_bool : P.underlying 4 = some (.bool) := Tryz.underlying4
theorem i_bool : TI P 4 (.bool false) 1 1 := TI_of (by kernel_rfl)
abbrev t_uint8 : TypeId := 5
theorem u_uint8 : P.underlying 5 = some (.int .u8) := Tryz.underlying5
theorem i_uint8 : TI P 5 (.int .u8 0) 1 1 := TI_of (by kernel_rfl)
abbrev t_string : TypeId := 9
theorem u_string : P.underlying 9 = some (.string) := Tryz.underlying9
theorem i_string : TI P 9 (.string ⟨#[]⟩) 1 16 := TI_of (by kernel_rfl)
abbrev t_uintptr : TypeId := 12
theorem u_uintptr : P.underlying 12 = some (.int .u64) := Tryz.underlying12
theorem i_uintptr : TI P 12 (.int .u64 0) 1 8 := TI_of (by kernel_rfl)
abbrev t_p_runtime_TypeAssertionError : TypeId := 15
theorem u_p_runtime_TypeAssertionError : P.underlying 15 = some (.pointer 275) := Tryz.underlying15
theorem i_p_runtime_TypeAssertionError : TI P 15 (.pointer none) 1 8 := TI_of (by kernel_rfl)
abbrev t_p_runtime_PanicNilError : TypeId := 16
theorem u_p_runtime_PanicNilError : P.underlying 16 = some (.pointer 278) := Tryz.underlying16
theorem i_p_runtime_PanicNilError : TI P 16 (.pointer none) 1 8 := TI_of (by kernel_rfl)
abbrev t_p_abi_Type : TypeId := 17
theorem u_p_abi_Type : P.underlying 17 = some (.pointer 286) := Tryz.underlying17
theorem i_p_abi_Type : TI P 17 (.pointer none) 1 8 := TI_of (by kernel_rfl)
abbrev t_int32 : TypeId := 21
theorem u_int32 : P.underlying 21 = some (.int .i32) := Tryz.underlying21
theorem i_int32 : TI P 21 (.int .i32 0) 1 4 := TI_of (by kernel_rfl)
abbrev t_s_s_float32 : TypeId := 22
theorem u_s_s_float32 : P.underlying 22 = some (.slice 41) := Tryz.underlying22
theorem i_s_s_float32 : TI P 22 (.slice none 0 0) 1 24 := TI_of (by kernel_rfl)
abbrev t_s_int64 : TypeId := 24
theorem u_s_int64 : P.underlying 24 = some (.slice 2) := Tryz.underlying24
theorem i_s_int64 : TI P 24 (.slice none 0 0) 1 24 := TI_of (by kernel_rfl)
abbrev t_impl_Whole : TypeId := 26
theorem u_impl_Whole : P.underlying 26 = some (.struct #[{ name := "Sign", type := 2, offset := 0, embedded := false, tag := "", pkgPath := "", byteOffset := 0 }, { name := "Limbs", type := 24, offset := 1, embedded := false, tag := "", pkgPath := "", byteOffset := 8 }]) := Tryz.underlying26
theorem i_impl_Whole : TI P 26 (.agg #[(.int .i64 0), (.slice none 0 0)]) 2 32 := TI_of (by kernel_rfl)
abbrev t_impl_Dyadic : TypeId := 28
theorem u_impl_Dyadic : P.underlying 28 = some (.struct #[{ name := "Whole", type := 26, offset := 0, embedded := false, tag := "", pkgPath := "", byteOffset := 0 }, { name := "Exponent", type := 2, offset := 2, embedded := false, tag := "", pkgPath := "", byteOffset := 32 }]) := Tryz.underlying28
theorem i_impl_Dyadic : TI P 28 (.agg #[(.int .i64 0), (.slice none 0 0), (.int .i64 0)]) 3 40 := TI_of (by kernel_rfl)
abbrev t_float32 : TypeId := 35
theorem u_float32 : P.underlying 35 = some (.float .f32) := Tryz.underlying35
theorem i_float32 : TI P 35 (.float .f32 0) 1 4 := TI_of (by kernel_rfl)
abbrev t_float64 : TypeId := 39
theorem u_float64 : P.underlying 39 = some (.float .f64) := Tryz.underlying39
theorem i_float64 : TI P 39 (.float .f64 0) 1 8 := TI_of (by kernel_rfl)
abbrev t_s_float32 : TypeId := 41
theorem u_s_float32 : P.underlying 41 = some (.slice 35) := Tryz.underlying41
theorem i_s_float32 : TI P 41 (.slice none 0 0) 1 24 := TI_of (by kernel_rfl)
abbrev t_s_laws_Interval : TypeId := 48
theorem u_s_laws_Interval : P.underlying 48 = some (.slice 129) := Tryz.underlying48
theorem i_s_laws_Interval : TI P 48 (.slice none 0 0) 1 24 := TI_of (by kernel_rfl)
abbrev t_s_impl_Interval : TypeId := 50
theorem u_s_impl_Interval : P.underlying 50 = some (.slice 61) := Tryz.underlying50
theorem i_s_impl_Interval : TI P 50 (.slice none 0 0) 1 24 := TI_of (by kernel_rfl)
abbrev t_impl_Interval : TypeId := 61
theorem u_impl_Interval : P.underlying 61 = some (.struct #[{ name := "Low", type := 35, offset := 0, embedded := false, tag := "", pkgPath := "", byteOffset := 0 }, { name := "High", type := 35, offset := 1, embedded := false, tag := "", pkgPath := "", byteOffset := 4 }]) := Tryz.underlying61
theorem i_impl_Interval : TI P 61 (.agg #[(.float .f32 0), (.float .f32 0)]) 2 8 := TI_of (by kernel_rfl)
abbrev t_s_s_impl_Interval : TypeId := 71
theorem u_s_s_impl_Interval : P.underlying 71 = some (.slice 50) := Tryz.underlying71
theorem i_s_s_impl_Interval : TI P 71 (.slice none 0 0) 1 24 := TI_of (by kernel_rfl)
abbrev t_s_uint8 : TypeId := 76
theorem u_s_uint8 : P.underlying 76 = some (.slice 5) := Tryz.underlying76
theorem i_s_uint8 : TI P 76 (.slice none 0 0) 1 24 := TI_of (by kernel_rfl)
abbrev t_impl_Elimination : TypeId := 80
theorem u_impl_Elimination : P.underlying 80 = some (.struct #[{ name := "Order", type := 24, offset := 0, embedded := false, tag := "", pkgPath := "", byteOffset := 0 }, { name := "Table", type := 22, offset := 1, embedded := false, tag := "", pkgPath := "", byteOffset := 24 }]) := Tryz.underlying80
theorem i_impl_Elimination : TI P 80 (.agg #[(.slice none 0 0), (.slice none 0 0)]) 2 48 := TI_of (by kernel_rfl)
abbrev t_p_impl_integer : TypeId := 103
theorem u_p_impl_integer : P.underlying 103 = some (.pointer 179) := Tryz.underlying103
theorem i_p_impl_integer : TI P 103 (.pointer none) 1 8 := TI_of (by kernel_rfl)
abbrev t_impl_num : TypeId := 105
theorem u_impl_num : P.underlying 105 = some (.struct #[{ name := "m", type := 103, offset := 0, embedded := false, tag := "", pkgPath := "loop.example/g01172/impl", byteOffset := 0 }, { name := "e", type := 3, offset := 1, embedded := false, tag := "", pkgPath := "loop.example/g01172/impl", byteOffset := 8 }]) := Tryz.underlying105
theorem i_impl_num : TI P 105 (.agg #[(.pointer none), (.int .i64 0)]) 2 16 := TI_of (by kernel_rfl)
abbrev t_laws_Interval : TypeId := 129
theorem u_laws_Interval : P.underlying 129 = some (.struct #[{ name := "Low", type := 35, offset := 0, embedded := false, tag := "", pkgPath := "", byteOffset := 0 }, { name := "High", type := 35, offset := 1, embedded := false, tag := "", pkgPath := "", byteOffset := 4 }]) := Tryz.underlying129
theorem i_laws_Interval : TI P 129 (.agg #[(.float .f32 0), (.float .f32 0)]) 2 8 := TI_of (by kernel_rfl)
abbrev t_impl_certificate : TypeId := 149
theorem u_impl_certificate : P.underlying 149 = some (.struct #[{ name := "e", type := 80, offset := 0, embedded := false, tag := "", pkgPath := "loop.example/g01172/impl", byteOffset := 0 }, { name := "r", type := 22, offset := 2, embedded := false, tag := "", pkgPath := "loop.example/g01172/impl", byteOffset := 48 }, { name := "g", type := 105, offset := 3, embedded := false, tag := "", pkgPath := "loop.example/g01172/impl", byteOffset := 72 }]) := Tryz.underlying149
theorem i_impl_certificate : TI P 149 (.agg #[(.slice none 0 0), (.slice none 0 0), (.slice none 0 0), (.pointer none), (.int .i64 0)]) 5 88 := TI_of (by kernel_rfl)
abbrev t_p_spec_l01Source : TypeId := 154
theorem u_p_spec_l01Source : P.underlying 154 = some (.pointer 229) := Tryz.underlying154
theorem i_p_spec_l01Source : TI P 154 (.pointer none) 1 8 := TI_of (by kernel_rfl)
abbrev t_s_uint32 : TypeId := 177
theorem u_s_uint32 : P.underlying 177 = some (.slice 221) := Tryz.underlying177
theorem i_s_uint32 : TI P 177 (.slice none 0 0) 1 24 := TI_of (by kernel_rfl)
abbrev t_impl_integer : TypeId := 179
theorem u_impl_integer : P.underlying 179 = some (.struct #[{ name := "neg", type := 4, offset := 0, embedded := false, tag := "", pkgPath := "loop.example/g01172/impl", byteOffset := 0 }, { name := "mag", type := 177, offset := 1, embedded := false, tag := "", pkgPath := "loop.example/g01172/impl", byteOffset := 8 }]) := Tryz.underlying179
theorem i_impl_integer : TI P 179 (.agg #[(.bool false), (.slice none 0 0)]) 2 32 := TI_of (by kernel_rfl)
abbrev t_uint : TypeId := 189
theorem u_uint : P.underlying 189 = some (.int .u64) := Tryz.underlying189
theorem i_uint : TI P 189 (.int .u64 0) 1 8 := TI_of (by kernel_rfl)
abbrev t_s_impl_Dyadic : TypeId := 194
theorem u_s_impl_Dyadic : P.underlying 194 = some (.slice 28) := Tryz.underlying194
theorem i_s_impl_Dyadic : TI P 194 (.slice none 0 0) 1 24 := TI_of (by kernel_rfl)
abbrev t_s_impl_num : TypeId := 196
theorem u_s_impl_num : P.underlying 196 = some (.slice 105) := Tryz.underlying196
theorem i_s_impl_num : TI P 196 (.slice none 0 0) 1 24 := TI_of (by kernel_rfl)
abbrev t_s_s_p_impl_integer : TypeId := 211
theorem u_s_s_p_impl_integer : P.underlying 211 = some (.slice 212) := Tryz.underlying211
theorem i_s_s_p_impl_integer : TI P 211 (.slice none 0 0) 1 24 := TI_of (by kernel_rfl)
abbrev t_s_p_impl_integer : TypeId := 212
theorem u_s_p_impl_integer : P.underlying 212 = some (.slice 103) := Tryz.underlying212
theorem i_s_p_impl_integer : TI P 212 (.slice none 0 0) 1 24 := TI_of (by kernel_rfl)
abbrev t_uint32 : TypeId := 221
theorem u_uint32 : P.underlying 221 = some (.int .u32) := Tryz.underlying221
theorem i_uint32 : TI P 221 (.int .u32 0) 1 4 := TI_of (by kernel_rfl)
abbrev t_uint64 : TypeId := 227
theorem u_uint64 : P.underlying 227 = some (.int .u64) := Tryz.underlying227
theorem i_uint64 : TI P 227 (.int .u64 0) 1 8 := TI_of (by kernel_rfl)
abbrev t_spec_l01Source : TypeId := 229
theorem u_spec_l01Source : P.underlying 229 = some (.struct #[{ name := "code", type := 76, offset := 0, embedded := false, tag := "", pkgPath := "loop.example/g01172/spec", byteOffset := 0 }, { name := "at", type := 3, offset := 1, embedded := false, tag := "", pkgPath := "loop.example/g01172/spec", byteOffset := 24 }, { name := "hash", type := 227, offset := 2, embedded := false, tag := "", pkgPath := "loop.example/g01172/spec", byteOffset := 32 }]) := Tryz.underlying229
theorem i_spec_l01Source : TI P 229 (.agg #[(.slice none 0 0), (.int .i64 0), (.int .u64 0)]) 3 40 := TI_of (by kernel_rfl)
abbrev t_p_uint8 : TypeId := 282
theorem u_p_uint8 : P.underlying 282 = some (.pointer 5) := Tryz.underlying282
theorem i_p_uint8 : TI P 282 (.pointer none) 1 8 := TI_of (by kernel_rfl)
@[simp] theorem l_s_s_float32 {w : World} {K : Value → Prop} {ty : TypeId} (a : Option Addr) (n c : Nat) : bl0 P .len #[22] ty [.slice a n c] w K = K (.int .i64 n) := bl0_len u_s_s_float32
@[simp] theorem l_s_int64 {w : World} {K : Value → Prop} {ty : TypeId} (a : Option Addr) (n c : Nat) : bl0 P .len #[24] ty [.slice a n c] w K = K (.int .i64 n) := bl0_len u_s_int64
@[simp] theorem d_impl_Whole_0 {w : World} {K : Value → Prop} (a : Addr) : fda P 26 (.pointer (some a)) 0 w K = K (.pointer (some (a.add 0))) := fda_off (s := 1) u_impl_Whole rfl i_int64 (by decide)
@[simp] theorem d_impl_Whole_1 {w : World} {K : Value → Prop} (a : Addr) : fda P 26 (.pointer (some a)) 1 w K = K (.pointer (some (a.add 1))) := fda_off (s := 1) u_impl_Whole rfl i_s_int64 (by decide)
@[simp] theorem d_impl_Dyadic_0 {w : World} {K : Value → Prop} (a : Addr) : fda P 28 (.pointer (some a)) 0 w K = K (.pointer (some (a.add 0))) := fda_off (s := 2) u_impl_Dyadic rfl i_impl_Whole (by decide)
@[simp] theorem d_impl_Dyadic_1 {w : World} {K : Value → Prop} (a : Addr) : fda P 28 (.pointer (some a)) 1 w K = K (.pointer (some (a.add 2))) := fda_off (s := 1) u_impl_Dyadic rfl i_int64 (by decide)
@[simp] theorem l_s_float32 {w : World} {K : Value → Prop} {ty : TypeId} (a : Option Addr) (n c : Nat) : bl0 P .len #[41] ty [.slice a n c] w K = K (.int .i64 n) := bl0_len u_s_float32
@[simp] theorem l_s_laws_Interval {w : World} {K : Value → Prop} {ty : TypeId} (a : Option Addr) (n c : Nat) : bl0 P .len #[48] ty [.slice a n c] w K = K (.int .i64 n) := bl0_len u_s_laws_Interval
@[simp] theorem l_s_impl_Interval {w : World} {K : Value → Prop} {ty : TypeId} (a : Option Addr) (n c : Nat) : bl0 P .len #[50] ty [.slice a n c] w K = K (.int .i64 n) := bl0_len u_s_impl_Interval
@[simp] theorem d_impl_Interval_0 {w : World} {K : Value → Prop} (a : Addr) : fda P 61 (.pointer (some a)) 0 w K = K (.pointer (some (a.add 0))) := fda_off (s := 1) u_impl_Interval rfl i_float32 (by decide)
@[simp] theorem d_impl_Interval_1 {w : World} {K : Value → Prop} (a : Addr) : fda P 61 (.pointer (some a)) 1 w K = K (.pointer (some (a.add 1))) := fda_off (s := 1) u_impl_Interval rfl i_float32 (by decide)
@[simp] theorem l_s_s_impl_Interval {w : World} {K : Value → Prop} {ty : TypeId} (a : Option Addr) (n c : Nat) : bl0 P .len #[71] ty [.slice a n c] w K = K (.int .i64 n) := bl0_len u_s_s_impl_Interval
@[simp] theorem l_s_uint8 {w : World} {K : Value → Prop} {ty : TypeId} (a : Option Addr) (n c : Nat) : bl0 P .len #[76] ty [.slice a n c] w K = K (.int .i64 n) := bl0_len u_s_uint8
@[simp] theorem d_impl_Elimination_0 {w : World} {K : Value → Prop} (a : Addr) : fda P 80 (.pointer (some a)) 0 w K = K (.pointer (some (a.add 0))) := fda_off (s := 1) u_impl_Elimination rfl i_s_int64 (by decide)
@[simp] theorem d_impl_Elimination_1 {w : World} {K : Value → Prop} (a : Addr) : fda P 80 (.pointer (some a)) 1 w K = K (.pointer (some (a.add 1))) := fda_off (s := 1) u_impl_Elimination rfl i_s_s_float32 (by decide)
@[simp] theorem d_impl_num_0 {w : World} {K : Value → Prop} (a : Addr) : fda P 105 (.pointer (some a)) 0 w K = K (.pointer (some (a.add 0))) := fda_off (s := 1) u_impl_num rfl i_p_impl_integer (by decide)
@[simp] theorem d_impl_num_1 {w : World} {K : Value → Prop} (a : Addr) : fda P 105 (.pointer (some a)) 1 w K = K (.pointer (some (a.add 1))) := fda_off (s := 1) u_impl_num rfl i_int (by decide)
@[simp] theorem d_laws_Interval_0 {w : World} {K : Value → Prop} (a : Addr) : fda P 129 (.pointer (some a)) 0 w K = K (.pointer (some (a.add 0))) := fda_off (s := 1) u_laws_Interval rfl i_float32 (by decide)
@[simp] theorem d_laws_Interval_1 {w : World} {K : Value → Prop} (a : Addr) : fda P 129 (.pointer (some a)) 1 w K = K (.pointer (some (a.add 1))) := fda_off (s := 1) u_laws_Interval rfl i_float32 (by decide)
@[simp] theorem d_impl_certificate_0 {w : World} {K : Value → Prop} (a : Addr) : fda P 149 (.pointer (some a)) 0 w K = K (.pointer (some (a.add 0))) := fda_off (s := 2) u_impl_certificate rfl i_impl_Elimination (by decide)
@[simp] theorem d_impl_certificate_1 {w : World} {K : Value → Prop} (a : Addr) : fda P 149 (.pointer (some a)) 1 w K = K (.pointer (some (a.add 2))) := fda_off (s := 1) u_impl_certificate rfl i_s_s_float32 (by decide)
@[simp] theorem d_impl_certificate_2 {w : World} {K : Value → Prop} (a : Addr) : fda P 149 (.pointer (some a)) 2 w K = K (.pointer (some (a.add 3))) := fda_off (s := 2) u_impl_certificate rfl i_impl_num (by decide)
@[simp] theorem l_s_uint32 {w : World} {K : Value → Prop} {ty : TypeId} (a : Option Addr) (n c : Nat) : bl0 P .len #[177] ty [.slice a n c] w K = K (.int .i64 n) := bl0_len u_s_uint32
@[simp] theorem d_impl_integer_0 {w : World} {K : Value → Prop} (a : Addr) : fda P 179 (.pointer (some a)) 0 w K = K (.pointer (some (a.add 0))) := fda_off (s := 1) u_impl_integer rfl i_bool (by decide)
@[simp] theorem d_impl_integer_1 {w : World} {K : Value → Prop} (a : Addr) : fda P 179 (.pointer (some a)) 1 w K = K (.pointer (some (a.add 1))) := fda_off (s := 1) u_impl_integer rfl i_s_uint32 (by decide)
@[simp] theorem l_s_impl_Dyadic {w : World} {K : Value → Prop} {ty : TypeId} (a : Option Addr) (n c : Nat) : bl0 P .len #[194] ty [.slice a n c] w K = K (.int .i64 n) := bl0_len u_s_impl_Dyadic
@[simp] theorem l_s_impl_num {w : World} {K : Value → Prop} {ty : TypeId} (a : Option Addr) (n c : Nat) : bl0 P .len #[196] ty [.slice a n c] w K = K (.int .i64 n) := bl0_len u_s_impl_num
@[simp] theorem l_s_s_p_impl_integer {w : World} {K : Value → Prop} {ty : TypeId} (a : Option Addr) (n c : Nat) : bl0 P .len #[211] ty [.slice a n c] w K = K (.int .i64 n) := bl0_len u_s_s_p_impl_integer
@[simp] theorem l_s_p_impl_integer {w : World} {K : Value → Prop} {ty : TypeId} (a : Option Addr) (n c : Nat) : bl0 P .len #[212] ty [.slice a n c] w K = K (.int .i64 n) := bl0_len u_s_p_impl_integer
@[simp] theorem d_spec_l01Source_0 {w : World} {K : Value → Prop} (a : Addr) : fda P 229 (.pointer (some a)) 0 w K = K (.pointer (some (a.add 0))) := fda_off (s := 1) u_spec_l01Source rfl i_s_uint8 (by decide)
@[simp] theorem d_spec_l01Source_1 {w : World} {K : Value → Prop} (a : Addr) : fda P 229 (.pointer (some a)) 1 w K = K (.pointer (some (a.add 1))) := fda_off (s := 1) u_spec_l01Source rfl i_int (by decide)
@[simp] theorem d_spec_l01Source_2 {w : World} {K : Value → Prop} (a : Addr) : fda P 229 (.pointer (some a)) 2 w K = K (.pointer (some (a.add 2))) := fda_off (s := 1) u_spec_l01Source rfl i_uint64 (by decide)
end Go.Proofs.YtabgkpfcpncmhaaGreat

/- Written by a program (gen.py): what is left to show of each function's call. -/
set_option linter.unusedVariables false
set_option maxRecDepth 20000
namespace Go.Proofs.YtabgkpfcpncmhaaGreat
open Go Go.Vc

/-- impl.parts -/
def D_impl_parts (a0 : Value) (w : World) (K : Value → World → Prop) : Prop :=
  call P f_math_Float32bits [a0] w fun x8_1 w2 =>
  bin P .shr 221 false true x8_1 (.int .u64 23) w2 fun x10_3 =>
  bin P .and 221 false true x10_3 (.int .u32 255) w2 fun x11_4 =>
  cnv P 221 2 x11_4 w2 fun x12_5 =>
  bin P .and 221 false true x8_1 (.int .u32 8388607) w2 fun x14_6 =>
  cnv P 221 2 x14_6 w2 fun x15_7 =>
  ∃ J8 : Value → Value → World → Prop, (∀ (x5_11 : Value) (x6_12 : Value) (junk9 : Env) (w10 : World), J8 x5_11 x6_12 w10 →
    bin P .shr 221 false true x8_1 (.int .u64 31) w10 fun x21_13 =>
    bin P .neq 221 false true x21_13 (.int .u32 0) w10 fun x22_14 =>
    cnd x22_14
      (una P .neg x6_12 w10 fun x24_15 =>
      bin P .sub 2 false true x5_11 (.int .i64 150) w10 fun x27_16 =>
      K (.tuple #[x24_15, x27_16]) w10)
      (bin P .sub 2 false true x5_11 (.int .i64 150) w10 fun x27_17 =>
      K (.tuple #[x6_12, x27_17]) w10)) ∧
    (bin P .gtr 2 false true x12_5 (.int .i64 0) w2 fun x17_18 =>
    cnd x17_18
      (bin P .add 2 false true x15_7 (.int .i64 8388608) w2 fun x19_19 =>
      J8 x12_5 x19_19 w2)
      (J8 (.int .i64 1) x15_7 w2))
def P_impl_parts : Plan := (.seq (.reg [.op (0, 0, false), .op (1, 0, false)]) (.seq (.reg [.op (0, 0, false), .op (1, 2, false), .op (2, 0, false)]) (.seq (.reg [.op (0, 0, false), .op (1, 0, false), .op (2, 0, false), .op (3, 0, false), .op (4, 0, false), .op (5, 0, false), .op (6, 0, false), .op (7, 0, false), .op (8, 0, false)]) (.cut [5, 6] 983136 (.seq (.reg [.op (0, 0, false), .op (1, 0, false)]) (.cond (.reg [.op (0, 0, false), .op (1, 0, false), .op (2, 0, false)]) (.reg [.op (0, 0, false)]))) (.seq (.seq (.reg [.op (0, 0, false), .op (1, 0, false), .op (2, 0, false)]) (.cond (.reg [.op (0, 0, false), .op (1, 0, false), .op (2, 0, false)]) .leaf)) (.seq (.reg [.op (0, 0, false), .op (1, 0, false), .op (2, 0, false), .op (3, 0, false), .op (4, 0, false)]) .leaf))))))
theorem I_impl_parts {a0 : Value} {w : World} {K : Value → World → Prop} (h : D_impl_parts a0 w K) : call P f_impl_parts [a0] w K :=
  call_of_vc mixed Tryz.func181 (c := codeOf Tryz.f181) (by kernel_rfl) (by kernel_rfl) (p := P_impl_parts) (by kernel_rfl) (by rw [Tryz.ntmps181]; simp) (by
    have e : D_impl_parts a0 w K = vc P P_impl_parts (codeOf Tryz.f181) (env0 [a0]) w (retX P Tryz.f181.results.toList K) := by kernel_rfl
    exact e ▸ h)

/-- impl.atPlace -/
def D_impl_atPlace (a0 : Value) (w : World) (K : Value → World → Prop) : Prop :=
  bin P .lss 2 false true a0 (.int .i64 0) w fun x4_1 =>
  cnd x4_1
    (una P .neg a0 w fun x6_2 =>
    cnv P 2 221 x6_2 w fun x7_3 =>
    bin P .or 221 false true x7_3 (.int .u32 2147483648) w fun x8_4 =>
    call P f_math_Float32frombits [x8_4] w fun x9_5 w6 =>
    K x9_5 w6)
    (cnv P 2 221 a0 w fun x11_7 =>
    call P f_math_Float32frombits [x11_7] w fun x12_8 w9 =>
    K x12_8 w9)
def P_impl_atPlace : Plan := (.seq (.reg [.op (0, 0, false)]) (.seq (.seq (.reg [.op (0, 0, false), .op (1, 0, false)]) (.cond (.seq (.reg [.op (0, 0, false), .op (1, 0, false), .op (2, 0, false), .op (3, 0, false), .op (4, 2, false), .op (5, 0, false)]) .leaf) .leaf)) (.seq (.reg [.op (0, 0, false), .op (1, 0, false), .op (2, 2, false), .op (3, 0, false)]) .leaf)))
theorem I_impl_atPlace {a0 : Value} {w : World} {K : Value → World → Prop} (h : D_impl_atPlace a0 w K) : call P f_impl_atPlace [a0] w K :=
  call_of_vc mixed Tryz.func186 (c := codeOf Tryz.f186) (by kernel_rfl) (by kernel_rfl) (p := P_impl_atPlace) (by kernel_rfl) (by rw [Tryz.ntmps186]; simp) (by
    have e : D_impl_atPlace a0 w K = vc P P_impl_atPlace (codeOf Tryz.f186) (env0 [a0]) w (retX P Tryz.f186.results.toList K) := by kernel_rfl
    exact e ▸ h)

/-- impl.infinite -/
def D_impl_infinite (a0 : Value) (w : World) (K : Value → World → Prop) : Prop :=
  call P f_math_Inf [a0] w fun x4_1 w2 =>
  rcnv P 39 35 x4_1 w2 fun x5_3 =>
  K x5_3 w2
def P_impl_infinite : Plan := (.seq (.reg [.op (0, 0, false)]) (.seq (.reg [.op (0, 0, false), .op (1, 2, false), .op (2, 1, false), .op (3, 0, false)]) .leaf))
theorem I_impl_infinite {a0 : Value} {w : World} {K : Value → World → Prop} (h : D_impl_infinite a0 w K) : call P f_impl_infinite [a0] w K :=
  call_of_vc mixed Tryz.func187 (c := codeOf Tryz.f187) (by kernel_rfl) (by kernel_rfl) (p := P_impl_infinite) (by kernel_rfl) (by rw [Tryz.ntmps187]; simp) (by
    have e : D_impl_infinite a0 w K = vc P P_impl_infinite (codeOf Tryz.f187) (env0 [a0]) w (retX P Tryz.f187.results.toList K) := by kernel_rfl
    exact e ▸ h)

/-- impl.isNaN -/
def D_impl_isNaN (a0 : Value) (w : World) (K : Value → World → Prop) : Prop :=
  bin P .neq 35 false false a0 a0 w fun x5_1 =>
  K x5_1 w
def P_impl_isNaN : Plan := (.seq (.reg [.op (0, 0, false)]) (.seq (.reg [.op (0, 0, false), .op (1, 0, false), .op (2, 0, false), .op (3, 0, false)]) .leaf))
theorem I_impl_isNaN {a0 : Value} {w : World} {K : Value → World → Prop} (h : D_impl_isNaN a0 w K) : call P f_impl_isNaN [a0] w K :=
  call_of_vc mixed Tryz.func228 (c := codeOf Tryz.f228) (by kernel_rfl) (by kernel_rfl) (p := P_impl_isNaN) (by kernel_rfl) (by rw [Tryz.ntmps228]; simp) (by
    have e : D_impl_isNaN a0 w K = vc P P_impl_isNaN (codeOf Tryz.f228) (env0 [a0]) w (retX P Tryz.f228.results.toList K) := by kernel_rfl
    exact e ▸ h)

/-- impl.plain -/
def D_impl_plain (a0 : Value) (w : World) (K : Value → World → Prop) : Prop :=
  bin P .eql 35 false true a0 (.float .f32 0) w fun x4_1 =>
  cnd x4_1
    (K (.float .f32 0) w)
    (K a0 w)
def P_impl_plain : Plan := (.seq (.reg [.op (0, 0, false)]) (.seq (.seq (.reg [.op (0, 0, false), .op (1, 0, false)]) (.cond (.seq (.reg [.op (0, 0, false)]) .leaf) .leaf)) (.seq (.reg [.op (0, 0, false), .op (1, 0, false)]) .leaf)))
theorem I_impl_plain {a0 : Value} {w : World} {K : Value → World → Prop} (h : D_impl_plain a0 w K) : call P f_impl_plain [a0] w K :=
  call_of_vc mixed Tryz.func233 (c := codeOf Tryz.f233) (by kernel_rfl) (by kernel_rfl) (p := P_impl_plain) (by kernel_rfl) (by rw [Tryz.ntmps233]; simp) (by
    have e : D_impl_plain a0 w K = vc P P_impl_plain (codeOf Tryz.f233) (env0 [a0]) w (retX P Tryz.f233.results.toList K) := by kernel_rfl
    exact e ▸ h)

/-- impl.minus -/
def D_impl_minus (a0 : Value) (w : World) (K : Value → World → Prop) : Prop :=
  call P f_math_Float32bits [a0] w fun x4_1 w2 =>
  bin P .shr 221 false true x4_1 (.int .u64 31) w2 fun x5_3 =>
  bin P .neq 221 false true x5_3 (.int .u32 0) w2 fun x6_4 =>
  K x6_4 w2
def P_impl_minus : Plan := (.seq (.reg [.op (0, 0, false)]) (.seq (.reg [.op (0, 0, false), .op (1, 2, false), .op (2, 0, false), .op (3, 0, false), .op (4, 0, false)]) .leaf))
theorem I_impl_minus {a0 : Value} {w : World} {K : Value → World → Prop} (h : D_impl_minus a0 w K) : call P f_impl_minus [a0] w K :=
  call_of_vc mixed Tryz.func296 (c := codeOf Tryz.f296) (by kernel_rfl) (by kernel_rfl) (p := P_impl_minus) (by kernel_rfl) (by rw [Tryz.ntmps296]; simp) (by
    have e : D_impl_minus a0 w K = vc P P_impl_minus (codeOf Tryz.f296) (env0 [a0]) w (retX P Tryz.f296.results.toList K) := by kernel_rfl
    exact e ▸ h)

end Go.Proofs.YtabgkpfcpncmhaaGreat

/- Written by a program (gen.py): what is left to show of each function's call. -/
set_option linter.unusedVariables false
set_option maxRecDepth 20000
namespace Go.Proofs.YtabgkpfcpncmhaaGreat
open Go Go.Vc

/-- impl.addIn -/
def D_impl_addIn (a0 a1 a2 : Value) (w : World) (K : Value → World → Prop) : Prop :=
  call P f_impl_numOf [a0] w fun x10_1 w2 =>
  call P f_impl_numOf [a1] w2 fun x12_3 w4 =>
  call P f_impl_num_add [x10_1, x12_3] w4 fun x13_5 w6 =>
  alc P 105 w6 fun x8_7 w8 =>
  sto P 105 x8_7 x13_5 w8 fun w10 =>
  ld P 105 x8_7 w10 fun x14_11 =>
  call P f_impl_num_sign [x14_11] w10 fun x15_12 w13 =>
  bin P .eql 3 false true x15_12 (.int .i64 0) w13 fun x16_14 =>
  cnd x16_14
    (bin P .eql 35 false true a0 (.float .f32 0) w13 fun x18_15 =>
    ∃ J16 : Value → World → Prop, (∀ (x21_17 : Value) (junk19 : Env) (w18 : World), J16 x21_17 w18 →
      pick x18_15 x21_17 (.bool false) fun x22_20 =>
      ∃ J21 : Value → World → Prop, (∀ (x28_22 : Value) (junk24 : Env) (w23 : World), J21 x28_22 w23 →
      pick x22_20 x28_22 (.bool false) fun x29_25 =>
        call P f_impl_minus [a0] w23 fun x31_26 w27 =>
        call P f_impl_zeroSum [x29_25, x31_26, a2] w27 fun x33_28 w29 =>
        K (.tuple #[x33_28, (.int .i64 0)]) w29) ∧
      grd x22_20 true
        (call P f_impl_minus [a0] w18 fun x25_30 w31 =>
          call P f_impl_minus [a1] w31 fun x27_32 w33 =>
          bin P .eql 4 false false x25_30 x27_32 w33 fun x28_34 =>
          J21 x28_34 w33)
        (J21 undef w18)) ∧
      grd x18_15 true
        (bin P .eql 35 false true a1 (.float .f32 0) w13 fun x21_35 =>
        J16 x21_35 w13)
        (J16 undef w13))
    (ld P 105 x8_7 w13 fun x34_36 =>
    call P f_impl_num_round [x34_36, a2] w13 fun x36_37 w38 =>
    xtr P x36_37 0 w38 fun x37_39 =>
    xtr P x36_37 1 w38 fun x38_40 =>
    K (.tuple #[x37_39, x38_40]) w38)
def P_impl_addIn : Plan := (.seq (.reg [.op (0, 0, false), .op (1, 0, false)]) (.seq (.reg [.op (0, 0, false), .op (1, 2, false), .op (2, 0, false), .op (3, 2, false), .op (4, 2, false), .op (5, 2, false), .op (6, 2, false)]) (.seq (.seq (.reg [.op (0, 0, false), .op (1, 2, false), .op (2, 0, false)]) (.cond (.seq (.reg [.op (0, 0, false), .op (1, 0, false), .op (2, 0, false), .grp 2 true [(3, 0, false), (4, 0, false)] [21] 3145728, .op (5, 0, false), .op (6, 0, false), .grp 6 true [(7, 0, false), (8, 2, false), (9, 0, false), (10, 2, false), (11, 0, false)] [28] 520093696, .op (12, 0, false), .op (13, 0, false), .op (14, 2, false), .op (15, 0, false), .op (16, 2, false), .op (17, 0, false), .op (18, 0, false)]) .leaf) .leaf)) (.seq (.reg [.op (0, 0, false), .op (1, 0, false), .op (2, 2, false), .op (3, 0, false), .op (4, 0, false), .op (5, 0, false), .op (6, 0, false)]) .leaf))))
theorem I_impl_addIn {a0 a1 a2 : Value} {w : World} {K : Value → World → Prop} (h : D_impl_addIn a0 a1 a2 w K) : call P f_impl_addIn [a0, a1, a2] w K :=
  call_of_vc mixed Tryz.func270 (c := codeOf Tryz.f270) (by kernel_rfl) (by kernel_rfl) (p := P_impl_addIn) (by kernel_rfl) (by rw [Tryz.ntmps270]; simp) (by
    have e : D_impl_addIn a0 a1 a2 w K = vc P P_impl_addIn (codeOf Tryz.f270) (env0 [a0, a1, a2]) w (retX P Tryz.f270.results.toList K) := by kernel_rfl
    exact e ▸ h)

/-- impl.zeroSum -/
def D_impl_zeroSum (a0 a1 a2 : Value) (w : World) (K : Value → World → Prop) : Prop :=
  ∃ J1 : Value → World → Prop, (∀ (x9_2 : Value) (junk4 : Env) (w3 : World), J1 x9_2 w3 →
    pick a0 x9_2 (.bool false) fun x10_5 =>
    ∃ J6 : Value → World → Prop, (∀ (x14_7 : Value) (junk9 : Env) (w8 : World), J6 x14_7 w8 →
    ∃ J10 : Value → World → Prop, (∀ (x16_11 : Value) (junk13 : Env) (w12 : World), J10 x16_11 w12 →
    ∃ J14 : Value → World → Prop, (∀ (x17_15 : Value) (junk17 : Env) (w16 : World), J14 x17_15 w16 →
    pick x10_5 (.bool true) x17_15 fun x18_18 =>
          cnd x18_18
            (call P f_impl_minusZero [] w16 fun x19_19 w20 =>
            K x19_19 w20)
            (K (.float .f32 0) w16)) ∧
    grd x10_5 false
      (pick x14_7 x16_11 (.bool false) fun x17_21 =>
            J14 x17_21 w12)
      (J14 undef w12)) ∧
    grd x14_7 true
      (bin P .eql 2 false true a2 (.int .i64 1) w8 fun x16_22 =>
          J10 x16_22 w8)
      (J10 undef w8)) ∧
    grd x10_5 false
      (una P .not a0 w3 fun x13_23 =>
        J6 x13_23 w3)
      (J6 undef w3)) ∧
    grd a0 true
      (J1 a1 w)
      (J1 undef w)
def P_impl_zeroSum : Plan := (.seq (.reg [.op (0, 0, false)]) (.seq (.seq (.reg [.op (0, 0, false), .op (1, 0, false), .grp 1 true [(2, 0, false)] [9] 512, .op (3, 0, false), .op (4, 0, false), .grp 4 false [(5, 0, false), (6, 0, false), (7, 0, false)] [14] 28672, .grp 7 true [(8, 0, false), (9, 0, false)] [16] 98304, .grp 4 false [(10, 0, false)] [17] 131072, .op (11, 0, false)]) (.cond (.seq (.reg [.op (0, 2, false), .op (1, 0, false)]) .leaf) .leaf)) (.seq (.reg [.op (0, 0, false)]) .leaf)))
theorem I_impl_zeroSum {a0 a1 a2 : Value} {w : World} {K : Value → World → Prop} (h : D_impl_zeroSum a0 a1 a2 w K) : call P f_impl_zeroSum [a0, a1, a2] w K :=
  call_of_vc mixed Tryz.func298 (c := codeOf Tryz.f298) (by kernel_rfl) (by kernel_rfl) (p := P_impl_zeroSum) (by kernel_rfl) (by rw [Tryz.ntmps298]; simp) (by
    have e : D_impl_zeroSum a0 a1 a2 w K = vc P P_impl_zeroSum (codeOf Tryz.f298) (env0 [a0, a1, a2]) w (retX P Tryz.f298.results.toList K) := by kernel_rfl
    exact e ▸ h)

/-- impl.minusZero -/
def D_impl_minusZero (w : World) (K : Value → World → Prop) : Prop :=
  call P f_math_Float32frombits [(.int .u32 2147483648)] w fun x1_1 w2 =>
  K x1_1 w2
def P_impl_minusZero : Plan := (.seq (.reg [.op (0, 0, false)]) (.seq (.reg [.op (0, 2, false), .op (1, 0, false)]) .leaf))
theorem I_impl_minusZero {w : World} {K : Value → World → Prop} (h : D_impl_minusZero  w K) : call P f_impl_minusZero [] w K :=
  call_of_vc mixed Tryz.func308 (c := codeOf Tryz.f308) (by kernel_rfl) (by kernel_rfl) (p := P_impl_minusZero) (by kernel_rfl) (by rw [Tryz.ntmps308]; simp) (by
    have e : D_impl_minusZero  w K = vc P P_impl_minusZero (codeOf Tryz.f308) (env0 []) w (retX P Tryz.f308.results.toList K) := by kernel_rfl
    exact e ▸ h)

end Go.Proofs.YtabgkpfcpncmhaaGreat

/- Written by a program (gen.py): what is left to show of each function's call. -/
set_option linter.unusedVariables false
set_option maxRecDepth 20000
namespace Go.Proofs.YtabgkpfcpncmhaaGreat
open Go Go.Vc

/-- spec.l01Abs -/
def D_spec_l01Abs (a0 : Value) (w : World) (K : Value → World → Prop) : Prop :=
  bin P .lss 35 false true a0 (.float .f32 0) w fun x4_1 =>
  cnd x4_1
    (una P .neg a0 w fun x6_2 =>
    K x6_2 w)
    (bin P .eql 35 false true a0 (.float .f32 0) w fun x8_3 =>
    cnd x8_3
      (K (.float .f32 0) w)
      (K a0 w))
def P_spec_l01Abs : Plan := (.seq (.reg [.op (0, 0, false)]) (.seq (.seq (.reg [.op (0, 0, false), .op (1, 0, false)]) (.cond (.seq (.reg [.op (0, 0, false), .op (1, 0, false), .op (2, 0, false)]) .leaf) .leaf)) (.seq (.seq (.reg [.op (0, 0, false), .op (1, 0, false)]) (.cond (.seq (.reg [.op (0, 0, false)]) .leaf) .leaf)) (.seq (.reg [.op (0, 0, false), .op (1, 0, false)]) .leaf))))
theorem I_spec_l01Abs {a0 : Value} {w : World} {K : Value → World → Prop} (h : D_spec_l01Abs a0 w K) : call P f_spec_l01Abs [a0] w K :=
  call_of_vc mixed Tryz.func98 (c := codeOf Tryz.f98) (by kernel_rfl) (by kernel_rfl) (p := P_spec_l01Abs) (by kernel_rfl) (by rw [Tryz.ntmps98]; simp) (by
    have e : D_spec_l01Abs a0 w K = vc P P_spec_l01Abs (codeOf Tryz.f98) (env0 [a0]) w (retX P Tryz.f98.results.toList K) := by kernel_rfl
    exact e ▸ h)

/-- spec.l01Finite -/
def D_spec_l01Finite (a0 : Value) (w : World) (K : Value → World → Prop) : Prop :=
  rbin P .sub 35 false false a0 a0 w fun x5_1 =>
  bin P .eql 35 false true x5_1 (.float .f32 0) w fun x6_2 =>
  K x6_2 w
def P_spec_l01Finite : Plan := (.seq (.reg [.op (0, 0, false)]) (.seq (.reg [.op (0, 0, false), .op (1, 0, false), .op (2, 1, false), .op (3, 0, false), .op (4, 0, false)]) .leaf))
theorem I_spec_l01Finite {a0 : Value} {w : World} {K : Value → World → Prop} (h : D_spec_l01Finite a0 w K) : call P f_spec_l01Finite [a0] w K :=
  call_of_vc mixed Tryz.func131 (c := codeOf Tryz.f131) (by kernel_rfl) (by kernel_rfl) (p := P_spec_l01Finite) (by kernel_rfl) (by rw [Tryz.ntmps131]; simp) (by
    have e : D_spec_l01Finite a0 w K = vc P P_spec_l01Finite (codeOf Tryz.f131) (env0 [a0]) w (retX P Tryz.f131.results.toList K) := by kernel_rfl
    exact e ▸ h)

/-- spec.l01Parts -/
def D_spec_l01Parts (a0 : Value) (w : World) (K : Value → World → Prop) : Prop :=
  call P f_spec_l01Abs [a0] w fun x7_1 w2 =>
  rcnv P 35 39 x7_1 w2 fun x8_3 =>
  call P f_spec_l01Twos [x8_3, (.int .i64 149)] w2 fun x9_4 w5 =>
  ∃ I6 : Nat → Value → Value → World → Prop, (∃ m17, I6 m17 (.int .i64 (-149)) x9_4 w5) ∧ ∀ (m9 : Nat) (x4_10 : Value) (x5_11 : Value) (junk7 : Env) (w8 : World), I6 m9 x4_10 x5_11 w8 →
    bin P .geq 39 false true x5_11 (.float .f64 4715268809856909312) w8 fun x11_12 =>
    cnd x11_12
      (rbin P .quo 39 false true x5_11 (.float .f64 4611686018427387904) w8 fun x13_13 =>
      bin P .add 2 false true x4_10 (.int .i64 1) w8 fun x15_14 =>
      ∃ m15, m15 < m9 ∧ I6 m15 x15_14 x13_13 w8)
      (rcnv P 39 2 x5_11 w8 fun x17_16 =>
      K (.tuple #[x17_16, x4_10]) w8)
def P_spec_l01Parts : Plan := (.seq (.reg [.op (0, 0, false), .op (1, 0, false)]) (.seq (.reg [.op (0, 0, false), .op (1, 2, false), .op (2, 1, false), .op (3, 2, false), .op (4, 0, false), .op (5, 0, false)]) (.seq (.blk (.loop [4, 5] 64560 (.seq (.seq (.reg [.op (0, 0, false), .op (1, 0, false)]) (.cond .leaf .leaf)) (.blk (.seq (.reg [.op (0, 0, false), .op (1, 1, false), .op (2, 0, false)]) (.reg [.op (0, 0, false), .op (1, 0, false), .op (2, 0, false)])))))) (.seq (.reg [.op (0, 0, false), .op (1, 1, false), .op (2, 0, false), .op (3, 0, false), .op (4, 0, false)]) .leaf))))
theorem I_spec_l01Parts {a0 : Value} {w : World} {K : Value → World → Prop} (h : D_spec_l01Parts a0 w K) : call P f_spec_l01Parts [a0] w K :=
  call_of_vc mixed Tryz.func177 (c := codeOf Tryz.f177) (by kernel_rfl) (by kernel_rfl) (p := P_spec_l01Parts) (by kernel_rfl) (by rw [Tryz.ntmps177]; simp) (by
    have e : D_spec_l01Parts a0 w K = vc P P_spec_l01Parts (codeOf Tryz.f177) (env0 [a0]) w (retX P Tryz.f177.results.toList K) := by kernel_rfl
    exact e ▸ h)

/-- spec.l01Twos -/
def D_spec_l01Twos (a0 a1 : Value) (w : World) (K : Value → World → Prop) : Prop :=
  ∃ I1 : Nat → Value → Value → World → Prop, (∃ m22, I1 m22 a0 a1 w) ∧ ∀ (m4 : Nat) (x0_5 : Value) (x1_6 : Value) (junk2 : Env) (w3 : World), I1 m4 x0_5 x1_6 w3 →
    bin P .gtr 2 false true x1_6 (.int .i64 0) w3 fun x6_7 =>
    cnd x6_7
      (rbin P .mul 39 false true x0_5 (.float .f64 4611686018427387904) w3 fun x10_8 =>
      bin P .sub 2 false true x1_6 (.int .i64 1) w3 fun x8_9 =>
      ∃ m10, m10 < m4 ∧ I1 m10 x10_8 x8_9 w3)
      (∃ I11 : Nat → Value → Value → World → Prop, (∃ m21, I11 m21 x0_5 x1_6 w3) ∧ ∀ (m14 : Nat) (x0_15 : Value) (x1_16 : Value) (junk12 : Env) (w13 : World), I11 m14 x0_15 x1_16 w13 →
        bin P .lss 2 false true x1_16 (.int .i64 0) w13 fun x12_17 =>
        cnd x12_17
          (rbin P .quo 39 false true x0_15 (.float .f64 4611686018427387904) w13 fun x16_18 =>
          bin P .add 2 false true x1_16 (.int .i64 1) w13 fun x14_19 =>
          ∃ m20, m20 < m14 ∧ I11 m20 x16_18 x14_19 w13)
          (K x0_15 w13))
def P_spec_l01Twos : Plan := (.seq (.reg [.op (0, 0, false)]) (.seq (.blk (.loop [0, 1] 2019 (.seq (.seq (.reg [.op (0, 0, false), .op (1, 0, false)]) (.cond .leaf .leaf)) (.seq (.blk (.reg [.op (0, 0, false), .op (1, 1, false), .op (2, 0, false)])) (.reg [.op (0, 0, false), .op (1, 0, false), .op (2, 0, false)]))))) (.seq (.blk (.loop [0, 1] 129027 (.seq (.seq (.reg [.op (0, 0, false), .op (1, 0, false)]) (.cond .leaf .leaf)) (.seq (.blk (.reg [.op (0, 0, false), .op (1, 1, false), .op (2, 0, false)])) (.reg [.op (0, 0, false), .op (1, 0, false), .op (2, 0, false)]))))) (.seq (.reg [.op (0, 0, false), .op (1, 0, false)]) .leaf))))
theorem I_spec_l01Twos {a0 a1 : Value} {w : World} {K : Value → World → Prop} (h : D_spec_l01Twos a0 a1 w K) : call P f_spec_l01Twos [a0, a1] w K :=
  call_of_vc mixed Tryz.func209 (c := codeOf Tryz.f209) (by kernel_rfl) (by kernel_rfl) (p := P_spec_l01Twos) (by kernel_rfl) (by rw [Tryz.ntmps209]; simp) (by
    have e : D_spec_l01Twos a0 a1 w K = vc P P_spec_l01Twos (codeOf Tryz.f209) (env0 [a0, a1]) w (retX P Tryz.f209.results.toList K) := by kernel_rfl
    exact e ▸ h)

/-- spec.l01Turned -/
def D_spec_l01Turned (a0 : Value) (w : World) (K : Value → World → Prop) : Prop :=
  rbin P .mul 35 false true a0 (.float .f32 3212836864) w fun x4_1 =>
  K x4_1 w
def P_spec_l01Turned : Plan := (.seq (.reg [.op (0, 0, false)]) (.seq (.reg [.op (0, 0, false), .op (1, 1, false), .op (2, 0, false)]) .leaf))
theorem I_spec_l01Turned {a0 : Value} {w : World} {K : Value → World → Prop} (h : D_spec_l01Turned a0 w K) : call P f_spec_l01Turned [a0] w K :=
  call_of_vc mixed Tryz.func210 (c := codeOf Tryz.f210) (by kernel_rfl) (by kernel_rfl) (p := P_spec_l01Turned) (by kernel_rfl) (by rw [Tryz.ntmps210]; simp) (by
    have e : D_spec_l01Turned a0 w K = vc P P_spec_l01Turned (codeOf Tryz.f210) (env0 [a0]) w (retX P Tryz.f210.results.toList K) := by kernel_rfl
    exact e ▸ h)

/-- spec.l01Huge -/
def D_spec_l01Huge (w : World) (K : Value → World → Prop) : Prop :=
  rbin P .mul 35 false true (.float .f32 2137108966) (.float .f32 1092616192) w fun x3_1 =>
  K x3_1 w
def P_spec_l01Huge : Plan := (.seq (.reg [.op (0, 0, false)]) (.seq (.reg [.op (0, 0, false)]) (.seq (.reg [.op (0, 0, false), .op (1, 1, false), .op (2, 0, false)]) .leaf)))
theorem I_spec_l01Huge {w : World} {K : Value → World → Prop} (h : D_spec_l01Huge  w K) : call P f_spec_l01Huge [] w K :=
  call_of_vc mixed Tryz.func218 (c := codeOf Tryz.f218) (by kernel_rfl) (by kernel_rfl) (p := P_spec_l01Huge) (by kernel_rfl) (by rw [Tryz.ntmps218]; simp) (by
    have e : D_spec_l01Huge  w K = vc P P_spec_l01Huge (codeOf Tryz.f218) (env0 []) w (retX P Tryz.f218.results.toList K) := by kernel_rfl
    exact e ▸ h)

/-- spec.l01At -/
def D_spec_l01At (a0 : Value) (w : World) (K : Value → World → Prop) : Prop :=
  bin P .lss 2 false true a0 (.int .i64 0) w fun x6_1 =>
  cnd x6_1
    (una P .neg a0 w fun x8_2 =>
    call P f_spec_l01At [x8_2] w fun x9_3 w4 =>
    una P .neg x9_3 w4 fun x10_5 =>
    K x10_5 w4)
    (bin P .shr 2 false true a0 (.int .u64 23) w fun x12_6 =>
    bin P .and 2 false true a0 (.int .i64 8388607) w fun x14_7 =>
    bin P .eql 2 false true x12_6 (.int .i64 255) w fun x17_8 =>
    cnd x17_8
      (call P f_spec_l01Huge [] w fun x18_9 w10 =>
      K x18_9 w10)
      (bin P .eql 2 false true x12_6 (.int .i64 0) w fun x21_11 =>
      cnd x21_11
        (cnv P 2 39 x14_7 w fun x23_12 =>
        call P f_spec_l01Twos [x23_12, (.int .i64 (-149))] w fun x24_13 w14 =>
        rcnv P 39 35 x24_13 w14 fun x25_15 =>
        K x25_15 w14)
        (bin P .add 2 false true x14_7 (.int .i64 8388608) w fun x27_16 =>
        cnv P 2 39 x27_16 w fun x28_17 =>
        bin P .sub 2 false true x12_6 (.int .i64 150) w fun x30_18 =>
        call P f_spec_l01Twos [x28_17, x30_18] w fun x31_19 w20 =>
        rcnv P 39 35 x31_19 w20 fun x32_21 =>
        K x32_21 w20)))
def P_spec_l01At : Plan := (.seq (.reg [.op (0, 0, false)]) (.seq (.seq (.reg [.op (0, 0, false), .op (1, 0, false)]) (.cond (.seq (.reg [.op (0, 0, false), .op (1, 0, false), .op (2, 2, false), .op (3, 0, false), .op (4, 0, false)]) .leaf) .leaf)) (.seq (.reg [.op (0, 0, false), .op (1, 0, false), .op (2, 0, false), .op (3, 0, false), .op (4, 0, false), .op (5, 0, false)]) (.seq (.blk (.seq (.reg [.op (0, 0, false), .op (1, 0, false), .op (2, 0, false)]) (.cond (.seq (.reg [.op (0, 2, false), .op (1, 0, false)]) .leaf) (.seq (.reg [.op (0, 0, false), .op (1, 0, false), .op (2, 0, false)]) (.cond (.seq (.reg [.op (0, 0, false), .op (1, 0, false), .op (2, 2, false), .op (3, 1, false), .op (4, 0, false)]) .leaf) .leaf))))) (.seq (.reg [.op (0, 0, false), .op (1, 0, false), .op (2, 0, false), .op (3, 0, false), .op (4, 0, false), .op (5, 2, false), .op (6, 1, false), .op (7, 0, false)]) .leaf)))))
theorem I_spec_l01At {a0 : Value} {w : World} {K : Value → World → Prop} (h : D_spec_l01At a0 w K) : call P f_spec_l01At [a0] w K :=
  call_of_vc mixed Tryz.func272 (c := codeOf Tryz.f272) (by kernel_rfl) (by kernel_rfl) (p := P_spec_l01At) (by kernel_rfl) (by rw [Tryz.ntmps272]; simp) (by
    have e : D_spec_l01At a0 w K = vc P P_spec_l01At (codeOf Tryz.f272) (env0 [a0]) w (retX P Tryz.f272.results.toList K) := by kernel_rfl
    exact e ▸ h)

/-- spec.l01Own -/
def D_spec_l01Own (a0 : Value) (w : World) (K : Value → World → Prop) : Prop :=
  bsl P 24 0 [] w fun x3_1 w2 =>
  bl2 P .append #[24, 24] 24 [x3_1, a0] w2 fun x5_3 w4 =>
  K x5_3 w4
def P_spec_l01Own : Plan := (.seq (.reg [.op (0, 0, false)]) (.seq (.reg [.op (0, 2, false), .op (1, 0, false), .op (2, 2, false), .op (3, 0, false)]) .leaf))
theorem I_spec_l01Own {a0 : Value} {w : World} {K : Value → World → Prop} (h : D_spec_l01Own a0 w K) : call P f_spec_l01Own [a0] w K :=
  call_of_vc mixed Tryz.func284 (c := codeOf Tryz.f284) (by kernel_rfl) (by kernel_rfl) (p := P_spec_l01Own) (by kernel_rfl) (by rw [Tryz.ntmps284]; simp) (by
    have e : D_spec_l01Own a0 w K = vc P P_spec_l01Own (codeOf Tryz.f284) (env0 [a0]) w (retX P Tryz.f284.results.toList K) := by kernel_rfl
    exact e ▸ h)

/-- spec.l01NaN -/
def D_spec_l01NaN (a0 : Value) (w : World) (K : Value → World → Prop) : Prop :=
  bin P .neq 35 false false a0 a0 w fun x5_1 =>
  K x5_1 w
def P_spec_l01NaN : Plan := (.seq (.reg [.op (0, 0, false)]) (.seq (.reg [.op (0, 0, false), .op (1, 0, false), .op (2, 0, false), .op (3, 0, false)]) .leaf))
theorem I_spec_l01NaN {a0 : Value} {w : World} {K : Value → World → Prop} (h : D_spec_l01NaN a0 w K) : call P f_spec_l01NaN [a0] w K :=
  call_of_vc mixed Tryz.func294 (c := codeOf Tryz.f294) (by kernel_rfl) (by kernel_rfl) (p := P_spec_l01NaN) (by kernel_rfl) (by rw [Tryz.ntmps294]; simp) (by
    have e : D_spec_l01NaN a0 w K = vc P P_spec_l01NaN (codeOf Tryz.f294) (env0 [a0]) w (retX P Tryz.f294.results.toList K) := by kernel_rfl
    exact e ▸ h)

/-- spec.l01Minus -/
def D_spec_l01Minus (a0 : Value) (w : World) (K : Value → World → Prop) : Prop :=
  bin P .lss 35 false true a0 (.float .f32 0) w fun x4_1 =>
  ∃ J2 : Value → World → Prop, (∀ (x8_3 : Value) (junk5 : Env) (w4 : World), J2 x8_3 w4 →
    ∃ J6 : Value → World → Prop, (∀ (x11_7 : Value) (junk9 : Env) (w8 : World), J6 x11_7 w8 →
    ∃ J10 : Value → World → Prop, (∀ (x12_11 : Value) (junk13 : Env) (w12 : World), J10 x12_11 w12 →
    pick x4_1 (.bool true) x12_11 fun x13_14 =>
        K x13_14 w12) ∧
    grd x4_1 false
      (pick x8_3 x11_7 (.bool false) fun x12_15 =>
          J10 x12_15 w8)
      (J10 undef w8)) ∧
    grd x8_3 true
      (rbin P .quo 35 true false (.float .f32 1065353216) a0 w4 fun x10_16 =>
        bin P .lss 35 false true x10_16 (.float .f32 0) w4 fun x11_17 =>
        J6 x11_17 w4)
      (J6 undef w4)) ∧
    grd x4_1 false
      (bin P .eql 35 false true a0 (.float .f32 0) w fun x7_18 =>
      J2 x7_18 w)
      (J2 undef w)
def P_spec_l01Minus : Plan := (.seq (.reg [.op (0, 0, false)]) (.seq (.reg [.op (0, 0, false), .op (1, 0, false), .op (2, 0, false), .grp 2 false [(3, 0, false), (4, 0, false), (5, 0, false)] [8] 448, .grp 5 true [(6, 0, false), (7, 1, false), (8, 0, false)] [11] 3584, .grp 2 false [(9, 0, false)] [12] 4096, .op (10, 0, false), .op (11, 0, false)]) .leaf))
theorem I_spec_l01Minus {a0 : Value} {w : World} {K : Value → World → Prop} (h : D_spec_l01Minus a0 w K) : call P f_spec_l01Minus [a0] w K :=
  call_of_vc mixed Tryz.func295 (c := codeOf Tryz.f295) (by kernel_rfl) (by kernel_rfl) (p := P_spec_l01Minus) (by kernel_rfl) (by rw [Tryz.ntmps295]; simp) (by
    have e : D_spec_l01Minus a0 w K = vc P P_spec_l01Minus (codeOf Tryz.f295) (env0 [a0]) w (retX P Tryz.f295.results.toList K) := by kernel_rfl
    exact e ▸ h)

end Go.Proofs.YtabgkpfcpncmhaaGreat

/- Written by a program (gen.py): what is left to show of each function's call. -/
set_option linter.unusedVariables false
set_option maxRecDepth 20000
namespace Go.Proofs.YtabgkpfcpncmhaaGreat
open Go Go.Vc

/-- laws.sameFloat -/
def D_laws_sameFloat (a0 a1 : Value) (w : World) (K : Value → World → Prop) : Prop :=
  bin P .neq 39 false false a0 a0 w fun x7_1 =>
  ∃ J2 : Value → World → Prop, (∀ (x11_3 : Value) (junk5 : Env) (w4 : World), J2 x11_3 w4 →
    pick x7_1 (.bool true) x11_3 fun x12_6 =>
    cnd x12_6
      (bin P .neq 39 false false a0 a0 w4 fun x15_7 =>
      ∃ J8 : Value → World → Prop, (∀ (x19_9 : Value) (junk11 : Env) (w10 : World), J8 x19_9 w10 →
        pick x15_7 x19_9 (.bool false) fun x20_12 =>
        K x20_12 w10) ∧
        grd x15_7 true
          (bin P .neq 39 false false a1 a1 w4 fun x19_13 =>
          J8 x19_13 w4)
          (J8 undef w4))
      (bin P .eql 39 false true a0 (.float .f64 0) w4 fun x22_14 =>
      ∃ J15 : Value → World → Prop, (∀ (x25_16 : Value) (junk18 : Env) (w17 : World), J15 x25_16 w17 →
        pick x22_14 x25_16 (.bool false) fun x26_19 =>
        cnd x26_19
          (rbin P .quo 39 true false (.float .f64 4607182418800017408) a0 w17 fun x28_20 =>
          bin P .gtr 39 false true x28_20 (.float .f64 0) w17 fun x29_21 =>
          rbin P .quo 39 true false (.float .f64 4607182418800017408) a1 w17 fun x31_22 =>
          bin P .gtr 39 false true x31_22 (.float .f64 0) w17 fun x32_23 =>
          bin P .eql 4 false false x29_21 x32_23 w17 fun x33_24 =>
          K x33_24 w17)
          (bin P .eql 39 false false a0 a1 w17 fun x36_25 =>
          K x36_25 w17)) ∧
        grd x22_14 true
          (bin P .eql 39 false true a1 (.float .f64 0) w4 fun x25_26 =>
          J15 x25_26 w4)
          (J15 undef w4))) ∧
    grd x7_1 false
      (bin P .neq 39 false false a1 a1 w fun x11_27 =>
      J2 x11_27 w)
      (J2 undef w)
def P_laws_sameFloat : Plan := (.seq (.reg [.op (0, 0, false)]) (.seq (.seq (.reg [.op (0, 0, false), .op (1, 0, false), .op (2, 0, false), .op (3, 0, false), .grp 3 false [(4, 0, false), (5, 0, false), (6, 0, false)] [11] 3584, .op (7, 0, false)]) (.cond (.seq (.reg [.op (0, 0, false), .op (1, 0, false), .op (2, 0, false), .op (3, 0, false), .grp 3 true [(4, 0, false), (5, 0, false), (6, 0, false)] [19] 917504, .op (7, 0, false), .op (8, 0, false)]) .leaf) .leaf)) (.seq (.seq (.reg [.op (0, 0, false), .op (1, 0, false), .op (2, 0, false), .grp 2 true [(3, 0, false), (4, 0, false)] [25] 50331648, .op (5, 0, false)]) (.cond (.seq (.reg [.op (0, 0, false), .op (1, 1, false), .op (2, 0, false), .op (3, 0, false), .op (4, 1, false), .op (5, 0, false), .op (6, 0, false), .op (7, 0, false)]) .leaf) .leaf)) (.seq (.reg [.op (0, 0, false), .op (1, 0, false), .op (2, 0, false), .op (3, 0, false)]) .leaf))))
theorem I_laws_sameFloat {a0 a1 : Value} {w : World} {K : Value → World → Prop} (h : D_laws_sameFloat a0 a1 w K) : call P f_laws_sameFloat [a0, a1] w K :=
  call_of_vc mixed Tryz.func25 (c := codeOf Tryz.f25) (by kernel_rfl) (by kernel_rfl) (p := P_laws_sameFloat) (by kernel_rfl) (by rw [Tryz.ntmps25]; simp) (by
    have e : D_laws_sameFloat a0 a1 w K = vc P P_laws_sameFloat (codeOf Tryz.f25) (env0 [a0, a1]) w (retX P Tryz.f25.results.toList K) := by kernel_rfl
    exact e ▸ h)

/-- laws.szIntervalS -/
def D_laws_szIntervalS (a0 a1 : Value) (w : World) (K : Value → World → Prop) : Prop :=
  bl0 P .len #[48] 3 [a0] w fun x7_1 =>
  bin P .sub 3 false false a1 x7_1 w fun x8_2 =>
  bin P .lss 3 false true x8_2 (.int .i64 0) w fun x10_3 =>
  cnd x10_3
    (K (.int .i64 (-1)) w)
    (K x8_2 w)
def P_laws_szIntervalS : Plan := (.seq (.reg [.op (0, 0, false)]) (.seq (.reg [.op (0, 0, false), .op (1, 0, false), .op (2, 0, false), .op (3, 0, false), .op (4, 0, false)]) (.seq (.seq (.reg [.op (0, 0, false), .op (1, 0, false)]) (.cond (.seq (.reg [.op (0, 0, false)]) .leaf) .leaf)) (.seq (.reg [.op (0, 0, false), .op (1, 0, false)]) .leaf))))
theorem I_laws_szIntervalS {a0 a1 : Value} {w : World} {K : Value → World → Prop} (h : D_laws_szIntervalS a0 a1 w K) : call P f_laws_szIntervalS [a0, a1] w K :=
  call_of_vc mixed Tryz.func32 (c := codeOf Tryz.f32) (by kernel_rfl) (by kernel_rfl) (p := P_laws_szIntervalS) (by kernel_rfl) (by rw [Tryz.ntmps32]; simp) (by
    have e : D_laws_szIntervalS a0 a1 w K = vc P P_laws_szIntervalS (codeOf Tryz.f32) (env0 [a0, a1]) w (retX P Tryz.f32.results.toList K) := by kernel_rfl
    exact e ▸ h)

/-- laws.toIntervalS -/
def D_laws_toIntervalS (a0 : Value) (w : World) (K : Value → World → Prop) : Prop :=
  bl0 P .len #[48] 3 [a0] w fun x6_1 =>
  mks P 50 x6_1 x6_1 w fun x7_2 w3 =>
  ∃ I4 : Nat → Value → World → Prop, (∃ m20, I4 m20 (.int .i64 0) w3) ∧ ∀ (m7 : Nat) (x4_8 : Value) (junk5 : Env) (w6 : World), I4 m7 x4_8 w6 →
    bl0 P .len #[48] 3 [a0] w6 fun x10_9 =>
    bin P .lss 3 false false x4_8 x10_9 w6 fun x11_10 =>
    cnd x11_10
      (ixa P 48 a0 x4_8 w6 fun x18_11 =>
      ld P 129 x18_11 w6 fun x19_12 =>
      call P f_laws_toInterval [x19_12] w6 fun x20_13 w14 =>
      ixa P 50 x7_2 x4_8 w14 fun x21_15 =>
      sto P 61 x21_15 x20_13 w14 fun w17 =>
      bin P .add 3 false true x4_8 (.int .i64 1) w17 fun x13_18 =>
      ∃ m19, m19 < m7 ∧ I4 m19 x13_18 w17)
      (K x7_2 w6)
def P_laws_toIntervalS : Plan := (.seq (.reg [.op (0, 0, false)]) (.seq (.reg [.op (0, 0, false), .op (1, 0, false), .op (2, 2, false), .op (3, 0, false)]) (.seq (.seq (.reg [.op (0, 0, false)]) (.blk (.loop [4] 4194064 (.seq (.seq (.reg [.op (0, 0, false), .op (1, 0, false), .op (2, 0, false), .op (3, 0, false)]) (.cond .leaf .leaf)) (.seq (.blk (.reg [.op (0, 0, false), .op (1, 0, false), .op (2, 0, false), .op (3, 0, false), .op (4, 0, false), .op (5, 0, false), .op (6, 2, false), .op (7, 0, false), .op (8, 2, false)])) (.reg [.op (0, 0, false), .op (1, 0, false), .op (2, 0, false)])))))) (.seq (.reg [.op (0, 0, false), .op (1, 0, false)]) .leaf))))
theorem I_laws_toIntervalS {a0 : Value} {w : World} {K : Value → World → Prop} (h : D_laws_toIntervalS a0 w K) : call P f_laws_toIntervalS [a0] w K :=
  call_of_vc mixed Tryz.func34 (c := codeOf Tryz.f34) (by kernel_rfl) (by kernel_rfl) (p := P_laws_toIntervalS) (by kernel_rfl) (by rw [Tryz.ntmps34]; simp) (by
    have e : D_laws_toIntervalS a0 w K = vc P P_laws_toIntervalS (codeOf Tryz.f34) (env0 [a0]) w (retX P Tryz.f34.results.toList K) := by kernel_rfl
    exact e ▸ h)

/-- laws.eqIntervalS -/
def D_laws_eqIntervalS (a0 a1 : Value) (w : World) (K : Value → World → Prop) : Prop :=
  bl0 P .len #[50] 3 [a0] w fun x7_1 =>
  bl0 P .len #[50] 3 [a1] w fun x9_2 =>
  bin P .neq 3 false false x7_1 x9_2 w fun x10_3 =>
  cnd x10_3
    (K (.bool false) w)
    (∃ I4 : Nat → Value → World → Prop, (∃ m20, I4 m20 (.int .i64 0) w) ∧ ∀ (m7 : Nat) (x5_8 : Value) (junk5 : Env) (w6 : World), I4 m7 x5_8 w6 →
      bl0 P .len #[50] 3 [a0] w6 fun x13_9 =>
      bin P .lss 3 false false x5_8 x13_9 w6 fun x14_10 =>
      cnd x14_10
        (ixa P 50 a0 x5_8 w6 fun x19_11 =>
        ld P 61 x19_11 w6 fun x20_12 =>
        ixa P 50 a1 x5_8 w6 fun x23_13 =>
        ld P 61 x23_13 w6 fun x24_14 =>
        call P f_laws_eqInterval [x20_12, x24_14] w6 fun x25_15 w16 =>
        una P .not x25_15 w16 fun x26_17 =>
        cnd x26_17
          (K (.bool false) w16)
          (bin P .add 3 false true x5_8 (.int .i64 1) w16 fun x16_18 =>
          ∃ m19, m19 < m7 ∧ I4 m19 x16_18 w16))
        (K (.bool true) w6))
def P_laws_eqIntervalS : Plan := (.seq (.reg [.op (0, 0, false)]) (.seq (.seq (.reg [.op (0, 0, false), .op (1, 0, false), .op (2, 0, false), .op (3, 0, false), .op (4, 0, false)]) (.cond (.seq (.reg [.op (0, 0, false)]) .leaf) .leaf)) (.seq (.seq (.reg [.op (0, 0, false)]) (.blk (.loop [5] 134215728 (.seq (.seq (.reg [.op (0, 0, false), .op (1, 0, false), .op (2, 0, false), .op (3, 0, false)]) (.cond .leaf .leaf)) (.seq (.blk (.seq (.reg [.op (0, 0, false), .op (1, 0, false), .op (2, 0, false), .op (3, 0, false), .op (4, 0, false), .op (5, 0, false), .op (6, 0, false), .op (7, 0, false), .op (8, 2, false), .op (9, 0, false)]) (.cond (.seq (.reg [.op (0, 0, false)]) .leaf) .leaf))) (.reg [.op (0, 0, false), .op (1, 0, false), .op (2, 0, false)])))))) (.seq (.reg [.op (0, 0, false)]) .leaf))))
theorem I_laws_eqIntervalS {a0 a1 : Value} {w : World} {K : Value → World → Prop} (h : D_laws_eqIntervalS a0 a1 w K) : call P f_laws_eqIntervalS [a0, a1] w K :=
  call_of_vc mixed Tryz.func36 (c := codeOf Tryz.f36) (by kernel_rfl) (by kernel_rfl) (p := P_laws_eqIntervalS) (by kernel_rfl) (by rw [Tryz.ntmps36]; simp) (by
    have e : D_laws_eqIntervalS a0 a1 w K = vc P P_laws_eqIntervalS (codeOf Tryz.f36) (env0 [a0, a1]) w (retX P Tryz.f36.results.toList K) := by kernel_rfl
    exact e ▸ h)

/-- laws.markIntervalS -/
def D_laws_markIntervalS (a0 a1 : Value) (w : World) (K : Value → World → Prop) : Prop :=
  ∃ I1 : Nat → Value → Value → World → Prop, (∃ m23, I1 m23 a1 (.int .i64 0) w) ∧ ∀ (m4 : Nat) (x1_5 : Value) (x5_6 : Value) (junk2 : Env) (w3 : World), I1 m4 x1_5 x5_6 w3 →
    bl0 P .len #[50] 3 [a0] w3 fun x8_7 =>
    bin P .lss 3 false false x5_6 x8_7 w3 fun x9_8 =>
    cnd x9_8
      (cnv P 3 35 x1_5 w3 fun x15_9 =>
      ixa P 50 a0 x5_6 w3 fun x16_10 =>
      fda P 61 x16_10 0 w3 fun x17_11 =>
      sto P 35 x17_11 x15_9 w3 fun w13 =>
      bin P .add 3 false true x1_5 (.int .i64 1) w13 fun x19_14 =>
      cnv P 3 35 x19_14 w13 fun x23_15 =>
      ixa P 50 a0 x5_6 w13 fun x24_16 =>
      fda P 61 x24_16 1 w13 fun x25_17 =>
      sto P 35 x25_17 x23_15 w13 fun w19 =>
      bin P .add 3 false true x19_14 (.int .i64 1) w19 fun x27_20 =>
      bin P .add 3 false true x5_6 (.int .i64 1) w19 fun x11_21 =>
      ∃ m22, m22 < m4 ∧ I1 m22 x27_20 x11_21 w19)
      (K x1_5 w3)
def P_laws_markIntervalS : Plan := (.seq (.reg [.op (0, 0, false)]) (.seq (.seq (.reg [.op (0, 0, false)]) (.blk (.loop [1, 5] 268435426 (.seq (.seq (.reg [.op (0, 0, false), .op (1, 0, false), .op (2, 0, false), .op (3, 0, false)]) (.cond .leaf .leaf)) (.seq (.blk (.seq (.reg [.op (0, 0, false), .op (1, 0, false), .op (2, 0, false), .op (3, 0, false), .op (4, 0, false), .op (5, 0, false), .op (6, 2, false)]) (.seq (.reg [.op (0, 0, false), .op (1, 0, false), .op (2, 0, false)]) (.seq (.reg [.op (0, 0, false), .op (1, 0, false), .op (2, 0, false), .op (3, 0, false), .op (4, 0, false), .op (5, 0, false), .op (6, 2, false)]) (.reg [.op (0, 0, false), .op (1, 0, false), .op (2, 0, false)]))))) (.reg [.op (0, 0, false), .op (1, 0, false), .op (2, 0, false)])))))) (.seq (.reg [.op (0, 0, false), .op (1, 0, false)]) .leaf)))
theorem I_laws_markIntervalS {a0 a1 : Value} {w : World} {K : Value → World → Prop} (h : D_laws_markIntervalS a0 a1 w K) : call P f_laws_markIntervalS [a0, a1] w K :=
  call_of_vc mixed Tryz.func37 (c := codeOf Tryz.f37) (by kernel_rfl) (by kernel_rfl) (p := P_laws_markIntervalS) (by kernel_rfl) (by rw [Tryz.ntmps37]; simp) (by
    have e : D_laws_markIntervalS a0 a1 w K = vc P P_laws_markIntervalS (codeOf Tryz.f37) (env0 [a0, a1]) w (retX P Tryz.f37.results.toList K) := by kernel_rfl
    exact e ▸ h)

/-- laws.heldIntervalS -/
def D_laws_heldIntervalS (a0 a1 : Value) (w : World) (K : Value → World → Prop) : Prop :=
  ∃ I1 : Nat → Value → Value → World → Prop, (∃ m23, I1 m23 a1 (.int .i64 0) w) ∧ ∀ (m4 : Nat) (x1_5 : Value) (x5_6 : Value) (junk2 : Env) (w3 : World), I1 m4 x1_5 x5_6 w3 →
    bl0 P .len #[50] 3 [a0] w3 fun x8_7 =>
    bin P .lss 3 false false x5_6 x8_7 w3 fun x9_8 =>
    cnd x9_8
      (ixa P 50 a0 x5_6 w3 fun x14_9 =>
      fda P 61 x14_9 0 w3 fun x15_10 =>
      ld P 35 x15_10 w3 fun x16_11 =>
      cnv P 3 35 x1_5 w3 fun x18_12 =>
      bin P .neq 35 false false x16_11 x18_12 w3 fun x19_13 =>
      cnd x19_13
        (K (.int .i64 (-1)) w3)
        (bin P .add 3 false true x1_5 (.int .i64 1) w3 fun x21_14 =>
        ixa P 50 a0 x5_6 w3 fun x24_15 =>
        fda P 61 x24_15 1 w3 fun x25_16 =>
        ld P 35 x25_16 w3 fun x26_17 =>
        cnv P 3 35 x21_14 w3 fun x28_18 =>
        bin P .neq 35 false false x26_17 x28_18 w3 fun x29_19 =>
        cnd x29_19
          (K (.int .i64 (-1)) w3)
          (bin P .add 3 false true x21_14 (.int .i64 1) w3 fun x31_20 =>
          bin P .add 3 false true x5_6 (.int .i64 1) w3 fun x11_21 =>
          ∃ m22, m22 < m4 ∧ I1 m22 x31_20 x11_21 w3)))
      (K x1_5 w3)
def P_laws_heldIntervalS : Plan := (.seq (.reg [.op (0, 0, false)]) (.seq (.seq (.reg [.op (0, 0, false)]) (.blk (.loop [1, 5] 4294967282 (.seq (.seq (.reg [.op (0, 0, false), .op (1, 0, false), .op (2, 0, false), .op (3, 0, false)]) (.cond .leaf .leaf)) (.seq (.blk (.seq (.seq (.reg [.op (0, 0, false), .op (1, 0, false), .op (2, 0, false), .op (3, 0, false), .op (4, 0, false), .op (5, 0, false), .op (6, 0, false), .op (7, 0, false)]) (.cond (.seq (.reg [.op (0, 0, false)]) .leaf) .leaf)) (.seq (.reg [.op (0, 0, false), .op (1, 0, false), .op (2, 0, false)]) (.seq (.seq (.reg [.op (0, 0, false), .op (1, 0, false), .op (2, 0, false), .op (3, 0, false), .op (4, 0, false), .op (5, 0, false), .op (6, 0, false), .op (7, 0, false)]) (.cond (.seq (.reg [.op (0, 0, false)]) .leaf) .leaf)) (.reg [.op (0, 0, false), .op (1, 0, false), .op (2, 0, false)]))))) (.reg [.op (0, 0, false), .op (1, 0, false), .op (2, 0, false)])))))) (.seq (.reg [.op (0, 0, false), .op (1, 0, false)]) .leaf)))
theorem I_laws_heldIntervalS {a0 a1 : Value} {w : World} {K : Value → World → Prop} (h : D_laws_heldIntervalS a0 a1 w K) : call P f_laws_heldIntervalS [a0, a1] w K :=
  call_of_vc mixed Tryz.func38 (c := codeOf Tryz.f38) (by kernel_rfl) (by kernel_rfl) (p := P_laws_heldIntervalS) (by kernel_rfl) (by rw [Tryz.ntmps38]; simp) (by
    have e : D_laws_heldIntervalS a0 a1 w K = vc P P_laws_heldIntervalS (codeOf Tryz.f38) (env0 [a0, a1]) w (retX P Tryz.f38.results.toList K) := by kernel_rfl
    exact e ▸ h)

/-- laws.eqInterval -/
def D_laws_eqInterval (a0 a1 : Value) (w : World) (K : Value → World → Prop) : Prop :=
  bx P 61 a0 w fun x2_1 w2 =>
  bx P 61 a1 w2 fun x3_3 w4 =>
  fda P 61 x2_1 0 w4 fun x5_5 =>
  ld P 35 x5_5 w4 fun x6_6 =>
  rcnv P 35 39 x6_6 w4 fun x7_7 =>
  fda P 61 x3_3 0 w4 fun x8_8 =>
  ld P 35 x8_8 w4 fun x9_9 =>
  rcnv P 35 39 x9_9 w4 fun x10_10 =>
  call P f_laws_sameFloat [x7_7, x10_10] w4 fun x11_11 w12 =>
  una P .not x11_11 w12 fun x12_13 =>
  cnd x12_13
    (K (.bool false) w12)
    (fda P 61 x2_1 1 w12 fun x13_14 =>
    ld P 35 x13_14 w12 fun x14_15 =>
    rcnv P 35 39 x14_15 w12 fun x15_16 =>
    fda P 61 x3_3 1 w12 fun x16_17 =>
    ld P 35 x16_17 w12 fun x17_18 =>
    rcnv P 35 39 x17_18 w12 fun x18_19 =>
    call P f_laws_sameFloat [x15_16, x18_19] w12 fun x19_20 w21 =>
    una P .not x19_20 w21 fun x20_22 =>
    cnd x20_22
      (K (.bool false) w21)
      (K (.bool true) w21))
def P_laws_eqInterval : Plan := (.seq (.reg [.op (0, 2, false), .op (1, 2, false), .op (2, 0, false)]) (.seq (.seq (.reg [.op (0, 0, false), .op (1, 0, false), .op (2, 1, false), .op (3, 0, false), .op (4, 0, false), .op (5, 1, false), .op (6, 2, false), .op (7, 0, false)]) (.cond (.seq (.reg [.op (0, 0, false)]) .leaf) .leaf)) (.seq (.seq (.reg [.op (0, 0, false), .op (1, 0, false), .op (2, 1, false), .op (3, 0, false), .op (4, 0, false), .op (5, 1, false), .op (6, 2, false), .op (7, 0, false)]) (.cond (.seq (.reg [.op (0, 0, false)]) .leaf) .leaf)) (.seq (.reg [.op (0, 0, false)]) .leaf))))
theorem I_laws_eqInterval {a0 a1 : Value} {w : World} {K : Value → World → Prop} (h : D_laws_eqInterval a0 a1 w K) : call P f_laws_eqInterval [a0, a1] w K :=
  call_of_vc mixed Tryz.func43 (c := codeOf Tryz.f43) (by kernel_rfl) (by kernel_rfl) (p := P_laws_eqInterval) (by kernel_rfl) (by rw [Tryz.ntmps43]; simp) (by
    have e : D_laws_eqInterval a0 a1 w K = vc P P_laws_eqInterval (codeOf Tryz.f43) (env0 [a0, a1]) w (retX P Tryz.f43.results.toList K) := by kernel_rfl
    exact e ▸ h)

/-- laws.toInterval -/
def D_laws_toInterval (a0 : Value) (w : World) (K : Value → World → Prop) : Prop :=
  bx P 129 a0 w fun x1_1 w2 =>
  alc P 61 w2 fun x2_3 w4 =>
  alc P 61 w4 fun x3_5 w6 =>
  fda P 129 x1_1 0 w6 fun x4_7 =>
  ld P 35 x4_7 w6 fun x5_8 =>
  fda P 61 x3_5 0 w6 fun x6_9 =>
  sto P 35 x6_9 x5_8 w6 fun w11 =>
  fda P 129 x1_1 1 w11 fun x7_12 =>
  ld P 35 x7_12 w11 fun x8_13 =>
  fda P 61 x3_5 1 w11 fun x9_14 =>
  sto P 35 x9_14 x8_13 w11 fun w16 =>
  ld P 61 x3_5 w16 fun x10_17 =>
  sto P 61 x2_3 x10_17 w16 fun w19 =>
  ldc P 61 x2_3 w19 fun r20 =>
  K r20 w19
def P_laws_toInterval : Plan := (.seq (.reg [.op (0, 2, false), .op (1, 2, false)]) (.seq (.reg [.op (0, 2, false)]) (.seq (.reg [.op (0, 0, false), .op (1, 0, false), .op (2, 0, false), .op (3, 2, false)]) (.seq (.reg [.op (0, 0, false), .op (1, 0, false), .op (2, 0, false), .op (3, 2, false)]) (.seq (.reg [.op (0, 0, false), .op (1, 2, false)]) .leaf)))))
theorem I_laws_toInterval {a0 : Value} {w : World} {K : Value → World → Prop} (h : D_laws_toInterval a0 w K) : call P f_laws_toInterval [a0] w K :=
  call_of_vc mixed Tryz.func114 (c := codeOf Tryz.f114) (by kernel_rfl) (by kernel_rfl) (p := P_laws_toInterval) (by kernel_rfl) (by rw [Tryz.ntmps114]; simp) (by
    have e : D_laws_toInterval a0 w K = vc P P_laws_toInterval (codeOf Tryz.f114) (env0 [a0]) w (retX P Tryz.f114.results.toList K) := by kernel_rfl
    exact e ▸ h)

end Go.Proofs.YtabgkpfcpncmhaaGreat

/- Written by a program (gen.py): what is left to show of each function's call. -/
set_option linter.unusedVariables false
set_option maxRecDepth 20000
namespace Go.Proofs.YtabgkpfcpncmhaaGreat
open Go Go.Vc

end Go.Proofs.YtabgkpfcpncmhaaGreat

/- Written by a program (gen.py): what is left to show of each function's call. -/
set_option linter.unusedVariables false
set_option maxRecDepth 20000
namespace Go.Proofs.YtabgkpfcpncmhaaGreat
open Go Go.Vc

end Go.Proofs.YtabgkpfcpncmhaaGreat

/- Written by a program (gen.py): what is left to show of each function's call. -/
set_option linter.unusedVariables false
set_option maxRecDepth 20000
namespace Go.Proofs.YtabgkpfcpncmhaaGreat
open Go Go.Vc

end Go.Proofs.YtabgkpfcpncmhaaGreat

/- Written by a program (gen.py): what is left to show of each function's call. -/
set_option linter.unusedVariables false
set_option maxRecDepth 20000
namespace Go.Proofs.YtabgkpfcpncmhaaGreat
open Go Go.Vc

end Go.Proofs.YtabgkpfcpncmhaaGreat

/- Written by a program (gen.py): what is left to show of each function's call. -/
set_option linter.unusedVariables false
set_option maxRecDepth 20000
namespace Go.Proofs.YtabgkpfcpncmhaaGreat
open Go Go.Vc

/-- slices.Clone[[]uint32,uint32] -/
def D_slices_Clone_uint32_uint32 (a0 : Value) (w : World) (K : Value → World → Prop) : Prop :=
  bin P .eql 177 false true a0 (.slice none 0 0) w fun x4_1 =>
  cnd x4_1
    (K (.slice none 0 0) w)
    (bsl P 177 0 [] w fun x5_2 w3 =>
    bl2 P .append #[177, 177] 177 [x5_2, a0] w3 fun x7_4 w5 =>
    K x7_4 w5)
def P_slices_Clone_uint32_uint32 : Plan := (.seq (.reg [.op (0, 0, false)]) (.seq (.seq (.reg [.op (0, 0, false), .op (1, 0, false)]) (.cond (.seq (.reg [.op (0, 0, false)]) .leaf) .leaf)) (.seq (.reg [.op (0, 2, false), .op (1, 0, false), .op (2, 2, false), .op (3, 0, false)]) .leaf)))
theorem I_slices_Clone_uint32_uint32 {a0 : Value} {w : World} {K : Value → World → Prop} (h : D_slices_Clone_uint32_uint32 a0 w K) : call P f_slices_Clone_uint32_uint32 [a0] w K :=
  call_of_vc mixed Tryz.func252 (c := codeOf Tryz.f252) (by kernel_rfl) (by kernel_rfl) (p := P_slices_Clone_uint32_uint32) (by kernel_rfl) (by rw [Tryz.ntmps252]; simp) (by
    have e : D_slices_Clone_uint32_uint32 a0 w K = vc P P_slices_Clone_uint32_uint32 (codeOf Tryz.f252) (env0 [a0]) w (retX P Tryz.f252.results.toList K) := by kernel_rfl
    exact e ▸ h)

/-- cmp.Compare[int] -/
def D_cmp_Compare_int (a0 a1 : Value) (w : World) (K : Value → World → Prop) : Prop :=
  call P f_cmp_isNaN_int [a0] w fun x8_1 w2 =>
  call P f_cmp_isNaN_int [a1] w2 fun x10_3 w4 =>
  cnd x8_1
    (cnd x10_3
      (K (.int .i64 0) w4)
      (K (.int .i64 (-1)) w4))
    (cnd x10_3
      (K (.int .i64 1) w4)
      (bin P .lss 3 false false a0 a1 w4 fun x16_5 =>
      cnd x16_5
        (K (.int .i64 (-1)) w4)
        (bin P .gtr 3 false false a0 a1 w4 fun x19_6 =>
        cnd x19_6
          (K (.int .i64 1) w4)
          (K (.int .i64 0) w4))))
def P_cmp_Compare_int : Plan := (.seq (.reg [.op (0, 0, false)]) (.seq (.reg [.op (0, 0, false), .op (1, 2, false), .op (2, 0, false)]) (.seq (.reg [.op (0, 0, false), .op (1, 2, false), .op (2, 0, false)]) (.seq (.seq (.reg [.op (0, 0, false)]) (.cond (.seq (.seq (.reg [.op (0, 0, false)]) (.cond (.seq (.reg [.op (0, 0, false)]) .leaf) .leaf)) (.seq (.reg [.op (0, 0, false)]) .leaf)) .leaf)) (.seq (.seq (.reg [.op (0, 0, false)]) (.cond (.seq (.reg [.op (0, 0, false)]) .leaf) .leaf)) (.seq (.seq (.reg [.op (0, 0, false), .op (1, 0, false), .op (2, 0, false)]) (.cond (.seq (.reg [.op (0, 0, false)]) .leaf) .leaf)) (.seq (.seq (.reg [.op (0, 0, false), .op (1, 0, false), .op (2, 0, false)]) (.cond (.seq (.reg [.op (0, 0, false)]) .leaf) .leaf)) (.seq (.reg [.op (0, 0, false)]) .leaf))))))))
theorem I_cmp_Compare_int {a0 a1 : Value} {w : World} {K : Value → World → Prop} (h : D_cmp_Compare_int a0 a1 w K) : call P f_cmp_Compare_int [a0, a1] w K :=
  call_of_vc mixed Tryz.func287 (c := codeOf Tryz.f287) (by kernel_rfl) (by kernel_rfl) (p := P_cmp_Compare_int) (by kernel_rfl) (by rw [Tryz.ntmps287]; simp) (by
    have e : D_cmp_Compare_int a0 a1 w K = vc P P_cmp_Compare_int (codeOf Tryz.f287) (env0 [a0, a1]) w (retX P Tryz.f287.results.toList K) := by kernel_rfl
    exact e ▸ h)

/-- cmp.Compare[uint32] -/
def D_cmp_Compare_uint32 (a0 a1 : Value) (w : World) (K : Value → World → Prop) : Prop :=
  call P f_cmp_isNaN_uint32 [a0] w fun x8_1 w2 =>
  call P f_cmp_isNaN_uint32 [a1] w2 fun x10_3 w4 =>
  cnd x8_1
    (cnd x10_3
      (K (.int .i64 0) w4)
      (K (.int .i64 (-1)) w4))
    (cnd x10_3
      (K (.int .i64 1) w4)
      (bin P .lss 221 false false a0 a1 w4 fun x16_5 =>
      cnd x16_5
        (K (.int .i64 (-1)) w4)
        (bin P .gtr 221 false false a0 a1 w4 fun x19_6 =>
        cnd x19_6
          (K (.int .i64 1) w4)
          (K (.int .i64 0) w4))))
def P_cmp_Compare_uint32 : Plan := (.seq (.reg [.op (0, 0, false)]) (.seq (.reg [.op (0, 0, false), .op (1, 2, false), .op (2, 0, false)]) (.seq (.reg [.op (0, 0, false), .op (1, 2, false), .op (2, 0, false)]) (.seq (.seq (.reg [.op (0, 0, false)]) (.cond (.seq (.seq (.reg [.op (0, 0, false)]) (.cond (.seq (.reg [.op (0, 0, false)]) .leaf) .leaf)) (.seq (.reg [.op (0, 0, false)]) .leaf)) .leaf)) (.seq (.seq (.reg [.op (0, 0, false)]) (.cond (.seq (.reg [.op (0, 0, false)]) .leaf) .leaf)) (.seq (.seq (.reg [.op (0, 0, false), .op (1, 0, false), .op (2, 0, false)]) (.cond (.seq (.reg [.op (0, 0, false)]) .leaf) .leaf)) (.seq (.seq (.reg [.op (0, 0, false), .op (1, 0, false), .op (2, 0, false)]) (.cond (.seq (.reg [.op (0, 0, false)]) .leaf) .leaf)) (.seq (.reg [.op (0, 0, false)]) .leaf))))))))
theorem I_cmp_Compare_uint32 {a0 a1 : Value} {w : World} {K : Value → World → Prop} (h : D_cmp_Compare_uint32 a0 a1 w K) : call P f_cmp_Compare_uint32 [a0, a1] w K :=
  call_of_vc mixed Tryz.func288 (c := codeOf Tryz.f288) (by kernel_rfl) (by kernel_rfl) (p := P_cmp_Compare_uint32) (by kernel_rfl) (by rw [Tryz.ntmps288]; simp) (by
    have e : D_cmp_Compare_uint32 a0 a1 w K = vc P P_cmp_Compare_uint32 (codeOf Tryz.f288) (env0 [a0, a1]) w (retX P Tryz.f288.results.toList K) := by kernel_rfl
    exact e ▸ h)

/-- cmp.isNaN[int] -/
def D_cmp_isNaN_int (a0 : Value) (w : World) (K : Value → World → Prop) : Prop :=
  bin P .neq 3 false false a0 a0 w fun x5_1 =>
  K x5_1 w
def P_cmp_isNaN_int : Plan := (.seq (.reg [.op (0, 0, false)]) (.seq (.reg [.op (0, 0, false), .op (1, 0, false), .op (2, 0, false), .op (3, 0, false)]) .leaf))
theorem I_cmp_isNaN_int {a0 : Value} {w : World} {K : Value → World → Prop} (h : D_cmp_isNaN_int a0 w K) : call P f_cmp_isNaN_int [a0] w K :=
  call_of_vc mixed Tryz.func305 (c := codeOf Tryz.f305) (by kernel_rfl) (by kernel_rfl) (p := P_cmp_isNaN_int) (by kernel_rfl) (by rw [Tryz.ntmps305]; simp) (by
    have e : D_cmp_isNaN_int a0 w K = vc P P_cmp_isNaN_int (codeOf Tryz.f305) (env0 [a0]) w (retX P Tryz.f305.results.toList K) := by kernel_rfl
    exact e ▸ h)

/-- cmp.isNaN[uint32] -/
def D_cmp_isNaN_uint32 (a0 : Value) (w : World) (K : Value → World → Prop) : Prop :=
  bin P .neq 221 false false a0 a0 w fun x5_1 =>
  K x5_1 w
def P_cmp_isNaN_uint32 : Plan := (.seq (.reg [.op (0, 0, false)]) (.seq (.reg [.op (0, 0, false), .op (1, 0, false), .op (2, 0, false), .op (3, 0, false)]) .leaf))
theorem I_cmp_isNaN_uint32 {a0 : Value} {w : World} {K : Value → World → Prop} (h : D_cmp_isNaN_uint32 a0 w K) : call P f_cmp_isNaN_uint32 [a0] w K :=
  call_of_vc mixed Tryz.func306 (c := codeOf Tryz.f306) (by kernel_rfl) (by kernel_rfl) (p := P_cmp_isNaN_uint32) (by kernel_rfl) (by rw [Tryz.ntmps306]; simp) (by
    have e : D_cmp_isNaN_uint32 a0 w K = vc P P_cmp_isNaN_uint32 (codeOf Tryz.f306) (env0 [a0]) w (retX P Tryz.f306.results.toList K) := by kernel_rfl
    exact e ▸ h)

end Go.Proofs.YtabgkpfcpncmhaaGreat

/- Written by a program (gen.py): what is left to show of each function's call. -/
set_option linter.unusedVariables false
set_option maxRecDepth 20000
namespace Go.Proofs.YtabgkpfcpncmhaaGreat
open Go Go.Vc

/-- (*impl.integer).Add -/
def D_impl_integer_Add (a0 a1 a2 : Value) (w : World) (K : Value → World → Prop) : Prop :=
  nch a2 fun x10_1 =>
  fda P 179 x10_1 0 w fun x11_2 =>
  ld P 4 x11_2 w fun x12_3 =>
  nch a2 fun x14_4 =>
  fda P 179 x14_4 1 w fun x15_5 =>
  ld P 177 x15_5 w fun x16_6 =>
  call P f_impl_integer_plus [a0, a1, x12_3, x16_6] w fun x17_7 w8 =>
  K x17_7 w8
def P_impl_integer_Add : Plan := (.seq (.reg [.op (0, 0, false)]) (.seq (.reg [.op (0, 0, false), .op (1, 0, false), .op (2, 0, false), .op (3, 0, false), .op (4, 0, false), .op (5, 0, false), .op (6, 0, false), .op (7, 0, false), .op (8, 0, false), .op (9, 0, false), .op (10, 2, false), .op (11, 0, false)]) .leaf))
theorem I_impl_integer_Add {a0 a1 a2 : Value} {w : World} {K : Value → World → Prop} (h : D_impl_integer_Add a0 a1 a2 w K) : call P f_impl_integer_Add [a0, a1, a2] w K :=
  call_of_vc mixed Tryz.func179 (c := codeOf Tryz.f179) (by kernel_rfl) (by kernel_rfl) (p := P_impl_integer_Add) (by kernel_rfl) (by rw [Tryz.ntmps179]; simp) (by
    have e : D_impl_integer_Add a0 a1 a2 w K = vc P P_impl_integer_Add (codeOf Tryz.f179) (env0 [a0, a1, a2]) w (retX P Tryz.f179.results.toList K) := by kernel_rfl
    exact e ▸ h)

/-- impl.newInt -/
def D_impl_newInt (a0 : Value) (w : World) (K : Value → World → Prop) : Prop :=
  alc P 179 w fun x3_1 w2 =>
  call P f_impl_integer_SetInt64 [x3_1, a0] w2 fun x5_3 w4 =>
  K x5_3 w4
def P_impl_newInt : Plan := (.seq (.reg [.op (0, 0, false)]) (.seq (.reg [.op (0, 2, false), .op (1, 0, false), .op (2, 2, false), .op (3, 0, false)]) .leaf))
theorem I_impl_newInt {a0 : Value} {w : World} {K : Value → World → Prop} (h : D_impl_newInt a0 w K) : call P f_impl_newInt [a0] w K :=
  call_of_vc mixed Tryz.func182 (c := codeOf Tryz.f182) (by kernel_rfl) (by kernel_rfl) (p := P_impl_newInt) (by kernel_rfl) (by rw [Tryz.ntmps182]; simp) (by
    have e : D_impl_newInt a0 w K = vc P P_impl_newInt (codeOf Tryz.f182) (env0 [a0]) w (retX P Tryz.f182.results.toList K) := by kernel_rfl
    exact e ▸ h)

/-- (*impl.integer).Abs -/
def D_impl_integer_Abs (a0 a1 : Value) (w : World) (K : Value → World → Prop) : Prop :=
  nch a1 fun x7_1 =>
  fda P 179 x7_1 1 w fun x8_2 =>
  ld P 177 x8_2 w fun x9_3 =>
  call P f_slices_Clone_uint32_uint32 [x9_3] w fun x10_4 w5 =>
  call P f_impl_integer_put [a0, (.bool false), x10_4] w5 fun x11_6 w7 =>
  K x11_6 w7
def P_impl_integer_Abs : Plan := (.seq (.reg [.op (0, 0, false)]) (.seq (.reg [.op (0, 0, false), .op (1, 0, false), .op (2, 0, false), .op (3, 0, false), .op (4, 0, false), .op (5, 2, false), .op (6, 2, false), .op (7, 0, false)]) .leaf))
theorem I_impl_integer_Abs {a0 a1 : Value} {w : World} {K : Value → World → Prop} (h : D_impl_integer_Abs a0 a1 w K) : call P f_impl_integer_Abs [a0, a1] w K :=
  call_of_vc mixed Tryz.func183 (c := codeOf Tryz.f183) (by kernel_rfl) (by kernel_rfl) (p := P_impl_integer_Abs) (by kernel_rfl) (by rw [Tryz.ntmps183]; simp) (by
    have e : D_impl_integer_Abs a0 a1 w K = vc P P_impl_integer_Abs (codeOf Tryz.f183) (env0 [a0, a1]) w (retX P Tryz.f183.results.toList K) := by kernel_rfl
    exact e ▸ h)

/-- (*impl.integer).BitLen -/
def D_impl_integer_BitLen (a0 : Value) (w : World) (K : Value → World → Prop) : Prop :=
  nch a0 fun x4_1 =>
  fda P 179 x4_1 1 w fun x5_2 =>
  ld P 177 x5_2 w fun x6_3 =>
  call P f_impl_magBits [x6_3] w fun x7_4 w5 =>
  K x7_4 w5
def P_impl_integer_BitLen : Plan := (.seq (.reg [.op (0, 0, false)]) (.seq (.reg [.op (0, 0, false), .op (1, 0, false), .op (2, 0, false), .op (3, 0, false), .op (4, 2, false), .op (5, 0, false)]) .leaf))
theorem I_impl_integer_BitLen {a0 : Value} {w : World} {K : Value → World → Prop} (h : D_impl_integer_BitLen a0 w K) : call P f_impl_integer_BitLen [a0] w K :=
  call_of_vc mixed Tryz.func184 (c := codeOf Tryz.f184) (by kernel_rfl) (by kernel_rfl) (p := P_impl_integer_BitLen) (by kernel_rfl) (by rw [Tryz.ntmps184]; simp) (by
    have e : D_impl_integer_BitLen a0 w K = vc P P_impl_integer_BitLen (codeOf Tryz.f184) (env0 [a0]) w (retX P Tryz.f184.results.toList K) := by kernel_rfl
    exact e ▸ h)

/-- (*impl.integer).Lsh -/
def D_impl_integer_Lsh (a0 a1 a2 : Value) (w : World) (K : Value → World → Prop) : Prop :=
  nch a1 fun x9_1 =>
  fda P 179 x9_1 0 w fun x10_2 =>
  ld P 4 x10_2 w fun x11_3 =>
  nch a1 fun x13_4 =>
  fda P 179 x13_4 1 w fun x14_5 =>
  ld P 177 x14_5 w fun x15_6 =>
  call P f_impl_magLeft [x15_6, a2] w fun x17_7 w8 =>
  Ext w w8 ∧ call P f_impl_integer_put [a0, x11_3, x17_7] w8 fun x18_9 w10 =>
  K x18_9 w10
def P_impl_integer_Lsh : Plan := (.seq (.reg [.op (0, 0, false)]) (.seq (.reg [.op (0, 0, false), .op (1, 0, false), .op (2, 0, false), .op (3, 0, false), .op (4, 0, false), .op (5, 0, false), .op (6, 0, false), .op (7, 0, false), .op (8, 0, false), .op (9, 0, false), .op (10, 2, true), .op (11, 2, false), .op (12, 0, false)]) .leaf))
theorem I_impl_integer_Lsh {a0 a1 a2 : Value} {w : World} {K : Value → World → Prop} (h : D_impl_integer_Lsh a0 a1 a2 w K) : call P f_impl_integer_Lsh [a0, a1, a2] w K :=
  call_of_vc mixed Tryz.func188 (c := codeOf Tryz.f188) (by kernel_rfl) (by kernel_rfl) (p := P_impl_integer_Lsh) (by kernel_rfl) (by rw [Tryz.ntmps188]; simp) (by
    have e : D_impl_integer_Lsh a0 a1 a2 w K = vc P P_impl_integer_Lsh (codeOf Tryz.f188) (env0 [a0, a1, a2]) w (retX P Tryz.f188.results.toList K) := by kernel_rfl
    exact e ▸ h)

/-- (*impl.integer).Rsh -/
def D_impl_integer_Rsh (a0 a1 a2 : Value) (w : World) (K : Value → World → Prop) : Prop :=
  nch a1 fun x9_1 =>
  fda P 179 x9_1 0 w fun x10_2 =>
  ld P 4 x10_2 w fun x11_3 =>
  una P .not x11_3 w fun x12_4 =>
  cnd x12_4
    (nch a1 fun x15_5 =>
    fda P 179 x15_5 1 w fun x16_6 =>
    ld P 177 x16_6 w fun x17_7 =>
    call P f_impl_magRight [x17_7, a2] w fun x19_8 w9 =>
    call P f_impl_integer_put [a0, (.bool false), x19_8] w9 fun x20_10 w11 =>
    K x20_10 w11)
    (nch a1 fun x22_12 =>
    fda P 179 x22_12 1 w fun x23_13 =>
    ld P 177 x23_13 w fun x24_14 =>
    bsl P 177 1 [(0, (.int .u32 1))] w fun x25_15 w16 =>
    call P f_impl_magSub [x24_14, x25_15] w16 fun x26_17 w18 =>
    call P f_impl_magRight [x26_17, a2] w18 fun x30_19 w20 =>
    bsl P 177 1 [(0, (.int .u32 1))] w20 fun x31_21 w22 =>
    call P f_impl_magAdd [x30_19, x31_21] w22 fun x32_23 w24 =>
    call P f_impl_integer_put [a0, (.bool true), x32_23] w24 fun x33_25 w26 =>
    K x33_25 w26)
def P_impl_integer_Rsh : Plan := (.seq (.reg [.op (0, 0, false)]) (.seq (.seq (.reg [.op (0, 0, false), .op (1, 0, false), .op (2, 0, false), .op (3, 0, false), .op (4, 0, false)]) (.cond (.seq (.reg [.op (0, 0, false), .op (1, 0, false), .op (2, 0, false), .op (3, 0, false), .op (4, 0, false), .op (5, 0, false), .op (6, 2, false), .op (7, 2, false), .op (8, 0, false)]) .leaf) .leaf)) (.seq (.reg [.op (0, 0, false), .op (1, 0, false), .op (2, 0, false), .op (3, 0, false), .op (4, 2, false), .op (5, 2, false), .op (6, 0, false)]) (.seq (.reg [.op (0, 0, false), .op (1, 0, false), .op (2, 0, false), .op (3, 2, false), .op (4, 2, false), .op (5, 2, false), .op (6, 2, false), .op (7, 0, false)]) .leaf))))
theorem I_impl_integer_Rsh {a0 a1 a2 : Value} {w : World} {K : Value → World → Prop} (h : D_impl_integer_Rsh a0 a1 a2 w K) : call P f_impl_integer_Rsh [a0, a1, a2] w K :=
  call_of_vc mixed Tryz.func189 (c := codeOf Tryz.f189) (by kernel_rfl) (by kernel_rfl) (p := P_impl_integer_Rsh) (by kernel_rfl) (by rw [Tryz.ntmps189]; simp) (by
    have e : D_impl_integer_Rsh a0 a1 a2 w K = vc P P_impl_integer_Rsh (codeOf Tryz.f189) (env0 [a0, a1, a2]) w (retX P Tryz.f189.results.toList K) := by kernel_rfl
    exact e ▸ h)

/-- (*impl.integer).Sub -/
def D_impl_integer_Sub (a0 a1 a2 : Value) (w : World) (K : Value → World → Prop) : Prop :=
  nch a2 fun x10_1 =>
  fda P 179 x10_1 0 w fun x11_2 =>
  ld P 4 x11_2 w fun x12_3 =>
  una P .not x12_3 w fun x13_4 =>
  nch a2 fun x15_5 =>
  fda P 179 x15_5 1 w fun x16_6 =>
  ld P 177 x16_6 w fun x17_7 =>
  call P f_impl_integer_plus [a0, a1, x13_4, x17_7] w fun x18_8 w9 =>
  K x18_8 w9
def P_impl_integer_Sub : Plan := (.seq (.reg [.op (0, 0, false)]) (.seq (.reg [.op (0, 0, false), .op (1, 0, false), .op (2, 0, false), .op (3, 0, false), .op (4, 0, false), .op (5, 0, false), .op (6, 0, false), .op (7, 0, false), .op (8, 0, false), .op (9, 0, false), .op (10, 0, false), .op (11, 2, false), .op (12, 0, false)]) .leaf))
theorem I_impl_integer_Sub {a0 a1 a2 : Value} {w : World} {K : Value → World → Prop} (h : D_impl_integer_Sub a0 a1 a2 w K) : call P f_impl_integer_Sub [a0, a1, a2] w K :=
  call_of_vc mixed Tryz.func190 (c := codeOf Tryz.f190) (by kernel_rfl) (by kernel_rfl) (p := P_impl_integer_Sub) (by kernel_rfl) (by rw [Tryz.ntmps190]; simp) (by
    have e : D_impl_integer_Sub a0 a1 a2 w K = vc P P_impl_integer_Sub (codeOf Tryz.f190) (env0 [a0, a1, a2]) w (retX P Tryz.f190.results.toList K) := by kernel_rfl
    exact e ▸ h)

/-- (*impl.integer).Sign -/
def D_impl_integer_Sign (a0 : Value) (w : World) (K : Value → World → Prop) : Prop :=
  nch a0 fun x5_1 =>
  fda P 179 x5_1 0 w fun x6_2 =>
  ld P 4 x6_2 w fun x7_3 =>
  cnd x7_3
    (K (.int .i64 (-1)) w)
    (nch a0 fun x10_4 =>
    fda P 179 x10_4 1 w fun x11_5 =>
    ld P 177 x11_5 w fun x12_6 =>
    bl0 P .len #[177] 3 [x12_6] w fun x13_7 =>
    bin P .gtr 3 false true x13_7 (.int .i64 0) w fun x14_8 =>
    cnd x14_8
      (K (.int .i64 1) w)
      (K (.int .i64 0) w))
def P_impl_integer_Sign : Plan := (.seq (.reg [.op (0, 0, false)]) (.seq (.blk (.seq (.reg [.op (0, 0, false), .op (1, 0, false), .op (2, 0, false), .op (3, 0, false), .op (4, 0, false)]) (.cond (.seq (.reg [.op (0, 0, false)]) .leaf) (.seq (.reg [.op (0, 0, false), .op (1, 0, false), .op (2, 0, false), .op (3, 0, false), .op (4, 0, false), .op (5, 0, false), .op (6, 0, false)]) (.cond (.seq (.reg [.op (0, 0, false)]) .leaf) .leaf))))) (.seq (.reg [.op (0, 0, false)]) .leaf)))
theorem I_impl_integer_Sign {a0 : Value} {w : World} {K : Value → World → Prop} (h : D_impl_integer_Sign a0 w K) : call P f_impl_integer_Sign [a0] w K :=
  call_of_vc mixed Tryz.func191 (c := codeOf Tryz.f191) (by kernel_rfl) (by kernel_rfl) (p := P_impl_integer_Sign) (by kernel_rfl) (by rw [Tryz.ntmps191]; simp) (by
    have e : D_impl_integer_Sign a0 w K = vc P P_impl_integer_Sign (codeOf Tryz.f191) (env0 [a0]) w (retX P Tryz.f191.results.toList K) := by kernel_rfl
    exact e ▸ h)

/-- (*impl.integer).Cmp -/
def D_impl_integer_Cmp (a0 a1 : Value) (w : World) (K : Value → World → Prop) : Prop :=
  nch a0 fun x7_1 =>
  fda P 179 x7_1 0 w fun x8_2 =>
  ld P 4 x8_2 w fun x9_3 =>
  ∃ J4 : Value → World → Prop, (∀ (x14_5 : Value) (junk7 : Env) (w6 : World), J4 x14_5 w6 →
    pick x9_3 x14_5 (.bool false) fun x15_8 =>
    cnd x15_8
      (nch a1 fun x17_9 =>
      fda P 179 x17_9 1 w6 fun x18_10 =>
      ld P 177 x18_10 w6 fun x19_11 =>
      nch a0 fun x21_12 =>
      fda P 179 x21_12 1 w6 fun x22_13 =>
      ld P 177 x22_13 w6 fun x23_14 =>
      call P f_impl_magCmp [x19_11, x23_14] w6 fun x24_15 w16 =>
      K x24_15 w16)
      (nch a0 fun x27_17 =>
      fda P 179 x27_17 0 w6 fun x28_18 =>
      ld P 4 x28_18 w6 fun x29_19 =>
      cnd x29_19
        (K (.int .i64 (-1)) w6)
        (nch a1 fun x32_20 =>
        fda P 179 x32_20 0 w6 fun x33_21 =>
        ld P 4 x33_21 w6 fun x34_22 =>
        cnd x34_22
          (K (.int .i64 1) w6)
          (nch a0 fun x36_23 =>
          fda P 179 x36_23 1 w6 fun x37_24 =>
          ld P 177 x37_24 w6 fun x38_25 =>
          nch a1 fun x40_26 =>
          fda P 179 x40_26 1 w6 fun x41_27 =>
          ld P 177 x41_27 w6 fun x42_28 =>
          call P f_impl_magCmp [x38_25, x42_28] w6 fun x43_29 w30 =>
          K x43_29 w30)))) ∧
    grd x9_3 true
      (nch a1 fun x12_31 =>
      fda P 179 x12_31 0 w fun x13_32 =>
      ld P 4 x13_32 w fun x14_33 =>
      J4 x14_33 w)
      (J4 undef w)
def P_impl_integer_Cmp : Plan := (.seq (.reg [.op (0, 0, false)]) (.seq (.blk (.seq (.reg [.op (0, 0, false), .op (1, 0, false), .op (2, 0, false), .op (3, 0, false), .op (4, 0, false), .grp 4 true [(5, 0, false), (6, 0, false), (7, 0, false), (8, 0, false)] [14] 30720, .op (9, 0, false), .op (10, 0, false)]) (.cond (.seq (.reg [.op (0, 0, false), .op (1, 0, false), .op (2, 0, false), .op (3, 0, false), .op (4, 0, false), .op (5, 0, false), .op (6, 0, false), .op (7, 0, false), .op (8, 2, false), .op (9, 0, false)]) .leaf) (.seq (.reg [.op (0, 0, false), .op (1, 0, false), .op (2, 0, false), .op (3, 0, false), .op (4, 0, false)]) (.cond (.seq (.reg [.op (0, 0, false)]) .leaf) (.seq (.reg [.op (0, 0, false), .op (1, 0, false), .op (2, 0, false), .op (3, 0, false), .op (4, 0, false)]) (.cond (.seq (.reg [.op (0, 0, false)]) .leaf) .leaf))))))) (.seq (.reg [.op (0, 0, false), .op (1, 0, false), .op (2, 0, false), .op (3, 0, false), .op (4, 0, false), .op (5, 0, false), .op (6, 0, false), .op (7, 0, false), .op (8, 2, false), .op (9, 0, false)]) .leaf)))
theorem I_impl_integer_Cmp {a0 a1 : Value} {w : World} {K : Value → World → Prop} (h : D_impl_integer_Cmp a0 a1 w K) : call P f_impl_integer_Cmp [a0, a1] w K :=
  call_of_vc mixed Tryz.func192 (c := codeOf Tryz.f192) (by kernel_rfl) (by kernel_rfl) (p := P_impl_integer_Cmp) (by kernel_rfl) (by rw [Tryz.ntmps192]; simp) (by
    have e : D_impl_integer_Cmp a0 a1 w K = vc P P_impl_integer_Cmp (codeOf Tryz.f192) (env0 [a0, a1]) w (retX P Tryz.f192.results.toList K) := by kernel_rfl
    exact e ▸ h)

/-- (*impl.integer).Bit -/
def D_impl_integer_Bit (a0 a1 : Value) (w : World) (K : Value → World → Prop) : Prop :=
  bin P .quo 3 false true a1 (.int .i64 32) w fun x6_1 =>
  nch a0 fun x8_2 =>
  fda P 179 x8_2 1 w fun x9_3 =>
  ld P 177 x9_3 w fun x10_4 =>
  bl0 P .len #[177] 3 [x10_4] w fun x11_5 =>
  bin P .geq 3 false false x6_1 x11_5 w fun x12_6 =>
  cnd x12_6
    (K (.int .u64 0) w)
    (nch a0 fun x14_7 =>
    fda P 179 x14_7 1 w fun x15_8 =>
    ld P 177 x15_8 w fun x16_9 =>
    bin P .quo 3 false true a1 (.int .i64 32) w fun x18_10 =>
    ixa P 177 x16_9 x18_10 w fun x19_11 =>
    ld P 221 x19_11 w fun x20_12 =>
    bin P .rem 3 false true a1 (.int .i64 32) w fun x22_13 =>
    bin P .shr 221 false false x20_12 x22_13 w fun x23_14 =>
    bin P .and 221 false true x23_14 (.int .u32 1) w fun x24_15 =>
    cnv P 221 189 x24_15 w fun x25_16 =>
    K x25_16 w)
def P_impl_integer_Bit : Plan := (.seq (.reg [.op (0, 0, false)]) (.seq (.seq (.reg [.op (0, 0, false), .op (1, 0, false), .op (2, 0, false), .op (3, 0, false), .op (4, 0, false), .op (5, 0, false), .op (6, 0, false), .op (7, 0, false)]) (.cond (.seq (.reg [.op (0, 0, false)]) .leaf) .leaf)) (.seq (.reg [.op (0, 0, false), .op (1, 0, false), .op (2, 0, false), .op (3, 0, false), .op (4, 0, false), .op (5, 0, false), .op (6, 0, false), .op (7, 0, false), .op (8, 0, false), .op (9, 0, false), .op (10, 0, false), .op (11, 0, false), .op (12, 0, false), .op (13, 0, false)]) .leaf)))
theorem I_impl_integer_Bit {a0 a1 : Value} {w : World} {K : Value → World → Prop} (h : D_impl_integer_Bit a0 a1 w K) : call P f_impl_integer_Bit [a0, a1] w K :=
  call_of_vc mixed Tryz.func193 (c := codeOf Tryz.f193) (by kernel_rfl) (by kernel_rfl) (p := P_impl_integer_Bit) (by kernel_rfl) (by rw [Tryz.ntmps193]; simp) (by
    have e : D_impl_integer_Bit a0 a1 w K = vc P P_impl_integer_Bit (codeOf Tryz.f193) (env0 [a0, a1]) w (retX P Tryz.f193.results.toList K) := by kernel_rfl
    exact e ▸ h)

/-- (*impl.integer).Int64 -/
def D_impl_integer_Int64 (a0 : Value) (w : World) (K : Value → World → Prop) : Prop :=
  nch a0 fun x4_1 =>
  fda P 179 x4_1 0 w fun x5_2 =>
  ld P 4 x5_2 w fun x6_3 =>
  cnd x6_3
    (call P f_impl_integer_low [a0] w fun x8_4 w5 =>
    cnv P 227 2 x8_4 w5 fun x9_6 =>
    una P .neg x9_6 w5 fun x10_7 =>
    K x10_7 w5)
    (call P f_impl_integer_low [a0] w fun x12_8 w9 =>
    cnv P 227 2 x12_8 w9 fun x13_10 =>
    K x13_10 w9)
def P_impl_integer_Int64 : Plan := (.seq (.reg [.op (0, 0, false)]) (.seq (.seq (.reg [.op (0, 0, false), .op (1, 0, false), .op (2, 0, false), .op (3, 0, false)]) (.cond (.seq (.reg [.op (0, 0, false), .op (1, 2, false), .op (2, 0, false), .op (3, 0, false), .op (4, 0, false)]) .leaf) .leaf)) (.seq (.reg [.op (0, 0, false), .op (1, 2, false), .op (2, 0, false), .op (3, 0, false)]) .leaf)))
theorem I_impl_integer_Int64 {a0 : Value} {w : World} {K : Value → World → Prop} (h : D_impl_integer_Int64 a0 w K) : call P f_impl_integer_Int64 [a0] w K :=
  call_of_vc mixed Tryz.func195 (c := codeOf Tryz.f195) (by kernel_rfl) (by kernel_rfl) (p := P_impl_integer_Int64) (by kernel_rfl) (by rw [Tryz.ntmps195]; simp) (by
    have e : D_impl_integer_Int64 a0 w K = vc P P_impl_integer_Int64 (codeOf Tryz.f195) (env0 [a0]) w (retX P Tryz.f195.results.toList K) := by kernel_rfl
    exact e ▸ h)

/-- (*impl.integer).plus -/
def D_impl_integer_plus (a0 a1 a2 a3 : Value) (w : World) (K : Value → World → Prop) : Prop :=
  nch a1 fun x11_1 =>
  fda P 179 x11_1 0 w fun x12_2 =>
  ld P 4 x12_2 w fun x13_3 =>
  bin P .eql 4 false false x13_3 a2 w fun x15_4 =>
  cnd x15_4
    (nch a1 fun x19_5 =>
    fda P 179 x19_5 1 w fun x20_6 =>
    ld P 177 x20_6 w fun x21_7 =>
    call P f_impl_magAdd [x21_7, a3] w fun x23_8 w9 =>
    call P f_impl_integer_put [a0, a2, x23_8] w9 fun x24_10 w11 =>
    K x24_10 w11)
    (nch a1 fun x27_12 =>
    fda P 179 x27_12 1 w fun x28_13 =>
    ld P 177 x28_13 w fun x29_14 =>
    call P f_impl_magCmp [x29_14, a3] w fun x31_15 w16 =>
    bin P .geq 3 false true x31_15 (.int .i64 0) w16 fun x32_17 =>
    cnd x32_17
      (nch a1 fun x35_18 =>
      fda P 179 x35_18 0 w16 fun x36_19 =>
      ld P 4 x36_19 w16 fun x37_20 =>
      nch a1 fun x39_21 =>
      fda P 179 x39_21 1 w16 fun x40_22 =>
      ld P 177 x40_22 w16 fun x41_23 =>
      call P f_impl_magSub [x41_23, a3] w16 fun x43_24 w25 =>
      Ext w16 w25 ∧ call P f_impl_integer_put [a0, x37_20, x43_24] w25 fun x44_26 w27 =>
      K x44_26 w27)
      (nch a1 fun x49_28 =>
      fda P 179 x49_28 1 w16 fun x50_29 =>
      ld P 177 x50_29 w16 fun x51_30 =>
      call P f_impl_magSub [a3, x51_30] w16 fun x52_31 w32 =>
      call P f_impl_integer_put [a0, a2, x52_31] w32 fun x53_33 w34 =>
      K x53_33 w34))
def P_impl_integer_plus : Plan := (.seq (.reg [.op (0, 0, false)]) (.seq (.blk (.seq (.reg [.op (0, 0, false), .op (1, 0, false), .op (2, 0, false), .op (3, 0, false), .op (4, 0, false), .op (5, 0, false), .op (6, 0, false)]) (.cond (.seq (.reg [.op (0, 0, false), .op (1, 0, false), .op (2, 0, false), .op (3, 0, false), .op (4, 0, false), .op (5, 0, false), .op (6, 0, false), .op (7, 2, false), .op (8, 2, false), .op (9, 0, false)]) .leaf) (.seq (.reg [.op (0, 0, false), .op (1, 0, false), .op (2, 0, false), .op (3, 0, false), .op (4, 0, false), .op (5, 2, false), .op (6, 0, false), .op (7, 0, false)]) (.cond (.seq (.reg [.op (0, 0, false), .op (1, 0, false), .op (2, 0, false), .op (3, 0, false), .op (4, 0, false), .op (5, 0, false), .op (6, 0, false), .op (7, 0, false), .op (8, 0, false), .op (9, 0, false), .op (10, 2, true), .op (11, 2, false), .op (12, 0, false)]) .leaf) .leaf))))) (.seq (.reg [.op (0, 0, false), .op (1, 0, false), .op (2, 0, false), .op (3, 0, false), .op (4, 0, false), .op (5, 0, false), .op (6, 0, false), .op (7, 2, false), .op (8, 2, false), .op (9, 0, false)]) .leaf)))
theorem I_impl_integer_plus {a0 a1 a2 a3 : Value} {w : World} {K : Value → World → Prop} (h : D_impl_integer_plus a0 a1 a2 a3 w K) : call P f_impl_integer_plus [a0, a1, a2, a3] w K :=
  call_of_vc mixed Tryz.func249 (c := codeOf Tryz.f249) (by kernel_rfl) (by kernel_rfl) (p := P_impl_integer_plus) (by kernel_rfl) (by rw [Tryz.ntmps249]; simp) (by
    have e : D_impl_integer_plus a0 a1 a2 a3 w K = vc P P_impl_integer_plus (codeOf Tryz.f249) (env0 [a0, a1, a2, a3]) w (retX P Tryz.f249.results.toList K) := by kernel_rfl
    exact e ▸ h)

/-- (*impl.integer).SetInt64 -/
def D_impl_integer_SetInt64 (a0 a1 : Value) (w : World) (K : Value → World → Prop) : Prop :=
  cnv P 2 227 a1 w fun x7_1 =>
  ∃ J2 : Value → World → Prop, (∀ (x5_5 : Value) (junk3 : Env) (w4 : World), J2 x5_5 w4 →
    bin P .lss 2 false true a1 (.int .i64 0) w4 fun x14_6 =>
    cnv P 227 221 x5_5 w4 fun x16_7 =>
    bin P .shr 227 false true x5_5 (.int .u64 32) w4 fun x18_8 =>
    cnv P 227 221 x18_8 w4 fun x19_9 =>
    bsl P 177 2 [(0, x16_7), (1, x19_9)] w4 fun x20_10 w11 =>
    call P f_impl_integer_put [a0, x14_6, x20_10] w11 fun x21_12 w13 =>
    K x21_12 w13) ∧
    (bin P .lss 2 false true a1 (.int .i64 0) w fun x9_14 =>
    cnd x9_14
      (una P .neg x7_1 w fun x11_15 =>
      J2 x11_15 w)
      (J2 x7_1 w))
def P_impl_integer_SetInt64 : Plan := (.seq (.reg [.op (0, 0, false)]) (.seq (.reg [.op (0, 0, false), .op (1, 0, false), .op (2, 0, false)]) (.cut [5] 3872 (.seq (.reg [.op (0, 0, false), .op (1, 0, false)]) (.cond (.reg [.op (0, 0, false), .op (1, 0, false), .op (2, 0, false)]) .leaf)) (.seq (.reg [.op (0, 0, false), .op (1, 0, false), .op (2, 0, false), .op (3, 0, false), .op (4, 0, false), .op (5, 0, false), .op (6, 0, false), .op (7, 0, false), .op (8, 2, false), .op (9, 2, false), .op (10, 0, false)]) .leaf))))
theorem I_impl_integer_SetInt64 {a0 a1 : Value} {w : World} {K : Value → World → Prop} (h : D_impl_integer_SetInt64 a0 a1 w K) : call P f_impl_integer_SetInt64 [a0, a1] w K :=
  call_of_vc mixed Tryz.func250 (c := codeOf Tryz.f250) (by kernel_rfl) (by kernel_rfl) (p := P_impl_integer_SetInt64) (by kernel_rfl) (by rw [Tryz.ntmps250]; simp) (by
    have e : D_impl_integer_SetInt64 a0 a1 w K = vc P P_impl_integer_SetInt64 (codeOf Tryz.f250) (env0 [a0, a1]) w (retX P Tryz.f250.results.toList K) := by kernel_rfl
    exact e ▸ h)

/-- (*impl.integer).put -/
def D_impl_integer_put (a0 a1 a2 : Value) (w : World) (K : Value → World → Prop) : Prop :=
  call P f_impl_magTrim [a2] w fun x9_1 w2 =>
  nch a0 fun x10_3 =>
  fda P 179 x10_3 1 w2 fun x11_4 =>
  sto P 177 x11_4 x9_1 w2 fun w6 =>
  ∃ J7 : Value → World → Prop, (∀ (x20_8 : Value) (junk10 : Env) (w9 : World), J7 x20_8 w9 →
    pick a1 x20_8 (.bool false) fun x21_11 =>
    nch a0 fun x22_12 =>
    fda P 179 x22_12 0 w9 fun x23_13 =>
    sto P 4 x23_13 x21_11 w9 fun w15 =>
    K a0 w15) ∧
    grd a1 true
      (nch a0 fun x16_16 =>
      fda P 179 x16_16 1 w6 fun x17_17 =>
      ld P 177 x17_17 w6 fun x18_18 =>
      bl0 P .len #[177] 3 [x18_18] w6 fun x19_19 =>
      bin P .gtr 3 false true x19_19 (.int .i64 0) w6 fun x20_20 =>
      J7 x20_20 w6)
      (J7 undef w6)
def P_impl_integer_put : Plan := (.seq (.reg [.op (0, 0, false)]) (.seq (.reg [.op (0, 0, false), .op (1, 0, false), .op (2, 2, false), .op (3, 0, false), .op (4, 0, false), .op (5, 2, false)]) (.seq (.reg [.op (0, 0, false), .op (1, 0, false), .op (2, 0, false), .grp 2 true [(3, 0, false), (4, 0, false), (5, 0, false), (6, 0, false), (7, 0, false), (8, 0, false)] [20] 2064384, .op (9, 0, false), .op (10, 0, false), .op (11, 0, false), .op (12, 2, false)]) (.seq (.reg [.op (0, 0, false), .op (1, 0, false)]) .leaf))))
theorem I_impl_integer_put {a0 a1 a2 : Value} {w : World} {K : Value → World → Prop} (h : D_impl_integer_put a0 a1 a2 w K) : call P f_impl_integer_put [a0, a1, a2] w K :=
  call_of_vc mixed Tryz.func251 (c := codeOf Tryz.f251) (by kernel_rfl) (by kernel_rfl) (p := P_impl_integer_put) (by kernel_rfl) (by rw [Tryz.ntmps251]; simp) (by
    have e : D_impl_integer_put a0 a1 a2 w K = vc P P_impl_integer_put (codeOf Tryz.f251) (env0 [a0, a1, a2]) w (retX P Tryz.f251.results.toList K) := by kernel_rfl
    exact e ▸ h)

/-- impl.magBits -/
def D_impl_magBits (a0 : Value) (w : World) (K : Value → World → Prop) : Prop :=
  bl0 P .len #[177] 3 [a0] w fun x6_1 =>
  bin P .eql 3 false true x6_1 (.int .i64 0) w fun x7_2 =>
  cnd x7_2
    (K (.int .i64 0) w)
    (bl0 P .len #[177] 3 [a0] w fun x9_3 =>
    bin P .sub 3 false true x9_3 (.int .i64 1) w fun x10_4 =>
    bin P .mul 3 true false (.int .i64 32) x10_4 w fun x11_5 =>
    bl0 P .len #[177] 3 [a0] w fun x14_6 =>
    bin P .sub 3 false true x14_6 (.int .i64 1) w fun x15_7 =>
    ixa P 177 a0 x15_7 w fun x16_8 =>
    ld P 221 x16_8 w fun x17_9 =>
    ∃ I10 : Nat → Value → Value → World → Prop, (∃ m20, I10 m20 x11_5 x17_9 w) ∧ ∀ (m13 : Nat) (x3_14 : Value) (x4_15 : Value) (junk11 : Env) (w12 : World), I10 m13 x3_14 x4_15 w12 →
      bin P .gtr 221 false true x4_15 (.int .u32 0) w12 fun x19_16 =>
      cnd x19_16
        (bin P .add 3 false true x3_14 (.int .i64 1) w12 fun x23_17 =>
        bin P .shr 221 false true x4_15 (.int .u64 1) w12 fun x21_18 =>
        ∃ m19, m19 < m13 ∧ I10 m19 x23_17 x21_18 w12)
        (K x3_14 w12))
def P_impl_magBits : Plan := (.seq (.reg [.op (0, 0, false)]) (.seq (.seq (.reg [.op (0, 0, false), .op (1, 0, false), .op (2, 0, false)]) (.cond (.seq (.reg [.op (0, 0, false)]) .leaf) .leaf)) (.seq (.reg [.op (0, 0, false), .op (1, 0, false), .op (2, 0, false), .op (3, 0, false), .op (4, 0, false)]) (.seq (.seq (.reg [.op (0, 0, false), .op (1, 0, false), .op (2, 0, false), .op (3, 0, false), .op (4, 0, false), .op (5, 0, false), .op (6, 0, false)]) (.blk (.loop [3, 4] 16515096 (.seq (.seq (.reg [.op (0, 0, false), .op (1, 0, false)]) (.cond .leaf .leaf)) (.seq (.blk (.reg [.op (0, 0, false), .op (1, 0, false), .op (2, 0, false)])) (.reg [.op (0, 0, false), .op (1, 0, false), .op (2, 0, false)])))))) (.seq (.reg [.op (0, 0, false), .op (1, 0, false)]) .leaf)))))
theorem I_impl_magBits {a0 : Value} {w : World} {K : Value → World → Prop} (h : D_impl_magBits a0 w K) : call P f_impl_magBits [a0] w K :=
  call_of_vc mixed Tryz.func253 (c := codeOf Tryz.f253) (by kernel_rfl) (by kernel_rfl) (p := P_impl_magBits) (by kernel_rfl) (by rw [Tryz.ntmps253]; simp) (by
    have e : D_impl_magBits a0 w K = vc P P_impl_magBits (codeOf Tryz.f253) (env0 [a0]) w (retX P Tryz.f253.results.toList K) := by kernel_rfl
    exact e ▸ h)

/-- impl.magLeft -/
def D_impl_magLeft (a0 a1 : Value) (w : World) (K : Value → World → Prop) : Prop :=
  bl0 P .len #[177] 3 [a0] w fun x10_1 =>
  bin P .eql 3 false true x10_1 (.int .i64 0) w fun x11_2 =>
  cnd x11_2
    (K (.slice none 0 0) w)
    (bin P .quo 189 false true a1 (.int .u64 32) w fun x13_3 =>
    cnv P 189 3 x13_3 w fun x14_4 =>
    bl0 P .len #[177] 3 [a0] w fun x16_5 =>
    bin P .add 3 false false x14_4 x16_5 w fun x17_6 =>
    bin P .add 3 false true x17_6 (.int .i64 1) w fun x18_7 =>
    mks P 177 x18_7 x18_7 w fun x19_8 w9 =>
    bl0 P .len #[177] 3 [a0] w9 fun x21_10 =>
    ∃ I11 : Nat → Value → World → Prop, (∃ m45, I11 m45 (.int .i64 0) w9) ∧ ∀ (m14 : Nat) (x22_15 : Value) (junk12 : Env) (w13 : World), I11 m14 x22_15 w13 →
      bin P .lss 3 false false x22_15 x21_10 w13 fun x23_16 =>
      cnd x23_16
        (ixa P 177 a0 x22_15 w13 fun x25_17 =>
        ld P 221 x25_17 w13 fun x26_18 =>
        cnv P 221 227 x26_18 w13 fun x28_19 =>
        bin P .rem 189 false true a1 (.int .u64 32) w13 fun x30_20 =>
        bin P .shl 227 false false x28_19 x30_20 w13 fun x31_21 =>
        bin P .quo 189 false true a1 (.int .u64 32) w13 fun x34_22 =>
        cnv P 189 3 x34_22 w13 fun x35_23 =>
        bin P .add 3 false false x35_23 x22_15 w13 fun x37_24 =>
        ixa P 177 x19_8 x37_24 w13 fun x38_25 =>
        ld P 221 x38_25 w13 fun x39_26 =>
        cnv P 227 221 x31_21 w13 fun x41_27 =>
        bin P .or 221 false false x39_26 x41_27 w13 fun x42_28 =>
        ixa P 177 x19_8 x37_24 w13 fun x43_29 =>
        sto P 221 x43_29 x42_28 w13 fun w31 =>
        bin P .quo 189 false true a1 (.int .u64 32) w31 fun x46_32 =>
        cnv P 189 3 x46_32 w31 fun x47_33 =>
        bin P .add 3 false false x47_33 x22_15 w31 fun x49_34 =>
        bin P .add 3 false true x49_34 (.int .i64 1) w31 fun x50_35 =>
        bin P .shr 227 false true x31_21 (.int .u64 32) w31 fun x52_36 =>
        cnv P 227 221 x52_36 w31 fun x53_37 =>
        ixa P 177 x19_8 x50_35 w31 fun x54_38 =>
        sto P 221 x54_38 x53_37 w31 fun w40 =>
        bin P .add 3 false true x22_15 (.int .i64 1) w40 fun x55_41 =>
        ∃ m42, m42 < m14 ∧ I11 m42 x55_41 w40)
        (call P f_impl_magTrim [x19_8] w13 fun x57_43 w44 =>
        K x57_43 w44))
def P_impl_magLeft : Plan := (.seq (.reg [.op (0, 0, false)]) (.seq (.seq (.reg [.op (0, 0, false), .op (1, 0, false), .op (2, 0, false)]) (.cond (.seq (.reg [.op (0, 0, false)]) .leaf) .leaf)) (.seq (.reg [.op (0, 0, false), .op (1, 0, false), .op (2, 0, false), .op (3, 0, false), .op (4, 0, false), .op (5, 0, false), .op (6, 0, false), .op (7, 2, false), .op (8, 0, false)]) (.seq (.seq (.reg [.op (0, 0, false), .op (1, 0, false), .op (2, 0, false)]) (.blk (.loop [22] 72057594033734080 (.seq (.reg [.op (0, 0, false)]) (.seq (.cond .leaf .leaf) (.seq (.blk (.seq (.reg [.op (0, 0, false), .op (1, 0, false), .op (2, 0, false), .op (3, 0, false), .op (4, 0, false)]) (.seq (.reg [.op (0, 0, false), .op (1, 0, false), .op (2, 0, false), .op (3, 0, false), .op (4, 0, false), .op (5, 0, false)]) (.seq (.reg [.op (0, 0, false), .op (1, 0, false), .op (2, 0, false), .op (3, 0, false), .op (4, 0, false), .op (5, 0, false), .op (6, 0, false), .op (7, 0, false), .op (8, 0, false), .op (9, 0, false), .op (10, 0, false), .op (11, 0, false), .op (12, 2, false)]) (.reg [.op (0, 0, false), .op (1, 0, false), .op (2, 0, false), .op (3, 0, false), .op (4, 0, false), .op (5, 0, false), .op (6, 0, false), .op (7, 0, false), .op (8, 0, false), .op (9, 0, false), .op (10, 0, false), .op (11, 2, false)]))))) (.reg [.op (0, 0, false), .op (1, 0, false)]))))))) (.seq (.reg [.op (0, 0, false), .op (1, 2, false), .op (2, 0, false)]) .leaf)))))
theorem I_impl_magLeft {a0 a1 : Value} {w : World} {K : Value → World → Prop} (h : D_impl_magLeft a0 a1 w K) : call P f_impl_magLeft [a0, a1] w K :=
  call_of_vc mixed Tryz.func256 (c := codeOf Tryz.f256) (by kernel_rfl) (by kernel_rfl) (p := P_impl_magLeft) (by kernel_rfl) (by rw [Tryz.ntmps256]; simp) (by
    have e : D_impl_magLeft a0 a1 w K = vc P P_impl_magLeft (codeOf Tryz.f256) (env0 [a0, a1]) w (retX P Tryz.f256.results.toList K) := by kernel_rfl
    exact e ▸ h)

/-- impl.magRight -/
def D_impl_magRight (a0 a1 : Value) (w : World) (K : Value → World → Prop) : Prop :=
  bl0 P .len #[177] 3 [a0] w fun x10_1 =>
  cnv P 3 189 x10_1 w fun x11_2 =>
  bin P .quo 189 false true a1 (.int .u64 32) w fun x13_3 =>
  bin P .leq 189 false false x11_2 x13_3 w fun x14_4 =>
  cnd x14_4
    (K (.slice none 0 0) w)
    (bin P .quo 189 false true a1 (.int .u64 32) w fun x17_5 =>
    sli P 177 a0 (some x17_5) none none w fun x18_6 =>
    bl0 P .len #[177] 3 [x18_6] w fun x20_7 =>
    mks P 177 x20_7 x20_7 w fun x21_8 w9 =>
    bl0 P .len #[177] 3 [x18_6] w9 fun x23_10 =>
    ∃ I11 : Nat → Value → World → Prop, (∃ m43, I11 m43 (.int .i64 0) w9) ∧ ∀ (m14 : Nat) (x24_15 : Value) (junk12 : Env) (w13 : World), I11 m14 x24_15 w13 →
      bin P .lss 3 false false x24_15 x23_10 w13 fun x25_16 =>
      cnd x25_16
        (ixa P 177 x18_6 x24_15 w13 fun x27_17 =>
        ld P 221 x27_17 w13 fun x28_18 =>
        cnv P 221 227 x28_18 w13 fun x30_19 =>
        ∃ J20 : Value → World → Prop, (∀ (x8_23 : Value) (junk21 : Env) (w22 : World), J20 x8_23 w22 →
          bin P .rem 189 false true a1 (.int .u64 32) w22 fun x49_24 =>
          bin P .shr 227 false false x8_23 x49_24 w22 fun x50_25 =>
          cnv P 227 221 x50_25 w22 fun x51_26 =>
          ixa P 177 x21_8 x24_15 w22 fun x52_27 =>
          sto P 221 x52_27 x51_26 w22 fun w29 =>
          bin P .add 3 false true x24_15 (.int .i64 1) w29 fun x53_30 =>
          ∃ m31, m31 < m14 ∧ I11 m31 x53_30 w29) ∧
          (bin P .add 3 false true x24_15 (.int .i64 1) w13 fun x32_32 =>
          bl0 P .len #[177] 3 [x18_6] w13 fun x34_33 =>
          bin P .lss 3 false false x32_32 x34_33 w13 fun x35_34 =>
          cnd x35_34
            (bin P .add 3 false true x24_15 (.int .i64 1) w13 fun x39_35 =>
            ixa P 177 x18_6 x39_35 w13 fun x40_36 =>
            ld P 221 x40_36 w13 fun x41_37 =>
            cnv P 221 227 x41_37 w13 fun x42_38 =>
            bin P .shl 227 false true x42_38 (.int .u64 32) w13 fun x43_39 =>
            bin P .or 227 false false x30_19 x43_39 w13 fun x44_40 =>
            J20 x44_40 w13)
            (J20 x30_19 w13)))
        (call P f_impl_magTrim [x21_8] w13 fun x55_41 w42 =>
        K x55_41 w42))
def P_impl_magRight : Plan := (.seq (.reg [.op (0, 0, false)]) (.seq (.seq (.reg [.op (0, 0, false), .op (1, 0, false), .op (2, 0, false), .op (3, 0, false), .op (4, 0, false), .op (5, 0, false)]) (.cond (.seq (.reg [.op (0, 0, false)]) .leaf) .leaf)) (.seq (.reg [.op (0, 0, false), .op (1, 0, false), .op (2, 0, false), .op (3, 0, false), .op (4, 0, false)]) (.seq (.reg [.op (0, 0, false), .op (1, 0, false), .op (2, 2, false), .op (3, 0, false)]) (.seq (.seq (.reg [.op (0, 0, false), .op (1, 0, false), .op (2, 0, false)]) (.blk (.loop [24] 18014398492705216 (.seq (.reg [.op (0, 0, false)]) (.seq (.cond .leaf .leaf) (.seq (.blk (.seq (.reg [.op (0, 0, false), .op (1, 0, false), .op (2, 0, false), .op (3, 0, false), .op (4, 0, false)]) (.seq (.reg [.op (0, 0, false), .op (1, 0, false), .op (2, 0, false)]) (.cut [8] 35182224605440 (.seq (.reg [.op (0, 0, false), .op (1, 0, false), .op (2, 0, false), .op (3, 0, false), .op (4, 0, false)]) (.cond (.reg [.op (0, 0, false), .op (1, 0, false), .op (2, 0, false), .op (3, 0, false), .op (4, 0, false), .op (5, 0, false), .op (6, 0, false), .op (7, 0, false), .op (8, 0, false), .op (9, 0, false)]) .leaf)) (.reg [.op (0, 0, false), .op (1, 0, false), .op (2, 0, false), .op (3, 0, false), .op (4, 0, false), .op (5, 0, false), .op (6, 0, false), .op (7, 0, false), .op (8, 2, false)]))))) (.reg [.op (0, 0, false), .op (1, 0, false)]))))))) (.seq (.reg [.op (0, 0, false), .op (1, 2, false), .op (2, 0, false)]) .leaf))))))
theorem I_impl_magRight {a0 a1 : Value} {w : World} {K : Value → World → Prop} (h : D_impl_magRight a0 a1 w K) : call P f_impl_magRight [a0, a1] w K :=
  call_of_vc mixed Tryz.func257 (c := codeOf Tryz.f257) (by kernel_rfl) (by kernel_rfl) (p := P_impl_magRight) (by kernel_rfl) (by rw [Tryz.ntmps257]; simp) (by
    have e : D_impl_magRight a0 a1 w K = vc P P_impl_magRight (codeOf Tryz.f257) (env0 [a0, a1]) w (retX P Tryz.f257.results.toList K) := by kernel_rfl
    exact e ▸ h)

/-- impl.magSub -/
def D_impl_magSub (a0 a1 : Value) (w : World) (K : Value → World → Prop) : Prop :=
  bl0 P .len #[177] 3 [a0] w fun x12_1 =>
  mks P 177 x12_1 x12_1 w fun x13_2 w3 =>
  bl0 P .len #[177] 3 [a0] w3 fun x15_4 =>
  ∃ I5 : Nat → Value → Value → World → Prop, (∃ m35, I5 m35 (.int .u64 0) (.int .i64 0) w3) ∧ ∀ (m8 : Nat) (x6_9 : Value) (x16_10 : Value) (junk6 : Env) (w7 : World), I5 m8 x6_9 x16_10 w7 →
    bin P .lss 3 false false x16_10 x15_4 w7 fun x17_11 =>
    cnd x17_11
      (ixa P 177 a0 x16_10 w7 fun x19_12 =>
      ld P 221 x19_12 w7 fun x20_13 =>
      ∃ J14 : Value → World → Prop, (∀ (x9_17 : Value) (junk15 : Env) (w16 : World), J14 x9_17 w16 →
        cnv P 221 227 x20_13 w16 fun x34_18 =>
        bin P .sub 227 false false x34_18 x9_17 w16 fun x36_19 =>
        cnv P 227 221 x36_19 w16 fun x40_20 =>
        ixa P 177 x13_2 x16_10 w16 fun x41_21 =>
        sto P 221 x41_21 x40_20 w16 fun w23 =>
        bin P .shr 227 false true x36_19 (.int .u64 63) w23 fun x43_24 =>
        bin P .add 3 false true x16_10 (.int .i64 1) w23 fun x44_25 =>
        ∃ m26, m26 < m8 ∧ I5 m26 x43_24 x44_25 w23) ∧
        (bl0 P .len #[177] 3 [a1] w7 fun x24_27 =>
        bin P .lss 3 false false x16_10 x24_27 w7 fun x25_28 =>
        cnd x25_28
          (ixa P 177 a1 x16_10 w7 fun x29_29 =>
          ld P 221 x29_29 w7 fun x30_30 =>
          cnv P 221 227 x30_30 w7 fun x31_31 =>
          bin P .add 227 false false x6_9 x31_31 w7 fun x32_32 =>
          J14 x32_32 w7)
          (J14 x6_9 w7)))
      (call P f_impl_magTrim [x13_2] w7 fun x46_33 w34 =>
      K x46_33 w34)
def P_impl_magSub : Plan := (.seq (.reg [.op (0, 0, false)]) (.seq (.reg [.op (0, 0, false), .op (1, 0, false), .op (2, 2, false), .op (3, 0, false)]) (.seq (.reg [.op (0, 0, false)]) (.seq (.seq (.reg [.op (0, 0, false), .op (1, 0, false), .op (2, 0, false)]) (.blk (.loop [6, 16] 35184372025280 (.seq (.reg [.op (0, 0, false)]) (.seq (.cond .leaf .leaf) (.seq (.blk (.seq (.reg [.op (0, 0, false), .op (1, 0, false), .op (2, 0, false), .op (3, 0, false), .op (4, 0, false)]) (.seq (.reg [.op (0, 0, false), .op (1, 0, false)]) (.cut [9] 8585740800 (.seq (.reg [.op (0, 0, false), .op (1, 0, false), .op (2, 0, false), .op (3, 0, false)]) (.cond (.reg [.op (0, 0, false), .op (1, 0, false), .op (2, 0, false), .op (3, 0, false), .op (4, 0, false), .op (5, 0, false), .op (6, 0, false), .op (7, 0, false)]) .leaf)) (.seq (.reg [.op (0, 0, false), .op (1, 0, false), .op (2, 0, false), .op (3, 0, false), .op (4, 0, false)]) (.seq (.reg [.op (0, 0, false), .op (1, 0, false), .op (2, 0, false), .op (3, 0, false), .op (4, 0, false), .op (5, 2, false)]) (.reg [.op (0, 0, false), .op (1, 0, false), .op (2, 0, false)]))))))) (.reg [.op (0, 0, false), .op (1, 0, false)]))))))) (.seq (.reg [.op (0, 0, false), .op (1, 2, false), .op (2, 0, false)]) .leaf)))))
theorem I_impl_magSub {a0 a1 : Value} {w : World} {K : Value → World → Prop} (h : D_impl_magSub a0 a1 w K) : call P f_impl_magSub [a0, a1] w K :=
  call_of_vc mixed Tryz.func258 (c := codeOf Tryz.f258) (by kernel_rfl) (by kernel_rfl) (p := P_impl_magSub) (by kernel_rfl) (by rw [Tryz.ntmps258]; simp) (by
    have e : D_impl_magSub a0 a1 w K = vc P P_impl_magSub (codeOf Tryz.f258) (env0 [a0, a1]) w (retX P Tryz.f258.results.toList K) := by kernel_rfl
    exact e ▸ h)

/-- impl.magAdd -/
def D_impl_magAdd (a0 a1 : Value) (w : World) (K : Value → World → Prop) : Prop :=
  ∃ J1 : Value → Value → World → Prop, (∀ (x0_4 : Value) (x1_5 : Value) (junk2 : Env) (w3 : World), J1 x0_4 x1_5 w3 →
    bl0 P .len #[177] 3 [x0_4] w3 fun x17_6 =>
    bin P .add 3 false true x17_6 (.int .i64 1) w3 fun x18_7 =>
    mks P 177 x18_7 x18_7 w3 fun x19_8 w9 =>
    bl0 P .len #[177] 3 [x0_4] w9 fun x21_10 =>
    ∃ I11 : Nat → Value → Value → World → Prop, (∃ m46, I11 m46 (.int .u64 0) (.int .i64 0) w9) ∧ ∀ (m14 : Nat) (x6_15 : Value) (x22_16 : Value) (junk12 : Env) (w13 : World), I11 m14 x6_15 x22_16 w13 →
      bin P .lss 3 false false x22_16 x21_10 w13 fun x23_17 =>
      cnd x23_17
        (ixa P 177 x0_4 x22_16 w13 fun x25_18 =>
        ld P 221 x25_18 w13 fun x26_19 =>
        cnv P 221 227 x26_19 w13 fun x29_20 =>
        bin P .add 227 false false x6_15 x29_20 w13 fun x30_21 =>
        ∃ J22 : Value → World → Prop, (∀ (x6_25 : Value) (junk23 : Env) (w24 : World), J22 x6_25 w24 →
          cnv P 227 221 x6_25 w24 fun x45_26 =>
          ixa P 177 x19_8 x22_16 w24 fun x46_27 =>
          sto P 221 x46_27 x45_26 w24 fun w29 =>
          bin P .shr 227 false true x6_25 (.int .u64 32) w29 fun x48_30 =>
          bin P .add 3 false true x22_16 (.int .i64 1) w29 fun x49_31 =>
          ∃ m32, m32 < m14 ∧ I11 m32 x48_30 x49_31 w29) ∧
          (bl0 P .len #[177] 3 [x1_5] w13 fun x33_33 =>
          bin P .lss 3 false false x22_16 x33_33 w13 fun x34_34 =>
          cnd x34_34
            (ixa P 177 x1_5 x22_16 w13 fun x38_35 =>
            ld P 221 x38_35 w13 fun x39_36 =>
            cnv P 221 227 x39_36 w13 fun x40_37 =>
            bin P .add 227 false false x30_21 x40_37 w13 fun x41_38 =>
            J22 x41_38 w13)
            (J22 x30_21 w13)))
        (bl0 P .len #[177] 3 [x0_4] w13 fun x52_39 =>
        cnv P 227 221 x6_15 w13 fun x54_40 =>
        ixa P 177 x19_8 x52_39 w13 fun x55_41 =>
        sto P 221 x55_41 x54_40 w13 fun w43 =>
        call P f_impl_magTrim [x19_8] w43 fun x57_44 w45 =>
        K x57_44 w45)) ∧
    (bl0 P .len #[177] 3 [a0] w fun x10_47 =>
    bl0 P .len #[177] 3 [a1] w fun x12_48 =>
    bin P .lss 3 false false x10_47 x12_48 w fun x13_49 =>
    cnd x13_49
      (J1 a1 a0 w)
      (J1 a0 a1 w))
def P_impl_magAdd : Plan := (.seq (.reg [.op (0, 0, false)]) (.cut [0, 1] 65027 (.seq (.reg [.op (0, 0, false), .op (1, 0, false), .op (2, 0, false), .op (3, 0, false), .op (4, 0, false)]) (.cond (.reg [.op (0, 0, false), .op (1, 0, false), .op (2, 0, false), .op (3, 0, false)]) .leaf)) (.seq (.reg [.op (0, 0, false), .op (1, 0, false), .op (2, 0, false), .op (3, 2, false), .op (4, 0, false)]) (.seq (.reg [.op (0, 0, false)]) (.seq (.seq (.reg [.op (0, 0, false), .op (1, 0, false), .op (2, 0, false)]) (.blk (.loop [6, 22] 1125899902648768 (.seq (.reg [.op (0, 0, false)]) (.seq (.cond .leaf .leaf) (.seq (.blk (.seq (.reg [.op (0, 0, false), .op (1, 0, false), .op (2, 0, false), .op (3, 0, false), .op (4, 0, false)]) (.seq (.reg [.op (0, 0, false), .op (1, 0, false), .op (2, 0, false), .op (3, 0, false), .op (4, 0, false)]) (.cut [6] 4395899027520 (.seq (.reg [.op (0, 0, false), .op (1, 0, false), .op (2, 0, false), .op (3, 0, false)]) (.cond (.reg [.op (0, 0, false), .op (1, 0, false), .op (2, 0, false), .op (3, 0, false), .op (4, 0, false), .op (5, 0, false), .op (6, 0, false), .op (7, 0, false)]) .leaf)) (.seq (.reg [.op (0, 0, false), .op (1, 0, false), .op (2, 0, false), .op (3, 0, false), .op (4, 0, false), .op (5, 2, false)]) (.reg [.op (0, 0, false), .op (1, 0, false), .op (2, 0, false)])))))) (.reg [.op (0, 0, false), .op (1, 0, false)]))))))) (.seq (.reg [.op (0, 0, false), .op (1, 0, false), .op (2, 0, false), .op (3, 0, false), .op (4, 0, false), .op (5, 0, false), .op (6, 2, false)]) (.seq (.reg [.op (0, 0, false), .op (1, 2, false), .op (2, 0, false)]) .leaf)))))))
theorem I_impl_magAdd {a0 a1 : Value} {w : World} {K : Value → World → Prop} (h : D_impl_magAdd a0 a1 w K) : call P f_impl_magAdd [a0, a1] w K :=
  call_of_vc mixed Tryz.func259 (c := codeOf Tryz.f259) (by kernel_rfl) (by kernel_rfl) (p := P_impl_magAdd) (by kernel_rfl) (by rw [Tryz.ntmps259]; simp) (by
    have e : D_impl_magAdd a0 a1 w K = vc P P_impl_magAdd (codeOf Tryz.f259) (env0 [a0, a1]) w (retX P Tryz.f259.results.toList K) := by kernel_rfl
    exact e ▸ h)

/-- impl.magCmp -/
def D_impl_magCmp (a0 a1 : Value) (w : World) (K : Value → World → Prop) : Prop :=
  bl0 P .len #[177] 3 [a0] w fun x7_1 =>
  bl0 P .len #[177] 3 [a1] w fun x9_2 =>
  bin P .neq 3 false false x7_1 x9_2 w fun x10_3 =>
  cnd x10_3
    (bl0 P .len #[177] 3 [a0] w fun x12_4 =>
    bl0 P .len #[177] 3 [a1] w fun x14_5 =>
    call P f_cmp_Compare_int [x12_4, x14_5] w fun x15_6 w7 =>
    K x15_6 w7)
    (bl0 P .len #[177] 3 [a0] w fun x17_8 =>
    bin P .sub 3 false true x17_8 (.int .i64 1) w fun x18_9 =>
    ∃ I10 : Nat → Value → World → Prop, (∃ m29, I10 m29 x18_9 w) ∧ ∀ (m13 : Nat) (x5_14 : Value) (junk11 : Env) (w12 : World), I10 m13 x5_14 w12 →
      bin P .geq 3 false true x5_14 (.int .i64 0) w12 fun x20_15 =>
      cnd x20_15
        (ixa P 177 a0 x5_14 w12 fun x25_16 =>
        ld P 221 x25_16 w12 fun x26_17 =>
        ixa P 177 a1 x5_14 w12 fun x29_18 =>
        ld P 221 x29_18 w12 fun x30_19 =>
        bin P .neq 221 false false x26_17 x30_19 w12 fun x31_20 =>
        cnd x31_20
          (ixa P 177 a0 x5_14 w12 fun x34_21 =>
          ld P 221 x34_21 w12 fun x35_22 =>
          ixa P 177 a1 x5_14 w12 fun x38_23 =>
          ld P 221 x38_23 w12 fun x39_24 =>
          call P f_cmp_Compare_uint32 [x35_22, x39_24] w12 fun x40_25 w26 =>
          K x40_25 w26)
          (bin P .sub 3 false true x5_14 (.int .i64 1) w12 fun x22_27 =>
          ∃ m28, m28 < m13 ∧ I10 m28 x22_27 w12))
        (K (.int .i64 0) w12))
def P_impl_magCmp : Plan := (.seq (.reg [.op (0, 0, false)]) (.seq (.seq (.reg [.op (0, 0, false), .op (1, 0, false), .op (2, 0, false), .op (3, 0, false), .op (4, 0, false)]) (.cond (.seq (.reg [.op (0, 0, false), .op (1, 0, false), .op (2, 0, false), .op (3, 0, false), .op (4, 2, false), .op (5, 0, false)]) .leaf) .leaf)) (.seq (.seq (.reg [.op (0, 0, false), .op (1, 0, false), .op (2, 0, false), .op (3, 0, false)]) (.blk (.loop [5] 2199022731312 (.seq (.seq (.reg [.op (0, 0, false), .op (1, 0, false)]) (.cond .leaf .leaf)) (.seq (.blk (.seq (.reg [.op (0, 0, false), .op (1, 0, false), .op (2, 0, false), .op (3, 0, false), .op (4, 0, false), .op (5, 0, false), .op (6, 0, false), .op (7, 0, false), .op (8, 0, false)]) (.cond (.seq (.reg [.op (0, 0, false), .op (1, 0, false), .op (2, 0, false), .op (3, 0, false), .op (4, 0, false), .op (5, 0, false), .op (6, 0, false), .op (7, 0, false), .op (8, 2, false), .op (9, 0, false)]) .leaf) .leaf))) (.reg [.op (0, 0, false), .op (1, 0, false), .op (2, 0, false)])))))) (.seq (.reg [.op (0, 0, false)]) .leaf))))
theorem I_impl_magCmp {a0 a1 : Value} {w : World} {K : Value → World → Prop} (h : D_impl_magCmp a0 a1 w K) : call P f_impl_magCmp [a0, a1] w K :=
  call_of_vc mixed Tryz.func260 (c := codeOf Tryz.f260) (by kernel_rfl) (by kernel_rfl) (p := P_impl_magCmp) (by kernel_rfl) (by rw [Tryz.ntmps260]; simp) (by
    have e : D_impl_magCmp a0 a1 w K = vc P P_impl_magCmp (codeOf Tryz.f260) (env0 [a0, a1]) w (retX P Tryz.f260.results.toList K) := by kernel_rfl
    exact e ▸ h)

/-- (*impl.integer).low -/
def D_impl_integer_low (a0 : Value) (w : World) (K : Value → World → Prop) : Prop :=
  nch a0 fun x6_1 =>
  fda P 179 x6_1 1 w fun x7_2 =>
  ld P 177 x7_2 w fun x8_3 =>
  bl0 P .len #[177] 3 [x8_3] w fun x9_4 =>
  bl0 P .min #[3, 3] 3 [x9_4, (.int .i64 2)] w fun x10_5 =>
  bin P .sub 3 false true x10_5 (.int .i64 1) w fun x11_6 =>
  ∃ I7 : Nat → Value → Value → World → Prop, (∃ m24, I7 m24 (.int .u64 0) x11_6 w) ∧ ∀ (m10 : Nat) (x3_11 : Value) (x4_12 : Value) (junk8 : Env) (w9 : World), I7 m10 x3_11 x4_12 w9 →
    bin P .geq 3 false true x4_12 (.int .i64 0) w9 fun x13_13 =>
    cnd x13_13
      (bin P .shl 227 false true x3_11 (.int .u64 32) w9 fun x17_14 =>
      nch a0 fun x19_15 =>
      fda P 179 x19_15 1 w9 fun x20_16 =>
      ld P 177 x20_16 w9 fun x21_17 =>
      ixa P 177 x21_17 x4_12 w9 fun x23_18 =>
      ld P 221 x23_18 w9 fun x24_19 =>
      cnv P 221 227 x24_19 w9 fun x25_20 =>
      bin P .or 227 false false x17_14 x25_20 w9 fun x26_21 =>
      bin P .sub 3 false true x4_12 (.int .i64 1) w9 fun x15_22 =>
      ∃ m23, m23 < m10 ∧ I7 m23 x26_21 x15_22 w9)
      (K x3_11 w9)
def P_impl_integer_low : Plan := (.seq (.reg [.op (0, 0, false)]) (.seq (.reg [.op (0, 0, false)]) (.seq (.seq (.reg [.op (0, 0, false), .op (1, 0, false), .op (2, 0, false), .op (3, 0, false), .op (4, 0, false), .op (5, 0, false), .op (6, 0, false), .op (7, 0, false)]) (.blk (.loop [3, 4] 134213656 (.seq (.seq (.reg [.op (0, 0, false), .op (1, 0, false)]) (.cond .leaf .leaf)) (.seq (.blk (.reg [.op (0, 0, false), .op (1, 0, false), .op (2, 0, false), .op (3, 0, false), .op (4, 0, false), .op (5, 0, false), .op (6, 0, false), .op (7, 0, false), .op (8, 0, false), .op (9, 0, false), .op (10, 0, false), .op (11, 0, false)])) (.reg [.op (0, 0, false), .op (1, 0, false), .op (2, 0, false)])))))) (.seq (.reg [.op (0, 0, false), .op (1, 0, false)]) .leaf))))
theorem I_impl_integer_low {a0 : Value} {w : World} {K : Value → World → Prop} (h : D_impl_integer_low a0 w K) : call P f_impl_integer_low [a0] w K :=
  call_of_vc mixed Tryz.func263 (c := codeOf Tryz.f263) (by kernel_rfl) (by kernel_rfl) (p := P_impl_integer_low) (by kernel_rfl) (by rw [Tryz.ntmps263]; simp) (by
    have e : D_impl_integer_low a0 w K = vc P P_impl_integer_low (codeOf Tryz.f263) (env0 [a0]) w (retX P Tryz.f263.results.toList K) := by kernel_rfl
    exact e ▸ h)

/-- impl.magTrim -/
def D_impl_magTrim (a0 : Value) (w : World) (K : Value → World → Prop) : Prop :=
  ∃ I1 : Nat → Value → World → Prop, (∃ m22, I1 m22 a0 w) ∧ ∀ (m4 : Nat) (x0_5 : Value) (junk2 : Env) (w3 : World), I1 m4 x0_5 w3 →
    bl0 P .len #[177] 3 [x0_5] w3 fun x4_6 =>
    bin P .gtr 3 false true x4_6 (.int .i64 0) w3 fun x5_7 =>
    ∃ J8 : Value → World → Prop, (∀ (x13_9 : Value) (junk11 : Env) (w10 : World), J8 x13_9 w10 →
      pick x5_7 x13_9 (.bool false) fun x14_12 =>
      cnd x14_12
        (bl0 P .len #[177] 3 [x0_5] w10 fun x17_13 =>
        bin P .sub 3 false true x17_13 (.int .i64 1) w10 fun x18_14 =>
        sli P 177 x0_5 none (some x18_14) none w10 fun x19_15 =>
        ∃ m16, m16 < m4 ∧ I1 m16 x19_15 w10)
        (K x0_5 w10)) ∧
      grd x5_7 true
        (bl0 P .len #[177] 3 [x0_5] w3 fun x9_17 =>
        bin P .sub 3 false true x9_17 (.int .i64 1) w3 fun x10_18 =>
        ixa P 177 x0_5 x10_18 w3 fun x11_19 =>
        ld P 221 x11_19 w3 fun x12_20 =>
        bin P .eql 221 false true x12_20 (.int .u32 0) w3 fun x13_21 =>
        J8 x13_21 w3)
        (J8 undef w3)
def P_impl_magTrim : Plan := (.seq (.reg [.op (0, 0, false)]) (.seq (.blk (.loop [0] 1048569 (.seq (.seq (.reg [.op (0, 0, false), .op (1, 0, false), .op (2, 0, false), .op (3, 0, false), .grp 3 true [(4, 0, false), (5, 0, false), (6, 0, false), (7, 0, false), (8, 0, false), (9, 0, false), (10, 0, false)] [13] 16256, .op (11, 0, false)]) (.cond .leaf .leaf)) (.blk (.reg [.op (0, 0, false), .op (1, 0, false), .op (2, 0, false), .op (3, 0, false), .op (4, 0, false), .op (5, 0, false)]))))) (.seq (.reg [.op (0, 0, false), .op (1, 0, false)]) .leaf)))
theorem I_impl_magTrim {a0 : Value} {w : World} {K : Value → World → Prop} (h : D_impl_magTrim a0 w K) : call P f_impl_magTrim [a0] w K :=
  call_of_vc mixed Tryz.func285 (c := codeOf Tryz.f285) (by kernel_rfl) (by kernel_rfl) (p := P_impl_magTrim) (by kernel_rfl) (by rw [Tryz.ntmps285]; simp) (by
    have e : D_impl_magTrim a0 w K = vc P P_impl_magTrim (codeOf Tryz.f285) (env0 [a0]) w (retX P Tryz.f285.results.toList K) := by kernel_rfl
    exact e ▸ h)

end Go.Proofs.YtabgkpfcpncmhaaGreat

/- Written by a program (gen.py): what is left to show of each function's call. -/
set_option linter.unusedVariables false
set_option maxRecDepth 20000
namespace Go.Proofs.YtabgkpfcpncmhaaGreat
open Go Go.Vc

/-- spec.l02Of -/
def D_spec_l02Of (a0 : Value) (w : World) (K : Value → World → Prop) : Prop :=
  alc P 26 w fun x2_1 w2 =>
  bsl P 24 0 [] w2 fun x6_3 w4 =>
  ∃ J5 : Value → World → Prop, (∀ (x3_8 : Value) (junk6 : Env) (w7 : World), J5 x3_8 w7 →
    ∃ I9 : Nat → Value → Value → World → Prop, (∃ m34, I9 m34 a0 x6_3 w7) ∧ ∀ (m12 : Nat) (x0_13 : Value) (x4_14 : Value) (junk10 : Env) (w11 : World), I9 m12 x0_13 x4_14 w11 →
      bin P .neq 2 false true x0_13 (.int .i64 0) w11 fun x10_15 =>
      cnd x10_15
        (bin P .rem 2 false true x0_13 (.int .i64 16777216) w11 fun x12_16 =>
        ∃ J17 : Value → World → Prop, (∀ (x5_20 : Value) (junk18 : Env) (w19 : World), J17 x5_20 w19 →
          bsl P 24 1 [(0, x5_20)] w19 fun x19_21 w22 =>
          bl2 P .append #[24, 24] 24 [x4_14, x19_21] w22 fun x20_23 w24 =>
          bin P .quo 2 false true x0_13 (.int .i64 16777216) w24 fun x22_25 =>
          ∃ m26, m26 < m12 ∧ I9 m26 x22_25 x20_23 w24) ∧
          (bin P .lss 2 false true x12_16 (.int .i64 0) w11 fun x14_27 =>
          cnd x14_27
            (una P .neg x12_16 w11 fun x16_28 =>
            J17 x16_28 w11)
            (J17 x12_16 w11)))
        (call P f_spec_l02Make [x3_8, x4_14] w11 fun x25_29 w30 =>
        sto P 26 x2_1 x25_29 w30 fun w32 =>
        ldc P 26 x2_1 w32 fun r33 =>
        K r33 w32)) ∧
    (bin P .lss 2 false true a0 (.int .i64 0) w4 fun x8_35 =>
    cnd x8_35
      (J5 (.int .i64 (-1)) w4)
      (J5 (.int .i64 1) w4))
def P_spec_l02Of : Plan := (.seq (.reg [.op (0, 2, false)]) (.seq (.reg [.op (0, 2, false), .op (1, 0, false), .op (2, 0, false)]) (.cut [3] 392 (.seq (.reg [.op (0, 0, false), .op (1, 0, false)]) (.cond (.reg [.op (0, 0, false)]) .leaf)) (.seq (.blk (.loop [0, 4] 8388145 (.seq (.seq (.reg [.op (0, 0, false), .op (1, 0, false)]) (.cond .leaf .leaf)) (.blk (.seq (.reg [.op (0, 0, false), .op (1, 0, false), .op (2, 0, false)]) (.cut [5] 122912 (.seq (.reg [.op (0, 0, false), .op (1, 0, false)]) (.cond (.reg [.op (0, 0, false), .op (1, 0, false), .op (2, 0, false)]) .leaf)) (.seq (.reg [.op (0, 0, false), .op (1, 0, false), .op (2, 2, false), .op (3, 2, false), .op (4, 0, false)]) (.reg [.op (0, 0, false), .op (1, 0, false), .op (2, 0, false)])))))))) (.seq (.reg [.op (0, 0, false), .op (1, 0, false), .op (2, 2, false), .op (3, 2, false)]) .leaf)))))
theorem I_spec_l02Of {a0 : Value} {w : World} {K : Value → World → Prop} (h : D_spec_l02Of a0 w K) : call P f_spec_l02Of [a0] w K :=
  call_of_vc mixed Tryz.func164 (c := codeOf Tryz.f164) (by kernel_rfl) (by kernel_rfl) (p := P_spec_l02Of) (by kernel_rfl) (by rw [Tryz.ntmps164]; simp) (by
    have e : D_spec_l02Of a0 w K = vc P P_spec_l02Of (codeOf Tryz.f164) (env0 [a0]) w (retX P Tryz.f164.results.toList K) := by kernel_rfl
    exact e ▸ h)

/-- spec.l02Abs -/
def D_spec_l02Abs (a0 : Value) (w : World) (K : Value → World → Prop) : Prop :=
  bx P 26 a0 w fun x1_1 w2 =>
  alc P 26 w2 fun x2_3 w4 =>
  fda P 26 x1_1 0 w4 fun x3_5 =>
  ld P 2 x3_5 w4 fun x4_6 =>
  fda P 26 x1_1 0 w4 fun x5_7 =>
  ld P 2 x5_7 w4 fun x6_8 =>
  bin P .mul 2 false false x4_6 x6_8 w4 fun x7_9 =>
  fda P 26 x1_1 1 w4 fun x8_10 =>
  ld P 24 x8_10 w4 fun x9_11 =>
  call P f_spec_l02Make [x7_9, x9_11] w4 fun x10_12 w13 =>
  sto P 26 x2_3 x10_12 w13 fun w15 =>
  ldc P 26 x2_3 w15 fun r16 =>
  K r16 w15
def P_spec_l02Abs : Plan := (.seq (.reg [.op (0, 2, false), .op (1, 2, false)]) (.seq (.reg [.op (0, 0, false), .op (1, 0, false), .op (2, 0, false), .op (3, 0, false), .op (4, 0, false), .op (5, 0, false), .op (6, 0, false), .op (7, 2, false), .op (8, 2, false)]) .leaf))
theorem I_spec_l02Abs {a0 : Value} {w : World} {K : Value → World → Prop} (h : D_spec_l02Abs a0 w K) : call P f_spec_l02Abs [a0] w K :=
  call_of_vc mixed Tryz.func167 (c := codeOf Tryz.f167) (by kernel_rfl) (by kernel_rfl) (p := P_spec_l02Abs) (by kernel_rfl) (by rw [Tryz.ntmps167]; simp) (by
    have e : D_spec_l02Abs a0 w K = vc P P_spec_l02Abs (codeOf Tryz.f167) (env0 [a0]) w (retX P Tryz.f167.results.toList K) := by kernel_rfl
    exact e ▸ h)

/-- spec.l02Add -/
def D_spec_l02Add (a0 a1 : Value) (w : World) (K : Value → World → Prop) : Prop :=
  bx P 26 a0 w fun x2_1 w2 =>
  bx P 26 a1 w2 fun x3_3 w4 =>
  alc P 26 w4 fun x4_5 w6 =>
  fda P 26 x2_1 0 w6 fun x6_7 =>
  ld P 2 x6_7 w6 fun x7_8 =>
  bin P .eql 2 false true x7_8 (.int .i64 0) w6 fun x8_9 =>
  cnd x8_9
    (fda P 26 x3_3 0 w6 fun x9_10 =>
    ld P 2 x9_10 w6 fun x10_11 =>
    fda P 26 x3_3 1 w6 fun x11_12 =>
    ld P 24 x11_12 w6 fun x12_13 =>
    call P f_spec_l02Make [x10_11, x12_13] w6 fun x13_14 w15 =>
    sto P 26 x4_5 x13_14 w15 fun w17 =>
    ldc P 26 x4_5 w17 fun r18 =>
    K r18 w17)
    (fda P 26 x3_3 0 w6 fun x15_19 =>
    ld P 2 x15_19 w6 fun x16_20 =>
    bin P .eql 2 false true x16_20 (.int .i64 0) w6 fun x17_21 =>
    cnd x17_21
      (fda P 26 x2_1 0 w6 fun x18_22 =>
      ld P 2 x18_22 w6 fun x19_23 =>
      fda P 26 x2_1 1 w6 fun x20_24 =>
      ld P 24 x20_24 w6 fun x21_25 =>
      call P f_spec_l02Make [x19_23, x21_25] w6 fun x22_26 w27 =>
      sto P 26 x4_5 x22_26 w27 fun w29 =>
      ldc P 26 x4_5 w29 fun r30 =>
      K r30 w29)
      (fda P 26 x2_1 0 w6 fun x24_31 =>
      ld P 2 x24_31 w6 fun x25_32 =>
      fda P 26 x3_3 0 w6 fun x26_33 =>
      ld P 2 x26_33 w6 fun x27_34 =>
      bin P .eql 2 false false x25_32 x27_34 w6 fun x28_35 =>
      cnd x28_35
        (fda P 26 x2_1 0 w6 fun x29_36 =>
        ld P 2 x29_36 w6 fun x30_37 =>
        fda P 26 x2_1 1 w6 fun x31_38 =>
        ld P 24 x31_38 w6 fun x32_39 =>
        fda P 26 x3_3 1 w6 fun x33_40 =>
        ld P 24 x33_40 w6 fun x34_41 =>
        call P f_spec_l02Plus [x32_39, x34_41] w6 fun x35_42 w43 =>
        Ext w6 w43 ∧ call P f_spec_l02Make [x30_37, x35_42] w43 fun x36_44 w45 =>
        sto P 26 x4_5 x36_44 w45 fun w47 =>
        ldc P 26 x4_5 w47 fun r48 =>
        K r48 w47)
        (fda P 26 x2_1 1 w6 fun x38_49 =>
        ld P 24 x38_49 w6 fun x39_50 =>
        fda P 26 x3_3 1 w6 fun x40_51 =>
        ld P 24 x40_51 w6 fun x41_52 =>
        call P f_spec_l02CompareLimbs [x39_50, x41_52] w6 fun x42_53 w54 =>
        bin P .geq 2 false true x42_53 (.int .i64 0) w54 fun x43_55 =>
        cnd x43_55
          (fda P 26 x2_1 0 w54 fun x44_56 =>
          ld P 2 x44_56 w54 fun x45_57 =>
          fda P 26 x2_1 1 w54 fun x46_58 =>
          ld P 24 x46_58 w54 fun x47_59 =>
          fda P 26 x3_3 1 w54 fun x48_60 =>
          ld P 24 x48_60 w54 fun x49_61 =>
          call P f_spec_l02Minus [x47_59, x49_61] w54 fun x50_62 w63 =>
          Ext w54 w63 ∧ call P f_spec_l02Make [x45_57, x50_62] w63 fun x51_64 w65 =>
          sto P 26 x4_5 x51_64 w65 fun w67 =>
          ldc P 26 x4_5 w67 fun r68 =>
          K r68 w67)
          (fda P 26 x3_3 0 w54 fun x52_69 =>
          ld P 2 x52_69 w54 fun x53_70 =>
          fda P 26 x3_3 1 w54 fun x54_71 =>
          ld P 24 x54_71 w54 fun x55_72 =>
          fda P 26 x2_1 1 w54 fun x56_73 =>
          ld P 24 x56_73 w54 fun x57_74 =>
          call P f_spec_l02Minus [x55_72, x57_74] w54 fun x58_75 w76 =>
          Ext w54 w76 ∧ call P f_spec_l02Make [x53_70, x58_75] w76 fun x59_77 w78 =>
          sto P 26 x4_5 x59_77 w78 fun w80 =>
          ldc P 26 x4_5 w80 fun r81 =>
          K r81 w80))))
def P_spec_l02Add : Plan := (.seq (.reg [.op (0, 2, false), .op (1, 2, false), .op (2, 2, false)]) (.seq (.blk (.seq (.reg [.op (0, 0, false), .op (1, 0, false), .op (2, 0, false), .op (3, 0, false)]) (.cond (.seq (.reg [.op (0, 0, false), .op (1, 0, false), .op (2, 0, false), .op (3, 0, false), .op (4, 2, false), .op (5, 2, false)]) .leaf) (.seq (.reg [.op (0, 0, false), .op (1, 0, false), .op (2, 0, false), .op (3, 0, false)]) (.cond (.seq (.reg [.op (0, 0, false), .op (1, 0, false), .op (2, 0, false), .op (3, 0, false), .op (4, 2, false), .op (5, 2, false)]) .leaf) (.seq (.reg [.op (0, 0, false), .op (1, 0, false), .op (2, 0, false), .op (3, 0, false), .op (4, 0, false), .op (5, 0, false)]) (.cond (.seq (.reg [.op (0, 0, false), .op (1, 0, false), .op (2, 0, false), .op (3, 0, false), .op (4, 0, false), .op (5, 0, false), .op (6, 2, true), .op (7, 2, false), .op (8, 2, false)]) .leaf) (.seq (.reg [.op (0, 0, false), .op (1, 0, false), .op (2, 0, false), .op (3, 0, false), .op (4, 2, false), .op (5, 0, false), .op (6, 0, false)]) (.cond (.seq (.reg [.op (0, 0, false), .op (1, 0, false), .op (2, 0, false), .op (3, 0, false), .op (4, 0, false), .op (5, 0, false), .op (6, 2, true), .op (7, 2, false), .op (8, 2, false)]) .leaf) .leaf))))))))) (.seq (.reg [.op (0, 0, false), .op (1, 0, false), .op (2, 0, false), .op (3, 0, false), .op (4, 0, false), .op (5, 0, false), .op (6, 2, true), .op (7, 2, false), .op (8, 2, false)]) .leaf)))
theorem I_spec_l02Add {a0 a1 : Value} {w : World} {K : Value → World → Prop} (h : D_spec_l02Add a0 a1 w K) : call P f_spec_l02Add [a0, a1] w K :=
  call_of_vc mixed Tryz.func175 (c := codeOf Tryz.f175) (by kernel_rfl) (by kernel_rfl) (p := P_spec_l02Add) (by kernel_rfl) (by rw [Tryz.ntmps175]; simp) (by
    have e : D_spec_l02Add a0 a1 w K = vc P P_spec_l02Add (codeOf Tryz.f175) (env0 [a0, a1]) w (retX P Tryz.f175.results.toList K) := by kernel_rfl
    exact e ▸ h)

/-- spec.l02Left -/
def D_spec_l02Left (a0 a1 : Value) (w : World) (K : Value → World → Prop) : Prop :=
  bx P 26 a0 w fun x2_1 w2 =>
  alc P 26 w2 fun x4_3 w4 =>
  bin P .quo 2 false true a1 (.int .i64 24) w4 fun x9_5 =>
  mks P 24 x9_5 x9_5 w4 fun x10_6 w7 =>
  ∃ I8 : Nat → Value → Value → Value → World → Prop, (∃ m46, I8 m46 x10_6 (.int .i64 0) (.int .i64 0) w7) ∧ ∀ (m11 : Nat) (x5_12 : Value) (x6_13 : Value) (x7_14 : Value) (junk9 : Env) (w10 : World), I8 m11 x5_12 x6_13 x7_14 w10 →
    fda P 26 x2_1 1 w10 fun x12_15 =>
    ld P 24 x12_15 w10 fun x13_16 =>
    bl0 P .len #[24] 3 [x13_16] w10 fun x14_17 =>
    bin P .lss 3 false false x7_14 x14_17 w10 fun x15_18 =>
    cnd x15_18
      (fda P 26 x2_1 1 w10 fun x19_19 =>
      ld P 24 x19_19 w10 fun x20_20 =>
      ixa P 24 x20_20 x7_14 w10 fun x22_21 =>
      ld P 2 x22_21 w10 fun x23_22 =>
      bin P .rem 2 false true a1 (.int .i64 24) w10 fun x25_23 =>
      cnv P 2 227 x25_23 w10 fun x26_24 =>
      bin P .shl 2 false false x23_22 x26_24 w10 fun x27_25 =>
      bin P .add 2 false false x6_13 x27_25 w10 fun x28_26 =>
      bin P .rem 2 false true x28_26 (.int .i64 16777216) w10 fun x31_27 =>
      bsl P 24 1 [(0, x31_27)] w10 fun x32_28 w29 =>
      bl2 P .append #[24, 24] 24 [x5_12, x32_28] w29 fun x33_30 w31 =>
      bin P .quo 2 false true x28_26 (.int .i64 16777216) w31 fun x35_32 =>
      bin P .add 3 false true x7_14 (.int .i64 1) w31 fun x17_33 =>
      ∃ m34, m34 < m11 ∧ I8 m34 x33_30 x35_32 x17_33 w31)
      (fda P 26 x2_1 0 w10 fun x36_35 =>
      ld P 2 x36_35 w10 fun x37_36 =>
      bsl P 24 1 [(0, x6_13)] w10 fun x40_37 w38 =>
      Ext w10 w38 ∧ bl2 P .append #[24, 24] 24 [x5_12, x40_37] w38 fun x41_39 w40 =>
      (fda P 26 x2_1 0 w40 fun z => z = x36_35) ∧ (ld P 2 x36_35 w40 fun z => z = x37_36) ∧ call P f_spec_l02Make [x37_36, x41_39] w40 fun x42_41 w42 =>
      sto P 26 x4_3 x42_41 w42 fun w44 =>
      ldc P 26 x4_3 w44 fun r45 =>
      K r45 w44)
def P_spec_l02Left : Plan := (.seq (.reg [.op (0, 2, false), .op (1, 2, false)]) (.seq (.reg [.op (0, 0, false), .op (1, 0, false), .op (2, 2, false), .op (3, 0, false)]) (.seq (.reg [.op (0, 0, false)]) (.seq (.seq (.reg [.op (0, 0, false)]) (.blk (.loop [5, 6, 7] 68719474912 (.seq (.seq (.reg [.op (0, 0, false), .op (1, 0, false), .op (2, 0, false), .op (3, 0, false), .op (4, 0, false)]) (.cond .leaf .leaf)) (.seq (.blk (.seq (.reg [.op (0, 0, false), .op (1, 0, false), .op (2, 0, false), .op (3, 0, false), .op (4, 0, false), .op (5, 0, false), .op (6, 0, false), .op (7, 0, false), .op (8, 0, false), .op (9, 0, false), .op (10, 0, false), .op (11, 0, false)]) (.seq (.reg [.op (0, 0, false), .op (1, 0, false), .op (2, 0, false), .op (3, 2, false), .op (4, 2, false), .op (5, 0, false)]) (.reg [.op (0, 0, false), .op (1, 0, false), .op (2, 0, false)])))) (.reg [.op (0, 0, false), .op (1, 0, false), .op (2, 0, false)])))))) (.seq (.reg [.op (0, 0, false), .op (1, 0, false), .op (2, 0, false), .op (3, 0, false), .op (4, 2, true), .op (5, 5, false), .op (6, 2, false), .op (7, 2, false)]) .leaf)))))
theorem I_spec_l02Left {a0 a1 : Value} {w : World} {K : Value → World → Prop} (h : D_spec_l02Left a0 a1 w K) : call P f_spec_l02Left [a0, a1] w K :=
  call_of_vc mixed Tryz.func176 (c := codeOf Tryz.f176) (by kernel_rfl) (by kernel_rfl) (p := P_spec_l02Left) (by kernel_rfl) (by rw [Tryz.ntmps176]; simp) (by
    have e : D_spec_l02Left a0 a1 w K = vc P P_spec_l02Left (codeOf Tryz.f176) (env0 [a0, a1]) w (retX P Tryz.f176.results.toList K) := by kernel_rfl
    exact e ▸ h)

/-- spec.l02Length -/
def D_spec_l02Length (a0 : Value) (w : World) (K : Value → World → Prop) : Prop :=
  bx P 26 a0 w fun x1_1 w2 =>
  fda P 26 x1_1 1 w2 fun x6_3 =>
  ld P 24 x6_3 w2 fun x7_4 =>
  bl0 P .len #[24] 3 [x7_4] w2 fun x8_5 =>
  bin P .eql 2 false true x8_5 (.int .i64 0) w2 fun x10_6 =>
  cnd x10_6
    (K (.int .i64 0) w2)
    (bin P .sub 2 false true x8_5 (.int .i64 1) w2 fun x12_7 =>
    bin P .mul 2 false true x12_7 (.int .i64 24) w2 fun x13_8 =>
    fda P 26 x1_1 1 w2 fun x14_9 =>
    ld P 24 x14_9 w2 fun x15_10 =>
    bin P .sub 2 false true x8_5 (.int .i64 1) w2 fun x17_11 =>
    ixa P 24 x15_10 x17_11 w2 fun x18_12 =>
    ld P 2 x18_12 w2 fun x19_13 =>
    ∃ I14 : Nat → Value → Value → World → Prop, (∃ m24, I14 m24 x13_8 x19_13 w2) ∧ ∀ (m17 : Nat) (x4_18 : Value) (x5_19 : Value) (junk15 : Env) (w16 : World), I14 m17 x4_18 x5_19 w16 →
      bin P .gtr 2 false true x5_19 (.int .i64 0) w16 fun x21_20 =>
      cnd x21_20
        (bin P .add 2 false true x4_18 (.int .i64 1) w16 fun x25_21 =>
        bin P .quo 2 false true x5_19 (.int .i64 2) w16 fun x23_22 =>
        ∃ m23, m23 < m17 ∧ I14 m23 x25_21 x23_22 w16)
        (K x4_18 w16))
def P_spec_l02Length : Plan := (.seq (.reg [.op (0, 2, false), .op (1, 0, false)]) (.seq (.reg [.op (0, 0, false), .op (1, 0, false), .op (2, 0, false), .op (3, 0, false)]) (.seq (.seq (.reg [.op (0, 0, false), .op (1, 0, false)]) (.cond (.seq (.reg [.op (0, 0, false)]) .leaf) .leaf)) (.seq (.reg [.op (0, 0, false), .op (1, 0, false), .op (2, 0, false), .op (3, 0, false)]) (.seq (.seq (.reg [.op (0, 0, false), .op (1, 0, false), .op (2, 0, false), .op (3, 0, false), .op (4, 0, false), .op (5, 0, false), .op (6, 0, false)]) (.blk (.loop [4, 5] 66060336 (.seq (.seq (.reg [.op (0, 0, false), .op (1, 0, false)]) (.cond .leaf .leaf)) (.seq (.blk (.reg [.op (0, 0, false), .op (1, 0, false), .op (2, 0, false)])) (.reg [.op (0, 0, false), .op (1, 0, false), .op (2, 0, false)])))))) (.seq (.reg [.op (0, 0, false), .op (1, 0, false)]) .leaf))))))
theorem I_spec_l02Length {a0 : Value} {w : World} {K : Value → World → Prop} (h : D_spec_l02Length a0 w K) : call P f_spec_l02Length [a0] w K :=
  call_of_vc mixed Tryz.func207 (c := codeOf Tryz.f207) (by kernel_rfl) (by kernel_rfl) (p := P_spec_l02Length) (by kernel_rfl) (by rw [Tryz.ntmps207]; simp) (by
    have e : D_spec_l02Length a0 w K = vc P P_spec_l02Length (codeOf Tryz.f207) (env0 [a0]) w (retX P Tryz.f207.results.toList K) := by kernel_rfl
    exact e ▸ h)

/-- spec.l02Twos -/
def D_spec_l02Twos (a0 : Value) (w : World) (K : Value → World → Prop) : Prop :=
  bx P 26 a0 w fun x1_1 w2 =>
  ∃ I3 : Nat → Value → World → Prop, (∃ m14, I3 m14 (.int .i64 0) w2) ∧ ∀ (m6 : Nat) (x3_7 : Value) (junk4 : Env) (w5 : World), I3 m6 x3_7 w5 →
    ld P 26 x1_1 w5 fun x4_8 =>
    call P f_spec_l02Bit [x4_8, x3_7] w5 fun x6_9 w10 =>
    bin P .eql 2 false true x6_9 (.int .i64 0) w10 fun x7_11 =>
    cnd x7_11
      (bin P .add 2 false true x3_7 (.int .i64 1) w10 fun x9_12 =>
      ∃ m13, m13 < m6 ∧ I3 m13 x9_12 w10)
      (K x3_7 w10)
def P_spec_l02Twos : Plan := (.seq (.reg [.op (0, 2, false), .op (1, 0, false)]) (.seq (.reg [.op (0, 0, false)]) (.seq (.blk (.loop [3] 1016 (.seq (.seq (.reg [.op (0, 0, false), .op (1, 0, false), .op (2, 2, false), .op (3, 0, false)]) (.cond .leaf .leaf)) (.blk (.reg [.op (0, 0, false), .op (1, 0, false), .op (2, 0, false)]))))) (.seq (.reg [.op (0, 0, false), .op (1, 0, false)]) .leaf))))
theorem I_spec_l02Twos {a0 : Value} {w : World} {K : Value → World → Prop} (h : D_spec_l02Twos a0 w K) : call P f_spec_l02Twos [a0] w K :=
  call_of_vc mixed Tryz.func240 (c := codeOf Tryz.f240) (by kernel_rfl) (by kernel_rfl) (p := P_spec_l02Twos) (by kernel_rfl) (by rw [Tryz.ntmps240]; simp) (by
    have e : D_spec_l02Twos a0 w K = vc P P_spec_l02Twos (codeOf Tryz.f240) (env0 [a0]) w (retX P Tryz.f240.results.toList K) := by kernel_rfl
    exact e ▸ h)

/-- spec.l02Cut -/
def D_spec_l02Cut (a0 a1 : Value) (w : World) (K : Value → World → Prop) : Prop :=
  bx P 26 a0 w fun x2_1 w2 =>
  alc P 26 w2 fun x4_3 w4 =>
  bsl P 24 0 [] w4 fun x8_5 w6 =>
  bin P .quo 2 false true a1 (.int .i64 24) w6 fun x10_7 =>
  ∃ I8 : Nat → Value → Value → World → Prop, (∃ m60, I8 m60 x8_5 x10_7 w6) ∧ ∀ (m11 : Nat) (x5_12 : Value) (x6_13 : Value) (junk9 : Env) (w10 : World), I8 m11 x5_12 x6_13 w10 →
    fda P 26 x2_1 1 w10 fun x12_14 =>
    ld P 24 x12_14 w10 fun x13_15 =>
    bl0 P .len #[24] 3 [x13_15] w10 fun x14_16 =>
    bin P .lss 2 false false x6_13 x14_16 w10 fun x15_17 =>
    cnd x15_17
      (fda P 26 x2_1 1 w10 fun x18_18 =>
      ld P 24 x18_18 w10 fun x19_19 =>
      ixa P 24 x19_19 x6_13 w10 fun x21_20 =>
      ld P 2 x21_20 w10 fun x22_21 =>
      bin P .rem 2 false true a1 (.int .i64 24) w10 fun x24_22 =>
      cnv P 2 227 x24_22 w10 fun x25_23 =>
      bin P .shr 2 false false x22_21 x25_23 w10 fun x26_24 =>
      bin P .add 2 false true x6_13 (.int .i64 1) w10 fun x28_25 =>
      fda P 26 x2_1 1 w10 fun x29_26 =>
      ld P 24 x29_26 w10 fun x30_27 =>
      bl0 P .len #[24] 3 [x30_27] w10 fun x31_28 =>
      bin P .lss 2 false false x28_25 x31_28 w10 fun x32_29 =>
      cnd x32_29
        (fda P 26 x2_1 1 w10 fun x34_30 =>
        ld P 24 x34_30 w10 fun x35_31 =>
        bin P .add 2 false true x6_13 (.int .i64 1) w10 fun x37_32 =>
        ixa P 24 x35_31 x37_32 w10 fun x38_33 =>
        ld P 2 x38_33 w10 fun x39_34 =>
        bin P .rem 2 false true a1 (.int .i64 24) w10 fun x41_35 =>
        bin P .sub 2 true false (.int .i64 24) x41_35 w10 fun x42_36 =>
        cnv P 2 227 x42_36 w10 fun x43_37 =>
        bin P .shl 2 false false x39_34 x43_37 w10 fun x44_38 =>
        bin P .add 2 false false x26_24 x44_38 w10 fun x45_39 =>
        bin P .rem 2 false true x45_39 (.int .i64 16777216) w10 fun x46_40 =>
        bsl P 24 1 [(0, x46_40)] w10 fun x49_41 w42 =>
        bl2 P .append #[24, 24] 24 [x5_12, x49_41] w42 fun x50_43 w44 =>
        bin P .add 2 false true x6_13 (.int .i64 1) w44 fun x17_45 =>
        ∃ m46, m46 < m11 ∧ I8 m46 x50_43 x17_45 w44)
        (bsl P 24 1 [(0, x26_24)] w10 fun x49_47 w48 =>
        bl2 P .append #[24, 24] 24 [x5_12, x49_47] w48 fun x50_49 w50 =>
        bin P .add 2 false true x6_13 (.int .i64 1) w50 fun x17_51 =>
        ∃ m52, m52 < m11 ∧ I8 m52 x50_49 x17_51 w50))
      (fda P 26 x2_1 0 w10 fun x51_53 =>
      ld P 2 x51_53 w10 fun x52_54 =>
      call P f_spec_l02Make [x52_54, x5_12] w10 fun x54_55 w56 =>
      sto P 26 x4_3 x54_55 w56 fun w58 =>
      ldc P 26 x4_3 w58 fun r59 =>
      K r59 w58)
def P_spec_l02Cut : Plan := (.seq (.reg [.op (0, 2, false), .op (1, 2, false)]) (.seq (.reg [.op (0, 2, false), .op (1, 0, false)]) (.seq (.seq (.reg [.op (0, 0, false), .op (1, 0, false), .op (2, 0, false)]) (.blk (.loop [5, 6] 2251799813683424 (.seq (.seq (.reg [.op (0, 0, false), .op (1, 0, false), .op (2, 0, false), .op (3, 0, false), .op (4, 0, false)]) (.cond .leaf .leaf)) (.seq (.blk (.seq (.reg [.op (0, 0, false), .op (1, 0, false), .op (2, 0, false), .op (3, 0, false), .op (4, 0, false), .op (5, 0, false), .op (6, 0, false), .op (7, 0, false), .op (8, 0, false), .op (9, 0, false)]) (.seq (.seq (.reg [.op (0, 0, false), .op (1, 0, false), .op (2, 0, false), .op (3, 0, false), .op (4, 0, false), .op (5, 0, false)]) (.cond (.reg [.op (0, 0, false), .op (1, 0, false), .op (2, 0, false), .op (3, 0, false), .op (4, 0, false), .op (5, 0, false), .op (6, 0, false), .op (7, 0, false), .op (8, 0, false), .op (9, 0, false), .op (10, 0, false), .op (11, 0, false), .op (12, 0, false), .op (13, 0, false), .op (14, 0, false)]) .leaf)) (.reg [.op (0, 0, false), .op (1, 0, false), .op (2, 2, false), .op (3, 2, false), .op (4, 0, false)])))) (.reg [.op (0, 0, false), .op (1, 0, false), .op (2, 0, false)])))))) (.seq (.reg [.op (0, 0, false), .op (1, 0, false), .op (2, 0, false), .op (3, 2, false), .op (4, 2, false)]) .leaf))))
theorem I_spec_l02Cut {a0 a1 : Value} {w : World} {K : Value → World → Prop} (h : D_spec_l02Cut a0 a1 w K) : call P f_spec_l02Cut [a0, a1] w K :=
  call_of_vc mixed Tryz.func241 (c := codeOf Tryz.f241) (by kernel_rfl) (by kernel_rfl) (p := P_spec_l02Cut) (by kernel_rfl) (by rw [Tryz.ntmps241]; simp) (by
    have e : D_spec_l02Cut a0 a1 w K = vc P P_spec_l02Cut (codeOf Tryz.f241) (env0 [a0, a1]) w (retX P Tryz.f241.results.toList K) := by kernel_rfl
    exact e ▸ h)

/-- spec.l02Make -/
def D_spec_l02Make (a0 a1 : Value) (w : World) (K : Value → World → Prop) : Prop :=
  alc P 26 w fun x4_1 w2 =>
  bl0 P .len #[24] 3 [a1] w2 fun x7_3 =>
  ∃ I4 : Nat → Value → World → Prop, (∃ m33, I4 m33 x7_3 w2) ∧ ∀ (m7 : Nat) (x5_8 : Value) (junk5 : Env) (w6 : World), I4 m7 x5_8 w6 →
    bin P .gtr 3 false true x5_8 (.int .i64 0) w6 fun x9_9 =>
    ∃ J10 : Value → World → Prop, (∀ (x16_11 : Value) (junk13 : Env) (w12 : World), J10 x16_11 w12 →
      pick x9_9 x16_11 (.bool false) fun x17_14 =>
      cnd x17_14
        (bin P .sub 3 false true x5_8 (.int .i64 1) w12 fun x19_15 =>
        ∃ m16, m16 < m7 ∧ I4 m16 x19_15 w12)
        (bin P .eql 3 false true x5_8 (.int .i64 0) w12 fun x21_17 =>
        cnd x21_17
          (bld P 26 [] w12 fun x22_18 =>
          sto P 26 x4_1 x22_18 w12 fun w20 =>
          ldc P 26 x4_1 w20 fun r21 =>
          K r21 w20)
          (sli P 24 a1 none (some x5_8) none w12 fun x26_22 =>
          call P f_spec_l01Own [x26_22] w12 fun x27_23 w24 =>
          bld P 26 [(0, a0), (1, x27_23)] w24 fun x28_25 =>
          sto P 26 x4_1 x28_25 w24 fun w27 =>
          ldc P 26 x4_1 w27 fun r28 =>
          K r28 w27))) ∧
      grd x9_9 true
        (bin P .sub 3 false true x5_8 (.int .i64 1) w6 fun x13_29 =>
        ixa P 24 a1 x13_29 w6 fun x14_30 =>
        ld P 2 x14_30 w6 fun x15_31 =>
        bin P .eql 2 false true x15_31 (.int .i64 0) w6 fun x16_32 =>
        J10 x16_32 w6)
        (J10 undef w6)
def P_spec_l02Make : Plan := (.seq (.reg [.op (0, 2, false)]) (.seq (.reg [.op (0, 0, false), .op (1, 0, false), .op (2, 0, false)]) (.seq (.blk (.loop [5] 1048352 (.seq (.seq (.reg [.op (0, 0, false), .op (1, 0, false), .op (2, 0, false), .grp 2 true [(3, 0, false), (4, 0, false), (5, 0, false), (6, 0, false), (7, 0, false), (8, 0, false)] [16] 129024, .op (9, 0, false)]) (.cond .leaf .leaf)) (.blk (.reg [.op (0, 0, false), .op (1, 0, false), .op (2, 0, false)]))))) (.seq (.seq (.reg [.op (0, 0, false), .op (1, 0, false)]) (.cond (.seq (.reg [.op (0, 0, false), .op (1, 2, false)]) .leaf) .leaf)) (.seq (.reg [.op (0, 0, false), .op (1, 0, false), .op (2, 0, false), .op (3, 0, false), .op (4, 2, false), .op (5, 0, false), .op (6, 2, false)]) .leaf)))))
theorem I_spec_l02Make {a0 a1 : Value} {w : World} {K : Value → World → Prop} (h : D_spec_l02Make a0 a1 w K) : call P f_spec_l02Make [a0, a1] w K :=
  call_of_vc mixed Tryz.func242 (c := codeOf Tryz.f242) (by kernel_rfl) (by kernel_rfl) (p := P_spec_l02Make) (by kernel_rfl) (by rw [Tryz.ntmps242]; simp) (by
    have e : D_spec_l02Make a0 a1 w K = vc P P_spec_l02Make (codeOf Tryz.f242) (env0 [a0, a1]) w (retX P Tryz.f242.results.toList K) := by kernel_rfl
    exact e ▸ h)

/-- spec.l02Plus -/
def D_spec_l02Plus (a0 a1 : Value) (w : World) (K : Value → World → Prop) : Prop :=
  bsl P 24 0 [] w fun x8_1 w2 =>
  ∃ I3 : Nat → Value → Value → Value → World → Prop, (∃ m51, I3 m51 x8_1 (.int .i64 0) (.int .i64 0) w2) ∧ ∀ (m6 : Nat) (x5_7 : Value) (x6_8 : Value) (x7_9 : Value) (junk4 : Env) (w5 : World), I3 m6 x5_7 x6_8 x7_9 w5 →
    bl0 P .len #[24] 3 [a0] w5 fun x11_10 =>
    bin P .lss 3 false false x7_9 x11_10 w5 fun x12_11 =>
    ∃ J12 : Value → World → Prop, (∀ (x17_13 : Value) (junk15 : Env) (w14 : World), J12 x17_13 w14 →
      pick x12_11 (.bool true) x17_13 fun x18_16 =>
      ∃ J17 : Value → World → Prop, (∀ (x21_18 : Value) (junk20 : Env) (w19 : World), J17 x21_18 w19 →
      pick x18_16 (.bool true) x21_18 fun x22_21 =>
        cnd x22_21
          (∃ J22 : Value → World → Prop, (∀ (x6_25 : Value) (junk23 : Env) (w24 : World), J22 x6_25 w24 →
            ∃ J26 : Value → World → Prop, (∀ (x6_29 : Value) (junk27 : Env) (w28 : World), J26 x6_29 w28 →
              bin P .rem 2 false true x6_29 (.int .i64 16777216) w28 fun x47_30 =>
              bsl P 24 1 [(0, x47_30)] w28 fun x48_31 w32 =>
              bl2 P .append #[24, 24] 24 [x5_7, x48_31] w32 fun x49_33 w34 =>
              bin P .quo 2 false true x6_29 (.int .i64 16777216) w34 fun x51_35 =>
              bin P .add 3 false true x7_9 (.int .i64 1) w34 fun x24_36 =>
              ∃ m37, m37 < m6 ∧ I3 m37 x49_33 x51_35 x24_36 w34) ∧
              (bl0 P .len #[24] 3 [a1] w24 fun x37_38 =>
              bin P .lss 3 false false x7_9 x37_38 w24 fun x38_39 =>
              cnd x38_39
                (ixa P 24 a1 x7_9 w24 fun x42_40 =>
                ld P 2 x42_40 w24 fun x43_41 =>
                bin P .add 2 false false x6_25 x43_41 w24 fun x44_42 =>
                J26 x44_42 w24)
                (J26 x6_25 w24))) ∧
            (bl0 P .len #[24] 3 [a0] w19 fun x27_43 =>
            bin P .lss 3 false false x7_9 x27_43 w19 fun x28_44 =>
            cnd x28_44
              (ixa P 24 a0 x7_9 w19 fun x32_45 =>
              ld P 2 x32_45 w19 fun x33_46 =>
              bin P .add 2 false false x6_8 x33_46 w19 fun x34_47 =>
              J22 x34_47 w19)
              (J22 x6_8 w19)))
          (K x5_7 w19)) ∧
      grd x18_16 false
        (bin P .gtr 2 false true x6_8 (.int .i64 0) w14 fun x21_48 =>
          J17 x21_48 w14)
        (J17 undef w14)) ∧
      grd x12_11 false
        (bl0 P .len #[24] 3 [a1] w5 fun x16_49 =>
        bin P .lss 3 false false x7_9 x16_49 w5 fun x17_50 =>
        J12 x17_50 w5)
        (J12 undef w5)
def P_spec_l02Plus : Plan := (.seq (.reg [.op (0, 0, false)]) (.seq (.reg [.op (0, 2, false), .op (1, 0, false), .op (2, 0, false)]) (.seq (.seq (.reg [.op (0, 0, false)]) (.blk (.loop [5, 6, 7] 4503599627370208 (.seq (.seq (.reg [.op (0, 0, false), .op (1, 0, false), .op (2, 0, false), .op (3, 0, false), .op (4, 0, false), .grp 4 false [(5, 0, false), (6, 0, false), (7, 0, false), (8, 0, false)] [17] 245760, .op (9, 0, false), .op (10, 0, false), .grp 10 false [(11, 0, false), (12, 0, false)] [21] 3145728, .op (13, 0, false)]) (.cond .leaf .leaf)) (.seq (.blk (.cut [6] 34326184000 (.seq (.reg [.op (0, 0, false), .op (1, 0, false), .op (2, 0, false), .op (3, 0, false)]) (.cond (.reg [.op (0, 0, false), .op (1, 0, false), .op (2, 0, false), .op (3, 0, false), .op (4, 0, false), .op (5, 0, false), .op (6, 0, false)]) .leaf)) (.cut [6] 35150012350528 (.seq (.reg [.op (0, 0, false), .op (1, 0, false), .op (2, 0, false), .op (3, 0, false)]) (.cond (.reg [.op (0, 0, false), .op (1, 0, false), .op (2, 0, false), .op (3, 0, false), .op (4, 0, false), .op (5, 0, false), .op (6, 0, false)]) .leaf)) (.seq (.reg [.op (0, 0, false), .op (1, 0, false), .op (2, 0, false), .op (3, 2, false), .op (4, 2, false), .op (5, 0, false)]) (.reg [.op (0, 0, false), .op (1, 0, false), .op (2, 0, false)]))))) (.reg [.op (0, 0, false), .op (1, 0, false), .op (2, 0, false)])))))) (.seq (.reg [.op (0, 0, false), .op (1, 0, false)]) .leaf))))
theorem I_spec_l02Plus {a0 a1 : Value} {w : World} {K : Value → World → Prop} (h : D_spec_l02Plus a0 a1 w K) : call P f_spec_l02Plus [a0, a1] w K :=
  call_of_vc mixed Tryz.func246 (c := codeOf Tryz.f246) (by kernel_rfl) (by kernel_rfl) (p := P_spec_l02Plus) (by kernel_rfl) (by rw [Tryz.ntmps246]; simp) (by
    have e : D_spec_l02Plus a0 a1 w K = vc P P_spec_l02Plus (codeOf Tryz.f246) (env0 [a0, a1]) w (retX P Tryz.f246.results.toList K) := by kernel_rfl
    exact e ▸ h)

/-- spec.l02CompareLimbs -/
def D_spec_l02CompareLimbs (a0 a1 : Value) (w : World) (K : Value → World → Prop) : Prop :=
  bl0 P .len #[24] 3 [a0] w fun x7_1 =>
  bl0 P .len #[24] 3 [a1] w fun x9_2 =>
  bin P .neq 3 false false x7_1 x9_2 w fun x10_3 =>
  cnd x10_3
    (bl0 P .len #[24] 3 [a0] w fun x12_4 =>
    bl0 P .len #[24] 3 [a1] w fun x14_5 =>
    bin P .lss 3 false false x12_4 x14_5 w fun x15_6 =>
    cnd x15_6
      (K (.int .i64 (-1)) w)
      (K (.int .i64 1) w))
    (bl0 P .len #[24] 3 [a0] w fun x17_7 =>
    bin P .sub 3 false true x17_7 (.int .i64 1) w fun x18_8 =>
    ∃ I9 : Nat → Value → World → Prop, (∃ m27, I9 m27 x18_8 w) ∧ ∀ (m12 : Nat) (x5_13 : Value) (junk10 : Env) (w11 : World), I9 m12 x5_13 w11 →
      bin P .geq 3 false true x5_13 (.int .i64 0) w11 fun x20_14 =>
      cnd x20_14
        (ixa P 24 a0 x5_13 w11 fun x25_15 =>
        ld P 2 x25_15 w11 fun x26_16 =>
        ixa P 24 a1 x5_13 w11 fun x29_17 =>
        ld P 2 x29_17 w11 fun x30_18 =>
        bin P .neq 2 false false x26_16 x30_18 w11 fun x31_19 =>
        cnd x31_19
          (ixa P 24 a0 x5_13 w11 fun x34_20 =>
          ld P 2 x34_20 w11 fun x35_21 =>
          ixa P 24 a1 x5_13 w11 fun x38_22 =>
          ld P 2 x38_22 w11 fun x39_23 =>
          bin P .lss 2 false false x35_21 x39_23 w11 fun x40_24 =>
          cnd x40_24
            (K (.int .i64 (-1)) w11)
            (K (.int .i64 1) w11))
          (bin P .sub 3 false true x5_13 (.int .i64 1) w11 fun x22_25 =>
          ∃ m26, m26 < m12 ∧ I9 m26 x22_25 w11))
        (K (.int .i64 0) w11))
def P_spec_l02CompareLimbs : Plan := (.seq (.reg [.op (0, 0, false)]) (.seq (.seq (.reg [.op (0, 0, false), .op (1, 0, false), .op (2, 0, false), .op (3, 0, false), .op (4, 0, false)]) (.cond (.seq (.seq (.reg [.op (0, 0, false), .op (1, 0, false), .op (2, 0, false), .op (3, 0, false), .op (4, 0, false)]) (.cond (.seq (.reg [.op (0, 0, false)]) .leaf) .leaf)) (.seq (.reg [.op (0, 0, false)]) .leaf)) .leaf)) (.seq (.seq (.reg [.op (0, 0, false), .op (1, 0, false), .op (2, 0, false), .op (3, 0, false)]) (.blk (.loop [5] 2199022731312 (.seq (.seq (.reg [.op (0, 0, false), .op (1, 0, false)]) (.cond .leaf .leaf)) (.seq (.blk (.seq (.reg [.op (0, 0, false), .op (1, 0, false), .op (2, 0, false), .op (3, 0, false), .op (4, 0, false), .op (5, 0, false), .op (6, 0, false), .op (7, 0, false), .op (8, 0, false)]) (.cond (.seq (.seq (.reg [.op (0, 0, false), .op (1, 0, false), .op (2, 0, false), .op (3, 0, false), .op (4, 0, false), .op (5, 0, false), .op (6, 0, false), .op (7, 0, false), .op (8, 0, false)]) (.cond (.seq (.reg [.op (0, 0, false)]) .leaf) .leaf)) (.seq (.reg [.op (0, 0, false)]) .leaf)) .leaf))) (.reg [.op (0, 0, false), .op (1, 0, false), .op (2, 0, false)])))))) (.seq (.reg [.op (0, 0, false)]) .leaf))))
theorem I_spec_l02CompareLimbs {a0 a1 : Value} {w : World} {K : Value → World → Prop} (h : D_spec_l02CompareLimbs a0 a1 w K) : call P f_spec_l02CompareLimbs [a0, a1] w K :=
  call_of_vc mixed Tryz.func247 (c := codeOf Tryz.f247) (by kernel_rfl) (by kernel_rfl) (p := P_spec_l02CompareLimbs) (by kernel_rfl) (by rw [Tryz.ntmps247]; simp) (by
    have e : D_spec_l02CompareLimbs a0 a1 w K = vc P P_spec_l02CompareLimbs (codeOf Tryz.f247) (env0 [a0, a1]) w (retX P Tryz.f247.results.toList K) := by kernel_rfl
    exact e ▸ h)

/-- spec.l02Minus -/
def D_spec_l02Minus (a0 a1 : Value) (w : World) (K : Value → World → Prop) : Prop :=
  bsl P 24 0 [] w fun x9_1 w2 =>
  ∃ I3 : Nat → Value → Value → Value → World → Prop, (∃ m38, I3 m38 x9_1 (.int .i64 0) (.int .i64 0) w2) ∧ ∀ (m6 : Nat) (x5_7 : Value) (x6_8 : Value) (x7_9 : Value) (junk4 : Env) (w5 : World), I3 m6 x5_7 x6_8 x7_9 w5 →
    bl0 P .len #[24] 3 [a0] w5 fun x12_10 =>
    bin P .lss 3 false false x7_9 x12_10 w5 fun x13_11 =>
    cnd x13_11
      (ixa P 24 a0 x7_9 w5 fun x18_12 =>
      ld P 2 x18_12 w5 fun x19_13 =>
      bin P .sub 2 false false x19_13 x6_8 w5 fun x21_14 =>
      ∃ J15 : Value → World → Prop, (∀ (x8_18 : Value) (junk16 : Env) (w17 : World), J15 x8_18 w17 →
        bin P .lss 2 false true x8_18 (.int .i64 0) w17 fun x33_19 =>
        cnd x33_19
          (bin P .add 2 false true x8_18 (.int .i64 16777216) w17 fun x35_20 =>
          bsl P 24 1 [(0, x35_20)] w17 fun x38_21 w22 =>
          bl2 P .append #[24, 24] 24 [x5_7, x38_21] w22 fun x39_23 w24 =>
          bin P .add 3 false true x7_9 (.int .i64 1) w24 fun x15_25 =>
          ∃ m26, m26 < m6 ∧ I3 m26 x39_23 (.int .i64 1) x15_25 w24)
          (bsl P 24 1 [(0, x8_18)] w17 fun x38_27 w28 =>
          bl2 P .append #[24, 24] 24 [x5_7, x38_27] w28 fun x39_29 w30 =>
          bin P .add 3 false true x7_9 (.int .i64 1) w30 fun x15_31 =>
          ∃ m32, m32 < m6 ∧ I3 m32 x39_29 (.int .i64 0) x15_31 w30)) ∧
        (bl0 P .len #[24] 3 [a1] w5 fun x24_33 =>
        bin P .lss 3 false false x7_9 x24_33 w5 fun x25_34 =>
        cnd x25_34
          (ixa P 24 a1 x7_9 w5 fun x29_35 =>
          ld P 2 x29_35 w5 fun x30_36 =>
          bin P .sub 2 false false x21_14 x30_36 w5 fun x31_37 =>
          J15 x31_37 w5)
          (J15 x21_14 w5)))
      (K x5_7 w5)
def P_spec_l02Minus : Plan := (.seq (.reg [.op (0, 0, false)]) (.seq (.reg [.op (0, 2, false), .op (1, 0, false), .op (2, 0, false)]) (.seq (.seq (.reg [.op (0, 0, false)]) (.blk (.loop [5, 6, 7] 1099511627232 (.seq (.seq (.reg [.op (0, 0, false), .op (1, 0, false), .op (2, 0, false), .op (3, 0, false)]) (.cond .leaf .leaf)) (.seq (.blk (.seq (.reg [.op (0, 0, false), .op (1, 0, false), .op (2, 0, false), .op (3, 0, false), .op (4, 0, false), .op (5, 0, false), .op (6, 0, false)]) (.cut [8] 4290773248 (.seq (.reg [.op (0, 0, false), .op (1, 0, false), .op (2, 0, false), .op (3, 0, false)]) (.cond (.reg [.op (0, 0, false), .op (1, 0, false), .op (2, 0, false), .op (3, 0, false), .op (4, 0, false), .op (5, 0, false), .op (6, 0, false)]) .leaf)) (.seq (.reg [.op (0, 0, false)]) (.seq (.seq (.reg [.op (0, 0, false), .op (1, 0, false)]) (.cond (.seq (.reg [.op (0, 0, false), .op (1, 0, false), .op (2, 0, false)]) (.reg [.op (0, 0, false)])) .leaf)) (.reg [.op (0, 0, false), .op (1, 0, false), .op (2, 2, false), .op (3, 2, false), .op (4, 0, false)])))))) (.reg [.op (0, 0, false), .op (1, 0, false), .op (2, 0, false)])))))) (.seq (.reg [.op (0, 0, false), .op (1, 0, false)]) .leaf))))
theorem I_spec_l02Minus {a0 a1 : Value} {w : World} {K : Value → World → Prop} (h : D_spec_l02Minus a0 a1 w K) : call P f_spec_l02Minus [a0, a1] w K :=
  call_of_vc mixed Tryz.func248 (c := codeOf Tryz.f248) (by kernel_rfl) (by kernel_rfl) (p := P_spec_l02Minus) (by kernel_rfl) (by rw [Tryz.ntmps248]; simp) (by
    have e : D_spec_l02Minus a0 a1 w K = vc P P_spec_l02Minus (codeOf Tryz.f248) (env0 [a0, a1]) w (retX P Tryz.f248.results.toList K) := by kernel_rfl
    exact e ▸ h)

/-- spec.l02Bit -/
def D_spec_l02Bit (a0 a1 : Value) (w : World) (K : Value → World → Prop) : Prop :=
  bx P 26 a0 w fun x2_1 w2 =>
  bin P .quo 2 false true a1 (.int .i64 24) w2 fun x6_3 =>
  fda P 26 x2_1 1 w2 fun x7_4 =>
  ld P 24 x7_4 w2 fun x8_5 =>
  bl0 P .len #[24] 3 [x8_5] w2 fun x9_6 =>
  bin P .geq 2 false false x6_3 x9_6 w2 fun x10_7 =>
  cnd x10_7
    (K (.int .i64 0) w2)
    (fda P 26 x2_1 1 w2 fun x11_8 =>
    ld P 24 x11_8 w2 fun x12_9 =>
    bin P .quo 2 false true a1 (.int .i64 24) w2 fun x14_10 =>
    ixa P 24 x12_9 x14_10 w2 fun x15_11 =>
    ld P 2 x15_11 w2 fun x16_12 =>
    bin P .rem 2 false true a1 (.int .i64 24) w2 fun x18_13 =>
    cnv P 2 227 x18_13 w2 fun x19_14 =>
    bin P .shr 2 false false x16_12 x19_14 w2 fun x20_15 =>
    bin P .and 2 false true x20_15 (.int .i64 1) w2 fun x21_16 =>
    K x21_16 w2)
def P_spec_l02Bit : Plan := (.seq (.reg [.op (0, 2, false), .op (1, 0, false)]) (.seq (.seq (.reg [.op (0, 0, false), .op (1, 0, false), .op (2, 0, false), .op (3, 0, false), .op (4, 0, false), .op (5, 0, false)]) (.cond (.seq (.reg [.op (0, 0, false)]) .leaf) .leaf)) (.seq (.reg [.op (0, 0, false), .op (1, 0, false), .op (2, 0, false), .op (3, 0, false), .op (4, 0, false), .op (5, 0, false), .op (6, 0, false), .op (7, 0, false), .op (8, 0, false), .op (9, 0, false), .op (10, 0, false), .op (11, 0, false)]) .leaf)))
theorem I_spec_l02Bit {a0 a1 : Value} {w : World} {K : Value → World → Prop} (h : D_spec_l02Bit a0 a1 w K) : call P f_spec_l02Bit [a0, a1] w K :=
  call_of_vc mixed Tryz.func271 (c := codeOf Tryz.f271) (by kernel_rfl) (by kernel_rfl) (p := P_spec_l02Bit) (by kernel_rfl) (by rw [Tryz.ntmps271]; simp) (by
    have e : D_spec_l02Bit a0 a1 w K = vc P P_spec_l02Bit (codeOf Tryz.f271) (env0 [a0, a1]) w (retX P Tryz.f271.results.toList K) := by kernel_rfl
    exact e ▸ h)

/-- spec.l02Neg -/
def D_spec_l02Neg (a0 : Value) (w : World) (K : Value → World → Prop) : Prop :=
  bx P 26 a0 w fun x1_1 w2 =>
  alc P 26 w2 fun x2_3 w4 =>
  fda P 26 x1_1 0 w4 fun x3_5 =>
  ld P 2 x3_5 w4 fun x4_6 =>
  una P .neg x4_6 w4 fun x5_7 =>
  fda P 26 x1_1 1 w4 fun x6_8 =>
  ld P 24 x6_8 w4 fun x7_9 =>
  call P f_spec_l02Make [x5_7, x7_9] w4 fun x8_10 w11 =>
  sto P 26 x2_3 x8_10 w11 fun w13 =>
  ldc P 26 x2_3 w13 fun r14 =>
  K r14 w13
def P_spec_l02Neg : Plan := (.seq (.reg [.op (0, 2, false), .op (1, 2, false)]) (.seq (.reg [.op (0, 0, false), .op (1, 0, false), .op (2, 0, false), .op (3, 0, false), .op (4, 0, false), .op (5, 2, false), .op (6, 2, false)]) .leaf))
theorem I_spec_l02Neg {a0 : Value} {w : World} {K : Value → World → Prop} (h : D_spec_l02Neg a0 w K) : call P f_spec_l02Neg [a0] w K :=
  call_of_vc mixed Tryz.func273 (c := codeOf Tryz.f273) (by kernel_rfl) (by kernel_rfl) (p := P_spec_l02Neg) (by kernel_rfl) (by rw [Tryz.ntmps273]; simp) (by
    have e : D_spec_l02Neg a0 w K = vc P P_spec_l02Neg (codeOf Tryz.f273) (env0 [a0]) w (retX P Tryz.f273.results.toList K) := by kernel_rfl
    exact e ▸ h)

end Go.Proofs.YtabgkpfcpncmhaaGreat

/- Written by a program (gen.py): what is left to show of each function's call. -/
set_option linter.unusedVariables false
set_option maxRecDepth 20000
namespace Go.Proofs.YtabgkpfcpncmhaaGreat
open Go Go.Vc

/-- (impl.num).add -/
def D_impl_num_add (a0 a1 : Value) (w : World) (K : Value → World → Prop) : Prop :=
  bx P 105 a0 w fun x2_1 w2 =>
  bx P 105 a1 w2 fun x3_3 w4 =>
  alc P 105 w4 fun x4_5 w6 =>
  ld P 105 x2_1 w6 fun x7_7 =>
  call P f_impl_num_sign [x7_7] w6 fun x8_8 w9 =>
  bin P .eql 3 false true x8_8 (.int .i64 0) w9 fun x9_10 =>
  cnd x9_10
    (ld P 105 x3_3 w9 fun x10_11 =>
    sto P 105 x4_5 x10_11 w9 fun w13 =>
    ldc P 105 x4_5 w13 fun r14 =>
    K r14 w13)
    (ld P 105 x3_3 w9 fun x12_15 =>
    call P f_impl_num_sign [x12_15] w9 fun x13_16 w17 =>
    bin P .eql 3 false true x13_16 (.int .i64 0) w17 fun x14_18 =>
    cnd x14_18
      (ld P 105 x2_1 w17 fun x15_19 =>
      sto P 105 x4_5 x15_19 w17 fun w21 =>
      ldc P 105 x4_5 w21 fun r22 =>
      K r22 w21)
      (fda P 105 x2_1 1 w17 fun x16_23 =>
      ld P 3 x16_23 w17 fun x17_24 =>
      fda P 105 x3_3 1 w17 fun x18_25 =>
      ld P 3 x18_25 w17 fun x19_26 =>
      bl0 P .min #[3, 3] 3 [x17_24, x19_26] w17 fun x20_27 =>
      ∃ J28 : World → Prop, (∀ (junk29 : Env) (w30 : World), J28 w30 →
        ldc P 105 x4_5 w30 fun r31 =>
        K r31 w30) ∧
        (ld P 105 x2_1 w17 fun x22_32 =>
        ld P 105 x3_3 w17 fun x25_33 =>
        (alc P 179 w17 fun x21_34 w35 =>
          Ext w17 w35 ∧ call P f_impl_num_at [x22_32, x20_27] w35 fun x24_36 w37 =>
          Ext w35 w37 ∧ call P f_impl_num_at [x25_33, x20_27] w37 fun x27_38 w39 =>
          call P f_impl_integer_Add [x21_34, x24_36, x27_38] w39 fun x28_40 w41 =>
          bld P 105 [(0, x28_40), (1, x20_27)] w41 fun x30_42 =>
          sto P 105 x4_5 x30_42 w41 fun w44 =>
          J28 w44) ∧
          (call P f_impl_num_at [x22_32, x20_27] w17 fun x24_45 w46 =>
          Ext w17 w46 ∧ (alc P 179 w46 fun x21_47 w48 =>
            Ext w46 w48 ∧ call P f_impl_num_at [x25_33, x20_27] w48 fun x27_49 w50 =>
            call P f_impl_integer_Add [x21_47, x24_45, x27_49] w50 fun x28_51 w52 =>
            bld P 105 [(0, x28_51), (1, x20_27)] w52 fun x30_53 =>
            sto P 105 x4_5 x30_53 w52 fun w55 =>
            J28 w55) ∧
            (call P f_impl_num_at [x25_33, x20_27] w46 fun x27_56 w57 =>
            alc P 179 w57 fun x21_58 w59 =>
            Ext w57 w59 ∧ call P f_impl_integer_Add [x21_58, x24_45, x27_56] w59 fun x28_60 w61 =>
            bld P 105 [(0, x28_60), (1, x20_27)] w61 fun x30_62 =>
            sto P 105 x4_5 x30_62 w61 fun w64 =>
            J28 w64)))))
def P_impl_num_add : Plan := (.seq (.reg [.op (0, 2, false), .op (1, 2, false), .op (2, 2, false)]) (.seq (.blk (.seq (.reg [.op (0, 0, false), .op (1, 2, false), .op (2, 0, false), .op (3, 0, false)]) (.cond (.seq (.reg [.op (0, 0, false), .op (1, 2, false)]) .leaf) (.seq (.reg [.op (0, 0, false), .op (1, 2, false), .op (2, 0, false), .op (3, 0, false)]) (.cond (.seq (.reg [.op (0, 0, false), .op (1, 2, false)]) .leaf) .leaf))))) (.seq (.reg [.op (0, 0, false), .op (1, 0, false), .op (2, 0, false), .op (3, 0, false), .op (4, 0, false), .op (5, 0, false)]) (.seq (.tree [] 2145386496 (.op (1, 0, false) (.op (2, 0, false) (.op (4, 0, false) (.op (5, 0, false) (.op (8, 0, false) (.fork (0, 2, true) (.fork (3, 2, true) (.fork (6, 2, false) (.fork (7, 2, false) (.op (9, 0, false) (.fork (10, 2, false) .done .stop)) .stop) .stop) .stop) (.fork (3, 2, true) (.fork (0, 2, true) (.fork (6, 2, false) (.fork (7, 2, false) (.op (9, 0, false) (.fork (10, 2, false) .done .stop)) .stop) .stop) (.fork (6, 2, false) (.fork (0, 2, true) (.fork (7, 2, false) (.op (9, 0, false) (.fork (10, 2, false) .done .stop)) .stop) .stop) .stop)) .stop)))))))) .leaf))))
theorem I_impl_num_add {a0 a1 : Value} {w : World} {K : Value → World → Prop} (h : D_impl_num_add a0 a1 w K) : call P f_impl_num_add [a0, a1] w K :=
  call_of_vc mixed Tryz.func102 (c := codeOf Tryz.f102) (by kernel_rfl) (by kernel_rfl) (p := P_impl_num_add) (by kernel_rfl) (by rw [Tryz.ntmps102]; simp) (by
    have e : D_impl_num_add a0 a1 w K = vc P P_impl_num_add (codeOf Tryz.f102) (env0 [a0, a1]) w (retX P Tryz.f102.results.toList K) := by kernel_rfl
    exact e ▸ h)

/-- impl.numOf -/
def D_impl_numOf (a0 : Value) (w : World) (K : Value → World → Prop) : Prop :=
  alc P 105 w fun x2_1 w2 =>
  call P f_impl_parts [a0] w2 fun x7_3 w4 =>
  xtr P x7_3 0 w4 fun x8_5 =>
  xtr P x7_3 1 w4 fun x9_6 =>
  call P f_impl_newInt [x8_5] w4 fun x11_7 w8 =>
  bld P 105 [(0, x11_7), (1, x9_6)] w8 fun x13_9 =>
  sto P 105 x2_1 x13_9 w8 fun w11 =>
  ldc P 105 x2_1 w11 fun r12 =>
  K r12 w11
def P_impl_numOf : Plan := (.seq (.reg [.op (0, 2, false)]) (.seq (.reg [.op (0, 0, false), .op (1, 2, false), .op (2, 0, false), .op (3, 0, false), .op (4, 0, false), .op (5, 0, false), .op (6, 0, false)]) (.seq (.reg [.op (0, 0, false), .op (1, 2, false), .op (2, 0, false), .op (3, 0, false), .op (4, 2, false)]) .leaf)))
theorem I_impl_numOf {a0 : Value} {w : World} {K : Value → World → Prop} (h : D_impl_numOf a0 w K) : call P f_impl_numOf [a0] w K :=
  call_of_vc mixed Tryz.func103 (c := codeOf Tryz.f103) (by kernel_rfl) (by kernel_rfl) (p := P_impl_numOf) (by kernel_rfl) (by rw [Tryz.ntmps103]; simp) (by
    have e : D_impl_numOf a0 w K = vc P P_impl_numOf (codeOf Tryz.f103) (env0 [a0]) w (retX P Tryz.f103.results.toList K) := by kernel_rfl
    exact e ▸ h)

/-- (impl.num).round -/
def D_impl_num_round (a0 a1 : Value) (w : World) (K : Value → World → Prop) : Prop :=
  bx P 105 a0 w fun x2_1 w2 =>
  bx P 2 a1 w2 fun x3_3 w4 =>
  ld P 105 x2_1 w4 fun x18_5 =>
  call P f_impl_num_sign [x18_5] w4 fun x19_6 w7 =>
  bin P .eql 3 false true x19_6 (.int .i64 0) w7 fun x20_8 =>
  cnd x20_8
    (K (.tuple #[(.float .f32 0), (.int .i64 0)]) w7)
    (∃ J9 : Value → Value → World → Prop, (∀ (x6_12 : Value) (x7_13 : Value) (junk10 : Env) (w11 : World), J9 x6_12 x7_13 w11 →
      fda P 105 x2_1 1 w11 fun x28_14 =>
      ld P 3 x28_14 w11 fun x29_15 =>
      bin P .add 3 false false x7_13 x29_15 w11 fun x30_16 =>
      bin P .gtr 3 false true x30_16 (.int .i64 128) w11 fun x31_17 =>
      cnd x31_17
        (callv P (.func (.func 185) #[] #[x3_3, x6_12]) [] w11 fun x33_18 w19 =>
        xtr P x33_18 0 w19 fun x34_20 =>
        xtr P x33_18 1 w19 fun x35_21 =>
        K (.tuple #[x34_20, x35_21]) w19)
        (fda P 105 x2_1 1 w11 fun x37_22 =>
        ld P 3 x37_22 w11 fun x38_23 =>
        bin P .add 3 false false x7_13 x38_23 w11 fun x39_24 =>
        bin P .sub 3 false true x39_24 (.int .i64 24) w11 fun x40_25 =>
        bl0 P .max #[3, 3] 3 [x40_25, (.int .i64 (-149))] w11 fun x41_26 =>
        alc P 179 w11 fun x42_27 w28 =>
        fda P 105 x2_1 0 w28 fun x43_29 =>
        ld P 103 x43_29 w28 fun x44_30 =>
        call P f_impl_integer_Abs [x42_27, x44_30] w28 fun x45_31 w32 =>
        alc P 179 w32 fun x46_33 w34 =>
        ∃ J35 : Value → World → Prop, (∀ (x11_38 : Value) (junk36 : Env) (w37 : World), J35 x11_38 w37 →
          call P f_impl_integer_BitLen [x46_33] w37 fun x122_39 w40 =>
          bin P .add 3 false false x122_39 x41_26 w40 fun x124_41 =>
          bin P .gtr 3 false true x124_41 (.int .i64 128) w40 fun x125_42 =>
          cnd x125_42
            (callv P (.func (.func 185) #[] #[x3_3, x6_12]) [] w40 fun x127_43 w44 =>
            xtr P x127_43 0 w44 fun x128_45 =>
            xtr P x127_43 1 w44 fun x129_46 =>
            K (.tuple #[x128_45, x129_46]) w44)
            (call P f_impl_integer_Int64 [x46_33] w40 fun x131_47 w48 =>
            cnv P 2 39 x131_47 w48 fun x132_49 =>
            call P f_math_Ldexp [x132_49, x41_26] w48 fun x134_50 w51 =>
            rcnv P 39 35 x134_50 w51 fun x135_52 =>
            ld P 3 x6_12 w51 fun x136_53 =>
            bin P .lss 3 false true x136_53 (.int .i64 0) w51 fun x137_54 =>
            cnd x137_54
              (una P .neg x135_52 w51 fun x139_55 =>
              K (.tuple #[x139_55, x11_38]) w51)
              (K (.tuple #[x135_52, x11_38]) w51))) ∧
          (fda P 105 x2_1 1 w34 fun x47_56 =>
          ld P 3 x47_56 w34 fun x48_57 =>
          bin P .geq 3 false false x48_57 x41_26 w34 fun x50_58 =>
          cnd x50_58
            (fda P 105 x2_1 1 w34 fun x53_59 =>
            ld P 3 x53_59 w34 fun x54_60 =>
            bin P .sub 3 false false x54_60 x41_26 w34 fun x56_61 =>
            cnv P 3 189 x56_61 w34 fun x57_62 =>
            call P f_impl_integer_Lsh [x46_33, x45_31, x57_62] w34 fun x58_63 w64 =>
            J35 (.int .i64 0) w64)
            (fda P 105 x2_1 1 w34 fun x60_65 =>
            ld P 3 x60_65 w34 fun x61_66 =>
            bin P .sub 3 false false x41_26 x61_66 w34 fun x62_67 =>
            cnv P 3 189 x62_67 w34 fun x63_68 =>
            call P f_impl_integer_Rsh [x46_33, x45_31, x63_68] w34 fun x67_69 w70 =>
            alc P 179 w70 fun x68_71 w72 =>
            alc P 179 w72 fun x70_73 w74 =>
            call P f_impl_integer_Lsh [x70_73, x46_33, x63_68] w74 fun x73_75 w76 =>
            call P f_impl_integer_Sub [x68_71, x45_31, x73_75] w76 fun x74_77 w78 =>
            call P f_impl_integer_Sign [x74_77] w78 fun x76_79 w80 =>
            bin P .neq 3 false true x76_79 (.int .i64 0) w80 fun x77_81 =>
            cnd x77_81
              (∃ J82 : Value → World → Prop, (∀ (x11_85 : Value) (junk83 : Env) (w84 : World), J82 x11_85 w84 →
                alc P 179 w84 fun x86_86 w87 =>
                call P f_impl_newInt [(.int .i64 1)] w87 fun x87_88 w89 =>
                bin P .sub 189 false true x63_68 (.int .u64 1) w89 fun x89_90 =>
                call P f_impl_integer_Lsh [x86_86, x87_88, x89_90] w89 fun x90_91 w92 =>
                call P f_impl_integer_Cmp [x74_77, x90_91] w92 fun x91_93 w94 =>
                ∃ J95 : Value → World → Prop, (∀ (x16_98 : Value) (junk96 : Env) (w97 : World), J95 x16_98 w97 →
                  cnd x16_98
                    (call P f_impl_newInt [(.int .i64 1)] w97 fun x119_99 w100 =>
                    call P f_impl_integer_Add [x46_33, x46_33, x119_99] w100 fun x120_101 w102 =>
                    J35 x11_85 w102)
                    (J35 x11_85 w97)) ∧
                  (ld P 2 x3_3 w94 fun x92_103 =>
                  bin P .eql 2 false true x92_103 (.int .i64 0) w94 fun x94_104 =>
                  cnd x94_104
                    (bin P .gtr 3 false true x91_93 (.int .i64 0) w94 fun x96_105 =>
                    ∃ J106 : Value → World → Prop, (∀ (x100_107 : Value) (junk109 : Env) (w108 : World), J106 x100_107 w108 →
                      ∃ J110 : Value → World → Prop, (∀ (x103_111 : Value) (junk113 : Env) (w112 : World), J110 x103_111 w112 →
                      ∃ J114 : Value → World → Prop, (∀ (x104_115 : Value) (junk117 : Env) (w116 : World), J114 x104_115 w116 →
                      pick x96_105 (.bool true) x104_115 fun x105_118 =>
                          J95 x105_118 w116) ∧
                      grd x96_105 false
                        (pick x100_107 x103_111 (.bool false) fun x104_119 =>
                            J114 x104_119 w112)
                        (J114 undef w112)) ∧
                      grd x100_107 true
                        (call P f_impl_integer_Bit [x46_33, (.int .i64 0)] w108 fun x102_120 w121 =>
                          bin P .eql 189 false true x102_120 (.int .u64 1) w121 fun x103_122 =>
                          J110 x103_122 w121)
                        (J110 undef w108)) ∧
                      grd x96_105 false
                        (bin P .eql 3 false true x91_93 (.int .i64 0) w94 fun x99_123 =>
                        J106 x99_123 w94)
                        (J106 undef w94))
                    (bin P .eql 2 false true x92_103 (.int .i64 1) w94 fun x107_124 =>
                    cnd x107_124
                      (ld P 3 x6_12 w94 fun x108_125 =>
                      bin P .lss 3 false true x108_125 (.int .i64 0) w94 fun x109_126 =>
                      J95 x109_126 w94)
                      (bin P .eql 2 false true x92_103 (.int .i64 2) w94 fun x111_127 =>
                      cnd x111_127
                        (ld P 3 x6_12 w94 fun x112_128 =>
                        bin P .gtr 3 false true x112_128 (.int .i64 0) w94 fun x113_129 =>
                        J95 x113_129 w94)
                        (bin P .eql 2 false true x92_103 (.int .i64 4) w94 fun x115_130 =>
                        cnd x115_130
                          (J95 (.bool true) w94)
                          (J95 (.bool false) w94)))))) ∧
                (fda P 105 x2_1 1 w80 fun x79_131 =>
                ld P 3 x79_131 w80 fun x80_132 =>
                bin P .add 3 false false x7_13 x80_132 w80 fun x81_133 =>
                bin P .leq 3 false true x81_133 (.int .i64 (-126)) w80 fun x82_134 =>
                cnd x82_134
                  (bin P .or 2 false true (.int .i64 1) (.int .i64 2) w80 fun x84_135 =>
                  J82 x84_135 w80)
                  (J82 (.int .i64 1) w80)))
              (J35 (.int .i64 0) w80))))) ∧
      (ld P 105 x2_1 w7 fun x21_136 =>
      fda P 105 x2_1 0 w7 fun x23_137 =>
      ld P 103 x23_137 w7 fun x24_138 =>
      (call P f_impl_num_sign [x21_136] w7 fun x22_139 w140 =>
        Ext w7 w140 ∧ (call P f_impl_integer_BitLen [x24_138] w140 fun x25_141 w142 =>
          alc P 3 w142 fun x6_143 w144 =>
          Ext w142 w144 ∧ sto P 3 x6_143 x22_139 w144 fun w146 =>
          J9 x6_143 x25_141 w146) ∧
          (alc P 3 w140 fun x6_147 w148 =>
          Ext w140 w148 ∧ call P f_impl_integer_BitLen [x24_138] w148 fun x25_149 w150 =>
          sto P 3 x6_147 x22_139 w150 fun w152 =>
          J9 x6_147 x25_149 w152)) ∧
        (alc P 3 w7 fun x6_153 w154 =>
        Ext w7 w154 ∧ call P f_impl_num_sign [x21_136] w154 fun x22_155 w156 =>
        Ext w154 w156 ∧ call P f_impl_integer_BitLen [x24_138] w156 fun x25_157 w158 =>
        sto P 3 x6_153 x22_155 w158 fun w160 =>
        J9 x6_153 x25_157 w160)))
def P_impl_num_round : Plan := (.seq (.reg [.op (0, 2, false), .op (1, 2, false), .op (2, 0, false), .op (3, 0, false)]) (.seq (.seq (.reg [.op (0, 0, false), .op (1, 2, false), .op (2, 0, false)]) (.cond (.seq (.reg [.op (0, 0, false), .op (1, 0, false)]) .leaf) .leaf)) (.seq (.tree [6, 7] 65011904 (.op (0, 0, false) (.op (2, 0, false) (.op (3, 0, false) (.fork (1, 2, true) (.fork (4, 2, false) (.fork (5, 2, true) (.fork (6, 2, false) (.op (7, 0, false) .done) .stop) .stop) (.fork (5, 2, true) (.fork (4, 2, false) (.fork (6, 2, false) (.op (7, 0, false) .done) .stop) .stop) .stop)) (.fork (5, 2, true) (.fork (1, 2, true) (.fork (4, 2, false) (.fork (6, 2, false) (.op (7, 0, false) .done) .stop) .stop) .stop) .stop)))))) (.seq (.reg [.op (0, 0, false), .op (1, 0, false)]) (.seq (.seq (.reg [.op (0, 0, false), .op (1, 0, false), .op (2, 0, false), .op (3, 0, false), .op (4, 0, false)]) (.cond (.seq (.reg [.op (0, 0, false), .op (1, 2, false), .op (2, 0, false), .op (3, 0, false), .op (4, 0, false), .op (5, 0, false)]) .leaf) .leaf)) (.seq (.reg [.op (0, 0, false), .op (1, 0, false), .op (2, 0, false), .op (3, 0, false), .op (4, 0, false), .op (5, 0, false), .op (6, 0, false)]) (.seq (.reg [.op (0, 2, false), .op (1, 0, false), .op (2, 0, false), .op (3, 2, false), .op (4, 0, false)]) (.seq (.reg [.op (0, 0, false)]) (.seq (.reg [.op (0, 2, false), .op (1, 0, false)]) (.cut [11] 2658455991569831745807473383072458752 (.seq (.reg [.op (0, 0, false), .op (1, 0, false), .op (2, 0, false), .op (3, 0, false)]) (.cond (.reg [.op (0, 0, false), .op (1, 0, false), .op (2, 0, false), .op (3, 0, false), .op (4, 0, false), .op (5, 0, false), .op (6, 0, false), .op (7, 2, false)]) (.seq (.reg [.op (0, 0, false), .op (1, 0, false), .op (2, 0, false), .op (3, 0, false), .op (4, 0, false), .op (5, 0, false)]) (.seq (.reg [.op (0, 0, false), .op (1, 0, false), .op (2, 0, false), .op (3, 2, false)]) (.seq (.reg [.op (0, 2, false), .op (1, 0, false), .op (2, 2, false), .op (3, 0, false), .op (4, 0, false), .op (5, 2, false), .op (6, 2, false), .op (7, 0, false)]) (.seq (.reg [.op (0, 0, false), .op (1, 2, false), .op (2, 0, false)]) (.cond (.seq (.reg [.op (0, 0, false)]) (.cut [11] 38383394772764476296923136 (.seq (.reg [.op (0, 0, false), .op (1, 0, false), .op (2, 0, false), .op (3, 0, false), .op (4, 0, false)]) (.cond (.reg [.op (0, 0, false), .op (1, 0, false), .op (2, 0, false)]) .leaf)) (.seq (.reg [.op (0, 0, false), .op (1, 2, false), .op (2, 2, false), .op (3, 0, false), .op (4, 0, false), .op (5, 2, false), .op (6, 2, false), .op (7, 0, false)]) (.seq (.reg [.op (0, 0, false)]) (.cut [16] 83076744784797084914966841671090176 (.seq (.reg [.op (0, 0, false)]) (.blk (.seq (.reg [.op (0, 0, false), .op (1, 0, false)]) (.cond (.reg [.op (0, 0, false), .op (1, 0, false), .op (2, 0, false), .grp 2 false [(3, 0, false), (4, 0, false), (5, 0, false)] [100] 2218388550399401452619230609408, .grp 5 true [(6, 0, false), (7, 2, false), (8, 0, false)] [103] 17747108403195211620953844875264, .grp 2 false [(9, 0, false)] [104] 20282409603651670423947251286016, .op (10, 0, false), .op (11, 0, false)]) (.seq (.reg [.op (0, 0, false), .op (1, 0, false)]) (.cond (.reg [.op (0, 0, false), .op (1, 0, false), .op (2, 0, false)]) (.seq (.reg [.op (0, 0, false), .op (1, 0, false)]) (.cond (.reg [.op (0, 0, false), .op (1, 0, false), .op (2, 0, false)]) (.seq (.reg [.op (0, 0, false), .op (1, 0, false)]) (.cond (.reg [.op (0, 0, false)]) .leaf)))))))))) (.seq (.reg [.op (0, 0, false)]) (.cond (.reg [.op (0, 0, false), .op (1, 0, false), .op (2, 2, false), .op (3, 2, false)]) .leaf))))))) .leaf))))))) (.seq (.seq (.reg [.op (0, 0, false), .op (1, 2, false), .op (2, 0, false), .op (3, 0, false), .op (4, 0, false)]) (.cond (.seq (.reg [.op (0, 0, false), .op (1, 2, false), .op (2, 0, false), .op (3, 0, false), .op (4, 0, false), .op (5, 0, false)]) .leaf) .leaf)) (.seq (.reg [.op (0, 0, false), .op (1, 2, false), .op (2, 0, false), .op (3, 0, false), .op (4, 2, false), .op (5, 1, false), .op (6, 0, false)]) (.seq (.seq (.reg [.op (0, 0, false), .op (1, 0, false)]) (.cond (.reg [.op (0, 0, false), .op (1, 0, false), .op (2, 0, false)]) .leaf)) (.seq (.reg [.op (0, 0, false), .op (1, 0, false), .op (2, 0, false), .op (3, 0, false)]) .leaf))))))))))))))
theorem I_impl_num_round {a0 a1 : Value} {w : World} {K : Value → World → Prop} (h : D_impl_num_round a0 a1 w K) : call P f_impl_num_round [a0, a1] w K :=
  call_of_vc mixed Tryz.func106 (c := codeOf Tryz.f106) (by kernel_rfl) (by kernel_rfl) (p := P_impl_num_round) (by kernel_rfl) (by rw [Tryz.ntmps106]; simp) (by
    have e : D_impl_num_round a0 a1 w K = vc P P_impl_num_round (codeOf Tryz.f106) (env0 [a0, a1]) w (retX P Tryz.f106.results.toList K) := by kernel_rfl
    exact e ▸ h)

/-- (impl.num).sign -/
def D_impl_num_sign (a0 : Value) (w : World) (K : Value → World → Prop) : Prop :=
  bx P 105 a0 w fun x1_1 w2 =>
  fda P 105 x1_1 0 w2 fun x3_3 =>
  ld P 103 x3_3 w2 fun x4_4 =>
  call P f_impl_integer_Sign [x4_4] w2 fun x5_5 w6 =>
  K x5_5 w6
def P_impl_num_sign : Plan := (.seq (.reg [.op (0, 2, false), .op (1, 0, false)]) (.seq (.reg [.op (0, 0, false), .op (1, 0, false), .op (2, 2, false), .op (3, 0, false)]) .leaf))
theorem I_impl_num_sign {a0 : Value} {w : World} {K : Value → World → Prop} (h : D_impl_num_sign a0 w K) : call P f_impl_num_sign [a0] w K :=
  call_of_vc mixed Tryz.func178 (c := codeOf Tryz.f178) (by kernel_rfl) (by kernel_rfl) (p := P_impl_num_sign) (by kernel_rfl) (by rw [Tryz.ntmps178]; simp) (by
    have e : D_impl_num_sign a0 w K = vc P P_impl_num_sign (codeOf Tryz.f178) (env0 [a0]) w (retX P Tryz.f178.results.toList K) := by kernel_rfl
    exact e ▸ h)

/-- (impl.num).at -/
def D_impl_num_at (a0 a1 : Value) (w : World) (K : Value → World → Prop) : Prop :=
  bx P 105 a0 w fun x2_1 w2 =>
  alc P 179 w2 fun x5_3 w4 =>
  fda P 105 x2_1 0 w4 fun x6_5 =>
  ld P 103 x6_5 w4 fun x7_6 =>
  fda P 105 x2_1 1 w4 fun x8_7 =>
  ld P 3 x8_7 w4 fun x9_8 =>
  bin P .sub 3 false false x9_8 a1 w4 fun x11_9 =>
  cnv P 3 189 x11_9 w4 fun x12_10 =>
  call P f_impl_integer_Lsh [x5_3, x7_6, x12_10] w4 fun x13_11 w12 =>
  K x13_11 w12
def P_impl_num_at : Plan := (.seq (.reg [.op (0, 2, false), .op (1, 0, false)]) (.seq (.reg [.op (0, 2, false), .op (1, 0, false), .op (2, 0, false), .op (3, 0, false), .op (4, 0, false), .op (5, 0, false), .op (6, 0, false), .op (7, 0, false), .op (8, 2, false), .op (9, 0, false)]) .leaf))
theorem I_impl_num_at {a0 a1 : Value} {w : World} {K : Value → World → Prop} (h : D_impl_num_at a0 a1 w K) : call P f_impl_num_at [a0, a1] w K :=
  call_of_vc mixed Tryz.func180 (c := codeOf Tryz.f180) (by kernel_rfl) (by kernel_rfl) (p := P_impl_num_at) (by kernel_rfl) (by rw [Tryz.ntmps180]; simp) (by
    have e : D_impl_num_at a0 a1 w K = vc P P_impl_num_at (codeOf Tryz.f180) (env0 [a0, a1]) w (retX P Tryz.f180.results.toList K) := by kernel_rfl
    exact e ▸ h)

/-- (impl.num).round$1 -/
def D_impl_num_round_1 (a0 a1 : Value) (w : World) (K : Value → World → Prop) : Prop :=
  ld P 2 a0 w fun x4_1 =>
  bin P .eql 2 false true x4_1 (.int .i64 3) w fun x5_2 =>
  ∃ J3 : Value → World → Prop, (∀ (x9_4 : Value) (junk6 : Env) (w5 : World), J3 x9_4 w5 →
    ∃ J7 : Value → World → Prop, (∀ (x11_8 : Value) (junk10 : Env) (w9 : World), J7 x11_8 w9 →
    ∃ J11 : Value → World → Prop, (∀ (x12_12 : Value) (junk14 : Env) (w13 : World), J11 x12_12 w13 →
    pick x5_2 (.bool true) x12_12 fun x13_15 =>
        ∃ J16 : Value → World → Prop, (∀ (x17_17 : Value) (junk19 : Env) (w18 : World), J16 x17_17 w18 →
    ∃ J20 : Value → World → Prop, (∀ (x19_21 : Value) (junk23 : Env) (w22 : World), J20 x19_21 w22 →
    ∃ J24 : Value → World → Prop, (∀ (x20_25 : Value) (junk27 : Env) (w26 : World), J24 x20_25 w26 →
    pick x13_15 (.bool true) x20_25 fun x21_28 =>
              cnd x21_28
                (ld P 3 a1 w26 fun x22_29 =>
                bin P .mul 2 false true x22_29 (.int .i64 2139095039) w26 fun x23_30 =>
                call P f_impl_atPlace [x23_30] w26 fun x24_31 w32 =>
                K (.tuple #[x24_31, (.int .i64 5)]) w32)
                (ld P 3 a1 w26 fun x25_33 =>
                call P f_impl_infinite [x25_33] w26 fun x26_34 w35 =>
                K (.tuple #[x26_34, (.int .i64 5)]) w35)) ∧
    grd x13_15 false
      (pick x17_17 x19_21 (.bool false) fun x20_36 =>
                J24 x20_36 w22)
      (J24 undef w22)) ∧
    grd x17_17 true
      (ld P 3 a1 w18 fun x18_37 =>
              bin P .lss 3 false true x18_37 (.int .i64 0) w18 fun x19_38 =>
              J20 x19_38 w18)
      (J20 undef w18)) ∧
    grd x13_15 false
      (ld P 2 a0 w13 fun x15_39 =>
            bin P .eql 2 false true x15_39 (.int .i64 2) w13 fun x16_40 =>
            J16 x16_40 w13)
      (J16 undef w13)) ∧
    grd x5_2 false
      (pick x9_4 x11_8 (.bool false) fun x12_41 =>
          J11 x12_41 w9)
      (J11 undef w9)) ∧
    grd x9_4 true
      (ld P 3 a1 w5 fun x10_42 =>
        bin P .gtr 3 false true x10_42 (.int .i64 0) w5 fun x11_43 =>
        J7 x11_43 w5)
      (J7 undef w5)) ∧
    grd x5_2 false
      (ld P 2 a0 w fun x7_44 =>
      bin P .eql 2 false true x7_44 (.int .i64 1) w fun x8_45 =>
      J3 x8_45 w)
      (J3 undef w)
def P_impl_num_round_1 : Plan := (.seq (.reg [.op (0, 0, false), .op (1, 0, false)]) (.seq (.seq (.reg [.op (0, 0, false), .op (1, 0, false), .op (2, 0, false), .grp 2 false [(3, 0, false), (4, 0, false), (5, 0, false)] [9] 896, .grp 5 true [(6, 0, false), (7, 0, false)] [11] 3072, .grp 2 false [(8, 0, false)] [12] 4096, .op (9, 0, false), .op (10, 0, false), .grp 10 false [(11, 0, false), (12, 0, false), (13, 0, false)] [17] 229376, .grp 13 true [(14, 0, false), (15, 0, false)] [19] 786432, .grp 10 false [(16, 0, false)] [20] 1048576, .op (17, 0, false)]) (.cond (.seq (.reg [.op (0, 0, false), .op (1, 0, false), .op (2, 2, false), .op (3, 0, false), .op (4, 0, false)]) .leaf) .leaf)) (.seq (.reg [.op (0, 0, false), .op (1, 2, false), .op (2, 0, false), .op (3, 0, false)]) .leaf)))
theorem I_impl_num_round_1 {a0 a1 : Value} {w : World} {K : Value → World → Prop} (h : D_impl_num_round_1 a0 a1 w K) : call P f_impl_num_round_1 [a0, a1] w K :=
  call_of_vc mixed Tryz.func185 (c := codeOf Tryz.f185) (by kernel_rfl) (by kernel_rfl) (p := P_impl_num_round_1) (by kernel_rfl) (by rw [Tryz.ntmps185]; simp) (by
    have e : D_impl_num_round_1 a0 a1 w K = vc P P_impl_num_round_1 (codeOf Tryz.f185) (env0 [a0, a1]) w (retX P Tryz.f185.results.toList K) := by kernel_rfl
    exact e ▸ h)

/-- (impl.num).scale -/
def D_impl_num_scale (a0 a1 : Value) (w : World) (K : Value → World → Prop) : Prop :=
  bx P 105 a0 w fun x2_1 w2 =>
  alc P 105 w2 fun x4_3 w4 =>
  fda P 105 x2_1 0 w4 fun x5_5 =>
  ld P 103 x5_5 w4 fun x6_6 =>
  fda P 105 x2_1 1 w4 fun x7_7 =>
  ld P 3 x7_7 w4 fun x8_8 =>
  bin P .add 3 false false x8_8 a1 w4 fun x10_9 =>
  bld P 105 [(0, x6_6), (1, x10_9)] w4 fun x11_10 =>
  sto P 105 x4_3 x11_10 w4 fun w12 =>
  ldc P 105 x4_3 w12 fun r13 =>
  K r13 w12
def P_impl_num_scale : Plan := (.seq (.reg [.op (0, 2, false), .op (1, 2, false)]) (.seq (.reg [.op (0, 0, false), .op (1, 0, false), .op (2, 0, false), .op (3, 0, false), .op (4, 0, false), .op (5, 0, false), .op (6, 0, false), .op (7, 2, false)]) .leaf))
theorem I_impl_num_scale {a0 a1 : Value} {w : World} {K : Value → World → Prop} (h : D_impl_num_scale a0 a1 w K) : call P f_impl_num_scale [a0, a1] w K :=
  call_of_vc mixed Tryz.func297 (c := codeOf Tryz.f297) (by kernel_rfl) (by kernel_rfl) (p := P_impl_num_scale) (by kernel_rfl) (by rw [Tryz.ntmps297]; simp) (by
    have e : D_impl_num_scale a0 a1 w K = vc P P_impl_num_scale (codeOf Tryz.f297) (env0 [a0, a1]) w (retX P Tryz.f297.results.toList K) := by kernel_rfl
    exact e ▸ h)

end Go.Proofs.YtabgkpfcpncmhaaGreat

/- Written by a program (gen.py): what is left to show of each function's call. -/
set_option linter.unusedVariables false
set_option maxRecDepth 20000
namespace Go.Proofs.YtabgkpfcpncmhaaGreat
open Go Go.Vc

/-- spec.l03Add -/
def D_spec_l03Add (a0 a1 : Value) (w : World) (K : Value → World → Prop) : Prop :=
  bx P 28 a0 w fun x2_1 w2 =>
  bx P 28 a1 w2 fun x3_3 w4 =>
  alc P 28 w4 fun x4_5 w6 =>
  fda P 28 x2_1 0 w6 fun x6_7 =>
  fda P 26 x6_7 0 w6 fun x7_8 =>
  ld P 2 x7_8 w6 fun x8_9 =>
  bin P .eql 2 false true x8_9 (.int .i64 0) w6 fun x9_10 =>
  cnd x9_10
    (fda P 28 x3_3 0 w6 fun x10_11 =>
    ld P 26 x10_11 w6 fun x11_12 =>
    fda P 28 x3_3 1 w6 fun x12_13 =>
    ld P 2 x12_13 w6 fun x13_14 =>
    call P f_spec_l03Make [x11_12, x13_14] w6 fun x14_15 w16 =>
    sto P 28 x4_5 x14_15 w16 fun w18 =>
    ldc P 28 x4_5 w18 fun r19 =>
    K r19 w18)
    (fda P 28 x3_3 0 w6 fun x15_20 =>
    fda P 26 x15_20 0 w6 fun x16_21 =>
    ld P 2 x16_21 w6 fun x17_22 =>
    bin P .eql 2 false true x17_22 (.int .i64 0) w6 fun x18_23 =>
    cnd x18_23
      (fda P 28 x2_1 0 w6 fun x19_24 =>
      ld P 26 x19_24 w6 fun x20_25 =>
      fda P 28 x2_1 1 w6 fun x21_26 =>
      ld P 2 x21_26 w6 fun x22_27 =>
      call P f_spec_l03Make [x20_25, x22_27] w6 fun x23_28 w29 =>
      sto P 28 x4_5 x23_28 w29 fun w31 =>
      ldc P 28 x4_5 w31 fun r32 =>
      K r32 w31)
      (fda P 28 x2_1 1 w6 fun x24_33 =>
      ld P 2 x24_33 w6 fun x25_34 =>
      fda P 28 x3_3 1 w6 fun x26_35 =>
      ld P 2 x26_35 w6 fun x27_36 =>
      bl0 P .min #[2, 2] 2 [x25_34, x27_36] w6 fun x28_37 =>
      fda P 28 x2_1 0 w6 fun x29_38 =>
      ld P 26 x29_38 w6 fun x30_39 =>
      fda P 28 x2_1 1 w6 fun x31_40 =>
      ld P 2 x31_40 w6 fun x32_41 =>
      bin P .sub 2 false false x32_41 x28_37 w6 fun x34_42 =>
      fda P 28 x3_3 0 w6 fun x36_43 =>
      ld P 26 x36_43 w6 fun x37_44 =>
      fda P 28 x3_3 1 w6 fun x38_45 =>
      ld P 2 x38_45 w6 fun x39_46 =>
      bin P .sub 2 false false x39_46 x28_37 w6 fun x41_47 =>
      call P f_spec_l02Left [x30_39, x34_42] w6 fun x35_48 w49 =>
      Ext w6 w49 ∧ call P f_spec_l02Left [x37_44, x41_47] w49 fun x42_50 w51 =>
      call P f_spec_l02Add [x35_48, x42_50] w51 fun x43_52 w53 =>
      call P f_spec_l03Make [x43_52, x28_37] w53 fun x45_54 w55 =>
      sto P 28 x4_5 x45_54 w55 fun w57 =>
      ldc P 28 x4_5 w57 fun r58 =>
      K r58 w57))
def P_spec_l03Add : Plan := (.seq (.reg [.op (0, 2, false), .op (1, 2, false), .op (2, 2, false)]) (.seq (.seq (.reg [.op (0, 0, false), .op (1, 0, false), .op (2, 0, false), .op (3, 0, false)]) (.cond (.seq (.reg [.op (0, 0, false), .op (1, 0, false), .op (2, 0, false), .op (3, 0, false), .op (4, 2, false), .op (5, 2, false)]) .leaf) .leaf)) (.seq (.seq (.reg [.op (0, 0, false), .op (1, 0, false), .op (2, 0, false), .op (3, 0, false)]) (.cond (.seq (.reg [.op (0, 0, false), .op (1, 0, false), .op (2, 0, false), .op (3, 0, false), .op (4, 2, false), .op (5, 2, false)]) .leaf) .leaf)) (.seq (.reg [.op (0, 0, false), .op (1, 0, false), .op (2, 0, false), .op (3, 0, false), .op (4, 0, false), .op (5, 0, false)]) (.seq (.reg [.op (0, 0, false), .op (1, 0, false), .op (2, 0, false), .op (3, 0, false), .op (4, 0, false), .op (5, 0, false), .op (7, 0, false), .op (8, 0, false), .op (9, 0, false), .op (10, 0, false), .op (11, 0, false), .op (12, 0, false), .op (15, 0, false), .op (6, 2, true), .op (13, 2, false), .op (14, 2, false), .op (16, 2, false), .op (17, 2, false)]) .leaf)))))
theorem I_spec_l03Add {a0 a1 : Value} {w : World} {K : Value → World → Prop} (h : D_spec_l03Add a0 a1 w K) : call P f_spec_l03Add [a0, a1] w K :=
  call_of_vc mixed Tryz.func96 (c := codeOf Tryz.f96) (by kernel_rfl) (by kernel_rfl) (p := P_spec_l03Add) (by kernel_rfl) (by rw [Tryz.ntmps96]; simp) (by
    have e : D_spec_l03Add a0 a1 w K = vc P P_spec_l03Add (codeOf Tryz.f96) (env0 [a0, a1]) w (retX P Tryz.f96.results.toList K) := by kernel_rfl
    exact e ▸ h)

/-- spec.l03Of -/
def D_spec_l03Of (a0 : Value) (w : World) (K : Value → World → Prop) : Prop :=
  alc P 28 w fun x2_1 w2 =>
  call P f_spec_l01Parts [a0] w2 fun x7_3 w4 =>
  xtr P x7_3 0 w4 fun x8_5 =>
  xtr P x7_3 1 w4 fun x9_6 =>
  bin P .lss 35 false true a0 (.float .f32 0) w4 fun x11_7 =>
  cnd x11_7
    (una P .neg x8_5 w4 fun x13_8 =>
    call P f_spec_l02Of [x13_8] w4 fun x15_9 w10 =>
    call P f_spec_l03Make [x15_9, x9_6] w10 fun x17_11 w12 =>
    sto P 28 x2_1 x17_11 w12 fun w14 =>
    ldc P 28 x2_1 w14 fun r15 =>
    K r15 w14)
    (call P f_spec_l02Of [x8_5] w4 fun x15_16 w17 =>
    call P f_spec_l03Make [x15_16, x9_6] w17 fun x17_18 w19 =>
    sto P 28 x2_1 x17_18 w19 fun w21 =>
    ldc P 28 x2_1 w21 fun r22 =>
    K r22 w21)
def P_spec_l03Of : Plan := (.seq (.reg [.op (0, 2, false)]) (.seq (.reg [.op (0, 0, false), .op (1, 2, false), .op (2, 0, false), .op (3, 0, false), .op (4, 0, false), .op (5, 0, false), .op (6, 0, false)]) (.seq (.seq (.reg [.op (0, 0, false), .op (1, 0, false)]) (.cond (.reg [.op (0, 0, false), .op (1, 0, false), .op (2, 0, false)]) .leaf)) (.seq (.reg [.op (0, 0, false), .op (1, 2, false), .op (2, 0, false), .op (3, 2, false), .op (4, 2, false)]) .leaf))))
theorem I_spec_l03Of {a0 : Value} {w : World} {K : Value → World → Prop} (h : D_spec_l03Of a0 w K) : call P f_spec_l03Of [a0] w K :=
  call_of_vc mixed Tryz.func97 (c := codeOf Tryz.f97) (by kernel_rfl) (by kernel_rfl) (p := P_spec_l03Of) (by kernel_rfl) (by rw [Tryz.ntmps97]; simp) (by
    have e : D_spec_l03Of a0 w K = vc P P_spec_l03Of (codeOf Tryz.f97) (env0 [a0]) w (retX P Tryz.f97.results.toList K) := by kernel_rfl
    exact e ▸ h)

/-- spec.l03Round -/
def D_spec_l03Round (a0 a1 : Value) (w : World) (K : Value → World → Prop) : Prop :=
  bx P 28 a0 w fun x2_1 w2 =>
  fda P 28 x2_1 0 w2 fun x13_3 =>
  fda P 26 x13_3 0 w2 fun x14_4 =>
  ld P 2 x14_4 w2 fun x15_5 =>
  bin P .eql 2 false true x15_5 (.int .i64 0) w2 fun x16_6 =>
  cnd x16_6
    (K (.tuple #[(.float .f32 0), (.int .i64 0)]) w2)
    (ld P 28 x2_1 w2 fun x18_7 =>
    call P f_spec_l03Multiple [x18_7, a1] w2 fun x20_8 w9 =>
    xtr P x20_8 0 w9 fun x21_10 =>
    xtr P x20_8 1 w9 fun x22_11 =>
    xtr P x20_8 2 w9 fun x23_12 =>
    alc P 26 w9 fun x6_13 w14 =>
    sto P 26 x6_13 x21_10 w14 fun w16 =>
    ld P 26 x6_13 w16 fun x24_17 =>
    call P f_spec_l02Length [x24_17] w16 fun x25_18 w19 =>
    bin P .add 2 false false x25_18 x22_11 w19 fun x27_20 =>
    bin P .gtr 2 false true x27_20 (.int .i64 128) w19 fun x28_21 =>
    cnd x28_21
      (fda P 28 x2_1 0 w19 fun x29_22 =>
      fda P 26 x29_22 0 w19 fun x30_23 =>
      ld P 2 x30_23 w19 fun x31_24 =>
      call P f_spec_l03Over [x31_24, a1] w19 fun x33_25 w26 =>
      K (.tuple #[x33_25, (.int .i64 5)]) w26)
      (fda P 26 x6_13 1 w19 fun x34_27 =>
      ld P 24 x34_27 w19 fun x35_28 =>
      bl0 P .len #[24] 3 [x35_28] w19 fun x36_29 =>
      bin P .sub 3 false true x36_29 (.int .i64 1) w19 fun x37_30 =>
      ∃ I31 : Nat → Value → Value → World → Prop, (∃ m70, I31 m70 (.float .f64 0) x37_30 w19) ∧ ∀ (m34 : Nat) (x9_35 : Value) (x10_36 : Value) (junk32 : Env) (w33 : World), I31 m34 x9_35 x10_36 w33 →
        bin P .geq 3 false true x10_36 (.int .i64 0) w33 fun x39_37 =>
        cnd x39_37
          (rbin P .mul 39 false true x9_35 (.float .f64 4715268809856909312) w33 fun x43_38 =>
          fda P 26 x6_13 1 w33 fun x44_39 =>
          ld P 24 x44_39 w33 fun x45_40 =>
          ixa P 24 x45_40 x10_36 w33 fun x47_41 =>
          ld P 2 x47_41 w33 fun x48_42 =>
          cnv P 2 39 x48_42 w33 fun x49_43 =>
          rbin P .add 39 false false x43_38 x49_43 w33 fun x50_44 =>
          bin P .sub 3 false true x10_36 (.int .i64 1) w33 fun x41_45 =>
          ∃ m46, m46 < m34 ∧ I31 m46 x50_44 x41_45 w33)
          (call P f_spec_l01Twos [x9_35, x22_11] w33 fun x53_47 w48 =>
          rcnv P 39 35 x53_47 w48 fun x54_49 =>
          ∃ J50 : Value → World → Prop, (∀ (x12_53 : Value) (junk51 : Env) (w52 : World), J50 x12_53 w52 →
            fda P 28 x2_1 0 w52 fun x66_54 =>
            fda P 26 x66_54 0 w52 fun x67_55 =>
            ld P 2 x67_55 w52 fun x68_56 =>
            bin P .lss 2 false true x68_56 (.int .i64 0) w52 fun x69_57 =>
            cnd x69_57
              (call P f_spec_l01Turned [x54_49] w52 fun x71_58 w59 =>
              K (.tuple #[x71_58, x12_53]) w59)
              (K (.tuple #[x54_49, x12_53]) w52)) ∧
            (una P .not x23_12 w48 fun x56_60 =>
            cnd x56_60
              (fda P 28 x2_1 0 w48 fun x57_61 =>
              ld P 26 x57_61 w48 fun x58_62 =>
              fda P 28 x2_1 1 w48 fun x60_63 =>
              ld P 2 x60_63 w48 fun x61_64 =>
              call P f_spec_l02Length [x58_62] w48 fun x59_65 w66 =>
              Ext w48 w66 ∧ bin P .add 2 false false x59_65 x61_64 w66 fun x62_67 =>
              bin P .leq 2 false true x62_67 (.int .i64 (-126)) w66 fun x63_68 =>
              cnd x63_68
                (bin P .add 2 false true (.int .i64 1) (.int .i64 2) w66 fun x65_69 =>
                J50 x65_69 w66)
                (J50 (.int .i64 1) w66))
              (J50 (.int .i64 0) w48)))))
def P_spec_l03Round : Plan := (.seq (.reg [.op (0, 2, false), .op (1, 0, false), .op (2, 0, false)]) (.seq (.seq (.reg [.op (0, 0, false), .op (1, 0, false), .op (2, 0, false), .op (3, 0, false)]) (.cond (.seq (.reg [.op (0, 0, false), .op (1, 0, false)]) .leaf) .leaf)) (.seq (.reg [.op (0, 0, false), .op (1, 0, false), .op (2, 2, false), .op (3, 0, false), .op (4, 0, false), .op (5, 0, false), .op (6, 0, false), .op (7, 2, false), .op (8, 2, false), .op (9, 0, false), .op (10, 0, false)]) (.seq (.seq (.reg [.op (0, 0, false), .op (1, 2, false), .op (2, 0, false), .op (3, 0, false), .op (4, 0, false)]) (.cond (.seq (.reg [.op (0, 0, false), .op (1, 0, false), .op (2, 0, false), .op (3, 0, false), .op (4, 2, false), .op (5, 0, false), .op (6, 0, false)]) .leaf) .leaf)) (.seq (.reg [.op (0, 0, false)]) (.seq (.seq (.reg [.op (0, 0, false), .op (1, 0, false), .op (2, 0, false), .op (3, 0, false), .op (4, 0, false)]) (.blk (.loop [9, 10] 2251524935779840 (.seq (.seq (.reg [.op (0, 0, false), .op (1, 0, false)]) (.cond .leaf .leaf)) (.seq (.blk (.reg [.op (0, 0, false), .op (1, 1, false), .op (2, 0, false), .op (3, 0, false), .op (4, 0, false), .op (5, 0, false), .op (6, 0, false), .op (7, 0, false), .op (8, 1, false), .op (9, 0, false)])) (.reg [.op (0, 0, false), .op (1, 0, false), .op (2, 0, false)])))))) (.seq (.reg [.op (0, 0, false), .op (1, 0, false), .op (2, 2, false), .op (3, 1, false), .op (4, 0, false), .op (5, 0, false)]) (.cut [12] 73750947497819246592 (.seq (.reg [.op (0, 0, false), .op (1, 0, false)]) (.cond (.seq (.reg [.op (0, 0, false)]) (.seq (.reg [.op (0, 0, false), .op (1, 0, false), .op (3, 0, false), .op (4, 0, false), .op (2, 2, true), .op (5, 0, false), .op (6, 0, false)]) (.cond (.reg [.op (0, 0, false), .op (1, 0, false), .op (2, 0, false)]) .leaf))) .leaf)) (.seq (.seq (.reg [.op (0, 0, false), .op (1, 0, false), .op (2, 0, false), .op (3, 0, false)]) (.cond (.reg [.op (0, 0, false), .op (1, 2, false), .op (2, 0, false)]) .leaf)) (.seq (.reg [.op (0, 0, false), .op (1, 0, false), .op (2, 0, false), .op (3, 0, false)]) .leaf))))))))))
theorem I_spec_l03Round {a0 a1 : Value} {w : World} {K : Value → World → Prop} (h : D_spec_l03Round a0 a1 w K) : call P f_spec_l03Round [a0, a1] w K :=
  call_of_vc mixed Tryz.func118 (c := codeOf Tryz.f118) (by kernel_rfl) (by kernel_rfl) (p := P_spec_l03Round) (by kernel_rfl) (by rw [Tryz.ntmps118]; simp) (by
    have e : D_spec_l03Round a0 a1 w K = vc P P_spec_l03Round (codeOf Tryz.f118) (env0 [a0, a1]) w (retX P Tryz.f118.results.toList K) := by kernel_rfl
    exact e ▸ h)

/-- spec.l03Make -/
def D_spec_l03Make (a0 a1 : Value) (w : World) (K : Value → World → Prop) : Prop :=
  bx P 26 a0 w fun x2_1 w2 =>
  alc P 28 w2 fun x4_3 w4 =>
  fda P 26 x2_1 0 w4 fun x6_5 =>
  ld P 2 x6_5 w4 fun x7_6 =>
  bin P .eql 2 false true x7_6 (.int .i64 0) w4 fun x8_7 =>
  cnd x8_7
    (bld P 28 [] w4 fun x9_8 =>
    sto P 28 x4_3 x9_8 w4 fun w10 =>
    ldc P 28 x4_3 w10 fun r11 =>
    K r11 w10)
    (ld P 26 x2_1 w4 fun x10_12 =>
    call P f_spec_l02Twos [x10_12] w4 fun x11_13 w14 =>
    ld P 26 x2_1 w14 fun x12_15 =>
    call P f_spec_l02Cut [x12_15, x11_13] w14 fun x14_16 w17 =>
    bin P .add 2 false false a1 x11_13 w17 fun x17_18 =>
    bld P 28 [(0, x14_16), (1, x17_18)] w17 fun x18_19 =>
    sto P 28 x4_3 x18_19 w17 fun w21 =>
    ldc P 28 x4_3 w21 fun r22 =>
    K r22 w21)
def P_spec_l03Make : Plan := (.seq (.reg [.op (0, 2, false), .op (1, 2, false)]) (.seq (.seq (.reg [.op (0, 0, false), .op (1, 0, false), .op (2, 0, false)]) (.cond (.seq (.reg [.op (0, 0, false), .op (1, 2, false)]) .leaf) .leaf)) (.seq (.reg [.op (0, 0, false), .op (1, 2, false), .op (2, 0, false)]) (.seq (.reg [.op (0, 0, false), .op (1, 0, false), .op (2, 2, false), .op (3, 0, false), .op (4, 0, false), .op (5, 0, false), .op (6, 0, false), .op (7, 2, false)]) .leaf))))
theorem I_spec_l03Make {a0 a1 : Value} {w : World} {K : Value → World → Prop} (h : D_spec_l03Make a0 a1 w K) : call P f_spec_l03Make [a0, a1] w K :=
  call_of_vc mixed Tryz.func163 (c := codeOf Tryz.f163) (by kernel_rfl) (by kernel_rfl) (p := P_spec_l03Make) (by kernel_rfl) (by rw [Tryz.ntmps163]; simp) (by
    have e : D_spec_l03Make a0 a1 w K = vc P P_spec_l03Make (codeOf Tryz.f163) (env0 [a0, a1]) w (retX P Tryz.f163.results.toList K) := by kernel_rfl
    exact e ▸ h)

/-- spec.l03Sub -/
def D_spec_l03Sub (a0 a1 : Value) (w : World) (K : Value → World → Prop) : Prop :=
  bx P 28 a0 w fun x2_1 w2 =>
  bx P 28 a1 w2 fun x3_3 w4 =>
  alc P 28 w4 fun x4_5 w6 =>
  ld P 28 x2_1 w6 fun x5_7 =>
  ld P 28 x3_3 w6 fun x6_8 =>
  call P f_spec_l03Neg [x6_8] w6 fun x7_9 w10 =>
  Ext w6 w10 ∧ call P f_spec_l03Add [x5_7, x7_9] w10 fun x8_11 w12 =>
  sto P 28 x4_5 x8_11 w12 fun w14 =>
  ldc P 28 x4_5 w14 fun r15 =>
  K r15 w14
def P_spec_l03Sub : Plan := (.seq (.reg [.op (0, 2, false), .op (1, 2, false), .op (2, 2, false)]) (.seq (.reg [.op (0, 0, false), .op (1, 0, false), .op (2, 2, true), .op (3, 2, false), .op (4, 2, false)]) .leaf))
theorem I_spec_l03Sub {a0 a1 : Value} {w : World} {K : Value → World → Prop} (h : D_spec_l03Sub a0 a1 w K) : call P f_spec_l03Sub [a0, a1] w K :=
  call_of_vc mixed Tryz.func165 (c := codeOf Tryz.f165) (by kernel_rfl) (by kernel_rfl) (p := P_spec_l03Sub) (by kernel_rfl) (by rw [Tryz.ntmps165]; simp) (by
    have e : D_spec_l03Sub a0 a1 w K = vc P P_spec_l03Sub (codeOf Tryz.f165) (env0 [a0, a1]) w (retX P Tryz.f165.results.toList K) := by kernel_rfl
    exact e ▸ h)

/-- spec.l03Multiple -/
def D_spec_l03Multiple (a0 a1 : Value) (w : World) (K : Value → World → Prop) : Prop :=
  bx P 28 a0 w fun x2_1 w2 =>
  alc P 26 w2 fun x4_3 w4 =>
  fda P 28 x2_1 0 w4 fun x12_5 =>
  ld P 26 x12_5 w4 fun x13_6 =>
  call P f_spec_l02Abs [x13_6] w4 fun x14_7 w8 =>
  alc P 26 w8 fun x7_9 w10 =>
  sto P 26 x7_9 x14_7 w10 fun w12 =>
  ld P 26 x7_9 w12 fun x15_13 =>
  fda P 28 x2_1 1 w12 fun x17_14 =>
  ld P 2 x17_14 w12 fun x18_15 =>
  call P f_spec_l02Length [x15_13] w12 fun x16_16 w17 =>
  Ext w12 w17 ∧ bin P .add 2 false false x16_16 x18_15 w17 fun x19_18 =>
  bin P .sub 2 false true x19_18 (.int .i64 24) w17 fun x20_19 =>
  bl0 P .max #[2, 2] 2 [x20_19, (.int .i64 (-149))] w17 fun x21_20 =>
  fda P 28 x2_1 1 w17 fun x23_21 =>
  ld P 2 x23_21 w17 fun x24_22 =>
  bin P .sub 2 false false x21_20 x24_22 w17 fun x25_23 =>
  bin P .leq 2 false true x25_23 (.int .i64 0) w17 fun x27_24 =>
  cnd x27_24
    (ld P 26 x7_9 w17 fun x28_25 =>
    una P .neg x25_23 w17 fun x30_26 =>
    call P f_spec_l02Left [x28_25, x30_26] w17 fun x31_27 w28 =>
    sto P 26 x4_3 x31_27 w28 fun w30 =>
    ldc P 26 x4_3 w30 fun r31 =>
    K (.tuple #[r31, x21_20, (.bool true)]) w30)
    (ld P 26 x7_9 w17 fun x33_32 =>
    call P f_spec_l02Cut [x33_32, x25_23] w17 fun x35_33 w34 =>
    alc P 26 w34 fun x10_35 w36 =>
    sto P 26 x10_35 x35_33 w36 fun w38 =>
    ∃ J39 : Value → World → Prop, (∀ (x11_42 : Value) (junk40 : Env) (w41 : World), J39 x11_42 w41 →
      cnd x11_42
        (ld P 26 x10_35 w41 fun x68_43 =>
        call P f_spec_l02Of [(.int .i64 1)] w41 fun x69_44 w45 =>
        Ext w41 w45 ∧ call P f_spec_l02Add [x68_43, x69_44] w45 fun x70_46 w47 =>
        sto P 26 x10_35 x70_46 w47 fun w49 =>
        ld P 26 x10_35 w49 fun x71_50 =>
        sto P 26 x4_3 x71_50 w49 fun w52 =>
        ldc P 26 x4_3 w52 fun r53 =>
        K (.tuple #[r53, x21_20, (.bool false)]) w52)
        (ld P 26 x10_35 w41 fun x71_54 =>
        sto P 26 x4_3 x71_54 w41 fun w56 =>
        ldc P 26 x4_3 w56 fun r57 =>
        K (.tuple #[r57, x21_20, (.bool false)]) w56)) ∧
      (bin P .eql 2 false true a1 (.int .i64 0) w38 fun x38_58 =>
      cnd x38_58
        (ld P 26 x7_9 w38 fun x39_59 =>
        bin P .sub 2 false true x25_23 (.int .i64 1) w38 fun x41_60 =>
        call P f_spec_l02Bit [x39_59, x41_60] w38 fun x42_61 w62 =>
        bin P .eql 2 false true x42_61 (.int .i64 1) w62 fun x43_63 =>
        ∃ J64 : Value → World → Prop, (∀ (x47_65 : Value) (junk67 : Env) (w66 : World), J64 x47_65 w66 →
          ∃ J68 : Value → World → Prop, (∀ (x50_69 : Value) (junk71 : Env) (w70 : World), J68 x50_69 w70 →
          ∃ J72 : Value → World → Prop, (∀ (x51_73 : Value) (junk75 : Env) (w74 : World), J72 x51_73 w74 →
          pick x43_63 x51_73 (.bool false) fun x52_76 =>
              J39 x52_76 w74) ∧
          grd x43_63 true
            (pick x47_65 (.bool true) x50_69 fun x51_77 =>
                J72 x51_77 w70)
            (J72 undef w70)) ∧
          grd x47_65 false
            (ld P 26 x10_35 w66 fun x48_78 =>
              call P f_spec_l02Bit [x48_78, (.int .i64 0)] w66 fun x49_79 w80 =>
              bin P .eql 2 false true x49_79 (.int .i64 1) w80 fun x50_81 =>
              J68 x50_81 w80)
            (J68 undef w66)) ∧
          grd x43_63 true
            (bin P .gtr 2 false true x25_23 (.int .i64 1) w62 fun x46_82 =>
            J64 x46_82 w62)
            (J64 undef w62))
        (bin P .eql 2 false true a1 (.int .i64 1) w38 fun x54_83 =>
        cnd x54_83
          (fda P 28 x2_1 0 w38 fun x55_84 =>
          fda P 26 x55_84 0 w38 fun x56_85 =>
          ld P 2 x56_85 w38 fun x57_86 =>
          bin P .lss 2 false true x57_86 (.int .i64 0) w38 fun x58_87 =>
          J39 x58_87 w38)
          (bin P .eql 2 false true a1 (.int .i64 2) w38 fun x60_88 =>
          cnd x60_88
            (fda P 28 x2_1 0 w38 fun x61_89 =>
            fda P 26 x61_89 0 w38 fun x62_90 =>
            ld P 2 x62_90 w38 fun x63_91 =>
            bin P .gtr 2 false true x63_91 (.int .i64 0) w38 fun x64_92 =>
            J39 x64_92 w38)
            (bin P .eql 2 false true a1 (.int .i64 4) w38 fun x66_93 =>
            cnd x66_93
              (J39 (.bool true) w38)
              (J39 (.bool false) w38))))))
def P_spec_l03Multiple : Plan := (.seq (.reg [.op (0, 2, false), .op (1, 2, false), .op (2, 0, false), .op (3, 0, false)]) (.seq (.reg [.op (0, 0, false), .op (1, 0, false), .op (2, 2, false), .op (3, 2, false), .op (4, 2, false)]) (.seq (.reg [.op (0, 0, false), .op (2, 0, false), .op (3, 0, false), .op (1, 2, true), .op (4, 0, false), .op (5, 0, false), .op (6, 0, false), .op (7, 0, false)]) (.seq (.reg [.op (0, 0, false), .op (1, 0, false), .op (2, 0, false), .op (3, 0, false), .op (4, 0, false)]) (.seq (.seq (.reg [.op (0, 0, false), .op (1, 0, false)]) (.cond (.seq (.reg [.op (0, 0, false), .op (1, 0, false), .op (2, 0, false), .op (3, 2, false), .op (4, 0, false), .op (5, 2, false), .op (6, 0, false), .op (7, 0, false)]) .leaf) .leaf)) (.seq (.reg [.op (0, 0, false), .op (1, 0, false), .op (2, 2, false), .op (3, 2, false), .op (4, 2, false), .op (5, 0, false)]) (.cut [11] 147573952520956938240 (.seq (.reg [.op (0, 0, false)]) (.blk (.seq (.reg [.op (0, 0, false), .op (1, 0, false)]) (.cond (.reg [.op (0, 0, false), .op (1, 0, false), .op (2, 0, false), .op (3, 2, false), .op (4, 0, false), .op (5, 0, false), .grp 5 true [(6, 0, false), (7, 0, false), (8, 0, false)] [47] 246290604621824, .grp 8 false [(9, 0, false), (10, 2, false), (11, 0, false)] [50] 1970324836974592, .grp 5 true [(12, 0, false)] [51] 2251799813685248, .op (13, 0, false), .op (14, 0, false)]) (.seq (.reg [.op (0, 0, false), .op (1, 0, false)]) (.cond (.reg [.op (0, 0, false), .op (1, 0, false), .op (2, 0, false), .op (3, 0, false), .op (4, 0, false)]) (.seq (.reg [.op (0, 0, false), .op (1, 0, false)]) (.cond (.reg [.op (0, 0, false), .op (1, 0, false), .op (2, 0, false), .op (3, 0, false), .op (4, 0, false)]) (.seq (.reg [.op (0, 0, false), .op (1, 0, false)]) (.cond (.reg [.op (0, 0, false)]) .leaf)))))))))) (.seq (.seq (.reg [.op (0, 0, false)]) (.cond (.reg [.op (0, 0, false), .op (1, 2, true), .op (2, 2, false), .op (3, 2, false)]) .leaf)) (.seq (.reg [.op (0, 0, false), .op (1, 0, false), .op (2, 2, false), .op (3, 0, false), .op (4, 0, false)]) .leaf)))))))))
theorem I_spec_l03Multiple {a0 a1 : Value} {w : World} {K : Value → World → Prop} (h : D_spec_l03Multiple a0 a1 w K) : call P f_spec_l03Multiple [a0, a1] w K :=
  call_of_vc mixed Tryz.func206 (c := codeOf Tryz.f206) (by kernel_rfl) (by kernel_rfl) (p := P_spec_l03Multiple) (by kernel_rfl) (by rw [Tryz.ntmps206]; simp) (by
    have e : D_spec_l03Multiple a0 a1 w K = vc P P_spec_l03Multiple (codeOf Tryz.f206) (env0 [a0, a1]) w (retX P Tryz.f206.results.toList K) := by kernel_rfl
    exact e ▸ h)

/-- spec.l03Over -/
def D_spec_l03Over (a0 a1 : Value) (w : World) (K : Value → World → Prop) : Prop :=
  call P f_spec_l01Huge [] w fun x6_1 w2 =>
  ∃ J3 : Value → World → Prop, (∀ (x5_6 : Value) (junk4 : Env) (w5 : World), J3 x5_6 w5 →
    bin P .lss 2 false true a0 (.int .i64 0) w5 fun x27_7 =>
    cnd x27_7
      (una P .neg x5_6 w5 fun x29_8 =>
      K x29_8 w5)
      (K x5_6 w5)) ∧
    (bin P .eql 2 false true a1 (.int .i64 3) w2 fun x8_9 =>
    ∃ J10 : Value → World → Prop, (∀ (x12_11 : Value) (junk13 : Env) (w12 : World), J10 x12_11 w12 →
      ∃ J14 : Value → World → Prop, (∀ (x14_15 : Value) (junk17 : Env) (w16 : World), J14 x14_15 w16 →
      ∃ J18 : Value → World → Prop, (∀ (x15_19 : Value) (junk21 : Env) (w20 : World), J18 x15_19 w20 →
      pick x8_9 (.bool true) x15_19 fun x16_22 =>
          ∃ J23 : Value → World → Prop, (∀ (x20_24 : Value) (junk26 : Env) (w25 : World), J23 x20_24 w25 →
      ∃ J27 : Value → World → Prop, (∀ (x22_28 : Value) (junk30 : Env) (w29 : World), J27 x22_28 w29 →
      ∃ J31 : Value → World → Prop, (∀ (x23_32 : Value) (junk34 : Env) (w33 : World), J31 x23_32 w33 →
      pick x16_22 (.bool true) x23_32 fun x24_35 =>
                cnd x24_35
                  (call P f_spec_l01At [(.int .i64 2139095039)] w33 fun x25_36 w37 =>
                  J3 x25_36 w37)
                  (J3 x6_1 w33)) ∧
      grd x16_22 false
        (pick x20_24 x22_28 (.bool false) fun x23_38 =>
                  J31 x23_38 w29)
        (J31 undef w29)) ∧
      grd x20_24 true
        (bin P .lss 2 false true a0 (.int .i64 0) w25 fun x22_39 =>
                J27 x22_39 w25)
        (J27 undef w25)) ∧
      grd x16_22 false
        (bin P .eql 2 false true a1 (.int .i64 2) w20 fun x19_40 =>
              J23 x19_40 w20)
        (J23 undef w20)) ∧
      grd x8_9 false
        (pick x12_11 x14_15 (.bool false) fun x15_41 =>
            J18 x15_41 w16)
        (J18 undef w16)) ∧
      grd x12_11 true
        (bin P .gtr 2 false true a0 (.int .i64 0) w12 fun x14_42 =>
          J14 x14_42 w12)
        (J14 undef w12)) ∧
      grd x8_9 false
        (bin P .eql 2 false true a1 (.int .i64 1) w2 fun x11_43 =>
        J10 x11_43 w2)
        (J10 undef w2))
def P_spec_l03Over : Plan := (.seq (.reg [.op (0, 0, false)]) (.seq (.reg [.op (0, 2, false), .op (1, 0, false)]) (.cut [5] 67108768 (.seq (.reg [.op (0, 0, false), .op (1, 0, false), .op (2, 0, false), .grp 2 false [(3, 0, false), (4, 0, false), (5, 0, false)] [12] 7168, .grp 5 true [(6, 0, false), (7, 0, false)] [14] 24576, .grp 2 false [(8, 0, false)] [15] 32768, .op (9, 0, false), .op (10, 0, false), .grp 10 false [(11, 0, false), (12, 0, false), (13, 0, false)] [20] 1835008, .grp 13 true [(14, 0, false), (15, 0, false)] [22] 6291456, .grp 10 false [(16, 0, false)] [23] 8388608, .op (17, 0, false)]) (.cond (.reg [.op (0, 2, false), .op (1, 0, false)]) .leaf)) (.seq (.seq (.reg [.op (0, 0, false), .op (1, 0, false)]) (.cond (.seq (.reg [.op (0, 0, false), .op (1, 0, false), .op (2, 0, false)]) .leaf) .leaf)) (.seq (.reg [.op (0, 0, false), .op (1, 0, false)]) .leaf)))))
theorem I_spec_l03Over {a0 a1 : Value} {w : World} {K : Value → World → Prop} (h : D_spec_l03Over a0 a1 w K) : call P f_spec_l03Over [a0, a1] w K :=
  call_of_vc mixed Tryz.func208 (c := codeOf Tryz.f208) (by kernel_rfl) (by kernel_rfl) (p := P_spec_l03Over) (by kernel_rfl) (by rw [Tryz.ntmps208]; simp) (by
    have e : D_spec_l03Over a0 a1 w K = vc P P_spec_l03Over (codeOf Tryz.f208) (env0 [a0, a1]) w (retX P Tryz.f208.results.toList K) := by kernel_rfl
    exact e ▸ h)

/-- spec.l03Neg -/
def D_spec_l03Neg (a0 : Value) (w : World) (K : Value → World → Prop) : Prop :=
  bx P 28 a0 w fun x1_1 w2 =>
  alc P 28 w2 fun x2_3 w4 =>
  fda P 28 x1_1 0 w4 fun x3_5 =>
  ld P 26 x3_5 w4 fun x4_6 =>
  fda P 28 x1_1 1 w4 fun x6_7 =>
  ld P 2 x6_7 w4 fun x7_8 =>
  call P f_spec_l02Neg [x4_6] w4 fun x5_9 w10 =>
  Ext w4 w10 ∧ bld P 28 [(0, x5_9), (1, x7_8)] w10 fun x8_11 =>
  sto P 28 x2_3 x8_11 w10 fun w13 =>
  ldc P 28 x2_3 w13 fun r14 =>
  K r14 w13
def P_spec_l03Neg : Plan := (.seq (.reg [.op (0, 2, false), .op (1, 2, false)]) (.seq (.reg [.op (0, 0, false), .op (1, 0, false), .op (3, 0, false), .op (4, 0, false), .op (2, 2, true), .op (5, 0, false), .op (6, 2, false)]) .leaf))
theorem I_spec_l03Neg {a0 : Value} {w : World} {K : Value → World → Prop} (h : D_spec_l03Neg a0 w K) : call P f_spec_l03Neg [a0] w K :=
  call_of_vc mixed Tryz.func211 (c := codeOf Tryz.f211) (by kernel_rfl) (by kernel_rfl) (p := P_spec_l03Neg) (by kernel_rfl) (by rw [Tryz.ntmps211]; simp) (by
    have e : D_spec_l03Neg a0 w K = vc P P_spec_l03Neg (codeOf Tryz.f211) (env0 [a0]) w (retX P Tryz.f211.results.toList K) := by kernel_rfl
    exact e ▸ h)

end Go.Proofs.YtabgkpfcpncmhaaGreat
