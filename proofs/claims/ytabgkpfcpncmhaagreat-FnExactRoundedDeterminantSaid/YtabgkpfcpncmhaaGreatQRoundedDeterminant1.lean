import Derived.Test.YtabgkpfcpncmhaaGreatProg
import Derived.Test.YtabgkpfcpncmhaaGreatVcH
set_option linter.unusedSimpArgs false
set_option linter.unusedVariables false
/- Written by a program (gen.py): the program's names. -/
namespace Go.Proofs.YtabgkpfcpncmhaaGreat
open Go Go.Vc
noncomputable abbrev P : Program := Tryz.prog
theorem mixed : P.follows .mixedOrders = true := by kernel_rfl
def codeOf (f : Func) : Code := match f.body with
  | some c => c
  | none => .skip
abbrev f_laws_FnExactGapOf : FuncId := 3
abbrev f_laws_FnExactNormOfMatrix : FuncId := 4
abbrev f_laws_FnExactResidualOf : FuncId := 5
abbrev f_laws_FnExactHalvesOfBox : FuncId := 6
abbrev f_laws_FnExactRoundedDeterminant : FuncId := 7
abbrev f_laws_FnExactVolumeOfBox : FuncId := 8
abbrev f_laws_FnExactRefineSolution : FuncId := 9
abbrev f_laws_FnExactEncloseSolution : FuncId := 10
abbrev f_laws_FnExactEncloseInverse : FuncId := 11
abbrev f_laws_FnEliminations : FuncId := 12
abbrev f_laws_FnMatrices : FuncId := 13
abbrev f_laws_szFloat32SS : FuncId := 14
abbrev f_spec_GapOf : FuncId := 15
abbrev f_laws_toFloat32SS : FuncId := 16
abbrev f_impl_GapOf : FuncId := 17
abbrev f_laws_eqDyadic : FuncId := 18
abbrev f_laws_eqFloat32SS : FuncId := 19
abbrev f_laws_markFloat32SS : FuncId := 20
abbrev f_laws_markDyadic : FuncId := 21
abbrev f_laws_heldDyadic : FuncId := 22
abbrev f_spec_NormOfMatrix : FuncId := 23
abbrev f_impl_NormOfMatrix : FuncId := 24
abbrev f_laws_sameFloat : FuncId := 25
abbrev f_spec_ResidualOf : FuncId := 26
abbrev f_laws_toFloat32S : FuncId := 27
abbrev f_impl_ResidualOf : FuncId := 28
abbrev f_laws_eqFloat32S : FuncId := 29
abbrev f_laws_markFloat32S : FuncId := 30
abbrev f_laws_heldFloat32S : FuncId := 31
abbrev f_laws_szIntervalS : FuncId := 32
abbrev f_spec_HalvesOfBox : FuncId := 33
abbrev f_laws_toIntervalS : FuncId := 34
abbrev f_impl_HalvesOfBox : FuncId := 35
abbrev f_laws_eqIntervalS : FuncId := 36
abbrev f_laws_markIntervalS : FuncId := 37
abbrev f_laws_heldIntervalS : FuncId := 38
abbrev f_spec_RoundedDeterminant : FuncId := 39
abbrev f_impl_RoundedDeterminant : FuncId := 40
abbrev f_spec_VolumeOfBox : FuncId := 41
abbrev f_impl_VolumeOfBox : FuncId := 42
abbrev f_laws_eqInterval : FuncId := 43
abbrev f_spec_RefineSolution : FuncId := 44
abbrev f_impl_RefineSolution : FuncId := 45
abbrev f_spec_EncloseSolution : FuncId := 46
abbrev f_impl_EncloseSolution : FuncId := 47
abbrev f_spec_EncloseInverse : FuncId := 48
abbrev f_impl_EncloseInverse : FuncId := 49
abbrev f_laws_eqIntervalSS : FuncId := 50
abbrev f_laws_markIntervalSS : FuncId := 51
abbrev f_laws_heldIntervalSS : FuncId := 52
abbrev f_laws_big : FuncId := 53
abbrev f_spec_DrawEliminationOf : FuncId := 54
abbrev f_impl_EliminationOf : FuncId := 55
abbrev f_spec_EliminationOf : FuncId := 56
abbrev f_laws_likeInts : FuncId := 57
abbrev f_laws_tables5 : FuncId := 58
abbrev f_impl_IsMatrix : FuncId := 59
abbrev f_spec_IsMatrix : FuncId := 60
abbrev f_laws_hasInt : FuncId := 61
abbrev f_spec_DrawSolveSystem : FuncId := 62
abbrev f_impl_SolveSystem : FuncId := 63
abbrev f_spec_SolveSystem : FuncId := 64
abbrev f_spec_DrawInverseOf : FuncId := 65
abbrev f_impl_InverseOf : FuncId := 66
abbrev f_spec_InverseOf : FuncId := 67
abbrev f_spec_DrawRefineSolution : FuncId := 68
abbrev f_laws_floats5 : FuncId := 69
abbrev f_spec_DrawDeterminantOf : FuncId := 70
abbrev f_impl_DeterminantOf : FuncId := 71
abbrev f_spec_DeterminantOf : FuncId := 72
abbrev f_laws_dyadic5 : FuncId := 73
abbrev f_impl_AddDyadics : FuncId := 74
abbrev f_spec_DrawRoundedDeterminant : FuncId := 75
abbrev f_laws_float5 : FuncId := 76
abbrev f_spec_DrawTimesMatrix : FuncId := 77
abbrev f_impl_TimesMatrix : FuncId := 78
abbrev f_spec_TimesMatrix : FuncId := 79
abbrev f_impl_TimesVector : FuncId := 80
abbrev f_spec_DrawGapOf : FuncId := 81
abbrev f_spec_DrawEncloseInverse : FuncId := 82
abbrev f_laws_spans5 : FuncId := 83
abbrev f_laws_span5 : FuncId := 84
abbrev f_spec_DrawNormOfMatrix : FuncId := 85
abbrev f_spec_DrawResidualOf : FuncId := 86
abbrev f_laws_szFloat32S : FuncId := 87
abbrev f_spec_l10Is : FuncId := 88
abbrev f_spec_l03Fit : FuncId := 89
abbrev f_spec_l10Gap : FuncId := 90
abbrev f_impl_gap : FuncId := 91
abbrev f_impl_num_dyadic : FuncId := 92
abbrev f_laws_eqWhole : FuncId := 93
abbrev f_laws_markWhole : FuncId := 94
abbrev f_laws_heldWhole : FuncId := 95
abbrev f_spec_l03Add : FuncId := 96
abbrev f_spec_l03Of : FuncId := 97
abbrev f_spec_l01Abs : FuncId := 98
abbrev f_spec_l03Compare : FuncId := 99
abbrev f_spec_l06Up : FuncId := 100
abbrev f_impl_zero : FuncId := 101
abbrev f_impl_num_add : FuncId := 102
abbrev f_impl_numOf : FuncId := 103
abbrev f_impl_num_abs : FuncId := 104
abbrev f_impl_num_cmp : FuncId := 105
abbrev f_impl_num_round : FuncId := 106
abbrev f_spec_l10Code : FuncId := 107
abbrev f_spec_l10Residual : FuncId := 108
abbrev f_impl_systemCode : FuncId := 109
abbrev f_impl_roundedResidual : FuncId := 110
abbrev f_spec_l11Box : FuncId := 111
abbrev f_spec_l11Side : FuncId := 112
abbrev f_spec_l11Halves : FuncId := 113
abbrev f_laws_toInterval : FuncId := 114
abbrev f_impl_sidesCode : FuncId := 115
abbrev f_impl_halvesOf : FuncId := 116
abbrev f_spec_l03Mode : FuncId := 117
abbrev f_spec_l03Round : FuncId := 118
abbrev f_spec_l10Determinant : FuncId := 119
abbrev f_impl_isMode : FuncId := 120
abbrev f_impl_determinant : FuncId := 121
abbrev f_spec_l06Sub : FuncId := 122
abbrev f_spec_l06Of : FuncId := 123
abbrev f_spec_l06Mul : FuncId := 124
abbrev f_impl_long : FuncId := 125
abbrev f_impl_mulI : FuncId := 126
abbrev f_spec_l01In : FuncId := 127
abbrev f_spec_l10Eliminate : FuncId := 128
abbrev f_spec_l10Zeros : FuncId := 129
abbrev f_spec_l10Solve : FuncId := 130
abbrev f_spec_l01Finite : FuncId := 131
abbrev f_impl_eliminate : FuncId := 132
abbrev f_impl_solve : FuncId := 133
abbrev f_impl_same : FuncId := 134
abbrev f_impl_areFinite : FuncId := 135
abbrev f_spec_l10Ready : FuncId := 136
abbrev f_spec_l10Enclose : FuncId := 137
abbrev f_impl_isVector : FuncId := 138
abbrev f_impl_certify : FuncId := 139
abbrev f_impl_certificate_enclose : FuncId := 140
abbrev f_spec_l10Unit : FuncId := 141
abbrev f_impl_unitColumn : FuncId := 142
abbrev f_spec_l10Spoil : FuncId := 143
abbrev f_spec_l01From : FuncId := 144
abbrev f_spec_DrawTimesVector : FuncId := 145
abbrev f_impl_invert : FuncId := 146
abbrev f_spec_l10Inverse : FuncId := 147
abbrev f_spec_l10Beside : FuncId := 148
abbrev f_spec_l01Next : FuncId := 149
abbrev f_spec_l01Pick : FuncId := 150
abbrev f_spec_l01Count : FuncId := 151
abbrev f_laws_whole5 : FuncId := 152
abbrev f_impl_IsDyadic : FuncId := 153
abbrev f_impl_numberOf : FuncId := 154
abbrev f_spec_l10With : FuncId := 155
abbrev f_impl_empty : FuncId := 156
abbrev f_impl_timesVector : FuncId := 157
abbrev f_impl_column : FuncId := 158
abbrev f_spec_l10Turn : FuncId := 159
abbrev f_spec_l10Times : FuncId := 160
abbrev f_spec_l10Vector : FuncId := 161
abbrev f_spec_l03Is : FuncId := 162
abbrev f_spec_l03Make : FuncId := 163
abbrev f_spec_l02Of : FuncId := 164
abbrev f_spec_l03Sub : FuncId := 165
abbrev f_spec_l03Mul : FuncId := 166
abbrev f_spec_l02Abs : FuncId := 167
abbrev f_impl_num_sub : FuncId := 168
abbrev f_impl_num_mul : FuncId := 169
abbrev f_impl_num_odd : FuncId := 170
abbrev f_impl_fromBig : FuncId := 171
abbrev f_laws_eqInt64S : FuncId := 172
abbrev f_laws_markInt64S : FuncId := 173
abbrev f_laws_heldInt64S : FuncId := 174
abbrev f_spec_l02Add : FuncId := 175
abbrev f_spec_l02Left : FuncId := 176
abbrev f_spec_l01Parts : FuncId := 177
abbrev f_impl_num_sign : FuncId := 178
abbrev f_impl_integer_Add : FuncId := 179
abbrev f_impl_num_at : FuncId := 180
abbrev f_impl_parts : FuncId := 181
abbrev f_impl_newInt : FuncId := 182
abbrev f_impl_integer_Abs : FuncId := 183
abbrev f_impl_integer_BitLen : FuncId := 184
abbrev f_impl_num_round_1 : FuncId := 185
abbrev f_impl_atPlace : FuncId := 186
abbrev f_impl_infinite : FuncId := 187
abbrev f_impl_integer_Lsh : FuncId := 188
abbrev f_impl_integer_Rsh : FuncId := 189
abbrev f_impl_integer_Sub : FuncId := 190
abbrev f_impl_integer_Sign : FuncId := 191
abbrev f_impl_integer_Cmp : FuncId := 192
abbrev f_impl_integer_Bit : FuncId := 193
abbrev f_math_Ldexp : FuncId := 194
abbrev f_impl_integer_Int64 : FuncId := 195
abbrev f_spec_l10Rest : FuncId := 196
abbrev f_impl_residual : FuncId := 197
abbrev f_spec_l06Is : FuncId := 198
abbrev f_spec_l06Bounded : FuncId := 199
abbrev f_spec_HalvesOf : FuncId := 200
abbrev f_spec_l06Width : FuncId := 201
abbrev f_impl_areIntervals : FuncId := 202
abbrev f_impl_endless : FuncId := 203
abbrev f_impl_halves : FuncId := 204
abbrev f_impl_width : FuncId := 205
abbrev f_spec_l03Multiple : FuncId := 206
abbrev f_spec_l02Length : FuncId := 207
abbrev f_spec_l03Over : FuncId := 208
abbrev f_spec_l01Twos : FuncId := 209
abbrev f_spec_l01Turned : FuncId := 210
abbrev f_spec_l03Neg : FuncId := 211
abbrev f_impl_integer_Mul : FuncId := 212
abbrev f_impl_integer_Quo : FuncId := 213
abbrev f_impl_num_neg : FuncId := 214
abbrev f_spec_l06Add : FuncId := 215
abbrev f_spec_l06Neg : FuncId := 216
abbrev f_spec_l06Make : FuncId := 217
abbrev f_spec_l01Huge : FuncId := 218
abbrev f_spec_l06Ends : FuncId := 219
abbrev f_impl_subI : FuncId := 220
abbrev f_impl_point : FuncId := 221
abbrev f_impl_overEnds : FuncId := 222
abbrev f_impl_mulI_1 : FuncId := 223
abbrev f_impl_mulEnd : FuncId := 224
abbrev f_impl_size : FuncId := 225
abbrev f_impl_isFinite : FuncId := 226
abbrev f_impl_solve_1 : FuncId := 227
abbrev f_impl_isNaN : FuncId := 228
abbrev f_math_Float32bits : FuncId := 229
abbrev f_spec_l10Reach : FuncId := 230
abbrev f_spec_l06Down : FuncId := 231
abbrev f_impl_above : FuncId := 232
abbrev f_impl_plain : FuncId := 233
abbrev f_spec_l10Order : FuncId := 234
abbrev f_spec_l01Strange : FuncId := 235
abbrev f_spec_l10List : FuncId := 236
abbrev f_impl_IsWhole : FuncId := 237
abbrev f_impl_toBig : FuncId := 238
abbrev f_spec_l02Is : FuncId := 239
abbrev f_spec_l02Twos : FuncId := 240
abbrev f_spec_l02Cut : FuncId := 241
abbrev f_spec_l02Make : FuncId := 242
abbrev f_spec_l02Mul : FuncId := 243
abbrev f_impl_integer_TrailingZeroBits : FuncId := 244
abbrev f_impl_integer_And : FuncId := 245
abbrev f_spec_l02Plus : FuncId := 246
abbrev f_spec_l02CompareLimbs : FuncId := 247
abbrev f_spec_l02Minus : FuncId := 248
abbrev f_impl_integer_plus : FuncId := 249
abbrev f_impl_integer_SetInt64 : FuncId := 250
abbrev f_impl_integer_put : FuncId := 251
abbrev f_slices_Clone_uint32_uint32 : FuncId := 252
abbrev f_impl_magBits : FuncId := 253
abbrev f_math_Float32frombits : FuncId := 254
abbrev f_math_Inf : FuncId := 255
abbrev f_impl_magLeft : FuncId := 256
abbrev f_impl_magRight : FuncId := 257
abbrev f_impl_magSub : FuncId := 258
abbrev f_impl_magAdd : FuncId := 259
abbrev f_impl_magCmp : FuncId := 260
abbrev f_math_archLdexp : FuncId := 261
abbrev f_math_ldexp : FuncId := 262
abbrev f_impl_integer_low : FuncId := 263
abbrev f_spec_l06Plain : FuncId := 264
abbrev f_spec_l06Middle : FuncId := 265
abbrev f_spec_l06Zero : FuncId := 266
abbrev f_impl_IsInterval : FuncId := 267
abbrev f_impl_isInf : FuncId := 268
abbrev f_impl_middle : FuncId := 269
abbrev f_impl_addIn : FuncId := 270
abbrev f_spec_l02Bit : FuncId := 271
abbrev f_spec_l01At : FuncId := 272
abbrev f_spec_l02Neg : FuncId := 273
abbrev f_impl_magMul : FuncId := 274
abbrev f_impl_integer_QuoRem : FuncId := 275
abbrev f_impl_integer_Neg : FuncId := 276
abbrev f_impl_addI : FuncId := 277
abbrev f_impl_negI : FuncId := 278
abbrev f_impl_signOf : FuncId := 279
abbrev f_impl_mulIn : FuncId := 280
abbrev f_spec_l03Quotient : FuncId := 281
abbrev f_spec_l10Number : FuncId := 282
abbrev f_impl_integer_Or : FuncId := 283
abbrev f_spec_l01Own : FuncId := 284
abbrev f_impl_magTrim : FuncId := 285
abbrev f_math_Float64frombits : FuncId := 286
abbrev f_cmp_Compare_int : FuncId := 287
abbrev f_cmp_Compare_uint32 : FuncId := 288
abbrev f_math_IsInf : FuncId := 289
abbrev f_math_IsNaN : FuncId := 290
abbrev f_math_normalize : FuncId := 291
abbrev f_math_Float64bits : FuncId := 292
abbrev f_math_Copysign : FuncId := 293
abbrev f_spec_l01NaN : FuncId := 294
abbrev f_spec_l01Minus : FuncId := 295
abbrev f_impl_minus : FuncId := 296
abbrev f_impl_num_scale : FuncId := 297
abbrev f_impl_zeroSum : FuncId := 298
abbrev f_impl_magDiv : FuncId := 299
abbrev f_impl_sumEnd : FuncId := 300
abbrev f_impl_signedZero : FuncId := 301
abbrev f_spec_l02DivMod : FuncId := 302
abbrev f_spec_l02Sub : FuncId := 303
abbrev f_spec_l01Draw : FuncId := 304
abbrev f_cmp_isNaN_int : FuncId := 305
abbrev f_cmp_isNaN_uint32 : FuncId := 306
abbrev f_math_Abs : FuncId := 307
abbrev f_impl_minusZero : FuncId := 308
abbrev f_impl_integer_String : FuncId := 324
abbrev f_impl_num_high : FuncId := 325
noncomputable abbrev F_math_Float32bits : Func := Tryz.f229
theorem fun_math_Float32bits : P.funcs[f_math_Float32bits]? = some F_math_Float32bits := Tryz.func229
noncomputable abbrev F_math_Float32frombits : Func := Tryz.f254
theorem fun_math_Float32frombits : P.funcs[f_math_Float32frombits]? = some F_math_Float32frombits := Tryz.func254
noncomputable abbrev F_math_Float64frombits : Func := Tryz.f286
theorem fun_math_Float64frombits : P.funcs[f_math_Float64frombits]? = some F_math_Float64frombits := Tryz.func286
noncomputable abbrev F_math_Float64bits : Func := Tryz.f292
theorem fun_math_Float64bits : P.funcs[f_math_Float64bits]? = some F_math_Float64bits := Tryz.func292
abbrev t_int64 : TypeId := 2
theorem u_int64 : P.underlying 2 = some (.int .i64) := Tryz.underlying2
theorem i_int64 : TI P 2 (.int .i64 0) 1 8 := TI_of (by kernel_rfl)
abbrev t_int : TypeId := 3
theorem u_int : P.underlying 3 = some (.int .i64) := Tryz.underlying3
theorem i_int : TI P 3 (.int .i64 0) 1 8 := TI_of (by kernel_rfl)
abbrev t_bool : TypeId := 4
theorem u_bool : P.underlying 4 = some (.bool) := Tryz.underlying4
theorem i_bool : TI P 4 (.bool false) 1 1 := TI_of (by kernel_rfl)
abbrev t_uint8 : TypeId := 5
theorem u_uint8 : P.underlying 5 = some (.int .u8) := Tryz.underlying5
theorem i_uint8 : TI P 5 (.int .u8 0) 1 1 := TI_of (by kernel_rfl)
abbrev t_string : TypeId := 9
theorem u_string : P.underlying 9 = some (.string) := Tryz.underlying9
theorem i_string : TI P 9 (.string ⟨#[]⟩) 1 16 := TI_of (by kernel_rfl)
abbrev t_uintptr : TypeId := 12
theorem u_uintptr : P.underlying 12 = some (.int .u64) := Tryz.underlying12
theorem i_uintptr : TI P 12 (.int .u64 0) 1 8 := TI_of (by kernel_rfl)
abbrev t_p_runtime_TypeAssertionError : TypeId := 15
theorem u_p_runtime_TypeAssertionError : P.underlying 15 = some (.pointer 275) := Tryz.underlying15
theorem i_p_runtime_TypeAssertionError : TI P 15 (.pointer none) 1 8 := TI_of (by kernel_rfl)
abbrev t_p_runtime_PanicNilError : TypeId := 16
theorem u_p_runtime_PanicNilError : P.underlying 16 = some (.pointer 278) := Tryz.underlying16
theorem i_p_runtime_PanicNilError : TI P 16 (.pointer none) 1 8 := TI_of (by kernel_rfl)
abbrev t_p_abi_Type : TypeId := 17
theorem u_p_abi_Type : P.underlying 17 = some (.pointer 286) := Tryz.underlying17
theorem i_p_abi_Type : TI P 17 (.pointer none) 1 8 := TI_of (by kernel_rfl)
abbrev t_int32 : TypeId := 21
theorem u_int32 : P.underlying 21 = some (.int .i32) := Tryz.underlying21
theorem i_int32 : TI P 21 (.int .i32 0) 1 4 := TI_of (by kernel_rfl)
abbrev t_s_s_float32 : TypeId := 22
theorem u_s_s_float32 : P.underlying 22 = some (.slice 41) := Tryz.underlying22
theorem i_s_s_float32 : TI P 22 (.slice none 0 0) 1 24 := TI_of (by kernel_rfl)
abbrev t_s_int64 : TypeId := 24
theorem u_s_int64 : P.underlying 24 = some (.slice 2) := Tryz.underlying24
theorem i_s_int64 : TI P 24 (.slice none 0 0) 1 24 := TI_of (by kernel_rfl)
abbrev t_impl_Whole : TypeId := 26
theorem u_impl_Whole : P.underlying 26 = some (.struct #[{ name := "Sign", type := 2, offset := 0, embedded := false, tag := "", pkgPath := "", byteOffset := 0 }, { name := "Limbs", type := 24, offset := 1, embedded := false, tag := "", pkgPath := "", byteOffset := 8 }]) := Tryz.underlying26
theorem i_impl_Whole : TI P 26 (.agg #[(.int .i64 0), (.slice none 0 0)]) 2 32 := TI_of (by kernel_rfl)
abbrev t_impl_Dyadic : TypeId := 28
theorem u_impl_Dyadic : P.underlying 28 = some (.struct #[{ name := "Whole", type := 26, offset := 0, embedded := false, tag := "", pkgPath := "", byteOffset := 0 }, { name := "Exponent", type := 2, offset := 2, embedded := false, tag := "", pkgPath := "", byteOffset := 32 }]) := Tryz.underlying28
theorem i_impl_Dyadic : TI P 28 (.agg #[(.int .i64 0), (.slice none 0 0), (.int .i64 0)]) 3 40 := TI_of (by kernel_rfl)
abbrev t_float32 : TypeId := 35
theorem u_float32 : P.underlying 35 = some (.float .f32) := Tryz.underlying35
theorem i_float32 : TI P 35 (.float .f32 0) 1 4 := TI_of (by kernel_rfl)
abbrev t_float64 : TypeId := 39
theorem u_float64 : P.underlying 39 = some (.float .f64) := Tryz.underlying39
theorem i_float64 : TI P 39 (.float .f64 0) 1 8 := TI_of (by kernel_rfl)
abbrev t_s_float32 : TypeId := 41
theorem u_s_float32 : P.underlying 41 = some (.slice 35) := Tryz.underlying41
theorem i_s_float32 : TI P 41 (.slice none 0 0) 1 24 := TI_of (by kernel_rfl)
abbrev t_s_laws_Interval : TypeId := 48
theorem u_s_laws_Interval : P.underlying 48 = some (.slice 129) := Tryz.underlying48
theorem i_s_laws_Interval : TI P 48 (.slice none 0 0) 1 24 := TI_of (by kernel_rfl)
abbrev t_s_impl_Interval : TypeId := 50
theorem u_s_impl_Interval : P.underlying 50 = some (.slice 61) := Tryz.underlying50
theorem i_s_impl_Interval : TI P 50 (.slice none 0 0) 1 24 := TI_of (by kernel_rfl)
abbrev t_impl_Interval : TypeId := 61
theorem u_impl_Interval : P.underlying 61 = some (.struct #[{ name := "Low", type := 35, offset := 0, embedded := false, tag := "", pkgPath := "", byteOffset := 0 }, { name := "High", type := 35, offset := 1, embedded := false, tag := "", pkgPath := "", byteOffset := 4 }]) := Tryz.underlying61
theorem i_impl_Interval : TI P 61 (.agg #[(.float .f32 0), (.float .f32 0)]) 2 8 := TI_of (by kernel_rfl)
abbrev t_s_s_impl_Interval : TypeId := 71
theorem u_s_s_impl_Interval : P.underlying 71 = some (.slice 50) := Tryz.underlying71
theorem i_s_s_impl_Interval : TI P 71 (.slice none 0 0) 1 24 := TI_of (by kernel_rfl)
abbrev t_s_uint8 : TypeId := 76
theorem u_s_uint8 : P.underlying 76 = some (.slice 5) := Tryz.underlying76
theorem i_s_uint8 : TI P 76 (.slice none 0 0) 1 24 := TI_of (by kernel_rfl)
abbrev t_impl_Elimination : TypeId := 80
theorem u_impl_Elimination : P.underlying 80 = some (.struct #[{ name := "Order", type := 24, offset := 0, embedded := false, tag := "", pkgPath := "", byteOffset := 0 }, { name := "Table", type := 22, offset := 1, embedded := false, tag := "", pkgPath := "", byteOffset := 24 }]) := Tryz.underlying80
theorem i_impl_Elimination : TI P 80 (.agg #[(.slice none 0 0), (.slice none 0 0)]) 2 48 := TI_of (by kernel_rfl)
abbrev t_p_impl_integer : TypeId := 103
theorem u_p_impl_integer : P.underlying 103 = some (.pointer 179) := Tryz.underlying103
theorem i_p_impl_integer : TI P 103 (.pointer none) 1 8 := TI_of (by kernel_rfl)
abbrev t_impl_num : TypeId := 105
theorem u_impl_num : P.underlying 105 = some (.struct #[{ name := "m", type := 103, offset := 0, embedded := false, tag := "", pkgPath := "loop.example/g01172/impl", byteOffset := 0 }, { name := "e", type := 3, offset := 1, embedded := false, tag := "", pkgPath := "loop.example/g01172/impl", byteOffset := 8 }]) := Tryz.underlying105
theorem i_impl_num : TI P 105 (.agg #[(.pointer none), (.int .i64 0)]) 2 16 := TI_of (by kernel_rfl)
abbrev t_laws_Interval : TypeId := 129
theorem u_laws_Interval : P.underlying 129 = some (.struct #[{ name := "Low", type := 35, offset := 0, embedded := false, tag := "", pkgPath := "", byteOffset := 0 }, { name := "High", type := 35, offset := 1, embedded := false, tag := "", pkgPath := "", byteOffset := 4 }]) := Tryz.underlying129
theorem i_laws_Interval : TI P 129 (.agg #[(.float .f32 0), (.float .f32 0)]) 2 8 := TI_of (by kernel_rfl)
abbrev t_impl_certificate : TypeId := 149
theorem u_impl_certificate : P.underlying 149 = some (.struct #[{ name := "e", type := 80, offset := 0, embedded := false, tag := "", pkgPath := "loop.example/g01172/impl", byteOffset := 0 }, { name := "r", type := 22, offset := 2, embedded := false, tag := "", pkgPath := "loop.example/g01172/impl", byteOffset := 48 }, { name := "g", type := 105, offset := 3, embedded := false, tag := "", pkgPath := "loop.example/g01172/impl", byteOffset := 72 }]) := Tryz.underlying149
theorem i_impl_certificate : TI P 149 (.agg #[(.slice none 0 0), (.slice none 0 0), (.slice none 0 0), (.pointer none), (.int .i64 0)]) 5 88 := TI_of (by kernel_rfl)
abbrev t_p_spec_l01Source : TypeId := 154
theorem u_p_spec_l01Source : P.underlying 154 = some (.pointer 229) := Tryz.underlying154
theorem i_p_spec_l01Source : TI P 154 (.pointer none) 1 8 := TI_of (by kernel_rfl)
abbrev t_s_uint32 : TypeId := 177
theorem u_s_uint32 : P.underlying 177 = some (.slice 221) := Tryz.underlying177
theorem i_s_uint32 : TI P 177 (.slice none 0 0) 1 24 := TI_of (by kernel_rfl)
abbrev t_impl_integer : TypeId := 179
theorem u_impl_integer : P.underlying 179 = some (.struct #[{ name := "neg", type := 4, offset := 0, embedded := false, tag := "", pkgPath := "loop.example/g01172/impl", byteOffset := 0 }, { name := "mag", type := 177, offset := 1, embedded := false, tag := "", pkgPath := "loop.example/g01172/impl", byteOffset := 8 }]) := Tryz.underlying179
theorem i_impl_integer : TI P 179 (.agg #[(.bool false), (.slice none 0 0)]) 2 32 := TI_of (by kernel_rfl)
abbrev t_uint : TypeId := 189
theorem u_uint : P.underlying 189 = some (.int .u64) := Tryz.underlying189
theorem i_uint : TI P 189 (.int .u64 0) 1 8 := TI_of (by kernel_rfl)
abbrev t_s_impl_Dyadic : TypeId := 194
theorem u_s_impl_Dyadic : P.underlying 194 = some (.slice 28) := Tryz.underlying194
theorem i_s_impl_Dyadic : TI P 194 (.slice none 0 0) 1 24 := TI_of (by kernel_rfl)
abbrev t_s_impl_num : TypeId := 196
theorem u_s_impl_num : P.underlying 196 = some (.slice 105) := Tryz.underlying196
theorem i_s_impl_num : TI P 196 (.slice none 0 0) 1 24 := TI_of (by kernel_rfl)
abbrev t_s_s_p_impl_integer : TypeId := 211
theorem u_s_s_p_impl_integer : P.underlying 211 = some (.slice 212) := Tryz.underlying211
theorem i_s_s_p_impl_integer : TI P 211 (.slice none 0 0) 1 24 := TI_of (by kernel_rfl)
abbrev t_s_p_impl_integer : TypeId := 212
theorem u_s_p_impl_integer : P.underlying 212 = some (.slice 103) := Tryz.underlying212
theorem i_s_p_impl_integer : TI P 212 (.slice none 0 0) 1 24 := TI_of (by kernel_rfl)
abbrev t_uint32 : TypeId := 221
theorem u_uint32 : P.underlying 221 = some (.int .u32) := Tryz.underlying221
theorem i_uint32 : TI P 221 (.int .u32 0) 1 4 := TI_of (by kernel_rfl)
abbrev t_uint64 : TypeId := 227
theorem u_uint64 : P.underlying 227 = some (.int .u64) := Tryz.underlying227
theorem i_uint64 : TI P 227 (.int .u64 0) 1 8 := TI_of (by kernel_rfl)
abbrev t_spec_l01Source : TypeId := 229
theorem u_spec_l01Source : P.underlying 229 = some (.struct #[{ name := "code", type := 76, offset := 0, embedded := false, tag := "", pkgPath := "loop.example/g01172/spec", byteOffset := 0 }, { name := "at", type := 3, offset := 1, embedded := false, tag := "", pkgPath := "loop.example/g01172/spec", byteOffset := 24 }, { name := "hash", type := 227, offset := 2, embedded := false, tag := "", pkgPath := "loop.example/g01172/spec", byteOffset := 32 }]) := Tryz.underlying229
theorem i_spec_l01Source : TI P 229 (.agg #[(.slice none 0 0), (.int .i64 0), (.int .u64 0)]) 3 40 := TI_of (by kernel_rfl)
abbrev t_p_uint8 : TypeId := 282
theorem u_p_uint8 : P.underlying 282 = some (.pointer 5) := Tryz.underlying282
theorem i_p_uint8 : TI P 282 (.pointer none) 1 8 := TI_of (by kernel_rfl)
@[simp] theorem l_s_s_float32 {w : World} {K : Value → Prop} {ty : TypeId} (a : Option Addr) (n c : Nat) : bl0 P .len #[22] ty [.slice a n c] w K = K (.int .i64 n) := bl0_len u_s_s_float32
@[simp] theorem l_s_int64 {w : World} {K : Value → Prop} {ty : TypeId} (a : Option Addr) (n c : Nat) : bl0 P .len #[24] ty [.slice a n c] w K = K (.int .i64 n) := bl0_len u_s_int64
@[simp] theorem d_impl_Whole_0 {w : World} {K : Value → Prop} (a : Addr) : fda P 26 (.pointer (some a)) 0 w K = K (.pointer (some (a.add 0))) := fda_off (s := 1) u_impl_Whole rfl i_int64 (by decide)
@[simp] theorem d_impl_Whole_1 {w : World} {K : Value → Prop} (a : Addr) : fda P 26 (.pointer (some a)) 1 w K = K (.pointer (some (a.add 1))) := fda_off (s := 1) u_impl_Whole rfl i_s_int64 (by decide)
@[simp] theorem d_impl_Dyadic_0 {w : World} {K : Value → Prop} (a : Addr) : fda P 28 (.pointer (some a)) 0 w K = K (.pointer (some (a.add 0))) := fda_off (s := 2) u_impl_Dyadic rfl i_impl_Whole (by decide)
@[simp] theorem d_impl_Dyadic_1 {w : World} {K : Value → Prop} (a : Addr) : fda P 28 (.pointer (some a)) 1 w K = K (.pointer (some (a.add 2))) := fda_off (s := 1) u_impl_Dyadic rfl i_int64 (by decide)
@[simp] theorem l_s_float32 {w : World} {K : Value → Prop} {ty : TypeId} (a : Option Addr) (n c : Nat) : bl0 P .len #[41] ty [.slice a n c] w K = K (.int .i64 n) := bl0_len u_s_float32
@[simp] theorem l_s_laws_Interval {w : World} {K : Value → Prop} {ty : TypeId} (a : Option Addr) (n c : Nat) : bl0 P .len #[48] ty [.slice a n c] w K = K (.int .i64 n) := bl0_len u_s_laws_Interval
@[simp] theorem l_s_impl_Interval {w : World} {K : Value → Prop} {ty : TypeId} (a : Option Addr) (n c : Nat) : bl0 P .len #[50] ty [.slice a n c] w K = K (.int .i64 n) := bl0_len u_s_impl_Interval
@[simp] theorem d_impl_Interval_0 {w : World} {K : Value → Prop} (a : Addr) : fda P 61 (.pointer (some a)) 0 w K = K (.pointer (some (a.add 0))) := fda_off (s := 1) u_impl_Interval rfl i_float32 (by decide)
@[simp] theorem d_impl_Interval_1 {w : World} {K : Value → Prop} (a : Addr) : fda P 61 (.pointer (some a)) 1 w K = K (.pointer (some (a.add 1))) := fda_off (s := 1) u_impl_Interval rfl i_float32 (by decide)
@[simp] theorem l_s_s_impl_Interval {w : World} {K : Value → Prop} {ty : TypeId} (a : Option Addr) (n c : Nat) : bl0 P .len #[71] ty [.slice a n c] w K = K (.int .i64 n) := bl0_len u_s_s_impl_Interval
@[simp] theorem l_s_uint8 {w : World} {K : Value → Prop} {ty : TypeId} (a : Option Addr) (n c : Nat) : bl0 P .len #[76] ty [.slice a n c] w K = K (.int .i64 n) := bl0_len u_s_uint8
@[simp] theorem d_impl_Elimination_0 {w : World} {K : Value → Prop} (a : Addr) : fda P 80 (.pointer (some a)) 0 w K = K (.pointer (some (a.add 0))) := fda_off (s := 1) u_impl_Elimination rfl i_s_int64 (by decide)
@[simp] theorem d_impl_Elimination_1 {w : World} {K : Value → Prop} (a : Addr) : fda P 80 (.pointer (some a)) 1 w K = K (.pointer (some (a.add 1))) := fda_off (s := 1) u_impl_Elimination rfl i_s_s_float32 (by decide)
@[simp] theorem d_impl_num_0 {w : World} {K : Value → Prop} (a : Addr) : fda P 105 (.pointer (some a)) 0 w K = K (.pointer (some (a.add 0))) := fda_off (s := 1) u_impl_num rfl i_p_impl_integer (by decide)
@[simp] theorem d_impl_num_1 {w : World} {K : Value → Prop} (a : Addr) : fda P 105 (.pointer (some a)) 1 w K = K (.pointer (some (a.add 1))) := fda_off (s := 1) u_impl_num rfl i_int (by decide)
@[simp] theorem d_laws_Interval_0 {w : World} {K : Value → Prop} (a : Addr) : fda P 129 (.pointer (some a)) 0 w K = K (.pointer (some (a.add 0))) := fda_off (s := 1) u_laws_Interval rfl i_float32 (by decide)
@[simp] theorem d_laws_Interval_1 {w : World} {K : Value → Prop} (a : Addr) : fda P 129 (.pointer (some a)) 1 w K = K (.pointer (some (a.add 1))) := fda_off (s := 1) u_laws_Interval rfl i_float32 (by decide)
@[simp] theorem d_impl_certificate_0 {w : World} {K : Value → Prop} (a : Addr) : fda P 149 (.pointer (some a)) 0 w K = K (.pointer (some (a.add 0))) := fda_off (s := 2) u_impl_certificate rfl i_impl_Elimination (by decide)
@[simp] theorem d_impl_certificate_1 {w : World} {K : Value → Prop} (a : Addr) : fda P 149 (.pointer (some a)) 1 w K = K (.pointer (some (a.add 2))) := fda_off (s := 1) u_impl_certificate rfl i_s_s_float32 (by decide)
@[simp] theorem d_impl_certificate_2 {w : World} {K : Value → Prop} (a : Addr) : fda P 149 (.pointer (some a)) 2 w K = K (.pointer (some (a.add 3))) := fda_off (s := 2) u_impl_certificate rfl i_impl_num (by decide)
@[simp] theorem l_s_uint32 {w : World} {K : Value → Prop} {ty : TypeId} (a : Option Addr) (n c : Nat) : bl0 P .len #[177] ty [.slice a n c] w K = K (.int .i64 n) := bl0_len u_s_uint32
@[simp] theorem d_impl_integer_0 {w : World} {K : Value → Prop} (a : Addr) : fda P 179 (.pointer (some a)) 0 w K = K (.pointer (some (a.add 0))) := fda_off (s := 1) u_impl_integer rfl i_bool (by decide)
@[simp] theorem d_impl_integer_1 {w : World} {K : Value → Prop} (a : Addr) : fda P 179 (.pointer (some a)) 1 w K = K (.pointer (some (a.add 1))) := fda_off (s := 1) u_impl_integer rfl i_s_uint32 (by decide)
@[simp] theorem l_s_impl_Dyadic {w : World} {K : Value → Prop} {ty : TypeId} (a : Option Addr) (n c : Nat) : bl0 P .len #[194] ty [.slice a n c] w K = K (.int .i64 n) := bl0_len u_s_impl_Dyadic
@[simp] theorem l_s_impl_num {w : World} {K : Value → Prop} {ty : TypeId} (a : Option Addr) (n c : Nat) : bl0 P .len #[196] ty [.slice a n c] w K = K (.int .i64 n) := bl0_len u_s_impl_num
@[simp] theorem l_s_s_p_impl_integer {w : World} {K : Value → Prop} {ty : TypeId} (a : Option Addr) (n c : Nat) : bl0 P .len #[211] ty [.slice a n c] w K = K (.int .i64 n) := bl0_len u_s_s_p_impl_integer
@[simp] theorem l_s_p_impl_integer {w : World} {K : Value → Prop} {ty : TypeId} (a : Option Addr) (n c : Nat) : bl0 P .len #[212] ty [.slice a n c] w K = K (.int .i64 n) := bl0_len u_s_p_impl_integer
@[simp] theorem d_spec_l01Source_0 {w : World} {K : Value → Prop} (a : Addr) : fda P 229 (.pointer (some a)) 0 w K = K (.pointer (some (a.add 0))) := fda_off (s := 1) u_spec_l01Source rfl i_s_uint8 (by decide)
@[simp] theorem d_spec_l01Source_1 {w : World} {K : Value → Prop} (a : Addr) : fda P 229 (.pointer (some a)) 1 w K = K (.pointer (some (a.add 1))) := fda_off (s := 1) u_spec_l01Source rfl i_int (by decide)
@[simp] theorem d_spec_l01Source_2 {w : World} {K : Value → Prop} (a : Addr) : fda P 229 (.pointer (some a)) 2 w K = K (.pointer (some (a.add 2))) := fda_off (s := 1) u_spec_l01Source rfl i_uint64 (by decide)
end Go.Proofs.YtabgkpfcpncmhaaGreat

/- Written by a program (gen.py): what is left to show of each function's call. -/
set_option linter.unusedVariables false
set_option maxRecDepth 20000
namespace Go.Proofs.YtabgkpfcpncmhaaGreat
open Go Go.Vc

/-- impl.parts -/
def D_impl_parts (a0 : Value) (w : World) (K : Value → World → Prop) : Prop :=
  call P f_math_Float32bits [a0] w fun x8_1 w2 =>
  bin P .shr 221 false true x8_1 (.int .u64 23) w2 fun x10_3 =>
  bin P .and 221 false true x10_3 (.int .u32 255) w2 fun x11_4 =>
  cnv P 221 2 x11_4 w2 fun x12_5 =>
  bin P .and 221 false true x8_1 (.int .u32 8388607) w2 fun x14_6 =>
  cnv P 221 2 x14_6 w2 fun x15_7 =>
  ∃ J8 : Value → Value → World → Prop, (∀ (x5_11 : Value) (x6_12 : Value) (junk9 : Env) (w10 : World), J8 x5_11 x6_12 w10 →
    bin P .shr 221 false true x8_1 (.int .u64 31) w10 fun x21_13 =>
    bin P .neq 221 false true x21_13 (.int .u32 0) w10 fun x22_14 =>
    cnd x22_14
      (una P .neg x6_12 w10 fun x24_15 =>
      bin P .sub 2 false true x5_11 (.int .i64 150) w10 fun x27_16 =>
      K (.tuple #[x24_15, x27_16]) w10)
      (bin P .sub 2 false true x5_11 (.int .i64 150) w10 fun x27_17 =>
      K (.tuple #[x6_12, x27_17]) w10)) ∧
    (bin P .gtr 2 false true x12_5 (.int .i64 0) w2 fun x17_18 =>
    cnd x17_18
      (bin P .add 2 false true x15_7 (.int .i64 8388608) w2 fun x19_19 =>
      J8 x12_5 x19_19 w2)
      (J8 (.int .i64 1) x15_7 w2))
def P_impl_parts : Plan := (.seq (.reg [.op (0, 0, false), .op (1, 0, false)]) (.seq (.reg [.op (0, 0, false), .op (1, 2, false), .op (2, 0, false)]) (.seq (.reg [.op (0, 0, false), .op (1, 0, false), .op (2, 0, false), .op (3, 0, false), .op (4, 0, false), .op (5, 0, false), .op (6, 0, false), .op (7, 0, false), .op (8, 0, false)]) (.cut [5, 6] 983136 (.seq (.reg [.op (0, 0, false), .op (1, 0, false)]) (.cond (.reg [.op (0, 0, false), .op (1, 0, false), .op (2, 0, false)]) (.reg [.op (0, 0, false)]))) (.seq (.seq (.reg [.op (0, 0, false), .op (1, 0, false), .op (2, 0, false)]) (.cond (.reg [.op (0, 0, false), .op (1, 0, false), .op (2, 0, false)]) .leaf)) (.seq (.reg [.op (0, 0, false), .op (1, 0, false), .op (2, 0, false), .op (3, 0, false), .op (4, 0, false)]) .leaf))))))
theorem I_impl_parts {a0 : Value} {w : World} {K : Value → World → Prop} (h : D_impl_parts a0 w K) : call P f_impl_parts [a0] w K :=
  call_of_vc mixed Tryz.func181 (c := codeOf Tryz.f181) (by kernel_rfl) (by kernel_rfl) (p := P_impl_parts) (by kernel_rfl) (by rw [Tryz.ntmps181]; simp) (by
    have e : D_impl_parts a0 w K = vc P P_impl_parts (codeOf Tryz.f181) (env0 [a0]) w (retX P Tryz.f181.results.toList K) := by kernel_rfl
    exact e ▸ h)

/-- impl.atPlace -/
def D_impl_atPlace (a0 : Value) (w : World) (K : Value → World → Prop) : Prop :=
  bin P .lss 2 false true a0 (.int .i64 0) w fun x4_1 =>
  cnd x4_1
    (una P .neg a0 w fun x6_2 =>
    cnv P 2 221 x6_2 w fun x7_3 =>
    bin P .or 221 false true x7_3 (.int .u32 2147483648) w fun x8_4 =>
    call P f_math_Float32frombits [x8_4] w fun x9_5 w6 =>
    K x9_5 w6)
    (cnv P 2 221 a0 w fun x11_7 =>
    call P f_math_Float32frombits [x11_7] w fun x12_8 w9 =>
    K x12_8 w9)
def P_impl_atPlace : Plan := (.seq (.reg [.op (0, 0, false)]) (.seq (.seq (.reg [.op (0, 0, false), .op (1, 0, false)]) (.cond (.seq (.reg [.op (0, 0, false), .op (1, 0, false), .op (2, 0, false), .op (3, 0, false), .op (4, 2, false), .op (5, 0, false)]) .leaf) .leaf)) (.seq (.reg [.op (0, 0, false), .op (1, 0, false), .op (2, 2, false), .op (3, 0, false)]) .leaf)))
theorem I_impl_atPlace {a0 : Value} {w : World} {K : Value → World → Prop} (h : D_impl_atPlace a0 w K) : call P f_impl_atPlace [a0] w K :=
  call_of_vc mixed Tryz.func186 (c := codeOf Tryz.f186) (by kernel_rfl) (by kernel_rfl) (p := P_impl_atPlace) (by kernel_rfl) (by rw [Tryz.ntmps186]; simp) (by
    have e : D_impl_atPlace a0 w K = vc P P_impl_atPlace (codeOf Tryz.f186) (env0 [a0]) w (retX P Tryz.f186.results.toList K) := by kernel_rfl
    exact e ▸ h)

/-- impl.infinite -/
def D_impl_infinite (a0 : Value) (w : World) (K : Value → World → Prop) : Prop :=
  call P f_math_Inf [a0] w fun x4_1 w2 =>
  rcnv P 39 35 x4_1 w2 fun x5_3 =>
  K x5_3 w2
def P_impl_infinite : Plan := (.seq (.reg [.op (0, 0, false)]) (.seq (.reg [.op (0, 0, false), .op (1, 2, false), .op (2, 1, false), .op (3, 0, false)]) .leaf))
theorem I_impl_infinite {a0 : Value} {w : World} {K : Value → World → Prop} (h : D_impl_infinite a0 w K) : call P f_impl_infinite [a0] w K :=
  call_of_vc mixed Tryz.func187 (c := codeOf Tryz.f187) (by kernel_rfl) (by kernel_rfl) (p := P_impl_infinite) (by kernel_rfl) (by rw [Tryz.ntmps187]; simp) (by
    have e : D_impl_infinite a0 w K = vc P P_impl_infinite (codeOf Tryz.f187) (env0 [a0]) w (retX P Tryz.f187.results.toList K) := by kernel_rfl
    exact e ▸ h)

/-- impl.isFinite -/
def D_impl_isFinite (a0 : Value) (w : World) (K : Value → World → Prop) : Prop :=
  call P f_math_Float32bits [a0] w fun x4_1 w2 =>
  bin P .shr 221 false true x4_1 (.int .u64 23) w2 fun x5_3 =>
  bin P .and 221 false true x5_3 (.int .u32 255) w2 fun x6_4 =>
  bin P .neq 221 false true x6_4 (.int .u32 255) w2 fun x7_5 =>
  K x7_5 w2
def P_impl_isFinite : Plan := (.seq (.reg [.op (0, 0, false)]) (.seq (.reg [.op (0, 0, false), .op (1, 2, false), .op (2, 0, false), .op (3, 0, false), .op (4, 0, false), .op (5, 0, false)]) .leaf))
theorem I_impl_isFinite {a0 : Value} {w : World} {K : Value → World → Prop} (h : D_impl_isFinite a0 w K) : call P f_impl_isFinite [a0] w K :=
  call_of_vc mixed Tryz.func226 (c := codeOf Tryz.f226) (by kernel_rfl) (by kernel_rfl) (p := P_impl_isFinite) (by kernel_rfl) (by rw [Tryz.ntmps226]; simp) (by
    have e : D_impl_isFinite a0 w K = vc P P_impl_isFinite (codeOf Tryz.f226) (env0 [a0]) w (retX P Tryz.f226.results.toList K) := by kernel_rfl
    exact e ▸ h)

end Go.Proofs.YtabgkpfcpncmhaaGreat

/- Written by a program (gen.py): what is left to show of each function's call. -/
set_option linter.unusedVariables false
set_option maxRecDepth 20000
namespace Go.Proofs.YtabgkpfcpncmhaaGreat
open Go Go.Vc

/-- impl.areFinite -/
def D_impl_areFinite (a0 : Value) (w : World) (K : Value → World → Prop) : Prop :=
  bl0 P .len #[41] 3 [a0] w fun x6_1 =>
  ∃ I2 : Nat → Value → World → Prop, (∃ m15, I2 m15 (.int .i64 0) w) ∧ ∀ (m5 : Nat) (x7_6 : Value) (junk3 : Env) (w4 : World), I2 m5 x7_6 w4 →
    bin P .lss 3 false false x7_6 x6_1 w4 fun x8_7 =>
    cnd x8_7
      (ixa P 41 a0 x7_6 w4 fun x9_8 =>
      ld P 35 x9_8 w4 fun x10_9 =>
      call P f_impl_isFinite [x10_9] w4 fun x12_10 w11 =>
      una P .not x12_10 w11 fun x13_12 =>
      cnd x13_12
        (K (.bool false) w11)
        (bin P .add 3 false true x7_6 (.int .i64 1) w11 fun x14_13 =>
        ∃ m14, m14 < m5 ∧ I2 m14 x14_13 w11))
      (K (.bool true) w4)
def P_impl_areFinite : Plan := (.seq (.reg [.op (0, 0, false)]) (.seq (.seq (.reg [.op (0, 0, false), .op (1, 0, false), .op (2, 0, false)]) (.blk (.loop [7] 32660 (.seq (.reg [.op (0, 0, false)]) (.seq (.cond .leaf .leaf) (.seq (.blk (.seq (.reg [.op (0, 0, false), .op (1, 0, false), .op (2, 0, false)]) (.seq (.reg [.op (0, 0, false), .op (1, 2, false), .op (2, 0, false)]) (.cond (.seq (.reg [.op (0, 0, false)]) .leaf) .leaf)))) (.reg [.op (0, 0, false), .op (1, 0, false)]))))))) (.seq (.reg [.op (0, 0, false)]) .leaf)))
theorem I_impl_areFinite {a0 : Value} {w : World} {K : Value → World → Prop} (h : D_impl_areFinite a0 w K) : call P f_impl_areFinite [a0] w K :=
  call_of_vc mixed Tryz.func135 (c := codeOf Tryz.f135) (by kernel_rfl) (by kernel_rfl) (p := P_impl_areFinite) (by kernel_rfl) (by rw [Tryz.ntmps135]; simp) (by
    have e : D_impl_areFinite a0 w K = vc P P_impl_areFinite (codeOf Tryz.f135) (env0 [a0]) w (retX P Tryz.f135.results.toList K) := by kernel_rfl
    exact e ▸ h)

end Go.Proofs.YtabgkpfcpncmhaaGreat

/- Written by a program (gen.py): what is left to show of each function's call. -/
set_option linter.unusedVariables false
set_option maxRecDepth 20000
namespace Go.Proofs.YtabgkpfcpncmhaaGreat
open Go Go.Vc

/-- spec.l01Abs -/
def D_spec_l01Abs (a0 : Value) (w : World) (K : Value → World → Prop) : Prop :=
  bin P .lss 35 false true a0 (.float .f32 0) w fun x4_1 =>
  cnd x4_1
    (una P .neg a0 w fun x6_2 =>
    K x6_2 w)
    (bin P .eql 35 false true a0 (.float .f32 0) w fun x8_3 =>
    cnd x8_3
      (K (.float .f32 0) w)
      (K a0 w))
def P_spec_l01Abs : Plan := (.seq (.reg [.op (0, 0, false)]) (.seq (.seq (.reg [.op (0, 0, false), .op (1, 0, false)]) (.cond (.seq (.reg [.op (0, 0, false), .op (1, 0, false), .op (2, 0, false)]) .leaf) .leaf)) (.seq (.seq (.reg [.op (0, 0, false), .op (1, 0, false)]) (.cond (.seq (.reg [.op (0, 0, false)]) .leaf) .leaf)) (.seq (.reg [.op (0, 0, false), .op (1, 0, false)]) .leaf))))
theorem I_spec_l01Abs {a0 : Value} {w : World} {K : Value → World → Prop} (h : D_spec_l01Abs a0 w K) : call P f_spec_l01Abs [a0] w K :=
  call_of_vc mixed Tryz.func98 (c := codeOf Tryz.f98) (by kernel_rfl) (by kernel_rfl) (p := P_spec_l01Abs) (by kernel_rfl) (by rw [Tryz.ntmps98]; simp) (by
    have e : D_spec_l01Abs a0 w K = vc P P_spec_l01Abs (codeOf Tryz.f98) (env0 [a0]) w (retX P Tryz.f98.results.toList K) := by kernel_rfl
    exact e ▸ h)

/-- spec.l01In -/
def D_spec_l01In (a0 a1 a2 : Value) (w : World) (K : Value → World → Prop) : Prop :=
  bin P .geq 2 false false a0 a1 w fun x9_1 =>
  ∃ J2 : Value → World → Prop, (∀ (x13_3 : Value) (junk5 : Env) (w4 : World), J2 x13_3 w4 →
    pick x9_1 x13_3 (.bool false) fun x14_6 =>
    K x14_6 w4) ∧
    grd x9_1 true
      (bin P .leq 2 false false a0 a2 w fun x13_7 =>
      J2 x13_7 w)
      (J2 undef w)
def P_spec_l01In : Plan := (.seq (.reg [.op (0, 0, false)]) (.seq (.reg [.op (0, 0, false), .op (1, 0, false), .op (2, 0, false), .op (3, 0, false), .grp 3 true [(4, 0, false), (5, 0, false), (6, 0, false)] [13] 14336, .op (7, 0, false), .op (8, 0, false)]) .leaf))
theorem I_spec_l01In {a0 a1 a2 : Value} {w : World} {K : Value → World → Prop} (h : D_spec_l01In a0 a1 a2 w K) : call P f_spec_l01In [a0, a1, a2] w K :=
  call_of_vc mixed Tryz.func127 (c := codeOf Tryz.f127) (by kernel_rfl) (by kernel_rfl) (p := P_spec_l01In) (by kernel_rfl) (by rw [Tryz.ntmps127]; simp) (by
    have e : D_spec_l01In a0 a1 a2 w K = vc P P_spec_l01In (codeOf Tryz.f127) (env0 [a0, a1, a2]) w (retX P Tryz.f127.results.toList K) := by kernel_rfl
    exact e ▸ h)

/-- spec.l01Finite -/
def D_spec_l01Finite (a0 : Value) (w : World) (K : Value → World → Prop) : Prop :=
  rbin P .sub 35 false false a0 a0 w fun x5_1 =>
  bin P .eql 35 false true x5_1 (.float .f32 0) w fun x6_2 =>
  K x6_2 w
def P_spec_l01Finite : Plan := (.seq (.reg [.op (0, 0, false)]) (.seq (.reg [.op (0, 0, false), .op (1, 0, false), .op (2, 1, false), .op (3, 0, false), .op (4, 0, false)]) .leaf))
theorem I_spec_l01Finite {a0 : Value} {w : World} {K : Value → World → Prop} (h : D_spec_l01Finite a0 w K) : call P f_spec_l01Finite [a0] w K :=
  call_of_vc mixed Tryz.func131 (c := codeOf Tryz.f131) (by kernel_rfl) (by kernel_rfl) (p := P_spec_l01Finite) (by kernel_rfl) (by rw [Tryz.ntmps131]; simp) (by
    have e : D_spec_l01Finite a0 w K = vc P P_spec_l01Finite (codeOf Tryz.f131) (env0 [a0]) w (retX P Tryz.f131.results.toList K) := by kernel_rfl
    exact e ▸ h)

/-- spec.l01Parts -/
def D_spec_l01Parts (a0 : Value) (w : World) (K : Value → World → Prop) : Prop :=
  call P f_spec_l01Abs [a0] w fun x7_1 w2 =>
  rcnv P 35 39 x7_1 w2 fun x8_3 =>
  call P f_spec_l01Twos [x8_3, (.int .i64 149)] w2 fun x9_4 w5 =>
  ∃ I6 : Nat → Value → Value → World → Prop, (∃ m17, I6 m17 (.int .i64 (-149)) x9_4 w5) ∧ ∀ (m9 : Nat) (x4_10 : Value) (x5_11 : Value) (junk7 : Env) (w8 : World), I6 m9 x4_10 x5_11 w8 →
    bin P .geq 39 false true x5_11 (.float .f64 4715268809856909312) w8 fun x11_12 =>
    cnd x11_12
      (rbin P .quo 39 false true x5_11 (.float .f64 4611686018427387904) w8 fun x13_13 =>
      bin P .add 2 false true x4_10 (.int .i64 1) w8 fun x15_14 =>
      ∃ m15, m15 < m9 ∧ I6 m15 x15_14 x13_13 w8)
      (rcnv P 39 2 x5_11 w8 fun x17_16 =>
      K (.tuple #[x17_16, x4_10]) w8)
def P_spec_l01Parts : Plan := (.seq (.reg [.op (0, 0, false), .op (1, 0, false)]) (.seq (.reg [.op (0, 0, false), .op (1, 2, false), .op (2, 1, false), .op (3, 2, false), .op (4, 0, false), .op (5, 0, false)]) (.seq (.blk (.loop [4, 5] 64560 (.seq (.seq (.reg [.op (0, 0, false), .op (1, 0, false)]) (.cond .leaf .leaf)) (.blk (.seq (.reg [.op (0, 0, false), .op (1, 1, false), .op (2, 0, false)]) (.reg [.op (0, 0, false), .op (1, 0, false), .op (2, 0, false)])))))) (.seq (.reg [.op (0, 0, false), .op (1, 1, false), .op (2, 0, false), .op (3, 0, false), .op (4, 0, false)]) .leaf))))
theorem I_spec_l01Parts {a0 : Value} {w : World} {K : Value → World → Prop} (h : D_spec_l01Parts a0 w K) : call P f_spec_l01Parts [a0] w K :=
  call_of_vc mixed Tryz.func177 (c := codeOf Tryz.f177) (by kernel_rfl) (by kernel_rfl) (p := P_spec_l01Parts) (by kernel_rfl) (by rw [Tryz.ntmps177]; simp) (by
    have e : D_spec_l01Parts a0 w K = vc P P_spec_l01Parts (codeOf Tryz.f177) (env0 [a0]) w (retX P Tryz.f177.results.toList K) := by kernel_rfl
    exact e ▸ h)

/-- spec.l01Twos -/
def D_spec_l01Twos (a0 a1 : Value) (w : World) (K : Value → World → Prop) : Prop :=
  ∃ I1 : Nat → Value → Value → World → Prop, (∃ m22, I1 m22 a0 a1 w) ∧ ∀ (m4 : Nat) (x0_5 : Value) (x1_6 : Value) (junk2 : Env) (w3 : World), I1 m4 x0_5 x1_6 w3 →
    bin P .gtr 2 false true x1_6 (.int .i64 0) w3 fun x6_7 =>
    cnd x6_7
      (rbin P .mul 39 false true x0_5 (.float .f64 4611686018427387904) w3 fun x10_8 =>
      bin P .sub 2 false true x1_6 (.int .i64 1) w3 fun x8_9 =>
      ∃ m10, m10 < m4 ∧ I1 m10 x10_8 x8_9 w3)
      (∃ I11 : Nat → Value → Value → World → Prop, (∃ m21, I11 m21 x0_5 x1_6 w3) ∧ ∀ (m14 : Nat) (x0_15 : Value) (x1_16 : Value) (junk12 : Env) (w13 : World), I11 m14 x0_15 x1_16 w13 →
        bin P .lss 2 false true x1_16 (.int .i64 0) w13 fun x12_17 =>
        cnd x12_17
          (rbin P .quo 39 false true x0_15 (.float .f64 4611686018427387904) w13 fun x16_18 =>
          bin P .add 2 false true x1_16 (.int .i64 1) w13 fun x14_19 =>
          ∃ m20, m20 < m14 ∧ I11 m20 x16_18 x14_19 w13)
          (K x0_15 w13))
def P_spec_l01Twos : Plan := (.seq (.reg [.op (0, 0, false)]) (.seq (.blk (.loop [0, 1] 2019 (.seq (.seq (.reg [.op (0, 0, false), .op (1, 0, false)]) (.cond .leaf .leaf)) (.seq (.blk (.reg [.op (0, 0, false), .op (1, 1, false), .op (2, 0, false)])) (.reg [.op (0, 0, false), .op (1, 0, false), .op (2, 0, false)]))))) (.seq (.blk (.loop [0, 1] 129027 (.seq (.seq (.reg [.op (0, 0, false), .op (1, 0, false)]) (.cond .leaf .leaf)) (.seq (.blk (.reg [.op (0, 0, false), .op (1, 1, false), .op (2, 0, false)])) (.reg [.op (0, 0, false), .op (1, 0, false), .op (2, 0, false)]))))) (.seq (.reg [.op (0, 0, false), .op (1, 0, false)]) .leaf))))
theorem I_spec_l01Twos {a0 a1 : Value} {w : World} {K : Value → World → Prop} (h : D_spec_l01Twos a0 a1 w K) : call P f_spec_l01Twos [a0, a1] w K :=
  call_of_vc mixed Tryz.func209 (c := codeOf Tryz.f209) (by kernel_rfl) (by kernel_rfl) (p := P_spec_l01Twos) (by kernel_rfl) (by rw [Tryz.ntmps209]; simp) (by
    have e : D_spec_l01Twos a0 a1 w K = vc P P_spec_l01Twos (codeOf Tryz.f209) (env0 [a0, a1]) w (retX P Tryz.f209.results.toList K) := by kernel_rfl
    exact e ▸ h)

/-- spec.l01Turned -/
def D_spec_l01Turned (a0 : Value) (w : World) (K : Value → World → Prop) : Prop :=
  rbin P .mul 35 false true a0 (.float .f32 3212836864) w fun x4_1 =>
  K x4_1 w
def P_spec_l01Turned : Plan := (.seq (.reg [.op (0, 0, false)]) (.seq (.reg [.op (0, 0, false), .op (1, 1, false), .op (2, 0, false)]) .leaf))
theorem I_spec_l01Turned {a0 : Value} {w : World} {K : Value → World → Prop} (h : D_spec_l01Turned a0 w K) : call P f_spec_l01Turned [a0] w K :=
  call_of_vc mixed Tryz.func210 (c := codeOf Tryz.f210) (by kernel_rfl) (by kernel_rfl) (p := P_spec_l01Turned) (by kernel_rfl) (by rw [Tryz.ntmps210]; simp) (by
    have e : D_spec_l01Turned a0 w K = vc P P_spec_l01Turned (codeOf Tryz.f210) (env0 [a0]) w (retX P Tryz.f210.results.toList K) := by kernel_rfl
    exact e ▸ h)

/-- spec.l01Huge -/
def D_spec_l01Huge (w : World) (K : Value → World → Prop) : Prop :=
  rbin P .mul 35 false true (.float .f32 2137108966) (.float .f32 1092616192) w fun x3_1 =>
  K x3_1 w
def P_spec_l01Huge : Plan := (.seq (.reg [.op (0, 0, false)]) (.seq (.reg [.op (0, 0, false)]) (.seq (.reg [.op (0, 0, false), .op (1, 1, false), .op (2, 0, false)]) .leaf)))
theorem I_spec_l01Huge {w : World} {K : Value → World → Prop} (h : D_spec_l01Huge  w K) : call P f_spec_l01Huge [] w K :=
  call_of_vc mixed Tryz.func218 (c := codeOf Tryz.f218) (by kernel_rfl) (by kernel_rfl) (p := P_spec_l01Huge) (by kernel_rfl) (by rw [Tryz.ntmps218]; simp) (by
    have e : D_spec_l01Huge  w K = vc P P_spec_l01Huge (codeOf Tryz.f218) (env0 []) w (retX P Tryz.f218.results.toList K) := by kernel_rfl
    exact e ▸ h)

/-- spec.l01At -/
def D_spec_l01At (a0 : Value) (w : World) (K : Value → World → Prop) : Prop :=
  bin P .lss 2 false true a0 (.int .i64 0) w fun x6_1 =>
  cnd x6_1
    (una P .neg a0 w fun x8_2 =>
    call P f_spec_l01At [x8_2] w fun x9_3 w4 =>
    una P .neg x9_3 w4 fun x10_5 =>
    K x10_5 w4)
    (bin P .shr 2 false true a0 (.int .u64 23) w fun x12_6 =>
    bin P .and 2 false true a0 (.int .i64 8388607) w fun x14_7 =>
    bin P .eql 2 false true x12_6 (.int .i64 255) w fun x17_8 =>
    cnd x17_8
      (call P f_spec_l01Huge [] w fun x18_9 w10 =>
      K x18_9 w10)
      (bin P .eql 2 false true x12_6 (.int .i64 0) w fun x21_11 =>
      cnd x21_11
        (cnv P 2 39 x14_7 w fun x23_12 =>
        call P f_spec_l01Twos [x23_12, (.int .i64 (-149))] w fun x24_13 w14 =>
        rcnv P 39 35 x24_13 w14 fun x25_15 =>
        K x25_15 w14)
        (bin P .add 2 false true x14_7 (.int .i64 8388608) w fun x27_16 =>
        cnv P 2 39 x27_16 w fun x28_17 =>
        bin P .sub 2 false true x12_6 (.int .i64 150) w fun x30_18 =>
        call P f_spec_l01Twos [x28_17, x30_18] w fun x31_19 w20 =>
        rcnv P 39 35 x31_19 w20 fun x32_21 =>
        K x32_21 w20)))
def P_spec_l01At : Plan := (.seq (.reg [.op (0, 0, false)]) (.seq (.seq (.reg [.op (0, 0, false), .op (1, 0, false)]) (.cond (.seq (.reg [.op (0, 0, false), .op (1, 0, false), .op (2, 2, false), .op (3, 0, false), .op (4, 0, false)]) .leaf) .leaf)) (.seq (.reg [.op (0, 0, false), .op (1, 0, false), .op (2, 0, false), .op (3, 0, false), .op (4, 0, false), .op (5, 0, false)]) (.seq (.blk (.seq (.reg [.op (0, 0, false), .op (1, 0, false), .op (2, 0, false)]) (.cond (.seq (.reg [.op (0, 2, false), .op (1, 0, false)]) .leaf) (.seq (.reg [.op (0, 0, false), .op (1, 0, false), .op (2, 0, false)]) (.cond (.seq (.reg [.op (0, 0, false), .op (1, 0, false), .op (2, 2, false), .op (3, 1, false), .op (4, 0, false)]) .leaf) .leaf))))) (.seq (.reg [.op (0, 0, false), .op (1, 0, false), .op (2, 0, false), .op (3, 0, false), .op (4, 0, false), .op (5, 2, false), .op (6, 1, false), .op (7, 0, false)]) .leaf)))))
theorem I_spec_l01At {a0 : Value} {w : World} {K : Value → World → Prop} (h : D_spec_l01At a0 w K) : call P f_spec_l01At [a0] w K :=
  call_of_vc mixed Tryz.func272 (c := codeOf Tryz.f272) (by kernel_rfl) (by kernel_rfl) (p := P_spec_l01At) (by kernel_rfl) (by rw [Tryz.ntmps272]; simp) (by
    have e : D_spec_l01At a0 w K = vc P P_spec_l01At (codeOf Tryz.f272) (env0 [a0]) w (retX P Tryz.f272.results.toList K) := by kernel_rfl
    exact e ▸ h)

/-- spec.l01Own -/
def D_spec_l01Own (a0 : Value) (w : World) (K : Value → World → Prop) : Prop :=
  bsl P 24 0 [] w fun x3_1 w2 =>
  bl2 P .append #[24, 24] 24 [x3_1, a0] w2 fun x5_3 w4 =>
  K x5_3 w4
def P_spec_l01Own : Plan := (.seq (.reg [.op (0, 0, false)]) (.seq (.reg [.op (0, 2, false), .op (1, 0, false), .op (2, 2, false), .op (3, 0, false)]) .leaf))
theorem I_spec_l01Own {a0 : Value} {w : World} {K : Value → World → Prop} (h : D_spec_l01Own a0 w K) : call P f_spec_l01Own [a0] w K :=
  call_of_vc mixed Tryz.func284 (c := codeOf Tryz.f284) (by kernel_rfl) (by kernel_rfl) (p := P_spec_l01Own) (by kernel_rfl) (by rw [Tryz.ntmps284]; simp) (by
    have e : D_spec_l01Own a0 w K = vc P P_spec_l01Own (codeOf Tryz.f284) (env0 [a0]) w (retX P Tryz.f284.results.toList K) := by kernel_rfl
    exact e ▸ h)

end Go.Proofs.YtabgkpfcpncmhaaGreat

/- Written by a program (gen.py): what is left to show of each function's call. -/
set_option linter.unusedVariables false
set_option maxRecDepth 20000
namespace Go.Proofs.YtabgkpfcpncmhaaGreat
open Go Go.Vc

/-- laws.szFloat32SS -/
def D_laws_szFloat32SS (a0 a1 : Value) (w : World) (K : Value → World → Prop) : Prop :=
  bl0 P .len #[22] 3 [a0] w fun x8_1 =>
  bin P .sub 3 false false a1 x8_1 w fun x9_2 =>
  bin P .lss 3 false true x9_2 (.int .i64 0) w fun x11_3 =>
  cnd x11_3
    (K (.int .i64 (-1)) w)
    (∃ I4 : Nat → Value → Value → World → Prop, (∃ m19, I4 m19 x9_2 (.int .i64 0) w) ∧ ∀ (m7 : Nat) (x1_8 : Value) (x5_9 : Value) (junk5 : Env) (w6 : World), I4 m7 x1_8 x5_9 w6 →
      bl0 P .len #[22] 3 [a0] w6 fun x14_10 =>
      bin P .lss 3 false false x5_9 x14_10 w6 fun x15_11 =>
      cnd x15_11
        (ixa P 22 a0 x5_9 w6 fun x20_12 =>
        ld P 41 x20_12 w6 fun x21_13 =>
        call P f_laws_szFloat32S [x21_13, x1_8] w6 fun x23_14 w15 =>
        bin P .lss 3 false true x23_14 (.int .i64 0) w15 fun x25_16 =>
        cnd x25_16
          (K (.int .i64 (-1)) w15)
          (bin P .add 3 false true x5_9 (.int .i64 1) w15 fun x17_17 =>
          ∃ m18, m18 < m7 ∧ I4 m18 x23_14 x17_17 w15))
        (K x1_8 w6))
def P_laws_szFloat32SS : Plan := (.seq (.reg [.op (0, 0, false)]) (.seq (.reg [.op (0, 0, false), .op (1, 0, false), .op (2, 0, false), .op (3, 0, false), .op (4, 0, false)]) (.seq (.seq (.reg [.op (0, 0, false), .op (1, 0, false)]) (.cond (.seq (.reg [.op (0, 0, false)]) .leaf) .leaf)) (.seq (.seq (.reg [.op (0, 0, false)]) (.blk (.loop [1, 5] 67104818 (.seq (.seq (.reg [.op (0, 0, false), .op (1, 0, false), .op (2, 0, false), .op (3, 0, false)]) (.cond .leaf .leaf)) (.seq (.blk (.seq (.reg [.op (0, 0, false), .op (1, 0, false), .op (2, 0, false), .op (3, 0, false), .op (4, 0, false), .op (5, 2, false), .op (6, 0, false)]) (.seq (.reg [.op (0, 0, false), .op (1, 0, false)]) (.cond (.seq (.reg [.op (0, 0, false)]) .leaf) .leaf)))) (.reg [.op (0, 0, false), .op (1, 0, false), .op (2, 0, false)])))))) (.seq (.reg [.op (0, 0, false), .op (1, 0, false)]) .leaf)))))
theorem I_laws_szFloat32SS {a0 a1 : Value} {w : World} {K : Value → World → Prop} (h : D_laws_szFloat32SS a0 a1 w K) : call P f_laws_szFloat32SS [a0, a1] w K :=
  call_of_vc mixed Tryz.func14 (c := codeOf Tryz.f14) (by kernel_rfl) (by kernel_rfl) (p := P_laws_szFloat32SS) (by kernel_rfl) (by rw [Tryz.ntmps14]; simp) (by
    have e : D_laws_szFloat32SS a0 a1 w K = vc P P_laws_szFloat32SS (codeOf Tryz.f14) (env0 [a0, a1]) w (retX P Tryz.f14.results.toList K) := by kernel_rfl
    exact e ▸ h)

/-- laws.toFloat32SS -/
def D_laws_toFloat32SS (a0 : Value) (w : World) (K : Value → World → Prop) : Prop :=
  bl0 P .len #[22] 3 [a0] w fun x6_1 =>
  mks P 22 x6_1 x6_1 w fun x7_2 w3 =>
  ∃ I4 : Nat → Value → World → Prop, (∃ m20, I4 m20 (.int .i64 0) w3) ∧ ∀ (m7 : Nat) (x4_8 : Value) (junk5 : Env) (w6 : World), I4 m7 x4_8 w6 →
    bl0 P .len #[22] 3 [a0] w6 fun x10_9 =>
    bin P .lss 3 false false x4_8 x10_9 w6 fun x11_10 =>
    cnd x11_10
      (ixa P 22 a0 x4_8 w6 fun x18_11 =>
      ld P 41 x18_11 w6 fun x19_12 =>
      call P f_laws_toFloat32S [x19_12] w6 fun x20_13 w14 =>
      ixa P 22 x7_2 x4_8 w14 fun x21_15 =>
      sto P 41 x21_15 x20_13 w14 fun w17 =>
      bin P .add 3 false true x4_8 (.int .i64 1) w17 fun x13_18 =>
      ∃ m19, m19 < m7 ∧ I4 m19 x13_18 w17)
      (K x7_2 w6)
def P_laws_toFloat32SS : Plan := (.seq (.reg [.op (0, 0, false)]) (.seq (.reg [.op (0, 0, false), .op (1, 0, false), .op (2, 2, false), .op (3, 0, false)]) (.seq (.seq (.reg [.op (0, 0, false)]) (.blk (.loop [4] 4194064 (.seq (.seq (.reg [.op (0, 0, false), .op (1, 0, false), .op (2, 0, false), .op (3, 0, false)]) (.cond .leaf .leaf)) (.seq (.blk (.reg [.op (0, 0, false), .op (1, 0, false), .op (2, 0, false), .op (3, 0, false), .op (4, 0, false), .op (5, 0, false), .op (6, 2, false), .op (7, 0, false), .op (8, 2, false)])) (.reg [.op (0, 0, false), .op (1, 0, false), .op (2, 0, false)])))))) (.seq (.reg [.op (0, 0, false), .op (1, 0, false)]) .leaf))))
theorem I_laws_toFloat32SS {a0 : Value} {w : World} {K : Value → World → Prop} (h : D_laws_toFloat32SS a0 w K) : call P f_laws_toFloat32SS [a0] w K :=
  call_of_vc mixed Tryz.func16 (c := codeOf Tryz.f16) (by kernel_rfl) (by kernel_rfl) (p := P_laws_toFloat32SS) (by kernel_rfl) (by rw [Tryz.ntmps16]; simp) (by
    have e : D_laws_toFloat32SS a0 w K = vc P P_laws_toFloat32SS (codeOf Tryz.f16) (env0 [a0]) w (retX P Tryz.f16.results.toList K) := by kernel_rfl
    exact e ▸ h)

/-- laws.eqFloat32SS -/
def D_laws_eqFloat32SS (a0 a1 : Value) (w : World) (K : Value → World → Prop) : Prop :=
  bl0 P .len #[22] 3 [a0] w fun x7_1 =>
  bl0 P .len #[22] 3 [a1] w fun x9_2 =>
  bin P .neq 3 false false x7_1 x9_2 w fun x10_3 =>
  cnd x10_3
    (K (.bool false) w)
    (∃ I4 : Nat → Value → World → Prop, (∃ m20, I4 m20 (.int .i64 0) w) ∧ ∀ (m7 : Nat) (x5_8 : Value) (junk5 : Env) (w6 : World), I4 m7 x5_8 w6 →
      bl0 P .len #[22] 3 [a0] w6 fun x13_9 =>
      bin P .lss 3 false false x5_8 x13_9 w6 fun x14_10 =>
      cnd x14_10
        (ixa P 22 a0 x5_8 w6 fun x19_11 =>
        ld P 41 x19_11 w6 fun x20_12 =>
        ixa P 22 a1 x5_8 w6 fun x23_13 =>
        ld P 41 x23_13 w6 fun x24_14 =>
        call P f_laws_eqFloat32S [x20_12, x24_14] w6 fun x25_15 w16 =>
        una P .not x25_15 w16 fun x26_17 =>
        cnd x26_17
          (K (.bool false) w16)
          (bin P .add 3 false true x5_8 (.int .i64 1) w16 fun x16_18 =>
          ∃ m19, m19 < m7 ∧ I4 m19 x16_18 w16))
        (K (.bool true) w6))
def P_laws_eqFloat32SS : Plan := (.seq (.reg [.op (0, 0, false)]) (.seq (.seq (.reg [.op (0, 0, false), .op (1, 0, false), .op (2, 0, false), .op (3, 0, false), .op (4, 0, false)]) (.cond (.seq (.reg [.op (0, 0, false)]) .leaf) .leaf)) (.seq (.seq (.reg [.op (0, 0, false)]) (.blk (.loop [5] 134215728 (.seq (.seq (.reg [.op (0, 0, false), .op (1, 0, false), .op (2, 0, false), .op (3, 0, false)]) (.cond .leaf .leaf)) (.seq (.blk (.seq (.reg [.op (0, 0, false), .op (1, 0, false), .op (2, 0, false), .op (3, 0, false), .op (4, 0, false), .op (5, 0, false), .op (6, 0, false), .op (7, 0, false), .op (8, 2, false), .op (9, 0, false)]) (.cond (.seq (.reg [.op (0, 0, false)]) .leaf) .leaf))) (.reg [.op (0, 0, false), .op (1, 0, false), .op (2, 0, false)])))))) (.seq (.reg [.op (0, 0, false)]) .leaf))))
theorem I_laws_eqFloat32SS {a0 a1 : Value} {w : World} {K : Value → World → Prop} (h : D_laws_eqFloat32SS a0 a1 w K) : call P f_laws_eqFloat32SS [a0, a1] w K :=
  call_of_vc mixed Tryz.func19 (c := codeOf Tryz.f19) (by kernel_rfl) (by kernel_rfl) (p := P_laws_eqFloat32SS) (by kernel_rfl) (by rw [Tryz.ntmps19]; simp) (by
    have e : D_laws_eqFloat32SS a0 a1 w K = vc P P_laws_eqFloat32SS (codeOf Tryz.f19) (env0 [a0, a1]) w (retX P Tryz.f19.results.toList K) := by kernel_rfl
    exact e ▸ h)

/-- laws.sameFloat -/
def D_laws_sameFloat (a0 a1 : Value) (w : World) (K : Value → World → Prop) : Prop :=
  bin P .neq 39 false false a0 a0 w fun x7_1 =>
  ∃ J2 : Value → World → Prop, (∀ (x11_3 : Value) (junk5 : Env) (w4 : World), J2 x11_3 w4 →
    pick x7_1 (.bool true) x11_3 fun x12_6 =>
    cnd x12_6
      (bin P .neq 39 false false a0 a0 w4 fun x15_7 =>
      ∃ J8 : Value → World → Prop, (∀ (x19_9 : Value) (junk11 : Env) (w10 : World), J8 x19_9 w10 →
        pick x15_7 x19_9 (.bool false) fun x20_12 =>
        K x20_12 w10) ∧
        grd x15_7 true
          (bin P .neq 39 false false a1 a1 w4 fun x19_13 =>
          J8 x19_13 w4)
          (J8 undef w4))
      (bin P .eql 39 false true a0 (.float .f64 0) w4 fun x22_14 =>
      ∃ J15 : Value → World → Prop, (∀ (x25_16 : Value) (junk18 : Env) (w17 : World), J15 x25_16 w17 →
        pick x22_14 x25_16 (.bool false) fun x26_19 =>
        cnd x26_19
          (rbin P .quo 39 true false (.float .f64 4607182418800017408) a0 w17 fun x28_20 =>
          bin P .gtr 39 false true x28_20 (.float .f64 0) w17 fun x29_21 =>
          rbin P .quo 39 true false (.float .f64 4607182418800017408) a1 w17 fun x31_22 =>
          bin P .gtr 39 false true x31_22 (.float .f64 0) w17 fun x32_23 =>
          bin P .eql 4 false false x29_21 x32_23 w17 fun x33_24 =>
          K x33_24 w17)
          (bin P .eql 39 false false a0 a1 w17 fun x36_25 =>
          K x36_25 w17)) ∧
        grd x22_14 true
          (bin P .eql 39 false true a1 (.float .f64 0) w4 fun x25_26 =>
          J15 x25_26 w4)
          (J15 undef w4))) ∧
    grd x7_1 false
      (bin P .neq 39 false false a1 a1 w fun x11_27 =>
      J2 x11_27 w)
      (J2 undef w)
def P_laws_sameFloat : Plan := (.seq (.reg [.op (0, 0, false)]) (.seq (.seq (.reg [.op (0, 0, false), .op (1, 0, false), .op (2, 0, false), .op (3, 0, false), .grp 3 false [(4, 0, false), (5, 0, false), (6, 0, false)] [11] 3584, .op (7, 0, false)]) (.cond (.seq (.reg [.op (0, 0, false), .op (1, 0, false), .op (2, 0, false), .op (3, 0, false), .grp 3 true [(4, 0, false), (5, 0, false), (6, 0, false)] [19] 917504, .op (7, 0, false), .op (8, 0, false)]) .leaf) .leaf)) (.seq (.seq (.reg [.op (0, 0, false), .op (1, 0, false), .op (2, 0, false), .grp 2 true [(3, 0, false), (4, 0, false)] [25] 50331648, .op (5, 0, false)]) (.cond (.seq (.reg [.op (0, 0, false), .op (1, 1, false), .op (2, 0, false), .op (3, 0, false), .op (4, 1, false), .op (5, 0, false), .op (6, 0, false), .op (7, 0, false)]) .leaf) .leaf)) (.seq (.reg [.op (0, 0, false), .op (1, 0, false), .op (2, 0, false), .op (3, 0, false)]) .leaf))))
theorem I_laws_sameFloat {a0 a1 : Value} {w : World} {K : Value → World → Prop} (h : D_laws_sameFloat a0 a1 w K) : call P f_laws_sameFloat [a0, a1] w K :=
  call_of_vc mixed Tryz.func25 (c := codeOf Tryz.f25) (by kernel_rfl) (by kernel_rfl) (p := P_laws_sameFloat) (by kernel_rfl) (by rw [Tryz.ntmps25]; simp) (by
    have e : D_laws_sameFloat a0 a1 w K = vc P P_laws_sameFloat (codeOf Tryz.f25) (env0 [a0, a1]) w (retX P Tryz.f25.results.toList K) := by kernel_rfl
    exact e ▸ h)

/-- laws.toFloat32S -/
def D_laws_toFloat32S (a0 : Value) (w : World) (K : Value → World → Prop) : Prop :=
  bl0 P .len #[41] 3 [a0] w fun x6_1 =>
  mks P 41 x6_1 x6_1 w fun x7_2 w3 =>
  ∃ I4 : Nat → Value → World → Prop, (∃ m18, I4 m18 (.int .i64 0) w3) ∧ ∀ (m7 : Nat) (x4_8 : Value) (junk5 : Env) (w6 : World), I4 m7 x4_8 w6 →
    bl0 P .len #[41] 3 [a0] w6 fun x10_9 =>
    bin P .lss 3 false false x4_8 x10_9 w6 fun x11_10 =>
    cnd x11_10
      (ixa P 41 a0 x4_8 w6 fun x18_11 =>
      ld P 35 x18_11 w6 fun x19_12 =>
      ixa P 41 x7_2 x4_8 w6 fun x20_13 =>
      sto P 35 x20_13 x19_12 w6 fun w15 =>
      bin P .add 3 false true x4_8 (.int .i64 1) w15 fun x13_16 =>
      ∃ m17, m17 < m7 ∧ I4 m17 x13_16 w15)
      (K x7_2 w6)
def P_laws_toFloat32S : Plan := (.seq (.reg [.op (0, 0, false)]) (.seq (.reg [.op (0, 0, false), .op (1, 0, false), .op (2, 2, false), .op (3, 0, false)]) (.seq (.seq (.reg [.op (0, 0, false)]) (.blk (.loop [4] 2096912 (.seq (.seq (.reg [.op (0, 0, false), .op (1, 0, false), .op (2, 0, false), .op (3, 0, false)]) (.cond .leaf .leaf)) (.seq (.blk (.reg [.op (0, 0, false), .op (1, 0, false), .op (2, 0, false), .op (3, 0, false), .op (4, 0, false), .op (5, 0, false), .op (6, 0, false), .op (7, 2, false)])) (.reg [.op (0, 0, false), .op (1, 0, false), .op (2, 0, false)])))))) (.seq (.reg [.op (0, 0, false), .op (1, 0, false)]) .leaf))))
theorem I_laws_toFloat32S {a0 : Value} {w : World} {K : Value → World → Prop} (h : D_laws_toFloat32S a0 w K) : call P f_laws_toFloat32S [a0] w K :=
  call_of_vc mixed Tryz.func27 (c := codeOf Tryz.f27) (by kernel_rfl) (by kernel_rfl) (p := P_laws_toFloat32S) (by kernel_rfl) (by rw [Tryz.ntmps27]; simp) (by
    have e : D_laws_toFloat32S a0 w K = vc P P_laws_toFloat32S (codeOf Tryz.f27) (env0 [a0]) w (retX P Tryz.f27.results.toList K) := by kernel_rfl
    exact e ▸ h)

/-- laws.eqFloat32S -/
def D_laws_eqFloat32S (a0 a1 : Value) (w : World) (K : Value → World → Prop) : Prop :=
  bl0 P .len #[41] 3 [a0] w fun x7_1 =>
  bl0 P .len #[41] 3 [a1] w fun x9_2 =>
  bin P .neq 3 false false x7_1 x9_2 w fun x10_3 =>
  cnd x10_3
    (K (.bool false) w)
    (∃ I4 : Nat → Value → World → Prop, (∃ m22, I4 m22 (.int .i64 0) w) ∧ ∀ (m7 : Nat) (x5_8 : Value) (junk5 : Env) (w6 : World), I4 m7 x5_8 w6 →
      bl0 P .len #[41] 3 [a0] w6 fun x13_9 =>
      bin P .lss 3 false false x5_8 x13_9 w6 fun x14_10 =>
      cnd x14_10
        (ixa P 41 a0 x5_8 w6 fun x19_11 =>
        ld P 35 x19_11 w6 fun x20_12 =>
        ixa P 41 a1 x5_8 w6 fun x24_13 =>
        ld P 35 x24_13 w6 fun x25_14 =>
        rcnv P 35 39 x20_12 w6 fun x21_15 =>
        rcnv P 35 39 x25_14 w6 fun x26_16 =>
        call P f_laws_sameFloat [x21_15, x26_16] w6 fun x27_17 w18 =>
        una P .not x27_17 w18 fun x28_19 =>
        cnd x28_19
          (K (.bool false) w18)
          (bin P .add 3 false true x5_8 (.int .i64 1) w18 fun x16_20 =>
          ∃ m21, m21 < m7 ∧ I4 m21 x16_20 w18))
        (K (.bool true) w6))
def P_laws_eqFloat32S : Plan := (.seq (.reg [.op (0, 0, false)]) (.seq (.seq (.reg [.op (0, 0, false), .op (1, 0, false), .op (2, 0, false), .op (3, 0, false), .op (4, 0, false)]) (.cond (.seq (.reg [.op (0, 0, false)]) .leaf) .leaf)) (.seq (.seq (.reg [.op (0, 0, false)]) (.blk (.loop [5] 536868912 (.seq (.seq (.reg [.op (0, 0, false), .op (1, 0, false), .op (2, 0, false), .op (3, 0, false)]) (.cond .leaf .leaf)) (.seq (.blk (.seq (.reg [.op (0, 0, false), .op (1, 0, false), .op (2, 0, false), .op (3, 0, false), .op (5, 0, false), .op (6, 0, false), .op (7, 0, false), .op (8, 0, false), .op (4, 1, false), .op (9, 1, false), .op (10, 2, false), .op (11, 0, false)]) (.cond (.seq (.reg [.op (0, 0, false)]) .leaf) .leaf))) (.reg [.op (0, 0, false), .op (1, 0, false), .op (2, 0, false)])))))) (.seq (.reg [.op (0, 0, false)]) .leaf))))
theorem I_laws_eqFloat32S {a0 a1 : Value} {w : World} {K : Value → World → Prop} (h : D_laws_eqFloat32S a0 a1 w K) : call P f_laws_eqFloat32S [a0, a1] w K :=
  call_of_vc mixed Tryz.func29 (c := codeOf Tryz.f29) (by kernel_rfl) (by kernel_rfl) (p := P_laws_eqFloat32S) (by kernel_rfl) (by rw [Tryz.ntmps29]; simp) (by
    have e : D_laws_eqFloat32S a0 a1 w K = vc P P_laws_eqFloat32S (codeOf Tryz.f29) (env0 [a0, a1]) w (retX P Tryz.f29.results.toList K) := by kernel_rfl
    exact e ▸ h)

/-- laws.szFloat32S -/
def D_laws_szFloat32S (a0 a1 : Value) (w : World) (K : Value → World → Prop) : Prop :=
  bl0 P .len #[41] 3 [a0] w fun x7_1 =>
  bin P .sub 3 false false a1 x7_1 w fun x8_2 =>
  bin P .lss 3 false true x8_2 (.int .i64 0) w fun x10_3 =>
  cnd x10_3
    (K (.int .i64 (-1)) w)
    (K x8_2 w)
def P_laws_szFloat32S : Plan := (.seq (.reg [.op (0, 0, false)]) (.seq (.reg [.op (0, 0, false), .op (1, 0, false), .op (2, 0, false), .op (3, 0, false), .op (4, 0, false)]) (.seq (.seq (.reg [.op (0, 0, false), .op (1, 0, false)]) (.cond (.seq (.reg [.op (0, 0, false)]) .leaf) .leaf)) (.seq (.reg [.op (0, 0, false), .op (1, 0, false)]) .leaf))))
theorem I_laws_szFloat32S {a0 a1 : Value} {w : World} {K : Value → World → Prop} (h : D_laws_szFloat32S a0 a1 w K) : call P f_laws_szFloat32S [a0, a1] w K :=
  call_of_vc mixed Tryz.func87 (c := codeOf Tryz.f87) (by kernel_rfl) (by kernel_rfl) (p := P_laws_szFloat32S) (by kernel_rfl) (by rw [Tryz.ntmps87]; simp) (by
    have e : D_laws_szFloat32S a0 a1 w K = vc P P_laws_szFloat32S (codeOf Tryz.f87) (env0 [a0, a1]) w (retX P Tryz.f87.results.toList K) := by kernel_rfl
    exact e ▸ h)

end Go.Proofs.YtabgkpfcpncmhaaGreat

/- Written by a program (gen.py): what is left to show of each function's call. -/
set_option linter.unusedVariables false
set_option maxRecDepth 20000
namespace Go.Proofs.YtabgkpfcpncmhaaGreat
open Go Go.Vc

/-- impl.RoundedDeterminant -/
def D_impl_RoundedDeterminant (a0 a1 : Value) (w : World) (K : Value → World → Prop) : Prop :=
  call P f_impl_IsMatrix [a0] w fun x10_1 w2 =>
  una P .not x10_1 w2 fun x11_3 =>
  cnd x11_3
    (K (.tuple #[(.float .f32 0), (.int .i64 0), (.int .i64 1)]) w2)
    (call P f_impl_isMode [a1] w2 fun x13_4 w5 =>
    una P .not x13_4 w5 fun x14_6 =>
    cnd x14_6
      (K (.tuple #[(.float .f32 0), (.int .i64 0), (.int .i64 2)]) w5)
      (call P f_impl_determinant [a0] w5 fun x17_7 w8 =>
      call P f_impl_num_round [x17_7, a1] w8 fun x19_9 w10 =>
      xtr P x19_9 0 w10 fun x20_11 =>
      xtr P x19_9 1 w10 fun x21_12 =>
      K (.tuple #[x20_11, x21_12, (.int .i64 0)]) w10))
def P_impl_RoundedDeterminant : Plan := (.seq (.reg [.op (0, 0, false), .op (1, 0, false), .op (2, 0, false)]) (.seq (.seq (.reg [.op (0, 0, false), .op (1, 2, false), .op (2, 0, false)]) (.cond (.seq (.reg [.op (0, 0, false), .op (1, 0, false), .op (2, 0, false)]) .leaf) .leaf)) (.seq (.seq (.reg [.op (0, 0, false), .op (1, 2, false), .op (2, 0, false)]) (.cond (.seq (.reg [.op (0, 0, false), .op (1, 0, false), .op (2, 0, false)]) .leaf) .leaf)) (.seq (.reg [.op (0, 0, false), .op (1, 2, false), .op (2, 0, false), .op (3, 2, false), .op (4, 0, false), .op (5, 0, false), .op (6, 0, false), .op (7, 0, false), .op (8, 0, false)]) (.seq (.reg [.op (0, 0, false), .op (1, 0, false), .op (2, 0, false), .op (3, 0, false), .op (4, 0, false)]) .leaf)))))
theorem I_impl_RoundedDeterminant {a0 a1 : Value} {w : World} {K : Value → World → Prop} (h : D_impl_RoundedDeterminant a0 a1 w K) : call P f_impl_RoundedDeterminant [a0, a1] w K :=
  call_of_vc mixed Tryz.func40 (c := codeOf Tryz.f40) (by kernel_rfl) (by kernel_rfl) (p := P_impl_RoundedDeterminant) (by kernel_rfl) (by rw [Tryz.ntmps40]; simp) (by
    have e : D_impl_RoundedDeterminant a0 a1 w K = vc P P_impl_RoundedDeterminant (codeOf Tryz.f40) (env0 [a0, a1]) w (retX P Tryz.f40.results.toList K) := by kernel_rfl
    exact e ▸ h)

/-- impl.IsMatrix -/
def D_impl_IsMatrix (a0 : Value) (w : World) (K : Value → World → Prop) : Prop :=
  bl0 P .len #[22] 3 [a0] w fun x6_1 =>
  bin P .lss 3 false true x6_1 (.int .i64 1) w fun x7_2 =>
  ∃ J3 : Value → World → Prop, (∀ (x11_4 : Value) (junk6 : Env) (w5 : World), J3 x11_4 w5 →
    pick x7_2 (.bool true) x11_4 fun x12_7 =>
    cnd x12_7
      (K (.bool false) w5)
      (bl0 P .len #[22] 3 [a0] w5 fun x14_8 =>
      ∃ I9 : Nat → Value → World → Prop, (∃ m30, I9 m30 (.int .i64 0) w5) ∧ ∀ (m12 : Nat) (x15_13 : Value) (junk10 : Env) (w11 : World), I9 m12 x15_13 w11 →
        bin P .lss 3 false false x15_13 x14_8 w11 fun x16_14 =>
        cnd x16_14
          (ixa P 22 a0 x15_13 w11 fun x17_15 =>
          ld P 41 x17_15 w11 fun x18_16 =>
          bl0 P .len #[41] 3 [x18_16] w11 fun x20_17 =>
          bl0 P .len #[22] 3 [a0] w11 fun x22_18 =>
          bin P .neq 3 false false x20_17 x22_18 w11 fun x23_19 =>
          ∃ J20 : Value → World → Prop, (∀ (x27_21 : Value) (junk23 : Env) (w22 : World), J20 x27_21 w22 →
            pick x23_19 (.bool true) x27_21 fun x28_24 =>
            cnd x28_24
              (K (.bool false) w22)
              (bin P .add 3 false true x15_13 (.int .i64 1) w22 fun x29_25 =>
              ∃ m26, m26 < m12 ∧ I9 m26 x29_25 w22)) ∧
            grd x23_19 false
              (call P f_impl_areFinite [x18_16] w11 fun x26_27 w28 =>
              una P .not x26_27 w28 fun x27_29 =>
              J20 x27_29 w28)
              (J20 undef w11))
          (K (.bool true) w11))) ∧
    grd x7_2 false
      (bl0 P .len #[22] 3 [a0] w fun x10_31 =>
      bin P .gtr 3 false true x10_31 (.int .i64 8) w fun x11_32 =>
      J3 x11_32 w)
      (J3 undef w)
def P_impl_IsMatrix : Plan := (.seq (.reg [.op (0, 0, false)]) (.seq (.seq (.reg [.op (0, 0, false), .op (1, 0, false), .op (2, 0, false), .op (3, 0, false), .grp 3 false [(4, 0, false), (5, 0, false), (6, 0, false)] [11] 3584, .op (7, 0, false)]) (.cond (.seq (.reg [.op (0, 0, false)]) .leaf) .leaf)) (.seq (.seq (.reg [.op (0, 0, false), .op (1, 0, false), .op (2, 0, false)]) (.blk (.loop [15] 1073709076 (.seq (.reg [.op (0, 0, false)]) (.seq (.cond .leaf .leaf) (.seq (.blk (.seq (.reg [.op (0, 0, false), .op (1, 0, false), .op (2, 0, false)]) (.seq (.reg [.op (0, 0, false), .op (1, 0, false), .op (2, 0, false), .op (3, 0, false), .op (4, 0, false), .op (5, 0, false), .grp 5 false [(6, 0, false), (7, 2, false), (8, 0, false)] [27] 234881024, .op (9, 0, false)]) (.cond (.seq (.reg [.op (0, 0, false)]) .leaf) .leaf)))) (.reg [.op (0, 0, false), .op (1, 0, false)]))))))) (.seq (.reg [.op (0, 0, false)]) .leaf))))
theorem I_impl_IsMatrix {a0 : Value} {w : World} {K : Value → World → Prop} (h : D_impl_IsMatrix a0 w K) : call P f_impl_IsMatrix [a0] w K :=
  call_of_vc mixed Tryz.func59 (c := codeOf Tryz.f59) (by kernel_rfl) (by kernel_rfl) (p := P_impl_IsMatrix) (by kernel_rfl) (by rw [Tryz.ntmps59]; simp) (by
    have e : D_impl_IsMatrix a0 w K = vc P P_impl_IsMatrix (codeOf Tryz.f59) (env0 [a0]) w (retX P Tryz.f59.results.toList K) := by kernel_rfl
    exact e ▸ h)

/-- impl.determinant -/
def D_impl_determinant (a0 : Value) (w : World) (K : Value → World → Prop) : Prop :=
  alc P 105 w fun x2_1 w2 =>
  bl0 P .len #[22] 3 [a0] w2 fun x25_3 =>
  bl0 P .len #[22] 3 [a0] w2 fun x27_4 =>
  ∃ I5 : Nat → Value → Value → World → Prop, (∃ m223, I5 m223 (.int .i64 0) (.int .i64 0) w2) ∧ ∀ (m8 : Nat) (x4_9 : Value) (x28_10 : Value) (junk6 : Env) (w7 : World), I5 m8 x4_9 x28_10 w7 →
    bin P .lss 3 false false x28_10 x27_4 w7 fun x29_11 =>
    cnd x29_11
      (ixa P 22 a0 x28_10 w7 fun x30_12 =>
      ld P 41 x30_12 w7 fun x31_13 =>
      bl0 P .len #[41] 3 [x31_13] w7 fun x33_14 =>
      ∃ I15 : Nat → Value → Value → World → Prop, (∃ m32, I15 m32 x4_9 (.int .i64 0) w7) ∧ ∀ (m18 : Nat) (x4_19 : Value) (x34_20 : Value) (junk16 : Env) (w17 : World), I15 m18 x4_19 x34_20 w17 →
        bin P .lss 3 false false x34_20 x33_14 w17 fun x35_21 =>
        cnd x35_21
          (ixa P 41 x31_13 x34_20 w17 fun x36_22 =>
          ld P 35 x36_22 w17 fun x37_23 =>
          call P f_impl_numOf [x37_23] w17 fun x40_24 w25 =>
          fld P 105 x40_24 1 w25 fun x41_26 =>
          bl0 P .min #[3, 3] 3 [x4_19, x41_26] w25 fun x42_27 =>
          bin P .add 3 false true x34_20 (.int .i64 1) w25 fun x43_28 =>
          ∃ m29, m29 < m18 ∧ I15 m29 x42_27 x43_28 w25)
          (bin P .add 3 false true x28_10 (.int .i64 1) w17 fun x44_30 =>
          ∃ m31, m31 < m8 ∧ I5 m31 x4_19 x44_30 w17))
      (bsl P 211 0 [] w7 fun x45_33 w34 =>
      bl0 P .len #[22] 3 [a0] w34 fun x47_35 =>
      ∃ I36 : Nat → Value → Value → World → Prop, (∃ m222, I36 m222 x45_33 (.int .i64 0) w34) ∧ ∀ (m39 : Nat) (x9_40 : Value) (x48_41 : Value) (junk37 : Env) (w38 : World), I36 m39 x9_40 x48_41 w38 →
        bin P .lss 3 false false x48_41 x47_35 w38 fun x49_42 =>
        cnd x49_42
          (ixa P 22 a0 x48_41 w38 fun x50_43 =>
          ld P 41 x50_43 w38 fun x51_44 =>
          bsl P 212 0 [] w38 fun x52_45 w46 =>
          bl0 P .len #[41] 3 [x51_44] w46 fun x54_47 =>
          ∃ I48 : Nat → Value → Value → World → Prop, (∃ m73, I48 m73 x52_45 (.int .i64 0) w46) ∧ ∀ (m51 : Nat) (x12_52 : Value) (x55_53 : Value) (junk49 : Env) (w50 : World), I48 m51 x12_52 x55_53 w50 →
            bin P .lss 3 false false x55_53 x54_47 w50 fun x56_54 =>
            cnd x56_54
              (ixa P 41 x51_44 x55_53 w50 fun x57_55 =>
              ld P 35 x57_55 w50 fun x58_56 =>
              call P f_impl_numOf [x58_56] w50 fun x61_57 w58 =>
              call P f_impl_num_at [x61_57, x4_9] w58 fun x63_59 w60 =>
              bsl P 212 1 [(0, x63_59)] w60 fun x64_61 w62 =>
              bl2 P .append #[212, 212] 212 [x12_52, x64_61] w62 fun x65_63 w64 =>
              bin P .add 3 false true x55_53 (.int .i64 1) w64 fun x66_65 =>
              ∃ m66, m66 < m51 ∧ I48 m66 x65_63 x66_65 w64)
              (bsl P 211 1 [(0, x12_52)] w50 fun x69_67 w68 =>
              bl2 P .append #[211, 211] 211 [x9_40, x69_67] w68 fun x70_69 w70 =>
              bin P .add 3 false true x48_41 (.int .i64 1) w70 fun x71_71 =>
              ∃ m72, m72 < m39 ∧ I36 m72 x70_69 x71_71 w70))
          (call P f_impl_newInt [(.int .i64 1)] w38 fun x72_74 w75 =>
          ∃ I76 : Nat → Value → Value → Value → World → Prop, (∃ m221, I76 m221 (.int .i64 1) x72_74 (.int .i64 0) w75) ∧ ∀ (m79 : Nat) (x15_80 : Value) (x16_81 : Value) (x17_82 : Value) (junk77 : Env) (w78 : World), I76 m79 x15_80 x16_81 x17_82 w78 →
            bin P .sub 3 false true x25_3 (.int .i64 1) w78 fun x75_83 =>
            bin P .lss 3 false false x17_82 x75_83 w78 fun x76_84 =>
            cnd x76_84
              (∃ J85 : Value → World → Prop, (∀ (x15_88 : Value) (junk86 : Env) (w87 : World), J85 x15_88 w87 →
                bin P .add 3 false true x17_82 (.int .i64 1) w87 fun x129_89 =>
                ∃ I90 : Nat → Value → World → Prop, (∃ m147, I90 m147 x129_89 w87) ∧ ∀ (m93 : Nat) (x20_94 : Value) (junk91 : Env) (w92 : World), I90 m93 x20_94 w92 →
                  bin P .lss 3 false false x20_94 x25_3 w92 fun x132_95 =>
                  cnd x132_95
                    (bin P .add 3 false true x17_82 (.int .i64 1) w92 fun x136_96 =>
                    ∃ I97 : Nat → Value → World → Prop, (∃ m140, I97 m140 x136_96 w92) ∧ ∀ (m100 : Nat) (x21_101 : Value) (junk98 : Env) (w99 : World), I97 m100 x21_101 w99 →
                      bin P .lss 3 false false x21_101 x25_3 w99 fun x139_102 =>
                      cnd x139_102
                        (ixa P 211 x9_40 x20_94 w99 fun x145_103 =>
                        ld P 212 x145_103 w99 fun x146_104 =>
                        ixa P 212 x146_104 x21_101 w99 fun x148_105 =>
                        ld P 103 x148_105 w99 fun x149_106 =>
                        ixa P 211 x9_40 x17_82 w99 fun x152_107 =>
                        ld P 212 x152_107 w99 fun x153_108 =>
                        ixa P 212 x153_108 x17_82 w99 fun x155_109 =>
                        ld P 103 x155_109 w99 fun x156_110 =>
                        alc P 179 w99 fun x142_111 w112 =>
                        Ext w99 w112 ∧ call P f_impl_integer_Mul [x142_111, x149_106, x156_110] w112 fun x157_113 w114 =>
                        ixa P 211 x9_40 x20_94 w114 fun x163_115 =>
                        ld P 212 x163_115 w114 fun x164_116 =>
                        ixa P 212 x164_116 x17_82 w114 fun x166_117 =>
                        ld P 103 x166_117 w114 fun x167_118 =>
                        ixa P 211 x9_40 x17_82 w114 fun x170_119 =>
                        ld P 212 x170_119 w114 fun x171_120 =>
                        ixa P 212 x171_120 x21_101 w114 fun x173_121 =>
                        ld P 103 x173_121 w114 fun x174_122 =>
                        alc P 179 w114 fun x160_123 w124 =>
                        Ext w114 w124 ∧ call P f_impl_integer_Mul [x160_123, x167_118, x174_122] w124 fun x175_125 w126 =>
                        call P f_impl_integer_Sub [x157_113, x157_113, x175_125] w126 fun x176_127 w128 =>
                        ixa P 211 x9_40 x20_94 w128 fun x179_129 =>
                        ld P 212 x179_129 w128 fun x180_130 =>
                        call P f_impl_integer_Quo [x157_113, x157_113, x16_81] w128 fun x185_131 w132 =>
                        (ixa P 211 x9_40 x20_94 w132 fun z => z = x179_129) ∧ (ld P 212 x179_129 w132 fun z => z = x180_130) ∧ ixa P 212 x180_130 x21_101 w132 fun x186_133 =>
                        sto P 103 x186_133 x185_131 w132 fun w135 =>
                        bin P .add 3 false true x21_101 (.int .i64 1) w135 fun x141_136 =>
                        ∃ m137, m137 < m100 ∧ I97 m137 x141_136 w135)
                        (bin P .add 3 false true x20_94 (.int .i64 1) w99 fun x134_138 =>
                        ∃ m139, m139 < m93 ∧ I90 m139 x134_138 w99))
                    (ixa P 211 x9_40 x17_82 w92 fun x189_141 =>
                    ld P 212 x189_141 w92 fun x190_142 =>
                    ixa P 212 x190_142 x17_82 w92 fun x192_143 =>
                    ld P 103 x192_143 w92 fun x193_144 =>
                    bin P .add 3 false true x17_82 (.int .i64 1) w92 fun x78_145 =>
                    ∃ m146, m146 < m79 ∧ I76 m146 x15_88 x193_144 x78_145 w92)) ∧
                (ixa P 211 x9_40 x17_82 w78 fun x81_148 =>
                ld P 212 x81_148 w78 fun x82_149 =>
                ixa P 212 x82_149 x17_82 w78 fun x84_150 =>
                ld P 103 x84_150 w78 fun x85_151 =>
                call P f_impl_integer_Sign [x85_151] w78 fun x86_152 w153 =>
                bin P .eql 3 false true x86_152 (.int .i64 0) w153 fun x87_154 =>
                cnd x87_154
                  (bin P .add 3 false true x17_82 (.int .i64 1) w153 fun x89_155 =>
                  ∃ I156 : Nat → Value → Value → World → Prop, (∃ m197, I156 m197 (.int .i64 (-1)) x89_155 w153) ∧ ∀ (m159 : Nat) (x18_160 : Value) (x19_161 : Value) (junk157 : Env) (w158 : World), I156 m159 x18_160 x19_161 w158 →
                    bin P .lss 3 false false x19_161 x25_3 w158 fun x92_162 =>
                    ∃ J163 : Value → World → Prop, (∀ (x95_164 : Value) (junk166 : Env) (w165 : World), J163 x95_164 w165 →
                      pick x92_162 x95_164 (.bool false) fun x96_167 =>
                      cnd x96_167
                        (ixa P 211 x9_40 x19_161 w165 fun x101_168 =>
                        ld P 212 x101_168 w165 fun x102_169 =>
                        ixa P 212 x102_169 x17_82 w165 fun x104_170 =>
                        ld P 103 x104_170 w165 fun x105_171 =>
                        call P f_impl_integer_Sign [x105_171] w165 fun x106_172 w173 =>
                        bin P .neq 3 false true x106_172 (.int .i64 0) w173 fun x107_174 =>
                        cnd x107_174
                          (bin P .add 3 false true x19_161 (.int .i64 1) w173 fun x98_175 =>
                          ∃ m176, m176 < m159 ∧ I156 m176 x19_161 x98_175 w173)
                          (bin P .add 3 false true x19_161 (.int .i64 1) w173 fun x98_177 =>
                          ∃ m178, m178 < m159 ∧ I156 m178 x18_160 x98_177 w173))
                        (bin P .lss 3 false true x18_160 (.int .i64 0) w165 fun x110_179 =>
                        cnd x110_179
                          (call P f_impl_zero [] w165 fun x111_180 w181 =>
                          sto P 105 x2_1 x111_180 w181 fun w183 =>
                          ldc P 105 x2_1 w183 fun r184 =>
                          K r184 w183)
                          (ixa P 211 x9_40 x18_160 w165 fun x118_185 =>
                          ld P 212 x118_185 w165 fun x119_186 =>
                          ixa P 211 x9_40 x17_82 w165 fun x122_187 =>
                          ld P 212 x122_187 w165 fun x123_188 =>
                          ixa P 211 x9_40 x17_82 w165 fun x124_189 =>
                          sto P 212 x124_189 x119_186 w165 fun w191 =>
                          ixa P 211 x9_40 x18_160 w191 fun x125_192 =>
                          sto P 212 x125_192 x123_188 w191 fun w194 =>
                          una P .neg x15_80 w194 fun x127_195 =>
                          J85 x127_195 w194))) ∧
                      grd x92_162 true
                        (bin P .lss 3 false true x18_160 (.int .i64 0) w158 fun x95_196 =>
                        J163 x95_196 w158)
                        (J163 undef w158))
                  (J85 x15_80 w153)))
              (bin P .sub 3 false true x25_3 (.int .i64 1) w78 fun x196_198 =>
              ixa P 211 x9_40 x196_198 w78 fun x197_199 =>
              ld P 212 x197_199 w78 fun x198_200 =>
              bin P .sub 3 false true x25_3 (.int .i64 1) w78 fun x200_201 =>
              ixa P 212 x198_200 x200_201 w78 fun x201_202 =>
              ld P 103 x201_202 w78 fun x202_203 =>
              bin P .mul 3 false false x25_3 x4_9 w78 fun x205_204 =>
              bld P 105 [(0, x202_203), (1, x205_204)] w78 fun x206_205 =>
              alc P 105 w78 fun x23_206 w207 =>
              sto P 105 x23_206 x206_205 w207 fun w209 =>
              bin P .lss 3 false true x15_80 (.int .i64 0) w209 fun x208_210 =>
              cnd x208_210
                (ld P 105 x23_206 w209 fun x209_211 =>
                call P f_impl_num_neg [x209_211] w209 fun x210_212 w213 =>
                sto P 105 x2_1 x210_212 w213 fun w215 =>
                ldc P 105 x2_1 w215 fun r216 =>
                K r216 w215)
                (ld P 105 x23_206 w209 fun x211_217 =>
                sto P 105 x2_1 x211_217 w209 fun w219 =>
                ldc P 105 x2_1 w219 fun r220 =>
                K r220 w219))))
def P_impl_determinant : Plan := (.seq (.reg [.op (0, 2, false)]) (.seq (.reg [.op (0, 0, false), .op (1, 0, false), .op (2, 0, false)]) (.seq (.reg [.op (0, 0, false)]) (.seq (.seq (.reg [.op (0, 0, false), .op (1, 0, false), .op (2, 0, false)]) (.blk (.loop [4, 28] 35184103653712 (.seq (.reg [.op (0, 0, false)]) (.seq (.cond .leaf .leaf) (.seq (.blk (.seq (.reg [.op (0, 0, false), .op (1, 0, false), .op (2, 0, false)]) (.seq (.reg [.op (0, 0, false), .op (1, 0, false), .op (2, 0, false)]) (.blk (.loop [4, 34] 17575006175504 (.seq (.reg [.op (0, 0, false)]) (.seq (.cond .leaf .leaf) (.seq (.blk (.seq (.reg [.op (0, 0, false), .op (1, 0, false), .op (2, 0, false)]) (.reg [.op (0, 0, false), .op (1, 0, false), .op (2, 2, false), .op (3, 0, false), .op (4, 0, false), .op (5, 0, false)]))) (.reg [.op (0, 0, false), .op (1, 0, false)]))))))))) (.reg [.op (0, 0, false), .op (1, 0, false)]))))))) (.seq (.reg [.op (0, 2, false), .op (1, 0, false)]) (.seq (.seq (.reg [.op (0, 0, false), .op (1, 0, false), .op (2, 0, false)]) (.blk (.loop [9, 48] 4722366201394668526080 (.seq (.reg [.op (0, 0, false)]) (.seq (.cond .leaf .leaf) (.seq (.blk (.seq (.reg [.op (0, 0, false), .op (1, 0, false), .op (2, 0, false)]) (.seq (.reg [.op (0, 2, false), .op (1, 0, false)]) (.seq (.seq (.reg [.op (0, 0, false), .op (1, 0, false), .op (2, 0, false)]) (.blk (.loop [12, 55] 147537923792657469440 (.seq (.reg [.op (0, 0, false)]) (.seq (.cond .leaf .leaf) (.seq (.blk (.seq (.reg [.op (0, 0, false), .op (1, 0, false), .op (2, 0, false)]) (.reg [.op (0, 0, false), .op (1, 0, false), .op (2, 2, false), .op (3, 0, false), .op (4, 2, false), .op (5, 2, false), .op (6, 2, false), .op (7, 0, false)]))) (.reg [.op (0, 0, false), .op (1, 0, false)]))))))) (.reg [.op (0, 0, false), .op (1, 0, false), .op (2, 2, false), .op (3, 2, false), .op (4, 0, false)]))))) (.reg [.op (0, 0, false), .op (1, 0, false)]))))))) (.seq (.reg [.op (0, 2, false), .op (1, 0, false), .op (2, 0, false)]) (.seq (.seq (.reg [.op (0, 0, false)]) (.blk (.loop [15, 16, 17] 25108406941546723055343157692830665654964688812116855980032 (.seq (.seq (.reg [.op (0, 0, false), .op (1, 0, false), .op (2, 0, false), .op (3, 0, false)]) (.cond .leaf .leaf)) (.seq (.blk (.cut [15] 340282366920937859000464800117181677568 (.seq (.reg [.op (0, 0, false), .op (1, 0, false), .op (2, 0, false), .op (3, 0, false), .op (4, 0, false), .op (5, 0, false), .op (6, 0, false), .op (7, 2, false), .op (8, 0, false)]) (.cond (.seq (.reg [.op (0, 0, false)]) (.seq (.seq (.reg [.op (0, 0, false), .op (1, 0, false), .op (2, 0, false)]) (.blk (.loop [18, 19] 649035869376814168186037142814720 (.seq (.seq (.reg [.op (0, 0, false), .op (1, 0, false), .op (2, 0, false), .op (3, 0, false), .grp 3 true [(4, 0, false), (5, 0, false)] [95] 59421121885698253195157962752, .op (6, 0, false)]) (.cond .leaf .leaf)) (.seq (.blk (.seq (.reg [.op (0, 0, false), .op (1, 0, false), .op (2, 0, false), .op (3, 0, false), .op (4, 0, false), .op (5, 0, false), .op (6, 0, false), .op (7, 2, false), .op (8, 0, false)]) (.cond (.reg [.op (0, 0, false), .op (1, 0, false)]) .leaf))) (.reg [.op (0, 0, false), .op (1, 0, false), .op (2, 0, false)])))))) (.seq (.seq (.reg [.op (0, 0, false), .op (1, 0, false)]) (.cond (.seq (.reg [.op (0, 2, false), .op (1, 2, false)]) .leaf) .leaf)) (.seq (.reg [.op (0, 0, false), .op (1, 0, false), .op (2, 0, false), .op (3, 0, false), .op (4, 0, false), .op (5, 0, false), .op (6, 0, false), .op (7, 0, false), .op (8, 0, false), .op (9, 0, false), .op (10, 0, false), .op (11, 0, false), .op (12, 0, false), .op (13, 2, false), .op (14, 0, false), .op (15, 2, false)]) (.reg [.op (0, 0, false), .op (1, 0, false), .op (2, 0, false)]))))) .leaf)) (.seq (.seq (.reg [.op (0, 0, false), .op (1, 0, false), .op (2, 0, false)]) (.blk (.loop [20] 196159429230833772508738951791485721649700177912435572736 (.seq (.seq (.reg [.op (0, 0, false), .op (1, 0, false), .op (2, 0, false)]) (.cond .leaf .leaf)) (.seq (.blk (.seq (.reg [.op (0, 0, false), .op (1, 0, false), .op (2, 0, false)]) (.blk (.loop [21] 196159429230833599645296555954746282255399602574183104512 (.seq (.seq (.reg [.op (0, 0, false), .op (1, 0, false), .op (2, 0, false)]) (.cond .leaf .leaf)) (.seq (.blk (.seq (.reg [.op (1, 0, false), .op (2, 0, false), .op (3, 0, false), .op (4, 0, false), .op (5, 0, false), .op (6, 0, false), .op (7, 0, false), .op (8, 0, false), .op (9, 0, false), .op (10, 0, false), .op (11, 0, false), .op (12, 0, false), .op (13, 0, false), .op (14, 0, false), .op (0, 2, true), .op (15, 2, false), .op (16, 0, false)]) (.seq (.reg [.op (0, 0, false), .op (1, 0, false), .op (3, 0, false), .op (4, 0, false), .op (5, 0, false), .op (6, 0, false), .op (7, 0, false), .op (8, 0, false), .op (9, 0, false), .op (10, 0, false), .op (11, 0, false), .op (12, 0, false), .op (13, 0, false), .op (14, 0, false), .op (15, 0, false), .op (16, 0, false), .op (2, 2, true), .op (17, 2, false), .op (18, 2, false)]) (.reg [.op (0, 0, false), .op (1, 0, false), .op (2, 0, false), .op (3, 0, false), .op (4, 0, false), .op (5, 0, false), .op (6, 0, false), .op (7, 0, false), .op (8, 14, false), .op (9, 0, false), .op (10, 2, false)])))) (.reg [.op (0, 0, false), .op (1, 0, false), .op (2, 0, false)]))))))) (.reg [.op (0, 0, false), .op (1, 0, false), .op (2, 0, false)])))))) (.reg [.op (0, 0, false), .op (1, 0, false), .op (2, 0, false), .op (3, 0, false), .op (4, 0, false), .op (5, 0, false), .op (6, 0, false), .op (7, 0, false)])))) (.reg [.op (0, 0, false), .op (1, 0, false), .op (2, 0, false)])))))) (.seq (.reg [.op (0, 0, false), .op (1, 0, false), .op (2, 0, false), .op (3, 0, false), .op (4, 0, false), .op (5, 0, false), .op (6, 0, false), .op (7, 0, false), .op (8, 0, false), .op (9, 0, false), .op (10, 0, false), .op (11, 0, false), .op (12, 0, false), .op (13, 2, false), .op (14, 2, false)]) (.seq (.seq (.reg [.op (0, 0, false), .op (1, 0, false)]) (.cond (.seq (.reg [.op (0, 0, false), .op (1, 2, false), .op (2, 2, false)]) .leaf) .leaf)) (.seq (.reg [.op (0, 0, false), .op (1, 2, false)]) .leaf)))))))))))
theorem I_impl_determinant {a0 : Value} {w : World} {K : Value → World → Prop} (h : D_impl_determinant a0 w K) : call P f_impl_determinant [a0] w K :=
  call_of_vc mixed Tryz.func121 (c := codeOf Tryz.f121) (by kernel_rfl) (by kernel_rfl) (p := P_impl_determinant) (by kernel_rfl) (by rw [Tryz.ntmps121]; simp) (by
    have e : D_impl_determinant a0 w K = vc P P_impl_determinant (codeOf Tryz.f121) (env0 [a0]) w (retX P Tryz.f121.results.toList K) := by kernel_rfl
    exact e ▸ h)

end Go.Proofs.YtabgkpfcpncmhaaGreat

/- Written by a program (gen.py): what is left to show of each function's call. -/
set_option linter.unusedVariables false
set_option maxRecDepth 20000
namespace Go.Proofs.YtabgkpfcpncmhaaGreat
open Go Go.Vc

/-- spec.RoundedDeterminant -/
def D_spec_RoundedDeterminant (a0 a1 : Value) (w : World) (K : Value → World → Prop) : Prop :=
  call P f_spec_l10Is [a0] w fun x10_1 w2 =>
  una P .not x10_1 w2 fun x11_3 =>
  cnd x11_3
    (K (.tuple #[(.float .f32 0), (.int .i64 0), (.int .i64 1)]) w2)
    (call P f_spec_l03Mode [a1] w2 fun x13_4 w5 =>
    una P .not x13_4 w5 fun x14_6 =>
    cnd x14_6
      (K (.tuple #[(.float .f32 0), (.int .i64 0), (.int .i64 2)]) w5)
      (call P f_spec_l10Determinant [a0] w5 fun x17_7 w8 =>
      call P f_spec_l03Round [x17_7, a1] w8 fun x19_9 w10 =>
      xtr P x19_9 0 w10 fun x20_11 =>
      xtr P x19_9 1 w10 fun x21_12 =>
      K (.tuple #[x20_11, x21_12, (.int .i64 0)]) w10))
def P_spec_RoundedDeterminant : Plan := (.seq (.reg [.op (0, 0, false), .op (1, 0, false), .op (2, 0, false)]) (.seq (.seq (.reg [.op (0, 0, false), .op (1, 2, false), .op (2, 0, false)]) (.cond (.seq (.reg [.op (0, 0, false), .op (1, 0, false), .op (2, 0, false)]) .leaf) .leaf)) (.seq (.seq (.reg [.op (0, 0, false), .op (1, 2, false), .op (2, 0, false)]) (.cond (.seq (.reg [.op (0, 0, false), .op (1, 0, false), .op (2, 0, false)]) .leaf) .leaf)) (.seq (.reg [.op (0, 0, false), .op (1, 2, false), .op (2, 0, false), .op (3, 2, false), .op (4, 0, false), .op (5, 0, false), .op (6, 0, false), .op (7, 0, false), .op (8, 0, false)]) (.seq (.reg [.op (0, 0, false), .op (1, 0, false), .op (2, 0, false), .op (3, 0, false), .op (4, 0, false)]) .leaf)))))
theorem I_spec_RoundedDeterminant {a0 a1 : Value} {w : World} {K : Value → World → Prop} (h : D_spec_RoundedDeterminant a0 a1 w K) : call P f_spec_RoundedDeterminant [a0, a1] w K :=
  call_of_vc mixed Tryz.func39 (c := codeOf Tryz.f39) (by kernel_rfl) (by kernel_rfl) (p := P_spec_RoundedDeterminant) (by kernel_rfl) (by rw [Tryz.ntmps39]; simp) (by
    have e : D_spec_RoundedDeterminant a0 a1 w K = vc P P_spec_RoundedDeterminant (codeOf Tryz.f39) (env0 [a0, a1]) w (retX P Tryz.f39.results.toList K) := by kernel_rfl
    exact e ▸ h)

/-- spec.l10Is -/
def D_spec_l10Is (a0 : Value) (w : World) (K : Value → World → Prop) : Prop :=
  ∃ I1 : Nat → Value → World → Prop, (∃ m34, I1 m34 (.int .i64 0) w) ∧ ∀ (m4 : Nat) (x3_5 : Value) (junk2 : Env) (w3 : World), I1 m4 x3_5 w3 →
    bl0 P .len #[22] 3 [a0] w3 fun x6_6 =>
    bin P .lss 3 false false x3_5 x6_6 w3 fun x7_7 =>
    cnd x7_7
      (ixa P 22 a0 x3_5 w3 fun x12_8 =>
      ld P 41 x12_8 w3 fun x13_9 =>
      bl0 P .len #[41] 3 [x13_9] w3 fun x14_10 =>
      bl0 P .len #[22] 3 [a0] w3 fun x16_11 =>
      bin P .neq 3 false false x14_10 x16_11 w3 fun x17_12 =>
      ∃ J13 : Value → World → Prop, (∀ (x24_14 : Value) (junk16 : Env) (w15 : World), J13 x24_14 w15 →
        pick x17_12 (.bool true) x24_14 fun x25_17 =>
        cnd x25_17
          (K (.bool false) w15)
          (bin P .add 3 false true x3_5 (.int .i64 1) w15 fun x9_18 =>
          ∃ m19, m19 < m4 ∧ I1 m19 x9_18 w15)) ∧
        grd x17_12 false
          (ixa P 22 a0 x3_5 w3 fun x21_20 =>
          ld P 41 x21_20 w3 fun x22_21 =>
          call P f_spec_l10Vector [x22_21] w3 fun x23_22 w23 =>
          una P .not x23_22 w23 fun x24_24 =>
          J13 x24_24 w23)
          (J13 undef w3))
      (bl0 P .len #[22] 3 [a0] w3 fun x27_25 =>
      bin P .geq 3 false true x27_25 (.int .i64 1) w3 fun x28_26 =>
      ∃ J27 : Value → World → Prop, (∀ (x32_28 : Value) (junk30 : Env) (w29 : World), J27 x32_28 w29 →
        pick x28_26 x32_28 (.bool false) fun x33_31 =>
        K x33_31 w29) ∧
        grd x28_26 true
          (bl0 P .len #[22] 3 [a0] w3 fun x31_32 =>
          bin P .leq 3 false true x31_32 (.int .i64 8) w3 fun x32_33 =>
          J27 x32_33 w3)
          (J27 undef w3))
def P_spec_l10Is : Plan := (.seq (.reg [.op (0, 0, false)]) (.seq (.seq (.reg [.op (0, 0, false)]) (.blk (.loop [3] 67108860 (.seq (.seq (.reg [.op (0, 0, false), .op (1, 0, false), .op (2, 0, false), .op (3, 0, false)]) (.cond .leaf .leaf)) (.seq (.blk (.seq (.reg [.op (0, 0, false), .op (1, 0, false), .op (2, 0, false), .op (3, 0, false), .op (4, 0, false), .op (5, 0, false), .op (6, 0, false), .op (7, 0, false), .op (8, 0, false), .grp 8 false [(9, 0, false), (10, 0, false), (11, 0, false), (12, 0, false), (13, 2, false), (14, 0, false)] [24] 33030144, .op (15, 0, false)]) (.cond (.seq (.reg [.op (0, 0, false)]) .leaf) .leaf))) (.reg [.op (0, 0, false), .op (1, 0, false), .op (2, 0, false)])))))) (.seq (.reg [.op (0, 0, false), .op (1, 0, false), .op (2, 0, false), .op (3, 0, false), .grp 3 true [(4, 0, false), (5, 0, false), (6, 0, false)] [32] 7516192768, .op (7, 0, false), .op (8, 0, false)]) .leaf)))
theorem I_spec_l10Is {a0 : Value} {w : World} {K : Value → World → Prop} (h : D_spec_l10Is a0 w K) : call P f_spec_l10Is [a0] w K :=
  call_of_vc mixed Tryz.func88 (c := codeOf Tryz.f88) (by kernel_rfl) (by kernel_rfl) (p := P_spec_l10Is) (by kernel_rfl) (by rw [Tryz.ntmps88]; simp) (by
    have e : D_spec_l10Is a0 w K = vc P P_spec_l10Is (codeOf Tryz.f88) (env0 [a0]) w (retX P Tryz.f88.results.toList K) := by kernel_rfl
    exact e ▸ h)

/-- spec.l10Determinant -/
def D_spec_l10Determinant (a0 : Value) (w : World) (K : Value → World → Prop) : Prop :=
  alc P 28 w fun x2_1 w2 =>
  bl0 P .len #[22] 3 [a0] w2 fun x13_3 =>
  call P f_spec_l02Of [(.int .i64 1)] w2 fun x14_4 w5 =>
  call P f_spec_l03Make [x14_4, (.int .i64 0)] w5 fun x15_6 w7 =>
  bsl P 194 1 [(0, x15_6)] w7 fun x16_8 w9 =>
  ∃ I10 : Nat → Value → Value → World → Prop, (∃ m119, I10 m119 x16_8 (.int .i64 1) w9) ∧ ∀ (m13 : Nat) (x4_14 : Value) (x5_15 : Value) (junk11 : Env) (w12 : World), I10 m13 x4_14 x5_15 w12 →
    cnv P 3 189 x13_3 w12 fun x19_16 =>
    bin P .shl 3 true false (.int .i64 1) x19_16 w12 fun x20_17 =>
    bin P .lss 3 false false x5_15 x20_17 w12 fun x21_18 =>
    cnd x21_18
      (bld P 28 [] w12 fun x24_19 =>
      alc P 28 w12 fun x7_20 w21 =>
      sto P 28 x7_20 x24_19 w21 fun w23 =>
      ∃ I24 : Nat → Value → Value → World → Prop, (∃ m111, I24 m111 (.int .i64 0) (.int .i64 0) w23) ∧ ∀ (m27 : Nat) (x6_28 : Value) (x8_29 : Value) (junk25 : Env) (w26 : World), I24 m27 x6_28 x8_29 w26 →
        bin P .lss 3 false false x8_29 x13_3 w26 fun x27_30 =>
        cnd x27_30
          (cnv P 3 189 x8_29 w26 fun x33_31 =>
          bin P .shr 3 false false x5_15 x33_31 w26 fun x34_32 =>
          bin P .and 3 false true x34_32 (.int .i64 1) w26 fun x35_33 =>
          bin P .add 3 false false x6_28 x35_33 w26 fun x36_34 =>
          bin P .add 3 false true x8_29 (.int .i64 1) w26 fun x29_35 =>
          ∃ m36, m36 < m27 ∧ I24 m36 x36_34 x29_35 w26)
          (∃ I37 : Nat → Value → Value → World → Prop, (∃ m110, I37 m110 (.bool false) (.int .i64 0) w26) ∧ ∀ (m40 : Nat) (x9_41 : Value) (x10_42 : Value) (junk38 : Env) (w39 : World), I37 m40 x9_41 x10_42 w39 →
            bin P .lss 3 false false x10_42 x13_3 w39 fun x39_43 =>
            cnd x39_43
              (cnv P 3 189 x10_42 w39 fun x44_44 =>
              bin P .shr 3 false false x5_15 x44_44 w39 fun x45_45 =>
              bin P .and 3 false true x45_45 (.int .i64 1) w39 fun x46_46 =>
              bin P .eql 3 false true x46_46 (.int .i64 0) w39 fun x47_47 =>
              cnd x47_47
                (bin P .add 3 false true x10_42 (.int .i64 1) w39 fun x41_48 =>
                ∃ m49, m49 < m40 ∧ I37 m49 x9_41 x41_48 w39)
                (∃ J50 : Value → World → Prop, (∀ (x11_53 : Value) (junk51 : Env) (w52 : World), J50 x11_53 w52 →
                  ∃ J54 : World → Prop, (∀ (junk55 : Env) (w56 : World), J54 w56 →
                    ld P 28 x7_20 w56 fun x70_57 =>
                    ld P 28 x11_53 w56 fun x71_58 =>
                    call P f_spec_l03Add [x70_57, x71_58] w56 fun x72_59 w60 =>
                    sto P 28 x7_20 x72_59 w60 fun w62 =>
                    una P .not x9_41 w62 fun x74_63 =>
                    bin P .add 3 false true x10_42 (.int .i64 1) w62 fun x41_64 =>
                    ∃ m65, m65 < m40 ∧ I37 m65 x74_63 x41_64 w62) ∧
                    (cnd x9_41
                      (ld P 28 x11_53 w52 fun x68_66 =>
                      call P f_spec_l03Neg [x68_66] w52 fun x69_67 w68 =>
                      sto P 28 x11_53 x69_67 w68 fun w70 =>
                      J54 w70)
                      (J54 w52))) ∧
                  (bin P .sub 3 false false x13_3 x6_28 w39 fun x51_71 =>
                  ixa P 22 a0 x51_71 w39 fun x52_72 =>
                  ld P 41 x52_72 w39 fun x53_73 =>
                  ixa P 41 x53_73 x10_42 w39 fun x55_74 =>
                  ld P 35 x55_74 w39 fun x56_75 =>
                  cnv P 3 189 x10_42 w39 fun x61_76 =>
                  bin P .shl 3 true false (.int .i64 1) x61_76 w39 fun x62_77 =>
                  bin P .sub 3 false false x5_15 x62_77 w39 fun x63_78 =>
                  ixa P 194 x4_14 x63_78 w39 fun x64_79 =>
                  ld P 28 x64_79 w39 fun x65_80 =>
                  (call P f_spec_l03Of [x56_75] w39 fun x57_81 w82 =>
                    Ext w39 w82 ∧ (call P f_spec_l03Mul [x57_81, x65_80] w82 fun x66_83 w84 =>
                      alc P 28 w84 fun x11_85 w86 =>
                      Ext w84 w86 ∧ sto P 28 x11_85 x66_83 w86 fun w88 =>
                      J50 x11_85 w88) ∧
                      (alc P 28 w82 fun x11_89 w90 =>
                      Ext w82 w90 ∧ call P f_spec_l03Mul [x57_81, x65_80] w90 fun x66_91 w92 =>
                      sto P 28 x11_89 x66_91 w92 fun w94 =>
                      J50 x11_89 w94)) ∧
                    (alc P 28 w39 fun x11_95 w96 =>
                    Ext w39 w96 ∧ call P f_spec_l03Of [x56_75] w96 fun x57_97 w98 =>
                    Ext w96 w98 ∧ call P f_spec_l03Mul [x57_97, x65_80] w98 fun x66_99 w100 =>
                    sto P 28 x11_95 x66_99 w100 fun w102 =>
                    J50 x11_95 w102))))
              (ld P 28 x7_20 w39 fun x76_103 =>
              bsl P 194 1 [(0, x76_103)] w39 fun x77_104 w105 =>
              bl2 P .append #[194, 194] 194 [x4_14, x77_104] w105 fun x78_106 w107 =>
              bin P .add 3 false true x5_15 (.int .i64 1) w107 fun x23_108 =>
              ∃ m109, m109 < m13 ∧ I10 m109 x78_106 x23_108 w107)))
      (bl0 P .len #[194] 3 [x4_14] w12 fun x81_112 =>
      bin P .sub 3 false true x81_112 (.int .i64 1) w12 fun x82_113 =>
      ixa P 194 x4_14 x82_113 w12 fun x83_114 =>
      ld P 28 x83_114 w12 fun x84_115 =>
      sto P 28 x2_1 x84_115 w12 fun w117 =>
      ldc P 28 x2_1 w117 fun r118 =>
      K r118 w117)
def P_spec_l10Determinant : Plan := (.seq (.reg [.op (0, 2, false)]) (.seq (.reg [.op (0, 0, false), .op (1, 0, false), .op (2, 0, false)]) (.seq (.reg [.op (0, 2, false), .op (1, 2, false), .op (2, 2, false), .op (3, 0, false)]) (.seq (.seq (.reg [.op (0, 0, false)]) (.blk (.loop [4, 5] 604462909807314587226096 (.seq (.seq (.reg [.op (0, 0, false), .op (1, 0, false), .op (2, 0, false), .op (3, 0, false), .op (4, 0, false)]) (.cond .leaf .leaf)) (.seq (.blk (.seq (.reg [.op (0, 0, false), .op (1, 2, false), .op (2, 0, false), .op (3, 2, false)]) (.seq (.seq (.reg [.op (0, 0, false)]) (.blk (.loop [6, 8] 137405399360 (.seq (.seq (.reg [.op (0, 0, false), .op (1, 0, false), .op (2, 0, false)]) (.cond .leaf .leaf)) (.seq (.blk (.reg [.op (0, 0, false), .op (1, 0, false), .op (2, 0, false), .op (3, 0, false), .op (4, 0, false), .op (5, 0, false), .op (6, 0, false), .op (7, 0, false)])) (.reg [.op (0, 0, false), .op (1, 0, false), .op (2, 0, false)])))))) (.seq (.reg [.op (0, 0, false)]) (.seq (.seq (.reg [.op (0, 0, false)]) (.blk (.loop [9, 10] 37778931862819722759680 (.seq (.seq (.reg [.op (0, 0, false), .op (1, 0, false), .op (2, 0, false)]) (.cond .leaf .leaf)) (.seq (.blk (.seq (.seq (.reg [.op (0, 0, false), .op (1, 0, false), .op (2, 0, false), .op (3, 0, false), .op (4, 0, false), .op (5, 0, false)]) (.cond .leaf .leaf)) (.seq (.tree [11] 147573671114699704320 (.op (0, 0, false) (.op (1, 0, false) (.op (2, 0, false) (.op (3, 0, false) (.op (4, 0, false) (.op (5, 0, false) (.op (6, 0, false) (.op (7, 0, false) (.op (8, 0, false) (.op (10, 0, false) (.op (11, 0, false) (.op (12, 0, false) (.op (13, 0, false) (.op (14, 0, false) (.op (15, 0, false) (.op (16, 0, false) (.op (17, 0, false) (.fork (9, 2, true) (.fork (18, 2, false) (.fork (19, 2, true) (.fork (20, 2, false) .done .stop) .stop) (.fork (19, 2, true) (.fork (18, 2, false) (.fork (20, 2, false) .done .stop) .stop) .stop)) (.fork (19, 2, true) (.fork (9, 2, true) (.fork (18, 2, false) (.fork (20, 2, false) .done .stop) .stop) .stop) .stop)))))))))))))))))))) (.cut [] 1033017668127734890496 (.seq (.reg [.op (0, 0, false)]) (.cond (.reg [.op (0, 0, false), .op (1, 2, false), .op (2, 2, false)]) .leaf)) (.seq (.reg [.op (0, 0, false), .op (1, 0, false), .op (2, 2, false), .op (3, 2, false)]) (.reg [.op (0, 0, false), .op (1, 0, false), .op (2, 0, false)])))))) (.reg [.op (0, 0, false), .op (1, 0, false), .op (2, 0, false)])))))) (.reg [.op (0, 0, false), .op (1, 0, false), .op (2, 2, false), .op (3, 2, false), .op (4, 0, false)])))))) (.reg [.op (0, 0, false), .op (1, 0, false), .op (2, 0, false)])))))) (.seq (.reg [.op (0, 0, false), .op (1, 0, false), .op (2, 0, false), .op (3, 0, false), .op (4, 0, false), .op (5, 0, false), .op (6, 2, false)]) .leaf)))))
theorem I_spec_l10Determinant {a0 : Value} {w : World} {K : Value → World → Prop} (h : D_spec_l10Determinant a0 w K) : call P f_spec_l10Determinant [a0] w K :=
  call_of_vc mixed Tryz.func119 (c := codeOf Tryz.f119) (by kernel_rfl) (by kernel_rfl) (p := P_spec_l10Determinant) (by kernel_rfl) (by rw [Tryz.ntmps119]; simp) (by
    have e : D_spec_l10Determinant a0 w K = vc P P_spec_l10Determinant (codeOf Tryz.f119) (env0 [a0]) w (retX P Tryz.f119.results.toList K) := by kernel_rfl
    exact e ▸ h)

end Go.Proofs.YtabgkpfcpncmhaaGreat

/- Written by a program (gen.py): what is left to show of each function's call. -/
set_option linter.unusedVariables false
set_option maxRecDepth 20000
namespace Go.Proofs.YtabgkpfcpncmhaaGreat
open Go Go.Vc

/-- spec.l10Vector -/
def D_spec_l10Vector (a0 : Value) (w : World) (K : Value → World → Prop) : Prop :=
  ∃ I1 : Nat → Value → World → Prop, (∃ m24, I1 m24 (.int .i64 0) w) ∧ ∀ (m4 : Nat) (x3_5 : Value) (junk2 : Env) (w3 : World), I1 m4 x3_5 w3 →
    bl0 P .len #[41] 3 [a0] w3 fun x6_6 =>
    bin P .lss 3 false false x3_5 x6_6 w3 fun x7_7 =>
    cnd x7_7
      (ixa P 41 a0 x3_5 w3 fun x12_8 =>
      ld P 35 x12_8 w3 fun x13_9 =>
      call P f_spec_l01Finite [x13_9] w3 fun x14_10 w11 =>
      una P .not x14_10 w11 fun x15_12 =>
      cnd x15_12
        (K (.bool false) w11)
        (bin P .add 3 false true x3_5 (.int .i64 1) w11 fun x9_13 =>
        ∃ m14, m14 < m4 ∧ I1 m14 x9_13 w11))
      (bl0 P .len #[41] 3 [a0] w3 fun x17_15 =>
      bin P .geq 3 false true x17_15 (.int .i64 1) w3 fun x18_16 =>
      ∃ J17 : Value → World → Prop, (∀ (x22_18 : Value) (junk20 : Env) (w19 : World), J17 x22_18 w19 →
        pick x18_16 x22_18 (.bool false) fun x23_21 =>
        K x23_21 w19) ∧
        grd x18_16 true
          (bl0 P .len #[41] 3 [a0] w3 fun x21_22 =>
          bin P .leq 3 false true x21_22 (.int .i64 8) w3 fun x22_23 =>
          J17 x22_23 w3)
          (J17 undef w3))
def P_spec_l10Vector : Plan := (.seq (.reg [.op (0, 0, false)]) (.seq (.seq (.reg [.op (0, 0, false)]) (.blk (.loop [3] 65532 (.seq (.seq (.reg [.op (0, 0, false), .op (1, 0, false), .op (2, 0, false), .op (3, 0, false)]) (.cond .leaf .leaf)) (.seq (.blk (.seq (.reg [.op (0, 0, false), .op (1, 0, false), .op (2, 0, false), .op (3, 0, false), .op (4, 2, false), .op (5, 0, false)]) (.cond (.seq (.reg [.op (0, 0, false)]) .leaf) .leaf))) (.reg [.op (0, 0, false), .op (1, 0, false), .op (2, 0, false)])))))) (.seq (.reg [.op (0, 0, false), .op (1, 0, false), .op (2, 0, false), .op (3, 0, false), .grp 3 true [(4, 0, false), (5, 0, false), (6, 0, false)] [22] 7340032, .op (7, 0, false), .op (8, 0, false)]) .leaf)))
theorem I_spec_l10Vector {a0 : Value} {w : World} {K : Value → World → Prop} (h : D_spec_l10Vector a0 w K) : call P f_spec_l10Vector [a0] w K :=
  call_of_vc mixed Tryz.func161 (c := codeOf Tryz.f161) (by kernel_rfl) (by kernel_rfl) (p := P_spec_l10Vector) (by kernel_rfl) (by rw [Tryz.ntmps161]; simp) (by
    have e : D_spec_l10Vector a0 w K = vc P P_spec_l10Vector (codeOf Tryz.f161) (env0 [a0]) w (retX P Tryz.f161.results.toList K) := by kernel_rfl
    exact e ▸ h)

end Go.Proofs.YtabgkpfcpncmhaaGreat

/- Written by a program (gen.py): what is left to show of each function's call. -/
set_option linter.unusedVariables false
set_option maxRecDepth 20000
namespace Go.Proofs.YtabgkpfcpncmhaaGreat
open Go Go.Vc

end Go.Proofs.YtabgkpfcpncmhaaGreat

/- Written by a program (gen.py): what is left to show of each function's call. -/
set_option linter.unusedVariables false
set_option maxRecDepth 20000
namespace Go.Proofs.YtabgkpfcpncmhaaGreat
open Go Go.Vc

/-- slices.Clone[[]uint32,uint32] -/
def D_slices_Clone_uint32_uint32 (a0 : Value) (w : World) (K : Value → World → Prop) : Prop :=
  bin P .eql 177 false true a0 (.slice none 0 0) w fun x4_1 =>
  cnd x4_1
    (K (.slice none 0 0) w)
    (bsl P 177 0 [] w fun x5_2 w3 =>
    bl2 P .append #[177, 177] 177 [x5_2, a0] w3 fun x7_4 w5 =>
    K x7_4 w5)
def P_slices_Clone_uint32_uint32 : Plan := (.seq (.reg [.op (0, 0, false)]) (.seq (.seq (.reg [.op (0, 0, false), .op (1, 0, false)]) (.cond (.seq (.reg [.op (0, 0, false)]) .leaf) .leaf)) (.seq (.reg [.op (0, 2, false), .op (1, 0, false), .op (2, 2, false), .op (3, 0, false)]) .leaf)))
theorem I_slices_Clone_uint32_uint32 {a0 : Value} {w : World} {K : Value → World → Prop} (h : D_slices_Clone_uint32_uint32 a0 w K) : call P f_slices_Clone_uint32_uint32 [a0] w K :=
  call_of_vc mixed Tryz.func252 (c := codeOf Tryz.f252) (by kernel_rfl) (by kernel_rfl) (p := P_slices_Clone_uint32_uint32) (by kernel_rfl) (by rw [Tryz.ntmps252]; simp) (by
    have e : D_slices_Clone_uint32_uint32 a0 w K = vc P P_slices_Clone_uint32_uint32 (codeOf Tryz.f252) (env0 [a0]) w (retX P Tryz.f252.results.toList K) := by kernel_rfl
    exact e ▸ h)

/-- cmp.Compare[int] -/
def D_cmp_Compare_int (a0 a1 : Value) (w : World) (K : Value → World → Prop) : Prop :=
  call P f_cmp_isNaN_int [a0] w fun x8_1 w2 =>
  call P f_cmp_isNaN_int [a1] w2 fun x10_3 w4 =>
  cnd x8_1
    (cnd x10_3
      (K (.int .i64 0) w4)
      (K (.int .i64 (-1)) w4))
    (cnd x10_3
      (K (.int .i64 1) w4)
      (bin P .lss 3 false false a0 a1 w4 fun x16_5 =>
      cnd x16_5
        (K (.int .i64 (-1)) w4)
        (bin P .gtr 3 false false a0 a1 w4 fun x19_6 =>
        cnd x19_6
          (K (.int .i64 1) w4)
          (K (.int .i64 0) w4))))
def P_cmp_Compare_int : Plan := (.seq (.reg [.op (0, 0, false)]) (.seq (.reg [.op (0, 0, false), .op (1, 2, false), .op (2, 0, false)]) (.seq (.reg [.op (0, 0, false), .op (1, 2, false), .op (2, 0, false)]) (.seq (.seq (.reg [.op (0, 0, false)]) (.cond (.seq (.seq (.reg [.op (0, 0, false)]) (.cond (.seq (.reg [.op (0, 0, false)]) .leaf) .leaf)) (.seq (.reg [.op (0, 0, false)]) .leaf)) .leaf)) (.seq (.seq (.reg [.op (0, 0, false)]) (.cond (.seq (.reg [.op (0, 0, false)]) .leaf) .leaf)) (.seq (.seq (.reg [.op (0, 0, false), .op (1, 0, false), .op (2, 0, false)]) (.cond (.seq (.reg [.op (0, 0, false)]) .leaf) .leaf)) (.seq (.seq (.reg [.op (0, 0, false), .op (1, 0, false), .op (2, 0, false)]) (.cond (.seq (.reg [.op (0, 0, false)]) .leaf) .leaf)) (.seq (.reg [.op (0, 0, false)]) .leaf))))))))
theorem I_cmp_Compare_int {a0 a1 : Value} {w : World} {K : Value → World → Prop} (h : D_cmp_Compare_int a0 a1 w K) : call P f_cmp_Compare_int [a0, a1] w K :=
  call_of_vc mixed Tryz.func287 (c := codeOf Tryz.f287) (by kernel_rfl) (by kernel_rfl) (p := P_cmp_Compare_int) (by kernel_rfl) (by rw [Tryz.ntmps287]; simp) (by
    have e : D_cmp_Compare_int a0 a1 w K = vc P P_cmp_Compare_int (codeOf Tryz.f287) (env0 [a0, a1]) w (retX P Tryz.f287.results.toList K) := by kernel_rfl
    exact e ▸ h)

/-- cmp.Compare[uint32] -/
def D_cmp_Compare_uint32 (a0 a1 : Value) (w : World) (K : Value → World → Prop) : Prop :=
  call P f_cmp_isNaN_uint32 [a0] w fun x8_1 w2 =>
  call P f_cmp_isNaN_uint32 [a1] w2 fun x10_3 w4 =>
  cnd x8_1
    (cnd x10_3
      (K (.int .i64 0) w4)
      (K (.int .i64 (-1)) w4))
    (cnd x10_3
      (K (.int .i64 1) w4)
      (bin P .lss 221 false false a0 a1 w4 fun x16_5 =>
      cnd x16_5
        (K (.int .i64 (-1)) w4)
        (bin P .gtr 221 false false a0 a1 w4 fun x19_6 =>
        cnd x19_6
          (K (.int .i64 1) w4)
          (K (.int .i64 0) w4))))
def P_cmp_Compare_uint32 : Plan := (.seq (.reg [.op (0, 0, false)]) (.seq (.reg [.op (0, 0, false), .op (1, 2, false), .op (2, 0, false)]) (.seq (.reg [.op (0, 0, false), .op (1, 2, false), .op (2, 0, false)]) (.seq (.seq (.reg [.op (0, 0, false)]) (.cond (.seq (.seq (.reg [.op (0, 0, false)]) (.cond (.seq (.reg [.op (0, 0, false)]) .leaf) .leaf)) (.seq (.reg [.op (0, 0, false)]) .leaf)) .leaf)) (.seq (.seq (.reg [.op (0, 0, false)]) (.cond (.seq (.reg [.op (0, 0, false)]) .leaf) .leaf)) (.seq (.seq (.reg [.op (0, 0, false), .op (1, 0, false), .op (2, 0, false)]) (.cond (.seq (.reg [.op (0, 0, false)]) .leaf) .leaf)) (.seq (.seq (.reg [.op (0, 0, false), .op (1, 0, false), .op (2, 0, false)]) (.cond (.seq (.reg [.op (0, 0, false)]) .leaf) .leaf)) (.seq (.reg [.op (0, 0, false)]) .leaf))))))))
theorem I_cmp_Compare_uint32 {a0 a1 : Value} {w : World} {K : Value → World → Prop} (h : D_cmp_Compare_uint32 a0 a1 w K) : call P f_cmp_Compare_uint32 [a0, a1] w K :=
  call_of_vc mixed Tryz.func288 (c := codeOf Tryz.f288) (by kernel_rfl) (by kernel_rfl) (p := P_cmp_Compare_uint32) (by kernel_rfl) (by rw [Tryz.ntmps288]; simp) (by
    have e : D_cmp_Compare_uint32 a0 a1 w K = vc P P_cmp_Compare_uint32 (codeOf Tryz.f288) (env0 [a0, a1]) w (retX P Tryz.f288.results.toList K) := by kernel_rfl
    exact e ▸ h)

/-- cmp.isNaN[int] -/
def D_cmp_isNaN_int (a0 : Value) (w : World) (K : Value → World → Prop) : Prop :=
  bin P .neq 3 false false a0 a0 w fun x5_1 =>
  K x5_1 w
def P_cmp_isNaN_int : Plan := (.seq (.reg [.op (0, 0, false)]) (.seq (.reg [.op (0, 0, false), .op (1, 0, false), .op (2, 0, false), .op (3, 0, false)]) .leaf))
theorem I_cmp_isNaN_int {a0 : Value} {w : World} {K : Value → World → Prop} (h : D_cmp_isNaN_int a0 w K) : call P f_cmp_isNaN_int [a0] w K :=
  call_of_vc mixed Tryz.func305 (c := codeOf Tryz.f305) (by kernel_rfl) (by kernel_rfl) (p := P_cmp_isNaN_int) (by kernel_rfl) (by rw [Tryz.ntmps305]; simp) (by
    have e : D_cmp_isNaN_int a0 w K = vc P P_cmp_isNaN_int (codeOf Tryz.f305) (env0 [a0]) w (retX P Tryz.f305.results.toList K) := by kernel_rfl
    exact e ▸ h)

/-- cmp.isNaN[uint32] -/
def D_cmp_isNaN_uint32 (a0 : Value) (w : World) (K : Value → World → Prop) : Prop :=
  bin P .neq 221 false false a0 a0 w fun x5_1 =>
  K x5_1 w
def P_cmp_isNaN_uint32 : Plan := (.seq (.reg [.op (0, 0, false)]) (.seq (.reg [.op (0, 0, false), .op (1, 0, false), .op (2, 0, false), .op (3, 0, false)]) .leaf))
theorem I_cmp_isNaN_uint32 {a0 : Value} {w : World} {K : Value → World → Prop} (h : D_cmp_isNaN_uint32 a0 w K) : call P f_cmp_isNaN_uint32 [a0] w K :=
  call_of_vc mixed Tryz.func306 (c := codeOf Tryz.f306) (by kernel_rfl) (by kernel_rfl) (p := P_cmp_isNaN_uint32) (by kernel_rfl) (by rw [Tryz.ntmps306]; simp) (by
    have e : D_cmp_isNaN_uint32 a0 w K = vc P P_cmp_isNaN_uint32 (codeOf Tryz.f306) (env0 [a0]) w (retX P Tryz.f306.results.toList K) := by kernel_rfl
    exact e ▸ h)

end Go.Proofs.YtabgkpfcpncmhaaGreat

/- Written by a program (gen.py): what is left to show of each function's call. -/
set_option linter.unusedVariables false
set_option maxRecDepth 20000
namespace Go.Proofs.YtabgkpfcpncmhaaGreat
open Go Go.Vc

/-- (*impl.integer).Add -/
def D_impl_integer_Add (a0 a1 a2 : Value) (w : World) (K : Value → World → Prop) : Prop :=
  nch a2 fun x10_1 =>
  fda P 179 x10_1 0 w fun x11_2 =>
  ld P 4 x11_2 w fun x12_3 =>
  nch a2 fun x14_4 =>
  fda P 179 x14_4 1 w fun x15_5 =>
  ld P 177 x15_5 w fun x16_6 =>
  call P f_impl_integer_plus [a0, a1, x12_3, x16_6] w fun x17_7 w8 =>
  K x17_7 w8
def P_impl_integer_Add : Plan := (.seq (.reg [.op (0, 0, false)]) (.seq (.reg [.op (0, 0, false), .op (1, 0, false), .op (2, 0, false), .op (3, 0, false), .op (4, 0, false), .op (5, 0, false), .op (6, 0, false), .op (7, 0, false), .op (8, 0, false), .op (9, 0, false), .op (10, 2, false), .op (11, 0, false)]) .leaf))
theorem I_impl_integer_Add {a0 a1 a2 : Value} {w : World} {K : Value → World → Prop} (h : D_impl_integer_Add a0 a1 a2 w K) : call P f_impl_integer_Add [a0, a1, a2] w K :=
  call_of_vc mixed Tryz.func179 (c := codeOf Tryz.f179) (by kernel_rfl) (by kernel_rfl) (p := P_impl_integer_Add) (by kernel_rfl) (by rw [Tryz.ntmps179]; simp) (by
    have e : D_impl_integer_Add a0 a1 a2 w K = vc P P_impl_integer_Add (codeOf Tryz.f179) (env0 [a0, a1, a2]) w (retX P Tryz.f179.results.toList K) := by kernel_rfl
    exact e ▸ h)

/-- impl.newInt -/
def D_impl_newInt (a0 : Value) (w : World) (K : Value → World → Prop) : Prop :=
  alc P 179 w fun x3_1 w2 =>
  call P f_impl_integer_SetInt64 [x3_1, a0] w2 fun x5_3 w4 =>
  K x5_3 w4
def P_impl_newInt : Plan := (.seq (.reg [.op (0, 0, false)]) (.seq (.reg [.op (0, 2, false), .op (1, 0, false), .op (2, 2, false), .op (3, 0, false)]) .leaf))
theorem I_impl_newInt {a0 : Value} {w : World} {K : Value → World → Prop} (h : D_impl_newInt a0 w K) : call P f_impl_newInt [a0] w K :=
  call_of_vc mixed Tryz.func182 (c := codeOf Tryz.f182) (by kernel_rfl) (by kernel_rfl) (p := P_impl_newInt) (by kernel_rfl) (by rw [Tryz.ntmps182]; simp) (by
    have e : D_impl_newInt a0 w K = vc P P_impl_newInt (codeOf Tryz.f182) (env0 [a0]) w (retX P Tryz.f182.results.toList K) := by kernel_rfl
    exact e ▸ h)

/-- (*impl.integer).Abs -/
def D_impl_integer_Abs (a0 a1 : Value) (w : World) (K : Value → World → Prop) : Prop :=
  nch a1 fun x7_1 =>
  fda P 179 x7_1 1 w fun x8_2 =>
  ld P 177 x8_2 w fun x9_3 =>
  call P f_slices_Clone_uint32_uint32 [x9_3] w fun x10_4 w5 =>
  call P f_impl_integer_put [a0, (.bool false), x10_4] w5 fun x11_6 w7 =>
  K x11_6 w7
def P_impl_integer_Abs : Plan := (.seq (.reg [.op (0, 0, false)]) (.seq (.reg [.op (0, 0, false), .op (1, 0, false), .op (2, 0, false), .op (3, 0, false), .op (4, 0, false), .op (5, 2, false), .op (6, 2, false), .op (7, 0, false)]) .leaf))
theorem I_impl_integer_Abs {a0 a1 : Value} {w : World} {K : Value → World → Prop} (h : D_impl_integer_Abs a0 a1 w K) : call P f_impl_integer_Abs [a0, a1] w K :=
  call_of_vc mixed Tryz.func183 (c := codeOf Tryz.f183) (by kernel_rfl) (by kernel_rfl) (p := P_impl_integer_Abs) (by kernel_rfl) (by rw [Tryz.ntmps183]; simp) (by
    have e : D_impl_integer_Abs a0 a1 w K = vc P P_impl_integer_Abs (codeOf Tryz.f183) (env0 [a0, a1]) w (retX P Tryz.f183.results.toList K) := by kernel_rfl
    exact e ▸ h)

/-- (*impl.integer).BitLen -/
def D_impl_integer_BitLen (a0 : Value) (w : World) (K : Value → World → Prop) : Prop :=
  nch a0 fun x4_1 =>
  fda P 179 x4_1 1 w fun x5_2 =>
  ld P 177 x5_2 w fun x6_3 =>
  call P f_impl_magBits [x6_3] w fun x7_4 w5 =>
  K x7_4 w5
def P_impl_integer_BitLen : Plan := (.seq (.reg [.op (0, 0, false)]) (.seq (.reg [.op (0, 0, false), .op (1, 0, false), .op (2, 0, false), .op (3, 0, false), .op (4, 2, false), .op (5, 0, false)]) .leaf))
theorem I_impl_integer_BitLen {a0 : Value} {w : World} {K : Value → World → Prop} (h : D_impl_integer_BitLen a0 w K) : call P f_impl_integer_BitLen [a0] w K :=
  call_of_vc mixed Tryz.func184 (c := codeOf Tryz.f184) (by kernel_rfl) (by kernel_rfl) (p := P_impl_integer_BitLen) (by kernel_rfl) (by rw [Tryz.ntmps184]; simp) (by
    have e : D_impl_integer_BitLen a0 w K = vc P P_impl_integer_BitLen (codeOf Tryz.f184) (env0 [a0]) w (retX P Tryz.f184.results.toList K) := by kernel_rfl
    exact e ▸ h)

/-- (*impl.integer).Lsh -/
def D_impl_integer_Lsh (a0 a1 a2 : Value) (w : World) (K : Value → World → Prop) : Prop :=
  nch a1 fun x9_1 =>
  fda P 179 x9_1 0 w fun x10_2 =>
  ld P 4 x10_2 w fun x11_3 =>
  nch a1 fun x13_4 =>
  fda P 179 x13_4 1 w fun x14_5 =>
  ld P 177 x14_5 w fun x15_6 =>
  call P f_impl_magLeft [x15_6, a2] w fun x17_7 w8 =>
  Ext w w8 ∧ call P f_impl_integer_put [a0, x11_3, x17_7] w8 fun x18_9 w10 =>
  K x18_9 w10
def P_impl_integer_Lsh : Plan := (.seq (.reg [.op (0, 0, false)]) (.seq (.reg [.op (0, 0, false), .op (1, 0, false), .op (2, 0, false), .op (3, 0, false), .op (4, 0, false), .op (5, 0, false), .op (6, 0, false), .op (7, 0, false), .op (8, 0, false), .op (9, 0, false), .op (10, 2, true), .op (11, 2, false), .op (12, 0, false)]) .leaf))
theorem I_impl_integer_Lsh {a0 a1 a2 : Value} {w : World} {K : Value → World → Prop} (h : D_impl_integer_Lsh a0 a1 a2 w K) : call P f_impl_integer_Lsh [a0, a1, a2] w K :=
  call_of_vc mixed Tryz.func188 (c := codeOf Tryz.f188) (by kernel_rfl) (by kernel_rfl) (p := P_impl_integer_Lsh) (by kernel_rfl) (by rw [Tryz.ntmps188]; simp) (by
    have e : D_impl_integer_Lsh a0 a1 a2 w K = vc P P_impl_integer_Lsh (codeOf Tryz.f188) (env0 [a0, a1, a2]) w (retX P Tryz.f188.results.toList K) := by kernel_rfl
    exact e ▸ h)

/-- (*impl.integer).Rsh -/
def D_impl_integer_Rsh (a0 a1 a2 : Value) (w : World) (K : Value → World → Prop) : Prop :=
  nch a1 fun x9_1 =>
  fda P 179 x9_1 0 w fun x10_2 =>
  ld P 4 x10_2 w fun x11_3 =>
  una P .not x11_3 w fun x12_4 =>
  cnd x12_4
    (nch a1 fun x15_5 =>
    fda P 179 x15_5 1 w fun x16_6 =>
    ld P 177 x16_6 w fun x17_7 =>
    call P f_impl_magRight [x17_7, a2] w fun x19_8 w9 =>
    call P f_impl_integer_put [a0, (.bool false), x19_8] w9 fun x20_10 w11 =>
    K x20_10 w11)
    (nch a1 fun x22_12 =>
    fda P 179 x22_12 1 w fun x23_13 =>
    ld P 177 x23_13 w fun x24_14 =>
    bsl P 177 1 [(0, (.int .u32 1))] w fun x25_15 w16 =>
    call P f_impl_magSub [x24_14, x25_15] w16 fun x26_17 w18 =>
    call P f_impl_magRight [x26_17, a2] w18 fun x30_19 w20 =>
    bsl P 177 1 [(0, (.int .u32 1))] w20 fun x31_21 w22 =>
    call P f_impl_magAdd [x30_19, x31_21] w22 fun x32_23 w24 =>
    call P f_impl_integer_put [a0, (.bool true), x32_23] w24 fun x33_25 w26 =>
    K x33_25 w26)
def P_impl_integer_Rsh : Plan := (.seq (.reg [.op (0, 0, false)]) (.seq (.seq (.reg [.op (0, 0, false), .op (1, 0, false), .op (2, 0, false), .op (3, 0, false), .op (4, 0, false)]) (.cond (.seq (.reg [.op (0, 0, false), .op (1, 0, false), .op (2, 0, false), .op (3, 0, false), .op (4, 0, false), .op (5, 0, false), .op (6, 2, false), .op (7, 2, false), .op (8, 0, false)]) .leaf) .leaf)) (.seq (.reg [.op (0, 0, false), .op (1, 0, false), .op (2, 0, false), .op (3, 0, false), .op (4, 2, false), .op (5, 2, false), .op (6, 0, false)]) (.seq (.reg [.op (0, 0, false), .op (1, 0, false), .op (2, 0, false), .op (3, 2, false), .op (4, 2, false), .op (5, 2, false), .op (6, 2, false), .op (7, 0, false)]) .leaf))))
theorem I_impl_integer_Rsh {a0 a1 a2 : Value} {w : World} {K : Value → World → Prop} (h : D_impl_integer_Rsh a0 a1 a2 w K) : call P f_impl_integer_Rsh [a0, a1, a2] w K :=
  call_of_vc mixed Tryz.func189 (c := codeOf Tryz.f189) (by kernel_rfl) (by kernel_rfl) (p := P_impl_integer_Rsh) (by kernel_rfl) (by rw [Tryz.ntmps189]; simp) (by
    have e : D_impl_integer_Rsh a0 a1 a2 w K = vc P P_impl_integer_Rsh (codeOf Tryz.f189) (env0 [a0, a1, a2]) w (retX P Tryz.f189.results.toList K) := by kernel_rfl
    exact e ▸ h)

/-- (*impl.integer).Sub -/
def D_impl_integer_Sub (a0 a1 a2 : Value) (w : World) (K : Value → World → Prop) : Prop :=
  nch a2 fun x10_1 =>
  fda P 179 x10_1 0 w fun x11_2 =>
  ld P 4 x11_2 w fun x12_3 =>
  una P .not x12_3 w fun x13_4 =>
  nch a2 fun x15_5 =>
  fda P 179 x15_5 1 w fun x16_6 =>
  ld P 177 x16_6 w fun x17_7 =>
  call P f_impl_integer_plus [a0, a1, x13_4, x17_7] w fun x18_8 w9 =>
  K x18_8 w9
def P_impl_integer_Sub : Plan := (.seq (.reg [.op (0, 0, false)]) (.seq (.reg [.op (0, 0, false), .op (1, 0, false), .op (2, 0, false), .op (3, 0, false), .op (4, 0, false), .op (5, 0, false), .op (6, 0, false), .op (7, 0, false), .op (8, 0, false), .op (9, 0, false), .op (10, 0, false), .op (11, 2, false), .op (12, 0, false)]) .leaf))
theorem I_impl_integer_Sub {a0 a1 a2 : Value} {w : World} {K : Value → World → Prop} (h : D_impl_integer_Sub a0 a1 a2 w K) : call P f_impl_integer_Sub [a0, a1, a2] w K :=
  call_of_vc mixed Tryz.func190 (c := codeOf Tryz.f190) (by kernel_rfl) (by kernel_rfl) (p := P_impl_integer_Sub) (by kernel_rfl) (by rw [Tryz.ntmps190]; simp) (by
    have e : D_impl_integer_Sub a0 a1 a2 w K = vc P P_impl_integer_Sub (codeOf Tryz.f190) (env0 [a0, a1, a2]) w (retX P Tryz.f190.results.toList K) := by kernel_rfl
    exact e ▸ h)

/-- (*impl.integer).Sign -/
def D_impl_integer_Sign (a0 : Value) (w : World) (K : Value → World → Prop) : Prop :=
  nch a0 fun x5_1 =>
  fda P 179 x5_1 0 w fun x6_2 =>
  ld P 4 x6_2 w fun x7_3 =>
  cnd x7_3
    (K (.int .i64 (-1)) w)
    (nch a0 fun x10_4 =>
    fda P 179 x10_4 1 w fun x11_5 =>
    ld P 177 x11_5 w fun x12_6 =>
    bl0 P .len #[177] 3 [x12_6] w fun x13_7 =>
    bin P .gtr 3 false true x13_7 (.int .i64 0) w fun x14_8 =>
    cnd x14_8
      (K (.int .i64 1) w)
      (K (.int .i64 0) w))
def P_impl_integer_Sign : Plan := (.seq (.reg [.op (0, 0, false)]) (.seq (.blk (.seq (.reg [.op (0, 0, false), .op (1, 0, false), .op (2, 0, false), .op (3, 0, false), .op (4, 0, false)]) (.cond (.seq (.reg [.op (0, 0, false)]) .leaf) (.seq (.reg [.op (0, 0, false), .op (1, 0, false), .op (2, 0, false), .op (3, 0, false), .op (4, 0, false), .op (5, 0, false), .op (6, 0, false)]) (.cond (.seq (.reg [.op (0, 0, false)]) .leaf) .leaf))))) (.seq (.reg [.op (0, 0, false)]) .leaf)))
theorem I_impl_integer_Sign {a0 : Value} {w : World} {K : Value → World → Prop} (h : D_impl_integer_Sign a0 w K) : call P f_impl_integer_Sign [a0] w K :=
  call_of_vc mixed Tryz.func191 (c := codeOf Tryz.f191) (by kernel_rfl) (by kernel_rfl) (p := P_impl_integer_Sign) (by kernel_rfl) (by rw [Tryz.ntmps191]; simp) (by
    have e : D_impl_integer_Sign a0 w K = vc P P_impl_integer_Sign (codeOf Tryz.f191) (env0 [a0]) w (retX P Tryz.f191.results.toList K) := by kernel_rfl
    exact e ▸ h)

/-- (*impl.integer).Cmp -/
def D_impl_integer_Cmp (a0 a1 : Value) (w : World) (K : Value → World → Prop) : Prop :=
  nch a0 fun x7_1 =>
  fda P 179 x7_1 0 w fun x8_2 =>
  ld P 4 x8_2 w fun x9_3 =>
  ∃ J4 : Value → World → Prop, (∀ (x14_5 : Value) (junk7 : Env) (w6 : World), J4 x14_5 w6 →
    pick x9_3 x14_5 (.bool false) fun x15_8 =>
    cnd x15_8
      (nch a1 fun x17_9 =>
      fda P 179 x17_9 1 w6 fun x18_10 =>
      ld P 177 x18_10 w6 fun x19_11 =>
      nch a0 fun x21_12 =>
      fda P 179 x21_12 1 w6 fun x22_13 =>
      ld P 177 x22_13 w6 fun x23_14 =>
      call P f_impl_magCmp [x19_11, x23_14] w6 fun x24_15 w16 =>
      K x24_15 w16)
      (nch a0 fun x27_17 =>
      fda P 179 x27_17 0 w6 fun x28_18 =>
      ld P 4 x28_18 w6 fun x29_19 =>
      cnd x29_19
        (K (.int .i64 (-1)) w6)
        (nch a1 fun x32_20 =>
        fda P 179 x32_20 0 w6 fun x33_21 =>
        ld P 4 x33_21 w6 fun x34_22 =>
        cnd x34_22
          (K (.int .i64 1) w6)
          (nch a0 fun x36_23 =>
          fda P 179 x36_23 1 w6 fun x37_24 =>
          ld P 177 x37_24 w6 fun x38_25 =>
          nch a1 fun x40_26 =>
          fda P 179 x40_26 1 w6 fun x41_27 =>
          ld P 177 x41_27 w6 fun x42_28 =>
          call P f_impl_magCmp [x38_25, x42_28] w6 fun x43_29 w30 =>
          K x43_29 w30)))) ∧
    grd x9_3 true
      (nch a1 fun x12_31 =>
      fda P 179 x12_31 0 w fun x13_32 =>
      ld P 4 x13_32 w fun x14_33 =>
      J4 x14_33 w)
      (J4 undef w)
def P_impl_integer_Cmp : Plan := (.seq (.reg [.op (0, 0, false)]) (.seq (.blk (.seq (.reg [.op (0, 0, false), .op (1, 0, false), .op (2, 0, false), .op (3, 0, false), .op (4, 0, false), .grp 4 true [(5, 0, false), (6, 0, false), (7, 0, false), (8, 0, false)] [14] 30720, .op (9, 0, false), .op (10, 0, false)]) (.cond (.seq (.reg [.op (0, 0, false), .op (1, 0, false), .op (2, 0, false), .op (3, 0, false), .op (4, 0, false), .op (5, 0, false), .op (6, 0, false), .op (7, 0, false), .op (8, 2, false), .op (9, 0, false)]) .leaf) (.seq (.reg [.op (0, 0, false), .op (1, 0, false), .op (2, 0, false), .op (3, 0, false), .op (4, 0, false)]) (.cond (.seq (.reg [.op (0, 0, false)]) .leaf) (.seq (.reg [.op (0, 0, false), .op (1, 0, false), .op (2, 0, false), .op (3, 0, false), .op (4, 0, false)]) (.cond (.seq (.reg [.op (0, 0, false)]) .leaf) .leaf))))))) (.seq (.reg [.op (0, 0, false), .op (1, 0, false), .op (2, 0, false), .op (3, 0, false), .op (4, 0, false), .op (5, 0, false), .op (6, 0, false), .op (7, 0, false), .op (8, 2, false), .op (9, 0, false)]) .leaf)))
theorem I_impl_integer_Cmp {a0 a1 : Value} {w : World} {K : Value → World → Prop} (h : D_impl_integer_Cmp a0 a1 w K) : call P f_impl_integer_Cmp [a0, a1] w K :=
  call_of_vc mixed Tryz.func192 (c := codeOf Tryz.f192) (by kernel_rfl) (by kernel_rfl) (p := P_impl_integer_Cmp) (by kernel_rfl) (by rw [Tryz.ntmps192]; simp) (by
    have e : D_impl_integer_Cmp a0 a1 w K = vc P P_impl_integer_Cmp (codeOf Tryz.f192) (env0 [a0, a1]) w (retX P Tryz.f192.results.toList K) := by kernel_rfl
    exact e ▸ h)

/-- (*impl.integer).Bit -/
def D_impl_integer_Bit (a0 a1 : Value) (w : World) (K : Value → World → Prop) : Prop :=
  bin P .quo 3 false true a1 (.int .i64 32) w fun x6_1 =>
  nch a0 fun x8_2 =>
  fda P 179 x8_2 1 w fun x9_3 =>
  ld P 177 x9_3 w fun x10_4 =>
  bl0 P .len #[177] 3 [x10_4] w fun x11_5 =>
  bin P .geq 3 false false x6_1 x11_5 w fun x12_6 =>
  cnd x12_6
    (K (.int .u64 0) w)
    (nch a0 fun x14_7 =>
    fda P 179 x14_7 1 w fun x15_8 =>
    ld P 177 x15_8 w fun x16_9 =>
    bin P .quo 3 false true a1 (.int .i64 32) w fun x18_10 =>
    ixa P 177 x16_9 x18_10 w fun x19_11 =>
    ld P 221 x19_11 w fun x20_12 =>
    bin P .rem 3 false true a1 (.int .i64 32) w fun x22_13 =>
    bin P .shr 221 false false x20_12 x22_13 w fun x23_14 =>
    bin P .and 221 false true x23_14 (.int .u32 1) w fun x24_15 =>
    cnv P 221 189 x24_15 w fun x25_16 =>
    K x25_16 w)
def P_impl_integer_Bit : Plan := (.seq (.reg [.op (0, 0, false)]) (.seq (.seq (.reg [.op (0, 0, false), .op (1, 0, false), .op (2, 0, false), .op (3, 0, false), .op (4, 0, false), .op (5, 0, false), .op (6, 0, false), .op (7, 0, false)]) (.cond (.seq (.reg [.op (0, 0, false)]) .leaf) .leaf)) (.seq (.reg [.op (0, 0, false), .op (1, 0, false), .op (2, 0, false), .op (3, 0, false), .op (4, 0, false), .op (5, 0, false), .op (6, 0, false), .op (7, 0, false), .op (8, 0, false), .op (9, 0, false), .op (10, 0, false), .op (11, 0, false), .op (12, 0, false), .op (13, 0, false)]) .leaf)))
theorem I_impl_integer_Bit {a0 a1 : Value} {w : World} {K : Value → World → Prop} (h : D_impl_integer_Bit a0 a1 w K) : call P f_impl_integer_Bit [a0, a1] w K :=
  call_of_vc mixed Tryz.func193 (c := codeOf Tryz.f193) (by kernel_rfl) (by kernel_rfl) (p := P_impl_integer_Bit) (by kernel_rfl) (by rw [Tryz.ntmps193]; simp) (by
    have e : D_impl_integer_Bit a0 a1 w K = vc P P_impl_integer_Bit (codeOf Tryz.f193) (env0 [a0, a1]) w (retX P Tryz.f193.results.toList K) := by kernel_rfl
    exact e ▸ h)

/-- (*impl.integer).Int64 -/
def D_impl_integer_Int64 (a0 : Value) (w : World) (K : Value → World → Prop) : Prop :=
  nch a0 fun x4_1 =>
  fda P 179 x4_1 0 w fun x5_2 =>
  ld P 4 x5_2 w fun x6_3 =>
  cnd x6_3
    (call P f_impl_integer_low [a0] w fun x8_4 w5 =>
    cnv P 227 2 x8_4 w5 fun x9_6 =>
    una P .neg x9_6 w5 fun x10_7 =>
    K x10_7 w5)
    (call P f_impl_integer_low [a0] w fun x12_8 w9 =>
    cnv P 227 2 x12_8 w9 fun x13_10 =>
    K x13_10 w9)
def P_impl_integer_Int64 : Plan := (.seq (.reg [.op (0, 0, false)]) (.seq (.seq (.reg [.op (0, 0, false), .op (1, 0, false), .op (2, 0, false), .op (3, 0, false)]) (.cond (.seq (.reg [.op (0, 0, false), .op (1, 2, false), .op (2, 0, false), .op (3, 0, false), .op (4, 0, false)]) .leaf) .leaf)) (.seq (.reg [.op (0, 0, false), .op (1, 2, false), .op (2, 0, false), .op (3, 0, false)]) .leaf)))
theorem I_impl_integer_Int64 {a0 : Value} {w : World} {K : Value → World → Prop} (h : D_impl_integer_Int64 a0 w K) : call P f_impl_integer_Int64 [a0] w K :=
  call_of_vc mixed Tryz.func195 (c := codeOf Tryz.f195) (by kernel_rfl) (by kernel_rfl) (p := P_impl_integer_Int64) (by kernel_rfl) (by rw [Tryz.ntmps195]; simp) (by
    have e : D_impl_integer_Int64 a0 w K = vc P P_impl_integer_Int64 (codeOf Tryz.f195) (env0 [a0]) w (retX P Tryz.f195.results.toList K) := by kernel_rfl
    exact e ▸ h)

/-- (*impl.integer).Mul -/
def D_impl_integer_Mul (a0 a1 a2 : Value) (w : World) (K : Value → World → Prop) : Prop :=
  nch a1 fun x9_1 =>
  fda P 179 x9_1 0 w fun x10_2 =>
  ld P 4 x10_2 w fun x11_3 =>
  nch a2 fun x13_4 =>
  fda P 179 x13_4 0 w fun x14_5 =>
  ld P 4 x14_5 w fun x15_6 =>
  bin P .neq 4 false false x11_3 x15_6 w fun x16_7 =>
  nch a1 fun x18_8 =>
  fda P 179 x18_8 1 w fun x19_9 =>
  ld P 177 x19_9 w fun x20_10 =>
  nch a2 fun x22_11 =>
  fda P 179 x22_11 1 w fun x23_12 =>
  ld P 177 x23_12 w fun x24_13 =>
  call P f_impl_magMul [x20_10, x24_13] w fun x25_14 w15 =>
  Ext w w15 ∧ call P f_impl_integer_put [a0, x16_7, x25_14] w15 fun x26_16 w17 =>
  K x26_16 w17
def P_impl_integer_Mul : Plan := (.seq (.reg [.op (0, 0, false)]) (.seq (.reg [.op (0, 0, false), .op (1, 0, false), .op (2, 0, false), .op (3, 0, false), .op (4, 0, false), .op (5, 0, false), .op (6, 0, false), .op (7, 0, false), .op (8, 0, false), .op (9, 0, false), .op (10, 0, false), .op (11, 0, false), .op (12, 0, false), .op (13, 0, false), .op (14, 0, false), .op (15, 0, false), .op (16, 0, false), .op (17, 0, false), .op (18, 2, true), .op (19, 2, false), .op (20, 0, false)]) .leaf))
theorem I_impl_integer_Mul {a0 a1 a2 : Value} {w : World} {K : Value → World → Prop} (h : D_impl_integer_Mul a0 a1 a2 w K) : call P f_impl_integer_Mul [a0, a1, a2] w K :=
  call_of_vc mixed Tryz.func212 (c := codeOf Tryz.f212) (by kernel_rfl) (by kernel_rfl) (p := P_impl_integer_Mul) (by kernel_rfl) (by rw [Tryz.ntmps212]; simp) (by
    have e : D_impl_integer_Mul a0 a1 a2 w K = vc P P_impl_integer_Mul (codeOf Tryz.f212) (env0 [a0, a1, a2]) w (retX P Tryz.f212.results.toList K) := by kernel_rfl
    exact e ▸ h)

/-- (*impl.integer).Quo -/
def D_impl_integer_Quo (a0 a1 a2 : Value) (w : World) (K : Value → World → Prop) : Prop :=
  alc P 179 w fun x13_1 w2 =>
  call P f_impl_integer_QuoRem [a0, a1, a2, x13_1] w2 fun x14_3 w4 =>
  xtr P x14_3 0 w4 fun x15_5 =>
  xtr P x14_3 1 w4 fun x16_6 =>
  K x15_5 w4
def P_impl_integer_Quo : Plan := (.seq (.reg [.op (0, 0, false)]) (.seq (.reg [.op (0, 0, false), .op (1, 0, false), .op (2, 0, false), .op (3, 2, false), .op (4, 2, false), .op (5, 0, false), .op (6, 0, false), .op (7, 0, false), .op (8, 0, false), .op (9, 0, false)]) (.seq (.reg [.op (0, 0, false), .op (1, 0, false)]) .leaf)))
theorem I_impl_integer_Quo {a0 a1 a2 : Value} {w : World} {K : Value → World → Prop} (h : D_impl_integer_Quo a0 a1 a2 w K) : call P f_impl_integer_Quo [a0, a1, a2] w K :=
  call_of_vc mixed Tryz.func213 (c := codeOf Tryz.f213) (by kernel_rfl) (by kernel_rfl) (p := P_impl_integer_Quo) (by kernel_rfl) (by rw [Tryz.ntmps213]; simp) (by
    have e : D_impl_integer_Quo a0 a1 a2 w K = vc P P_impl_integer_Quo (codeOf Tryz.f213) (env0 [a0, a1, a2]) w (retX P Tryz.f213.results.toList K) := by kernel_rfl
    exact e ▸ h)

/-- (*impl.integer).plus -/
def D_impl_integer_plus (a0 a1 a2 a3 : Value) (w : World) (K : Value → World → Prop) : Prop :=
  nch a1 fun x11_1 =>
  fda P 179 x11_1 0 w fun x12_2 =>
  ld P 4 x12_2 w fun x13_3 =>
  bin P .eql 4 false false x13_3 a2 w fun x15_4 =>
  cnd x15_4
    (nch a1 fun x19_5 =>
    fda P 179 x19_5 1 w fun x20_6 =>
    ld P 177 x20_6 w fun x21_7 =>
    call P f_impl_magAdd [x21_7, a3] w fun x23_8 w9 =>
    call P f_impl_integer_put [a0, a2, x23_8] w9 fun x24_10 w11 =>
    K x24_10 w11)
    (nch a1 fun x27_12 =>
    fda P 179 x27_12 1 w fun x28_13 =>
    ld P 177 x28_13 w fun x29_14 =>
    call P f_impl_magCmp [x29_14, a3] w fun x31_15 w16 =>
    bin P .geq 3 false true x31_15 (.int .i64 0) w16 fun x32_17 =>
    cnd x32_17
      (nch a1 fun x35_18 =>
      fda P 179 x35_18 0 w16 fun x36_19 =>
      ld P 4 x36_19 w16 fun x37_20 =>
      nch a1 fun x39_21 =>
      fda P 179 x39_21 1 w16 fun x40_22 =>
      ld P 177 x40_22 w16 fun x41_23 =>
      call P f_impl_magSub [x41_23, a3] w16 fun x43_24 w25 =>
      Ext w16 w25 ∧ call P f_impl_integer_put [a0, x37_20, x43_24] w25 fun x44_26 w27 =>
      K x44_26 w27)
      (nch a1 fun x49_28 =>
      fda P 179 x49_28 1 w16 fun x50_29 =>
      ld P 177 x50_29 w16 fun x51_30 =>
      call P f_impl_magSub [a3, x51_30] w16 fun x52_31 w32 =>
      call P f_impl_integer_put [a0, a2, x52_31] w32 fun x53_33 w34 =>
      K x53_33 w34))
def P_impl_integer_plus : Plan := (.seq (.reg [.op (0, 0, false)]) (.seq (.blk (.seq (.reg [.op (0, 0, false), .op (1, 0, false), .op (2, 0, false), .op (3, 0, false), .op (4, 0, false), .op (5, 0, false), .op (6, 0, false)]) (.cond (.seq (.reg [.op (0, 0, false), .op (1, 0, false), .op (2, 0, false), .op (3, 0, false), .op (4, 0, false), .op (5, 0, false), .op (6, 0, false), .op (7, 2, false), .op (8, 2, false), .op (9, 0, false)]) .leaf) (.seq (.reg [.op (0, 0, false), .op (1, 0, false), .op (2, 0, false), .op (3, 0, false), .op (4, 0, false), .op (5, 2, false), .op (6, 0, false), .op (7, 0, false)]) (.cond (.seq (.reg [.op (0, 0, false), .op (1, 0, false), .op (2, 0, false), .op (3, 0, false), .op (4, 0, false), .op (5, 0, false), .op (6, 0, false), .op (7, 0, false), .op (8, 0, false), .op (9, 0, false), .op (10, 2, true), .op (11, 2, false), .op (12, 0, false)]) .leaf) .leaf))))) (.seq (.reg [.op (0, 0, false), .op (1, 0, false), .op (2, 0, false), .op (3, 0, false), .op (4, 0, false), .op (5, 0, false), .op (6, 0, false), .op (7, 2, false), .op (8, 2, false), .op (9, 0, false)]) .leaf)))
theorem I_impl_integer_plus {a0 a1 a2 a3 : Value} {w : World} {K : Value → World → Prop} (h : D_impl_integer_plus a0 a1 a2 a3 w K) : call P f_impl_integer_plus [a0, a1, a2, a3] w K :=
  call_of_vc mixed Tryz.func249 (c := codeOf Tryz.f249) (by kernel_rfl) (by kernel_rfl) (p := P_impl_integer_plus) (by kernel_rfl) (by rw [Tryz.ntmps249]; simp) (by
    have e : D_impl_integer_plus a0 a1 a2 a3 w K = vc P P_impl_integer_plus (codeOf Tryz.f249) (env0 [a0, a1, a2, a3]) w (retX P Tryz.f249.results.toList K) := by kernel_rfl
    exact e ▸ h)

/-- (*impl.integer).SetInt64 -/
def D_impl_integer_SetInt64 (a0 a1 : Value) (w : World) (K : Value → World → Prop) : Prop :=
  cnv P 2 227 a1 w fun x7_1 =>
  ∃ J2 : Value → World → Prop, (∀ (x5_5 : Value) (junk3 : Env) (w4 : World), J2 x5_5 w4 →
    bin P .lss 2 false true a1 (.int .i64 0) w4 fun x14_6 =>
    cnv P 227 221 x5_5 w4 fun x16_7 =>
    bin P .shr 227 false true x5_5 (.int .u64 32) w4 fun x18_8 =>
    cnv P 227 221 x18_8 w4 fun x19_9 =>
    bsl P 177 2 [(0, x16_7), (1, x19_9)] w4 fun x20_10 w11 =>
    call P f_impl_integer_put [a0, x14_6, x20_10] w11 fun x21_12 w13 =>
    K x21_12 w13) ∧
    (bin P .lss 2 false true a1 (.int .i64 0) w fun x9_14 =>
    cnd x9_14
      (una P .neg x7_1 w fun x11_15 =>
      J2 x11_15 w)
      (J2 x7_1 w))
def P_impl_integer_SetInt64 : Plan := (.seq (.reg [.op (0, 0, false)]) (.seq (.reg [.op (0, 0, false), .op (1, 0, false), .op (2, 0, false)]) (.cut [5] 3872 (.seq (.reg [.op (0, 0, false), .op (1, 0, false)]) (.cond (.reg [.op (0, 0, false), .op (1, 0, false), .op (2, 0, false)]) .leaf)) (.seq (.reg [.op (0, 0, false), .op (1, 0, false), .op (2, 0, false), .op (3, 0, false), .op (4, 0, false), .op (5, 0, false), .op (6, 0, false), .op (7, 0, false), .op (8, 2, false), .op (9, 2, false), .op (10, 0, false)]) .leaf))))
theorem I_impl_integer_SetInt64 {a0 a1 : Value} {w : World} {K : Value → World → Prop} (h : D_impl_integer_SetInt64 a0 a1 w K) : call P f_impl_integer_SetInt64 [a0, a1] w K :=
  call_of_vc mixed Tryz.func250 (c := codeOf Tryz.f250) (by kernel_rfl) (by kernel_rfl) (p := P_impl_integer_SetInt64) (by kernel_rfl) (by rw [Tryz.ntmps250]; simp) (by
    have e : D_impl_integer_SetInt64 a0 a1 w K = vc P P_impl_integer_SetInt64 (codeOf Tryz.f250) (env0 [a0, a1]) w (retX P Tryz.f250.results.toList K) := by kernel_rfl
    exact e ▸ h)

/-- (*impl.integer).put -/
def D_impl_integer_put (a0 a1 a2 : Value) (w : World) (K : Value → World → Prop) : Prop :=
  call P f_impl_magTrim [a2] w fun x9_1 w2 =>
  nch a0 fun x10_3 =>
  fda P 179 x10_3 1 w2 fun x11_4 =>
  sto P 177 x11_4 x9_1 w2 fun w6 =>
  ∃ J7 : Value → World → Prop, (∀ (x20_8 : Value) (junk10 : Env) (w9 : World), J7 x20_8 w9 →
    pick a1 x20_8 (.bool false) fun x21_11 =>
    nch a0 fun x22_12 =>
    fda P 179 x22_12 0 w9 fun x23_13 =>
    sto P 4 x23_13 x21_11 w9 fun w15 =>
    K a0 w15) ∧
    grd a1 true
      (nch a0 fun x16_16 =>
      fda P 179 x16_16 1 w6 fun x17_17 =>
      ld P 177 x17_17 w6 fun x18_18 =>
      bl0 P .len #[177] 3 [x18_18] w6 fun x19_19 =>
      bin P .gtr 3 false true x19_19 (.int .i64 0) w6 fun x20_20 =>
      J7 x20_20 w6)
      (J7 undef w6)
def P_impl_integer_put : Plan := (.seq (.reg [.op (0, 0, false)]) (.seq (.reg [.op (0, 0, false), .op (1, 0, false), .op (2, 2, false), .op (3, 0, false), .op (4, 0, false), .op (5, 2, false)]) (.seq (.reg [.op (0, 0, false), .op (1, 0, false), .op (2, 0, false), .grp 2 true [(3, 0, false), (4, 0, false), (5, 0, false), (6, 0, false), (7, 0, false), (8, 0, false)] [20] 2064384, .op (9, 0, false), .op (10, 0, false), .op (11, 0, false), .op (12, 2, false)]) (.seq (.reg [.op (0, 0, false), .op (1, 0, false)]) .leaf))))
theorem I_impl_integer_put {a0 a1 a2 : Value} {w : World} {K : Value → World → Prop} (h : D_impl_integer_put a0 a1 a2 w K) : call P f_impl_integer_put [a0, a1, a2] w K :=
  call_of_vc mixed Tryz.func251 (c := codeOf Tryz.f251) (by kernel_rfl) (by kernel_rfl) (p := P_impl_integer_put) (by kernel_rfl) (by rw [Tryz.ntmps251]; simp) (by
    have e : D_impl_integer_put a0 a1 a2 w K = vc P P_impl_integer_put (codeOf Tryz.f251) (env0 [a0, a1, a2]) w (retX P Tryz.f251.results.toList K) := by kernel_rfl
    exact e ▸ h)

/-- impl.magBits -/
def D_impl_magBits (a0 : Value) (w : World) (K : Value → World → Prop) : Prop :=
  bl0 P .len #[177] 3 [a0] w fun x6_1 =>
  bin P .eql 3 false true x6_1 (.int .i64 0) w fun x7_2 =>
  cnd x7_2
    (K (.int .i64 0) w)
    (bl0 P .len #[177] 3 [a0] w fun x9_3 =>
    bin P .sub 3 false true x9_3 (.int .i64 1) w fun x10_4 =>
    bin P .mul 3 true false (.int .i64 32) x10_4 w fun x11_5 =>
    bl0 P .len #[177] 3 [a0] w fun x14_6 =>
    bin P .sub 3 false true x14_6 (.int .i64 1) w fun x15_7 =>
    ixa P 177 a0 x15_7 w fun x16_8 =>
    ld P 221 x16_8 w fun x17_9 =>
    ∃ I10 : Nat → Value → Value → World → Prop, (∃ m20, I10 m20 x11_5 x17_9 w) ∧ ∀ (m13 : Nat) (x3_14 : Value) (x4_15 : Value) (junk11 : Env) (w12 : World), I10 m13 x3_14 x4_15 w12 →
      bin P .gtr 221 false true x4_15 (.int .u32 0) w12 fun x19_16 =>
      cnd x19_16
        (bin P .add 3 false true x3_14 (.int .i64 1) w12 fun x23_17 =>
        bin P .shr 221 false true x4_15 (.int .u64 1) w12 fun x21_18 =>
        ∃ m19, m19 < m13 ∧ I10 m19 x23_17 x21_18 w12)
        (K x3_14 w12))
def P_impl_magBits : Plan := (.seq (.reg [.op (0, 0, false)]) (.seq (.seq (.reg [.op (0, 0, false), .op (1, 0, false), .op (2, 0, false)]) (.cond (.seq (.reg [.op (0, 0, false)]) .leaf) .leaf)) (.seq (.reg [.op (0, 0, false), .op (1, 0, false), .op (2, 0, false), .op (3, 0, false), .op (4, 0, false)]) (.seq (.seq (.reg [.op (0, 0, false), .op (1, 0, false), .op (2, 0, false), .op (3, 0, false), .op (4, 0, false), .op (5, 0, false), .op (6, 0, false)]) (.blk (.loop [3, 4] 16515096 (.seq (.seq (.reg [.op (0, 0, false), .op (1, 0, false)]) (.cond .leaf .leaf)) (.seq (.blk (.reg [.op (0, 0, false), .op (1, 0, false), .op (2, 0, false)])) (.reg [.op (0, 0, false), .op (1, 0, false), .op (2, 0, false)])))))) (.seq (.reg [.op (0, 0, false), .op (1, 0, false)]) .leaf)))))
theorem I_impl_magBits {a0 : Value} {w : World} {K : Value → World → Prop} (h : D_impl_magBits a0 w K) : call P f_impl_magBits [a0] w K :=
  call_of_vc mixed Tryz.func253 (c := codeOf Tryz.f253) (by kernel_rfl) (by kernel_rfl) (p := P_impl_magBits) (by kernel_rfl) (by rw [Tryz.ntmps253]; simp) (by
    have e : D_impl_magBits a0 w K = vc P P_impl_magBits (codeOf Tryz.f253) (env0 [a0]) w (retX P Tryz.f253.results.toList K) := by kernel_rfl
    exact e ▸ h)

/-- impl.magLeft -/
def D_impl_magLeft (a0 a1 : Value) (w : World) (K : Value → World → Prop) : Prop :=
  bl0 P .len #[177] 3 [a0] w fun x10_1 =>
  bin P .eql 3 false true x10_1 (.int .i64 0) w fun x11_2 =>
  cnd x11_2
    (K (.slice none 0 0) w)
    (bin P .quo 189 false true a1 (.int .u64 32) w fun x13_3 =>
    cnv P 189 3 x13_3 w fun x14_4 =>
    bl0 P .len #[177] 3 [a0] w fun x16_5 =>
    bin P .add 3 false false x14_4 x16_5 w fun x17_6 =>
    bin P .add 3 false true x17_6 (.int .i64 1) w fun x18_7 =>
    mks P 177 x18_7 x18_7 w fun x19_8 w9 =>
    bl0 P .len #[177] 3 [a0] w9 fun x21_10 =>
    ∃ I11 : Nat → Value → World → Prop, (∃ m45, I11 m45 (.int .i64 0) w9) ∧ ∀ (m14 : Nat) (x22_15 : Value) (junk12 : Env) (w13 : World), I11 m14 x22_15 w13 →
      bin P .lss 3 false false x22_15 x21_10 w13 fun x23_16 =>
      cnd x23_16
        (ixa P 177 a0 x22_15 w13 fun x25_17 =>
        ld P 221 x25_17 w13 fun x26_18 =>
        cnv P 221 227 x26_18 w13 fun x28_19 =>
        bin P .rem 189 false true a1 (.int .u64 32) w13 fun x30_20 =>
        bin P .shl 227 false false x28_19 x30_20 w13 fun x31_21 =>
        bin P .quo 189 false true a1 (.int .u64 32) w13 fun x34_22 =>
        cnv P 189 3 x34_22 w13 fun x35_23 =>
        bin P .add 3 false false x35_23 x22_15 w13 fun x37_24 =>
        ixa P 177 x19_8 x37_24 w13 fun x38_25 =>
        ld P 221 x38_25 w13 fun x39_26 =>
        cnv P 227 221 x31_21 w13 fun x41_27 =>
        bin P .or 221 false false x39_26 x41_27 w13 fun x42_28 =>
        ixa P 177 x19_8 x37_24 w13 fun x43_29 =>
        sto P 221 x43_29 x42_28 w13 fun w31 =>
        bin P .quo 189 false true a1 (.int .u64 32) w31 fun x46_32 =>
        cnv P 189 3 x46_32 w31 fun x47_33 =>
        bin P .add 3 false false x47_33 x22_15 w31 fun x49_34 =>
        bin P .add 3 false true x49_34 (.int .i64 1) w31 fun x50_35 =>
        bin P .shr 227 false true x31_21 (.int .u64 32) w31 fun x52_36 =>
        cnv P 227 221 x52_36 w31 fun x53_37 =>
        ixa P 177 x19_8 x50_35 w31 fun x54_38 =>
        sto P 221 x54_38 x53_37 w31 fun w40 =>
        bin P .add 3 false true x22_15 (.int .i64 1) w40 fun x55_41 =>
        ∃ m42, m42 < m14 ∧ I11 m42 x55_41 w40)
        (call P f_impl_magTrim [x19_8] w13 fun x57_43 w44 =>
        K x57_43 w44))
def P_impl_magLeft : Plan := (.seq (.reg [.op (0, 0, false)]) (.seq (.seq (.reg [.op (0, 0, false), .op (1, 0, false), .op (2, 0, false)]) (.cond (.seq (.reg [.op (0, 0, false)]) .leaf) .leaf)) (.seq (.reg [.op (0, 0, false), .op (1, 0, false), .op (2, 0, false), .op (3, 0, false), .op (4, 0, false), .op (5, 0, false), .op (6, 0, false), .op (7, 2, false), .op (8, 0, false)]) (.seq (.seq (.reg [.op (0, 0, false), .op (1, 0, false), .op (2, 0, false)]) (.blk (.loop [22] 72057594033734080 (.seq (.reg [.op (0, 0, false)]) (.seq (.cond .leaf .leaf) (.seq (.blk (.seq (.reg [.op (0, 0, false), .op (1, 0, false), .op (2, 0, false), .op (3, 0, false), .op (4, 0, false)]) (.seq (.reg [.op (0, 0, false), .op (1, 0, false), .op (2, 0, false), .op (3, 0, false), .op (4, 0, false), .op (5, 0, false)]) (.seq (.reg [.op (0, 0, false), .op (1, 0, false), .op (2, 0, false), .op (3, 0, false), .op (4, 0, false), .op (5, 0, false), .op (6, 0, false), .op (7, 0, false), .op (8, 0, false), .op (9, 0, false), .op (10, 0, false), .op (11, 0, false), .op (12, 2, false)]) (.reg [.op (0, 0, false), .op (1, 0, false), .op (2, 0, false), .op (3, 0, false), .op (4, 0, false), .op (5, 0, false), .op (6, 0, false), .op (7, 0, false), .op (8, 0, false), .op (9, 0, false), .op (10, 0, false), .op (11, 2, false)]))))) (.reg [.op (0, 0, false), .op (1, 0, false)]))))))) (.seq (.reg [.op (0, 0, false), .op (1, 2, false), .op (2, 0, false)]) .leaf)))))
theorem I_impl_magLeft {a0 a1 : Value} {w : World} {K : Value → World → Prop} (h : D_impl_magLeft a0 a1 w K) : call P f_impl_magLeft [a0, a1] w K :=
  call_of_vc mixed Tryz.func256 (c := codeOf Tryz.f256) (by kernel_rfl) (by kernel_rfl) (p := P_impl_magLeft) (by kernel_rfl) (by rw [Tryz.ntmps256]; simp) (by
    have e : D_impl_magLeft a0 a1 w K = vc P P_impl_magLeft (codeOf Tryz.f256) (env0 [a0, a1]) w (retX P Tryz.f256.results.toList K) := by kernel_rfl
    exact e ▸ h)

/-- impl.magRight -/
def D_impl_magRight (a0 a1 : Value) (w : World) (K : Value → World → Prop) : Prop :=
  bl0 P .len #[177] 3 [a0] w fun x10_1 =>
  cnv P 3 189 x10_1 w fun x11_2 =>
  bin P .quo 189 false true a1 (.int .u64 32) w fun x13_3 =>
  bin P .leq 189 false false x11_2 x13_3 w fun x14_4 =>
  cnd x14_4
    (K (.slice none 0 0) w)
    (bin P .quo 189 false true a1 (.int .u64 32) w fun x17_5 =>
    sli P 177 a0 (some x17_5) none none w fun x18_6 =>
    bl0 P .len #[177] 3 [x18_6] w fun x20_7 =>
    mks P 177 x20_7 x20_7 w fun x21_8 w9 =>
    bl0 P .len #[177] 3 [x18_6] w9 fun x23_10 =>
    ∃ I11 : Nat → Value → World → Prop, (∃ m43, I11 m43 (.int .i64 0) w9) ∧ ∀ (m14 : Nat) (x24_15 : Value) (junk12 : Env) (w13 : World), I11 m14 x24_15 w13 →
      bin P .lss 3 false false x24_15 x23_10 w13 fun x25_16 =>
      cnd x25_16
        (ixa P 177 x18_6 x24_15 w13 fun x27_17 =>
        ld P 221 x27_17 w13 fun x28_18 =>
        cnv P 221 227 x28_18 w13 fun x30_19 =>
        ∃ J20 : Value → World → Prop, (∀ (x8_23 : Value) (junk21 : Env) (w22 : World), J20 x8_23 w22 →
          bin P .rem 189 false true a1 (.int .u64 32) w22 fun x49_24 =>
          bin P .shr 227 false false x8_23 x49_24 w22 fun x50_25 =>
          cnv P 227 221 x50_25 w22 fun x51_26 =>
          ixa P 177 x21_8 x24_15 w22 fun x52_27 =>
          sto P 221 x52_27 x51_26 w22 fun w29 =>
          bin P .add 3 false true x24_15 (.int .i64 1) w29 fun x53_30 =>
          ∃ m31, m31 < m14 ∧ I11 m31 x53_30 w29) ∧
          (bin P .add 3 false true x24_15 (.int .i64 1) w13 fun x32_32 =>
          bl0 P .len #[177] 3 [x18_6] w13 fun x34_33 =>
          bin P .lss 3 false false x32_32 x34_33 w13 fun x35_34 =>
          cnd x35_34
            (bin P .add 3 false true x24_15 (.int .i64 1) w13 fun x39_35 =>
            ixa P 177 x18_6 x39_35 w13 fun x40_36 =>
            ld P 221 x40_36 w13 fun x41_37 =>
            cnv P 221 227 x41_37 w13 fun x42_38 =>
            bin P .shl 227 false true x42_38 (.int .u64 32) w13 fun x43_39 =>
            bin P .or 227 false false x30_19 x43_39 w13 fun x44_40 =>
            J20 x44_40 w13)
            (J20 x30_19 w13)))
        (call P f_impl_magTrim [x21_8] w13 fun x55_41 w42 =>
        K x55_41 w42))
def P_impl_magRight : Plan := (.seq (.reg [.op (0, 0, false)]) (.seq (.seq (.reg [.op (0, 0, false), .op (1, 0, false), .op (2, 0, false), .op (3, 0, false), .op (4, 0, false), .op (5, 0, false)]) (.cond (.seq (.reg [.op (0, 0, false)]) .leaf) .leaf)) (.seq (.reg [.op (0, 0, false), .op (1, 0, false), .op (2, 0, false), .op (3, 0, false), .op (4, 0, false)]) (.seq (.reg [.op (0, 0, false), .op (1, 0, false), .op (2, 2, false), .op (3, 0, false)]) (.seq (.seq (.reg [.op (0, 0, false), .op (1, 0, false), .op (2, 0, false)]) (.blk (.loop [24] 18014398492705216 (.seq (.reg [.op (0, 0, false)]) (.seq (.cond .leaf .leaf) (.seq (.blk (.seq (.reg [.op (0, 0, false), .op (1, 0, false), .op (2, 0, false), .op (3, 0, false), .op (4, 0, false)]) (.seq (.reg [.op (0, 0, false), .op (1, 0, false), .op (2, 0, false)]) (.cut [8] 35182224605440 (.seq (.reg [.op (0, 0, false), .op (1, 0, false), .op (2, 0, false), .op (3, 0, false), .op (4, 0, false)]) (.cond (.reg [.op (0, 0, false), .op (1, 0, false), .op (2, 0, false), .op (3, 0, false), .op (4, 0, false), .op (5, 0, false), .op (6, 0, false), .op (7, 0, false), .op (8, 0, false), .op (9, 0, false)]) .leaf)) (.reg [.op (0, 0, false), .op (1, 0, false), .op (2, 0, false), .op (3, 0, false), .op (4, 0, false), .op (5, 0, false), .op (6, 0, false), .op (7, 0, false), .op (8, 2, false)]))))) (.reg [.op (0, 0, false), .op (1, 0, false)]))))))) (.seq (.reg [.op (0, 0, false), .op (1, 2, false), .op (2, 0, false)]) .leaf))))))
theorem I_impl_magRight {a0 a1 : Value} {w : World} {K : Value → World → Prop} (h : D_impl_magRight a0 a1 w K) : call P f_impl_magRight [a0, a1] w K :=
  call_of_vc mixed Tryz.func257 (c := codeOf Tryz.f257) (by kernel_rfl) (by kernel_rfl) (p := P_impl_magRight) (by kernel_rfl) (by rw [Tryz.ntmps257]; simp) (by
    have e : D_impl_magRight a0 a1 w K = vc P P_impl_magRight (codeOf Tryz.f257) (env0 [a0, a1]) w (retX P Tryz.f257.results.toList K) := by kernel_rfl
    exact e ▸ h)

/-- impl.magSub -/
def D_impl_magSub (a0 a1 : Value) (w : World) (K : Value → World → Prop) : Prop :=
  bl0 P .len #[177] 3 [a0] w fun x12_1 =>
  mks P 177 x12_1 x12_1 w fun x13_2 w3 =>
  bl0 P .len #[177] 3 [a0] w3 fun x15_4 =>
  ∃ I5 : Nat → Value → Value → World → Prop, (∃ m35, I5 m35 (.int .u64 0) (.int .i64 0) w3) ∧ ∀ (m8 : Nat) (x6_9 : Value) (x16_10 : Value) (junk6 : Env) (w7 : World), I5 m8 x6_9 x16_10 w7 →
    bin P .lss 3 false false x16_10 x15_4 w7 fun x17_11 =>
    cnd x17_11
      (ixa P 177 a0 x16_10 w7 fun x19_12 =>
      ld P 221 x19_12 w7 fun x20_13 =>
      ∃ J14 : Value → World → Prop, (∀ (x9_17 : Value) (junk15 : Env) (w16 : World), J14 x9_17 w16 →
        cnv P 221 227 x20_13 w16 fun x34_18 =>
        bin P .sub 227 false false x34_18 x9_17 w16 fun x36_19 =>
        cnv P 227 221 x36_19 w16 fun x40_20 =>
        ixa P 177 x13_2 x16_10 w16 fun x41_21 =>
        sto P 221 x41_21 x40_20 w16 fun w23 =>
        bin P .shr 227 false true x36_19 (.int .u64 63) w23 fun x43_24 =>
        bin P .add 3 false true x16_10 (.int .i64 1) w23 fun x44_25 =>
        ∃ m26, m26 < m8 ∧ I5 m26 x43_24 x44_25 w23) ∧
        (bl0 P .len #[177] 3 [a1] w7 fun x24_27 =>
        bin P .lss 3 false false x16_10 x24_27 w7 fun x25_28 =>
        cnd x25_28
          (ixa P 177 a1 x16_10 w7 fun x29_29 =>
          ld P 221 x29_29 w7 fun x30_30 =>
          cnv P 221 227 x30_30 w7 fun x31_31 =>
          bin P .add 227 false false x6_9 x31_31 w7 fun x32_32 =>
          J14 x32_32 w7)
          (J14 x6_9 w7)))
      (call P f_impl_magTrim [x13_2] w7 fun x46_33 w34 =>
      K x46_33 w34)
def P_impl_magSub : Plan := (.seq (.reg [.op (0, 0, false)]) (.seq (.reg [.op (0, 0, false), .op (1, 0, false), .op (2, 2, false), .op (3, 0, false)]) (.seq (.reg [.op (0, 0, false)]) (.seq (.seq (.reg [.op (0, 0, false), .op (1, 0, false), .op (2, 0, false)]) (.blk (.loop [6, 16] 35184372025280 (.seq (.reg [.op (0, 0, false)]) (.seq (.cond .leaf .leaf) (.seq (.blk (.seq (.reg [.op (0, 0, false), .op (1, 0, false), .op (2, 0, false), .op (3, 0, false), .op (4, 0, false)]) (.seq (.reg [.op (0, 0, false), .op (1, 0, false)]) (.cut [9] 8585740800 (.seq (.reg [.op (0, 0, false), .op (1, 0, false), .op (2, 0, false), .op (3, 0, false)]) (.cond (.reg [.op (0, 0, false), .op (1, 0, false), .op (2, 0, false), .op (3, 0, false), .op (4, 0, false), .op (5, 0, false), .op (6, 0, false), .op (7, 0, false)]) .leaf)) (.seq (.reg [.op (0, 0, false), .op (1, 0, false), .op (2, 0, false), .op (3, 0, false), .op (4, 0, false)]) (.seq (.reg [.op (0, 0, false), .op (1, 0, false), .op (2, 0, false), .op (3, 0, false), .op (4, 0, false), .op (5, 2, false)]) (.reg [.op (0, 0, false), .op (1, 0, false), .op (2, 0, false)]))))))) (.reg [.op (0, 0, false), .op (1, 0, false)]))))))) (.seq (.reg [.op (0, 0, false), .op (1, 2, false), .op (2, 0, false)]) .leaf)))))
theorem I_impl_magSub {a0 a1 : Value} {w : World} {K : Value → World → Prop} (h : D_impl_magSub a0 a1 w K) : call P f_impl_magSub [a0, a1] w K :=
  call_of_vc mixed Tryz.func258 (c := codeOf Tryz.f258) (by kernel_rfl) (by kernel_rfl) (p := P_impl_magSub) (by kernel_rfl) (by rw [Tryz.ntmps258]; simp) (by
    have e : D_impl_magSub a0 a1 w K = vc P P_impl_magSub (codeOf Tryz.f258) (env0 [a0, a1]) w (retX P Tryz.f258.results.toList K) := by kernel_rfl
    exact e ▸ h)

/-- impl.magAdd -/
def D_impl_magAdd (a0 a1 : Value) (w : World) (K : Value → World → Prop) : Prop :=
  ∃ J1 : Value → Value → World → Prop, (∀ (x0_4 : Value) (x1_5 : Value) (junk2 : Env) (w3 : World), J1 x0_4 x1_5 w3 →
    bl0 P .len #[177] 3 [x0_4] w3 fun x17_6 =>
    bin P .add 3 false true x17_6 (.int .i64 1) w3 fun x18_7 =>
    mks P 177 x18_7 x18_7 w3 fun x19_8 w9 =>
    bl0 P .len #[177] 3 [x0_4] w9 fun x21_10 =>
    ∃ I11 : Nat → Value → Value → World → Prop, (∃ m46, I11 m46 (.int .u64 0) (.int .i64 0) w9) ∧ ∀ (m14 : Nat) (x6_15 : Value) (x22_16 : Value) (junk12 : Env) (w13 : World), I11 m14 x6_15 x22_16 w13 →
      bin P .lss 3 false false x22_16 x21_10 w13 fun x23_17 =>
      cnd x23_17
        (ixa P 177 x0_4 x22_16 w13 fun x25_18 =>
        ld P 221 x25_18 w13 fun x26_19 =>
        cnv P 221 227 x26_19 w13 fun x29_20 =>
        bin P .add 227 false false x6_15 x29_20 w13 fun x30_21 =>
        ∃ J22 : Value → World → Prop, (∀ (x6_25 : Value) (junk23 : Env) (w24 : World), J22 x6_25 w24 →
          cnv P 227 221 x6_25 w24 fun x45_26 =>
          ixa P 177 x19_8 x22_16 w24 fun x46_27 =>
          sto P 221 x46_27 x45_26 w24 fun w29 =>
          bin P .shr 227 false true x6_25 (.int .u64 32) w29 fun x48_30 =>
          bin P .add 3 false true x22_16 (.int .i64 1) w29 fun x49_31 =>
          ∃ m32, m32 < m14 ∧ I11 m32 x48_30 x49_31 w29) ∧
          (bl0 P .len #[177] 3 [x1_5] w13 fun x33_33 =>
          bin P .lss 3 false false x22_16 x33_33 w13 fun x34_34 =>
          cnd x34_34
            (ixa P 177 x1_5 x22_16 w13 fun x38_35 =>
            ld P 221 x38_35 w13 fun x39_36 =>
            cnv P 221 227 x39_36 w13 fun x40_37 =>
            bin P .add 227 false false x30_21 x40_37 w13 fun x41_38 =>
            J22 x41_38 w13)
            (J22 x30_21 w13)))
        (bl0 P .len #[177] 3 [x0_4] w13 fun x52_39 =>
        cnv P 227 221 x6_15 w13 fun x54_40 =>
        ixa P 177 x19_8 x52_39 w13 fun x55_41 =>
        sto P 221 x55_41 x54_40 w13 fun w43 =>
        call P f_impl_magTrim [x19_8] w43 fun x57_44 w45 =>
        K x57_44 w45)) ∧
    (bl0 P .len #[177] 3 [a0] w fun x10_47 =>
    bl0 P .len #[177] 3 [a1] w fun x12_48 =>
    bin P .lss 3 false false x10_47 x12_48 w fun x13_49 =>
    cnd x13_49
      (J1 a1 a0 w)
      (J1 a0 a1 w))
def P_impl_magAdd : Plan := (.seq (.reg [.op (0, 0, false)]) (.cut [0, 1] 65027 (.seq (.reg [.op (0, 0, false), .op (1, 0, false), .op (2, 0, false), .op (3, 0, false), .op (4, 0, false)]) (.cond (.reg [.op (0, 0, false), .op (1, 0, false), .op (2, 0, false), .op (3, 0, false)]) .leaf)) (.seq (.reg [.op (0, 0, false), .op (1, 0, false), .op (2, 0, false), .op (3, 2, false), .op (4, 0, false)]) (.seq (.reg [.op (0, 0, false)]) (.seq (.seq (.reg [.op (0, 0, false), .op (1, 0, false), .op (2, 0, false)]) (.blk (.loop [6, 22] 1125899902648768 (.seq (.reg [.op (0, 0, false)]) (.seq (.cond .leaf .leaf) (.seq (.blk (.seq (.reg [.op (0, 0, false), .op (1, 0, false), .op (2, 0, false), .op (3, 0, false), .op (4, 0, false)]) (.seq (.reg [.op (0, 0, false), .op (1, 0, false), .op (2, 0, false), .op (3, 0, false), .op (4, 0, false)]) (.cut [6] 4395899027520 (.seq (.reg [.op (0, 0, false), .op (1, 0, false), .op (2, 0, false), .op (3, 0, false)]) (.cond (.reg [.op (0, 0, false), .op (1, 0, false), .op (2, 0, false), .op (3, 0, false), .op (4, 0, false), .op (5, 0, false), .op (6, 0, false), .op (7, 0, false)]) .leaf)) (.seq (.reg [.op (0, 0, false), .op (1, 0, false), .op (2, 0, false), .op (3, 0, false), .op (4, 0, false), .op (5, 2, false)]) (.reg [.op (0, 0, false), .op (1, 0, false), .op (2, 0, false)])))))) (.reg [.op (0, 0, false), .op (1, 0, false)]))))))) (.seq (.reg [.op (0, 0, false), .op (1, 0, false), .op (2, 0, false), .op (3, 0, false), .op (4, 0, false), .op (5, 0, false), .op (6, 2, false)]) (.seq (.reg [.op (0, 0, false), .op (1, 2, false), .op (2, 0, false)]) .leaf)))))))
theorem I_impl_magAdd {a0 a1 : Value} {w : World} {K : Value → World → Prop} (h : D_impl_magAdd a0 a1 w K) : call P f_impl_magAdd [a0, a1] w K :=
  call_of_vc mixed Tryz.func259 (c := codeOf Tryz.f259) (by kernel_rfl) (by kernel_rfl) (p := P_impl_magAdd) (by kernel_rfl) (by rw [Tryz.ntmps259]; simp) (by
    have e : D_impl_magAdd a0 a1 w K = vc P P_impl_magAdd (codeOf Tryz.f259) (env0 [a0, a1]) w (retX P Tryz.f259.results.toList K) := by kernel_rfl
    exact e ▸ h)

/-- impl.magCmp -/
def D_impl_magCmp (a0 a1 : Value) (w : World) (K : Value → World → Prop) : Prop :=
  bl0 P .len #[177] 3 [a0] w fun x7_1 =>
  bl0 P .len #[177] 3 [a1] w fun x9_2 =>
  bin P .neq 3 false false x7_1 x9_2 w fun x10_3 =>
  cnd x10_3
    (bl0 P .len #[177] 3 [a0] w fun x12_4 =>
    bl0 P .len #[177] 3 [a1] w fun x14_5 =>
    call P f_cmp_Compare_int [x12_4, x14_5] w fun x15_6 w7 =>
    K x15_6 w7)
    (bl0 P .len #[177] 3 [a0] w fun x17_8 =>
    bin P .sub 3 false true x17_8 (.int .i64 1) w fun x18_9 =>
    ∃ I10 : Nat → Value → World → Prop, (∃ m29, I10 m29 x18_9 w) ∧ ∀ (m13 : Nat) (x5_14 : Value) (junk11 : Env) (w12 : World), I10 m13 x5_14 w12 →
      bin P .geq 3 false true x5_14 (.int .i64 0) w12 fun x20_15 =>
      cnd x20_15
        (ixa P 177 a0 x5_14 w12 fun x25_16 =>
        ld P 221 x25_16 w12 fun x26_17 =>
        ixa P 177 a1 x5_14 w12 fun x29_18 =>
        ld P 221 x29_18 w12 fun x30_19 =>
        bin P .neq 221 false false x26_17 x30_19 w12 fun x31_20 =>
        cnd x31_20
          (ixa P 177 a0 x5_14 w12 fun x34_21 =>
          ld P 221 x34_21 w12 fun x35_22 =>
          ixa P 177 a1 x5_14 w12 fun x38_23 =>
          ld P 221 x38_23 w12 fun x39_24 =>
          call P f_cmp_Compare_uint32 [x35_22, x39_24] w12 fun x40_25 w26 =>
          K x40_25 w26)
          (bin P .sub 3 false true x5_14 (.int .i64 1) w12 fun x22_27 =>
          ∃ m28, m28 < m13 ∧ I10 m28 x22_27 w12))
        (K (.int .i64 0) w12))
def P_impl_magCmp : Plan := (.seq (.reg [.op (0, 0, false)]) (.seq (.seq (.reg [.op (0, 0, false), .op (1, 0, false), .op (2, 0, false), .op (3, 0, false), .op (4, 0, false)]) (.cond (.seq (.reg [.op (0, 0, false), .op (1, 0, false), .op (2, 0, false), .op (3, 0, false), .op (4, 2, false), .op (5, 0, false)]) .leaf) .leaf)) (.seq (.seq (.reg [.op (0, 0, false), .op (1, 0, false), .op (2, 0, false), .op (3, 0, false)]) (.blk (.loop [5] 2199022731312 (.seq (.seq (.reg [.op (0, 0, false), .op (1, 0, false)]) (.cond .leaf .leaf)) (.seq (.blk (.seq (.reg [.op (0, 0, false), .op (1, 0, false), .op (2, 0, false), .op (3, 0, false), .op (4, 0, false), .op (5, 0, false), .op (6, 0, false), .op (7, 0, false), .op (8, 0, false)]) (.cond (.seq (.reg [.op (0, 0, false), .op (1, 0, false), .op (2, 0, false), .op (3, 0, false), .op (4, 0, false), .op (5, 0, false), .op (6, 0, false), .op (7, 0, false), .op (8, 2, false), .op (9, 0, false)]) .leaf) .leaf))) (.reg [.op (0, 0, false), .op (1, 0, false), .op (2, 0, false)])))))) (.seq (.reg [.op (0, 0, false)]) .leaf))))
theorem I_impl_magCmp {a0 a1 : Value} {w : World} {K : Value → World → Prop} (h : D_impl_magCmp a0 a1 w K) : call P f_impl_magCmp [a0, a1] w K :=
  call_of_vc mixed Tryz.func260 (c := codeOf Tryz.f260) (by kernel_rfl) (by kernel_rfl) (p := P_impl_magCmp) (by kernel_rfl) (by rw [Tryz.ntmps260]; simp) (by
    have e : D_impl_magCmp a0 a1 w K = vc P P_impl_magCmp (codeOf Tryz.f260) (env0 [a0, a1]) w (retX P Tryz.f260.results.toList K) := by kernel_rfl
    exact e ▸ h)

/-- (*impl.integer).low -/
def D_impl_integer_low (a0 : Value) (w : World) (K : Value → World → Prop) : Prop :=
  nch a0 fun x6_1 =>
  fda P 179 x6_1 1 w fun x7_2 =>
  ld P 177 x7_2 w fun x8_3 =>
  bl0 P .len #[177] 3 [x8_3] w fun x9_4 =>
  bl0 P .min #[3, 3] 3 [x9_4, (.int .i64 2)] w fun x10_5 =>
  bin P .sub 3 false true x10_5 (.int .i64 1) w fun x11_6 =>
  ∃ I7 : Nat → Value → Value → World → Prop, (∃ m24, I7 m24 (.int .u64 0) x11_6 w) ∧ ∀ (m10 : Nat) (x3_11 : Value) (x4_12 : Value) (junk8 : Env) (w9 : World), I7 m10 x3_11 x4_12 w9 →
    bin P .geq 3 false true x4_12 (.int .i64 0) w9 fun x13_13 =>
    cnd x13_13
      (bin P .shl 227 false true x3_11 (.int .u64 32) w9 fun x17_14 =>
      nch a0 fun x19_15 =>
      fda P 179 x19_15 1 w9 fun x20_16 =>
      ld P 177 x20_16 w9 fun x21_17 =>
      ixa P 177 x21_17 x4_12 w9 fun x23_18 =>
      ld P 221 x23_18 w9 fun x24_19 =>
      cnv P 221 227 x24_19 w9 fun x25_20 =>
      bin P .or 227 false false x17_14 x25_20 w9 fun x26_21 =>
      bin P .sub 3 false true x4_12 (.int .i64 1) w9 fun x15_22 =>
      ∃ m23, m23 < m10 ∧ I7 m23 x26_21 x15_22 w9)
      (K x3_11 w9)
def P_impl_integer_low : Plan := (.seq (.reg [.op (0, 0, false)]) (.seq (.reg [.op (0, 0, false)]) (.seq (.seq (.reg [.op (0, 0, false), .op (1, 0, false), .op (2, 0, false), .op (3, 0, false), .op (4, 0, false), .op (5, 0, false), .op (6, 0, false), .op (7, 0, false)]) (.blk (.loop [3, 4] 134213656 (.seq (.seq (.reg [.op (0, 0, false), .op (1, 0, false)]) (.cond .leaf .leaf)) (.seq (.blk (.reg [.op (0, 0, false), .op (1, 0, false), .op (2, 0, false), .op (3, 0, false), .op (4, 0, false), .op (5, 0, false), .op (6, 0, false), .op (7, 0, false), .op (8, 0, false), .op (9, 0, false), .op (10, 0, false), .op (11, 0, false)])) (.reg [.op (0, 0, false), .op (1, 0, false), .op (2, 0, false)])))))) (.seq (.reg [.op (0, 0, false), .op (1, 0, false)]) .leaf))))
theorem I_impl_integer_low {a0 : Value} {w : World} {K : Value → World → Prop} (h : D_impl_integer_low a0 w K) : call P f_impl_integer_low [a0] w K :=
  call_of_vc mixed Tryz.func263 (c := codeOf Tryz.f263) (by kernel_rfl) (by kernel_rfl) (p := P_impl_integer_low) (by kernel_rfl) (by rw [Tryz.ntmps263]; simp) (by
    have e : D_impl_integer_low a0 w K = vc P P_impl_integer_low (codeOf Tryz.f263) (env0 [a0]) w (retX P Tryz.f263.results.toList K) := by kernel_rfl
    exact e ▸ h)

/-- impl.magMul -/
def D_impl_magMul (a0 a1 : Value) (w : World) (K : Value → World → Prop) : Prop :=
  bl0 P .len #[177] 3 [a0] w fun x12_1 =>
  bl0 P .len #[177] 3 [a1] w fun x14_2 =>
  bin P .add 3 false false x12_1 x14_2 w fun x15_3 =>
  mks P 177 x15_3 x15_3 w fun x16_4 w5 =>
  bl0 P .len #[177] 3 [a0] w5 fun x18_6 =>
  ∃ I7 : Nat → Value → World → Prop, (∃ m53, I7 m53 (.int .i64 0) w5) ∧ ∀ (m10 : Nat) (x19_11 : Value) (junk8 : Env) (w9 : World), I7 m10 x19_11 w9 →
    bin P .lss 3 false false x19_11 x18_6 w9 fun x20_12 =>
    cnd x20_12
      (ixa P 177 a0 x19_11 w9 fun x22_13 =>
      ld P 221 x22_13 w9 fun x23_14 =>
      bl0 P .len #[177] 3 [a1] w9 fun x25_15 =>
      ∃ I16 : Nat → Value → Value → World → Prop, (∃ m50, I16 m50 (.int .u64 0) (.int .i64 0) w9) ∧ ∀ (m19 : Nat) (x8_20 : Value) (x26_21 : Value) (junk17 : Env) (w18 : World), I16 m19 x8_20 x26_21 w18 →
        bin P .lss 3 false false x26_21 x25_15 w18 fun x27_22 =>
        cnd x27_22
          (ixa P 177 a1 x26_21 w18 fun x29_23 =>
          ld P 221 x29_23 w18 fun x30_24 =>
          cnv P 221 227 x23_14 w18 fun x33_25 =>
          cnv P 221 227 x30_24 w18 fun x35_26 =>
          bin P .mul 227 false false x33_25 x35_26 w18 fun x36_27 =>
          bin P .add 3 false false x19_11 x26_21 w18 fun x40_28 =>
          ixa P 177 x16_4 x40_28 w18 fun x41_29 =>
          ld P 221 x41_29 w18 fun x42_30 =>
          cnv P 221 227 x42_30 w18 fun x43_31 =>
          bin P .add 227 false false x36_27 x43_31 w18 fun x44_32 =>
          bin P .add 227 false false x8_20 x44_32 w18 fun x45_33 =>
          bin P .add 3 false false x19_11 x26_21 w18 fun x49_34 =>
          cnv P 227 221 x45_33 w18 fun x51_35 =>
          ixa P 177 x16_4 x49_34 w18 fun x52_36 =>
          sto P 221 x52_36 x51_35 w18 fun w38 =>
          bin P .shr 227 false true x45_33 (.int .u64 32) w38 fun x54_39 =>
          bin P .add 3 false true x26_21 (.int .i64 1) w38 fun x55_40 =>
          ∃ m41, m41 < m19 ∧ I16 m41 x54_39 x55_40 w38)
          (bl0 P .len #[177] 3 [a1] w18 fun x59_42 =>
          bin P .add 3 false false x19_11 x59_42 w18 fun x60_43 =>
          cnv P 227 221 x8_20 w18 fun x62_44 =>
          ixa P 177 x16_4 x60_43 w18 fun x63_45 =>
          sto P 221 x63_45 x62_44 w18 fun w47 =>
          bin P .add 3 false true x19_11 (.int .i64 1) w47 fun x64_48 =>
          ∃ m49, m49 < m10 ∧ I7 m49 x64_48 w47))
      (call P f_impl_magTrim [x16_4] w9 fun x66_51 w52 =>
      K x66_51 w52)
def P_impl_magMul : Plan := (.seq (.reg [.op (0, 0, false)]) (.seq (.reg [.op (0, 0, false), .op (1, 0, false), .op (2, 0, false), .op (3, 0, false), .op (4, 0, false), .op (5, 2, false), .op (6, 0, false)]) (.seq (.seq (.reg [.op (0, 0, false), .op (1, 0, false), .op (2, 0, false)]) (.blk (.loop [19] 36893488147418580928 (.seq (.reg [.op (0, 0, false)]) (.seq (.cond .leaf .leaf) (.seq (.blk (.seq (.reg [.op (0, 0, false), .op (1, 0, false), .op (2, 0, false), .op (3, 0, false), .op (4, 0, false)]) (.seq (.reg [.op (0, 0, false)]) (.seq (.seq (.reg [.op (0, 0, false), .op (1, 0, false), .op (2, 0, false)]) (.blk (.loop [8, 26] 72057593970820864 (.seq (.reg [.op (0, 0, false)]) (.seq (.cond .leaf .leaf) (.seq (.blk (.seq (.reg [.op (0, 0, false), .op (1, 0, false), .op (2, 0, false), .op (3, 0, false), .op (4, 0, false)]) (.seq (.reg [.op (0, 0, false), .op (1, 0, false), .op (2, 0, false), .op (3, 0, false), .op (4, 0, false), .op (5, 0, false), .op (6, 0, false), .op (7, 0, false), .op (8, 0, false), .op (9, 0, false), .op (10, 0, false), .op (11, 0, false), .op (12, 0, false), .op (13, 0, false), .op (14, 0, false), .op (15, 0, false)]) (.seq (.reg [.op (0, 0, false), .op (1, 0, false), .op (2, 0, false), .op (3, 0, false), .op (4, 0, false), .op (5, 0, false), .op (6, 0, false), .op (7, 2, false)]) (.reg [.op (0, 0, false), .op (1, 0, false), .op (2, 0, false)]))))) (.reg [.op (0, 0, false), .op (1, 0, false)]))))))) (.reg [.op (0, 0, false), .op (1, 0, false), .op (2, 0, false), .op (3, 0, false), .op (4, 0, false), .op (5, 0, false), .op (6, 0, false), .op (7, 0, false), .op (8, 2, false)]))))) (.reg [.op (0, 0, false), .op (1, 0, false)]))))))) (.seq (.reg [.op (0, 0, false), .op (1, 2, false), .op (2, 0, false)]) .leaf))))
theorem I_impl_magMul {a0 a1 : Value} {w : World} {K : Value → World → Prop} (h : D_impl_magMul a0 a1 w K) : call P f_impl_magMul [a0, a1] w K :=
  call_of_vc mixed Tryz.func274 (c := codeOf Tryz.f274) (by kernel_rfl) (by kernel_rfl) (p := P_impl_magMul) (by kernel_rfl) (by rw [Tryz.ntmps274]; simp) (by
    have e : D_impl_magMul a0 a1 w K = vc P P_impl_magMul (codeOf Tryz.f274) (env0 [a0, a1]) w (retX P Tryz.f274.results.toList K) := by kernel_rfl
    exact e ▸ h)

/-- (*impl.integer).QuoRem -/
def D_impl_integer_QuoRem (a0 a1 a2 a3 : Value) (w : World) (K : Value → World → Prop) : Prop :=
  nch a1 fun x16_1 =>
  fda P 179 x16_1 1 w fun x17_2 =>
  ld P 177 x17_2 w fun x18_3 =>
  nch a2 fun x20_4 =>
  fda P 179 x20_4 1 w fun x21_5 =>
  ld P 177 x21_5 w fun x22_6 =>
  call P f_impl_magDiv [x18_3, x22_6] w fun x23_7 w8 =>
  xtr P x23_7 0 w8 fun x24_9 =>
  xtr P x23_7 1 w8 fun x25_10 =>
  nch a1 fun x27_11 =>
  fda P 179 x27_11 0 w8 fun x28_12 =>
  ld P 4 x28_12 w8 fun x29_13 =>
  nch a1 fun x31_14 =>
  fda P 179 x31_14 0 w8 fun x32_15 =>
  ld P 4 x32_15 w8 fun x33_16 =>
  nch a2 fun x35_17 =>
  fda P 179 x35_17 0 w8 fun x36_18 =>
  ld P 4 x36_18 w8 fun x37_19 =>
  bin P .neq 4 false false x33_16 x37_19 w8 fun x38_20 =>
  call P f_impl_integer_put [a3, x29_13, x25_10] w8 fun x42_21 w22 =>
  call P f_impl_integer_put [a0, x38_20, x24_9] w22 fun x46_23 w24 =>
  K (.tuple #[x46_23, a3]) w24
def P_impl_integer_QuoRem : Plan := (.seq (.reg [.op (0, 0, false), .op (1, 0, false)]) (.seq (.reg [.op (0, 0, false), .op (1, 0, false), .op (2, 0, false), .op (3, 0, false), .op (4, 0, false), .op (5, 0, false), .op (6, 0, false), .op (7, 0, false), .op (8, 2, false), .op (9, 0, false), .op (10, 0, false), .op (11, 0, false), .op (12, 0, false), .op (13, 0, false)]) (.seq (.reg [.op (0, 0, false), .op (1, 0, false), .op (2, 0, false), .op (3, 0, false), .op (4, 0, false), .op (5, 0, false), .op (6, 0, false), .op (7, 0, false), .op (8, 0, false), .op (9, 0, false), .op (10, 0, false), .op (11, 0, false), .op (12, 0, false), .op (13, 0, false), .op (14, 0, false)]) (.seq (.reg [.op (0, 0, false), .op (1, 0, false), .op (2, 0, false), .op (3, 2, false)]) (.seq (.reg [.op (0, 0, false), .op (1, 0, false), .op (2, 0, false), .op (3, 2, false), .op (4, 0, false), .op (5, 0, false), .op (6, 0, false)]) .leaf)))))
theorem I_impl_integer_QuoRem {a0 a1 a2 a3 : Value} {w : World} {K : Value → World → Prop} (h : D_impl_integer_QuoRem a0 a1 a2 a3 w K) : call P f_impl_integer_QuoRem [a0, a1, a2, a3] w K :=
  call_of_vc mixed Tryz.func275 (c := codeOf Tryz.f275) (by kernel_rfl) (by kernel_rfl) (p := P_impl_integer_QuoRem) (by kernel_rfl) (by rw [Tryz.ntmps275]; simp) (by
    have e : D_impl_integer_QuoRem a0 a1 a2 a3 w K = vc P P_impl_integer_QuoRem (codeOf Tryz.f275) (env0 [a0, a1, a2, a3]) w (retX P Tryz.f275.results.toList K) := by kernel_rfl
    exact e ▸ h)

/-- (*impl.integer).Neg -/
def D_impl_integer_Neg (a0 a1 : Value) (w : World) (K : Value → World → Prop) : Prop :=
  nch a1 fun x7_1 =>
  fda P 179 x7_1 0 w fun x8_2 =>
  ld P 4 x8_2 w fun x9_3 =>
  una P .not x9_3 w fun x10_4 =>
  nch a1 fun x12_5 =>
  fda P 179 x12_5 1 w fun x13_6 =>
  ld P 177 x13_6 w fun x14_7 =>
  call P f_slices_Clone_uint32_uint32 [x14_7] w fun x15_8 w9 =>
  Ext w w9 ∧ call P f_impl_integer_put [a0, x10_4, x15_8] w9 fun x16_10 w11 =>
  K x16_10 w11
def P_impl_integer_Neg : Plan := (.seq (.reg [.op (0, 0, false)]) (.seq (.reg [.op (0, 0, false), .op (1, 0, false), .op (2, 0, false), .op (3, 0, false), .op (4, 0, false), .op (5, 0, false), .op (6, 0, false), .op (7, 0, false), .op (8, 0, false), .op (9, 0, false), .op (10, 2, true), .op (11, 2, false), .op (12, 0, false)]) .leaf))
theorem I_impl_integer_Neg {a0 a1 : Value} {w : World} {K : Value → World → Prop} (h : D_impl_integer_Neg a0 a1 w K) : call P f_impl_integer_Neg [a0, a1] w K :=
  call_of_vc mixed Tryz.func276 (c := codeOf Tryz.f276) (by kernel_rfl) (by kernel_rfl) (p := P_impl_integer_Neg) (by kernel_rfl) (by rw [Tryz.ntmps276]; simp) (by
    have e : D_impl_integer_Neg a0 a1 w K = vc P P_impl_integer_Neg (codeOf Tryz.f276) (env0 [a0, a1]) w (retX P Tryz.f276.results.toList K) := by kernel_rfl
    exact e ▸ h)

/-- impl.magTrim -/
def D_impl_magTrim (a0 : Value) (w : World) (K : Value → World → Prop) : Prop :=
  ∃ I1 : Nat → Value → World → Prop, (∃ m22, I1 m22 a0 w) ∧ ∀ (m4 : Nat) (x0_5 : Value) (junk2 : Env) (w3 : World), I1 m4 x0_5 w3 →
    bl0 P .len #[177] 3 [x0_5] w3 fun x4_6 =>
    bin P .gtr 3 false true x4_6 (.int .i64 0) w3 fun x5_7 =>
    ∃ J8 : Value → World → Prop, (∀ (x13_9 : Value) (junk11 : Env) (w10 : World), J8 x13_9 w10 →
      pick x5_7 x13_9 (.bool false) fun x14_12 =>
      cnd x14_12
        (bl0 P .len #[177] 3 [x0_5] w10 fun x17_13 =>
        bin P .sub 3 false true x17_13 (.int .i64 1) w10 fun x18_14 =>
        sli P 177 x0_5 none (some x18_14) none w10 fun x19_15 =>
        ∃ m16, m16 < m4 ∧ I1 m16 x19_15 w10)
        (K x0_5 w10)) ∧
      grd x5_7 true
        (bl0 P .len #[177] 3 [x0_5] w3 fun x9_17 =>
        bin P .sub 3 false true x9_17 (.int .i64 1) w3 fun x10_18 =>
        ixa P 177 x0_5 x10_18 w3 fun x11_19 =>
        ld P 221 x11_19 w3 fun x12_20 =>
        bin P .eql 221 false true x12_20 (.int .u32 0) w3 fun x13_21 =>
        J8 x13_21 w3)
        (J8 undef w3)
def P_impl_magTrim : Plan := (.seq (.reg [.op (0, 0, false)]) (.seq (.blk (.loop [0] 1048569 (.seq (.seq (.reg [.op (0, 0, false), .op (1, 0, false), .op (2, 0, false), .op (3, 0, false), .grp 3 true [(4, 0, false), (5, 0, false), (6, 0, false), (7, 0, false), (8, 0, false), (9, 0, false), (10, 0, false)] [13] 16256, .op (11, 0, false)]) (.cond .leaf .leaf)) (.blk (.reg [.op (0, 0, false), .op (1, 0, false), .op (2, 0, false), .op (3, 0, false), .op (4, 0, false), .op (5, 0, false)]))))) (.seq (.reg [.op (0, 0, false), .op (1, 0, false)]) .leaf)))
theorem I_impl_magTrim {a0 : Value} {w : World} {K : Value → World → Prop} (h : D_impl_magTrim a0 w K) : call P f_impl_magTrim [a0] w K :=
  call_of_vc mixed Tryz.func285 (c := codeOf Tryz.f285) (by kernel_rfl) (by kernel_rfl) (p := P_impl_magTrim) (by kernel_rfl) (by rw [Tryz.ntmps285]; simp) (by
    have e : D_impl_magTrim a0 w K = vc P P_impl_magTrim (codeOf Tryz.f285) (env0 [a0]) w (retX P Tryz.f285.results.toList K) := by kernel_rfl
    exact e ▸ h)

/-- impl.magDiv -/
def D_impl_magDiv (a0 a1 : Value) (w : World) (K : Value → World → Prop) : Prop :=
  call P f_impl_magCmp [a0, a1] w fun x25_1 w2 =>
  bin P .lss 3 false true x25_1 (.int .i64 0) w2 fun x26_3 =>
  cnd x26_3
    (call P f_slices_Clone_uint32_uint32 [a0] w2 fun x28_4 w5 =>
    K (.tuple #[(.slice none 0 0), x28_4]) w5)
    (bl0 P .len #[177] 3 [a1] w2 fun x30_6 =>
    bin P .eql 3 false true x30_6 (.int .i64 1) w2 fun x31_7 =>
    cnd x31_7
      (bl0 P .len #[177] 3 [a0] w2 fun x33_8 =>
      mks P 177 x33_8 x33_8 w2 fun x34_9 w10 =>
      bl0 P .len #[177] 3 [a0] w10 fun x36_11 =>
      bin P .sub 3 false true x36_11 (.int .i64 1) w10 fun x37_12 =>
      ∃ I13 : Nat → Value → Value → World → Prop, (∃ m46, I13 m46 (.int .u64 0) x37_12 w10) ∧ ∀ (m16 : Nat) (x7_17 : Value) (x8_18 : Value) (junk14 : Env) (w15 : World), I13 m16 x7_17 x8_18 w15 →
        bin P .geq 3 false true x8_18 (.int .i64 0) w15 fun x39_19 =>
        cnd x39_19
          (bin P .shl 227 false true x7_17 (.int .u64 32) w15 fun x43_20 =>
          ixa P 177 a0 x8_18 w15 fun x46_21 =>
          ld P 221 x46_21 w15 fun x47_22 =>
          cnv P 221 227 x47_22 w15 fun x48_23 =>
          bin P .or 227 false false x43_20 x48_23 w15 fun x49_24 =>
          ixa P 177 a1 (.int .i64 0) w15 fun x54_25 =>
          ld P 221 x54_25 w15 fun x55_26 =>
          cnv P 221 227 x55_26 w15 fun x56_27 =>
          bin P .quo 227 false false x49_24 x56_27 w15 fun x57_28 =>
          cnv P 227 221 x57_28 w15 fun x58_29 =>
          ixa P 177 x34_9 x8_18 w15 fun x59_30 =>
          sto P 221 x59_30 x58_29 w15 fun w32 =>
          ixa P 177 a1 (.int .i64 0) w32 fun x62_33 =>
          ld P 221 x62_33 w32 fun x63_34 =>
          cnv P 221 227 x63_34 w32 fun x64_35 =>
          bin P .rem 227 false false x49_24 x64_35 w32 fun x65_36 =>
          bin P .sub 3 false true x8_18 (.int .i64 1) w32 fun x41_37 =>
          ∃ m38, m38 < m16 ∧ I13 m38 x65_36 x41_37 w32)
          (call P f_impl_magTrim [x34_9] w15 fun x67_39 w40 =>
          cnv P 227 221 x7_17 w40 fun x69_41 =>
          bsl P 177 1 [(0, x69_41)] w40 fun x70_42 w43 =>
          call P f_impl_magTrim [x70_42] w43 fun x71_44 w45 =>
          K (.tuple #[x67_39, x71_44]) w45))
      (bl0 P .len #[177] 3 [a1] w2 fun x73_47 =>
      bin P .mul 3 true false (.int .i64 32) x73_47 w2 fun x74_48 =>
      call P f_impl_magBits [a1] w2 fun x76_49 w50 =>
      bin P .sub 3 false false x74_48 x76_49 w50 fun x77_51 =>
      cnv P 3 189 x77_51 w50 fun x78_52 =>
      call P f_impl_magLeft [a1, x78_52] w50 fun x81_53 w54 =>
      call P f_impl_magLeft [a0, x78_52] w54 fun x84_55 w56 =>
      bsl P 177 1 [(0, (.int .u32 0))] w56 fun x85_57 w58 =>
      bl2 P .append #[177, 177] 177 [x84_55, x85_57] w58 fun x86_59 w60 =>
      ∃ I61 : Nat → Value → World → Prop, (∃ m232, I61 m232 x86_59 w60) ∧ ∀ (m64 : Nat) (x10_65 : Value) (junk62 : Env) (w63 : World), I61 m64 x10_65 w63 →
        bl0 P .len #[177] 3 [x10_65] w63 fun x88_66 =>
        bl0 P .len #[177] 3 [a0] w63 fun x90_67 =>
        bin P .leq 3 false false x88_66 x90_67 w63 fun x91_68 =>
        cnd x91_68
          (bsl P 177 1 [(0, (.int .u32 0))] w63 fun x93_69 w70 =>
          bl2 P .append #[177, 177] 177 [x10_65, x93_69] w70 fun x94_71 w72 =>
          ∃ m73, m73 < m64 ∧ I61 m73 x94_71 w72)
          (bl0 P .len #[177] 3 [x81_53] w63 fun x96_74 =>
          bl0 P .len #[177] 3 [x10_65] w63 fun x98_75 =>
          bin P .sub 3 false false x98_75 x96_74 w63 fun x100_76 =>
          mks P 177 x100_76 x100_76 w63 fun x101_77 w78 =>
          bl0 P .len #[177] 3 [x101_77] w78 fun x103_79 =>
          bin P .sub 3 false true x103_79 (.int .i64 1) w78 fun x104_80 =>
          ∃ I81 : Nat → Value → World → Prop, (∃ m231, I81 m231 x104_80 w78) ∧ ∀ (m84 : Nat) (x13_85 : Value) (junk82 : Env) (w83 : World), I81 m84 x13_85 w83 →
            bin P .geq 3 false true x13_85 (.int .i64 0) w83 fun x106_86 =>
            cnd x106_86
              (bin P .add 3 false false x13_85 x96_74 w83 fun x112_87 =>
              ixa P 177 x10_65 x112_87 w83 fun x113_88 =>
              ld P 221 x113_88 w83 fun x114_89 =>
              cnv P 221 227 x114_89 w83 fun x115_90 =>
              bin P .shl 227 false true x115_90 (.int .u64 32) w83 fun x116_91 =>
              bin P .add 3 false false x13_85 x96_74 w83 fun x120_92 =>
              bin P .sub 3 false true x120_92 (.int .i64 1) w83 fun x121_93 =>
              ixa P 177 x10_65 x121_93 w83 fun x122_94 =>
              ld P 221 x122_94 w83 fun x123_95 =>
              cnv P 221 227 x123_95 w83 fun x124_96 =>
              bin P .or 227 false false x116_91 x124_96 w83 fun x125_97 =>
              bin P .sub 3 false true x96_74 (.int .i64 1) w83 fun x129_98 =>
              ixa P 177 x81_53 x129_98 w83 fun x130_99 =>
              ld P 221 x130_99 w83 fun x131_100 =>
              cnv P 221 227 x131_100 w83 fun x132_101 =>
              bin P .quo 227 false false x125_97 x132_101 w83 fun x133_102 =>
              bin P .sub 3 false true x96_74 (.int .i64 1) w83 fun x137_103 =>
              ixa P 177 x81_53 x137_103 w83 fun x138_104 =>
              ld P 221 x138_104 w83 fun x139_105 =>
              cnv P 221 227 x139_105 w83 fun x140_106 =>
              bin P .rem 227 false false x125_97 x140_106 w83 fun x141_107 =>
              ∃ J108 : Value → World → Prop, (∀ (x15_111 : Value) (junk109 : Env) (w110 : World), J108 x15_111 w110 →
                ∃ I112 : Nat → Value → Value → Value → World → Prop, (∃ m188, I112 m188 (.int .u64 0) (.int .u64 0) (.int .i64 0) w110) ∧ ∀ (m115 : Nat) (x17_116 : Value) (x18_117 : Value) (x19_118 : Value) (junk113 : Env) (w114 : World), I112 m115 x17_116 x18_117 x19_118 w114 →
                  bin P .leq 3 false false x19_118 x96_74 w114 fun x182_119 =>
                  cnd x182_119
                    (∃ J120 : Value → World → Prop, (∀ (x17_123 : Value) (junk121 : Env) (w122 : World), J120 x17_123 w122 →
                      bin P .add 3 false false x13_85 x19_118 w122 fun x200_124 =>
                      ixa P 177 x10_65 x200_124 w122 fun x201_125 =>
                      ld P 221 x201_125 w122 fun x202_126 =>
                      cnv P 221 227 x202_126 w122 fun x203_127 =>
                      bin P .and 227 false true x17_123 (.int .u64 4294967295) w122 fun x205_128 =>
                      bin P .sub 227 false false x203_127 x205_128 w122 fun x206_129 =>
                      bin P .sub 227 false false x206_129 x18_117 w122 fun x208_130 =>
                      bin P .add 3 false false x13_85 x19_118 w122 fun x212_131 =>
                      cnv P 227 221 x208_130 w122 fun x214_132 =>
                      ixa P 177 x10_65 x212_131 w122 fun x215_133 =>
                      sto P 221 x215_133 x214_132 w122 fun w135 =>
                      bin P .shr 227 false true x208_130 (.int .u64 63) w135 fun x217_136 =>
                      bin P .shr 227 false true x17_123 (.int .u64 32) w135 fun x219_137 =>
                      bin P .add 3 false true x19_118 (.int .i64 1) w135 fun x184_138 =>
                      ∃ m139, m139 < m115 ∧ I112 m139 x219_137 x217_136 x184_138 w135) ∧
                      (bin P .lss 3 false false x19_118 x96_74 w114 fun x187_140 =>
                      cnd x187_140
                        (ixa P 177 x81_53 x19_118 w114 fun x192_141 =>
                        ld P 221 x192_141 w114 fun x193_142 =>
                        cnv P 221 227 x193_142 w114 fun x194_143 =>
                        bin P .mul 227 false false x15_111 x194_143 w114 fun x195_144 =>
                        bin P .add 227 false false x17_116 x195_144 w114 fun x196_145 =>
                        J120 x196_145 w114)
                        (J120 x17_116 w114)))
                    (∃ J146 : Value → World → Prop, (∀ (x15_149 : Value) (junk147 : Env) (w148 : World), J146 x15_149 w148 →
                      cnv P 227 221 x15_149 w148 fun x260_150 =>
                      ixa P 177 x101_77 x13_85 w148 fun x261_151 =>
                      sto P 221 x261_151 x260_150 w148 fun w153 =>
                      bin P .sub 3 false true x13_85 (.int .i64 1) w153 fun x108_154 =>
                      ∃ m155, m155 < m84 ∧ I81 m155 x108_154 w153) ∧
                      (bin P .gtr 227 false true x18_117 (.int .u64 0) w114 fun x221_156 =>
                      cnd x221_156
                        (bin P .sub 227 false true x15_111 (.int .u64 1) w114 fun x223_157 =>
                        ∃ I158 : Nat → Value → Value → World → Prop, (∃ m187, I158 m187 (.int .u64 0) (.int .i64 0) w114) ∧ ∀ (m161 : Nat) (x21_162 : Value) (x22_163 : Value) (junk159 : Env) (w160 : World), I158 m161 x21_162 x22_163 w160 →
                          bin P .leq 3 false false x22_163 x96_74 w160 fun x226_164 =>
                          cnd x226_164
                            (bin P .add 3 false false x13_85 x22_163 w160 fun x233_165 =>
                            ixa P 177 x10_65 x233_165 w160 fun x234_166 =>
                            ld P 221 x234_166 w160 fun x235_167 =>
                            cnv P 221 227 x235_167 w160 fun x236_168 =>
                            bin P .add 227 false false x21_162 x236_168 w160 fun x237_169 =>
                            ∃ J170 : Value → World → Prop, (∀ (x21_173 : Value) (junk171 : Env) (w172 : World), J170 x21_173 w172 →
                              bin P .add 3 false false x13_85 x22_163 w172 fun x251_174 =>
                              cnv P 227 221 x21_173 w172 fun x253_175 =>
                              ixa P 177 x10_65 x251_174 w172 fun x254_176 =>
                              sto P 221 x254_176 x253_175 w172 fun w178 =>
                              bin P .shr 227 false true x21_173 (.int .u64 32) w178 fun x256_179 =>
                              bin P .add 3 false true x22_163 (.int .i64 1) w178 fun x228_180 =>
                              ∃ m181, m181 < m161 ∧ I158 m181 x256_179 x228_180 w178) ∧
                              (bin P .lss 3 false false x22_163 x96_74 w160 fun x240_182 =>
                              cnd x240_182
                                (ixa P 177 x81_53 x22_163 w160 fun x244_183 =>
                                ld P 221 x244_183 w160 fun x245_184 =>
                                cnv P 221 227 x245_184 w160 fun x246_185 =>
                                bin P .add 227 false false x237_169 x246_185 w160 fun x247_186 =>
                                J170 x247_186 w160)
                                (J170 x237_169 w160)))
                            (J146 x223_157 w160))
                        (J146 x15_111 w114)))) ∧
                (∃ I189 : Nat → Value → Value → World → Prop, (∃ m224, I189 m224 x133_102 x141_107 w83) ∧ ∀ (m192 : Nat) (x15_193 : Value) (x16_194 : Value) (junk190 : Env) (w191 : World), I189 m192 x15_193 x16_194 w191 →
                  bin P .shr 227 false true x15_193 (.int .u64 32) w191 fun x143_195 =>
                  bin P .gtr 227 false true x143_195 (.int .u64 0) w191 fun x144_196 =>
                  ∃ J197 : Value → World → Prop, (∀ (x165_198 : Value) (junk200 : Env) (w199 : World), J197 x165_198 w199 →
                    pick x144_196 (.bool true) x165_198 fun x166_201 =>
                    cnd x166_201
                      (bin P .sub 227 false true x15_193 (.int .u64 1) w199 fun x168_202 =>
                      bin P .sub 3 false true x96_74 (.int .i64 1) w199 fun x172_203 =>
                      ixa P 177 x81_53 x172_203 w199 fun x173_204 =>
                      ld P 221 x173_204 w199 fun x174_205 =>
                      cnv P 221 227 x174_205 w199 fun x175_206 =>
                      bin P .add 227 false false x16_194 x175_206 w199 fun x176_207 =>
                      bin P .shr 227 false true x176_207 (.int .u64 32) w199 fun x178_208 =>
                      bin P .gtr 227 false true x178_208 (.int .u64 0) w199 fun x179_209 =>
                      cnd x179_209
                        (J108 x168_202 w199)
                        (∃ m210, m210 < m192 ∧ I189 m210 x168_202 x176_207 w199))
                      (J108 x15_193 w199)) ∧
                    grd x144_196 false
                      (bin P .sub 3 false true x96_74 (.int .i64 2) w191 fun x149_211 =>
                      ixa P 177 x81_53 x149_211 w191 fun x150_212 =>
                      ld P 221 x150_212 w191 fun x151_213 =>
                      cnv P 221 227 x151_213 w191 fun x152_214 =>
                      bin P .mul 227 false false x15_193 x152_214 w191 fun x153_215 =>
                      bin P .shl 227 false true x16_194 (.int .u64 32) w191 fun x155_216 =>
                      bin P .add 3 false false x13_85 x96_74 w191 fun x159_217 =>
                      bin P .sub 3 false true x159_217 (.int .i64 2) w191 fun x160_218 =>
                      ixa P 177 x10_65 x160_218 w191 fun x161_219 =>
                      ld P 221 x161_219 w191 fun x162_220 =>
                      cnv P 221 227 x162_220 w191 fun x163_221 =>
                      bin P .or 227 false false x155_216 x163_221 w191 fun x164_222 =>
                      bin P .gtr 227 false false x153_215 x164_222 w191 fun x165_223 =>
                      J197 x165_223 w191)
                      (J197 undef w191)))
              (call P f_impl_magTrim [x101_77] w83 fun x263_225 w226 =>
              call P f_impl_magTrim [x10_65] w226 fun x265_227 w228 =>
              call P f_impl_magRight [x265_227, x78_52] w228 fun x267_229 w230 =>
              K (.tuple #[x263_225, x267_229]) w230))))
def P_impl_magDiv : Plan := (.seq (.reg [.op (0, 0, false), .op (1, 0, false)]) (.seq (.seq (.reg [.op (0, 0, false), .op (1, 0, false), .op (2, 2, false), .op (3, 0, false)]) (.cond (.seq (.reg [.op (0, 0, false), .op (1, 2, false), .op (2, 0, false), .op (3, 0, false)]) .leaf) .leaf)) (.seq (.seq (.reg [.op (0, 0, false), .op (1, 0, false), .op (2, 0, false)]) (.cond (.seq (.reg [.op (0, 0, false), .op (1, 0, false), .op (2, 2, false), .op (3, 0, false), .op (4, 0, false)]) (.seq (.seq (.reg [.op (0, 0, false), .op (1, 0, false), .op (2, 0, false), .op (3, 0, false)]) (.blk (.loop [7, 8] 73786976019960299904 (.seq (.seq (.reg [.op (0, 0, false), .op (1, 0, false)]) (.cond .leaf .leaf)) (.seq (.blk (.seq (.reg [.op (0, 0, false), .op (1, 0, false), .op (2, 0, false), .op (3, 0, false), .op (4, 0, false), .op (5, 0, false), .op (6, 0, false), .op (7, 0, false), .op (8, 0, false)]) (.seq (.reg [.op (0, 0, false), .op (1, 0, false), .op (2, 0, false), .op (3, 0, false), .op (4, 0, false), .op (5, 0, false), .op (6, 0, false), .op (7, 0, false), .op (8, 0, false), .op (9, 0, false), .op (10, 2, false)]) (.reg [.op (0, 0, false), .op (1, 0, false), .op (2, 0, false), .op (3, 0, false), .op (4, 0, false), .op (5, 0, false), .op (6, 0, false)])))) (.reg [.op (0, 0, false), .op (1, 0, false), .op (2, 0, false)])))))) (.seq (.reg [.op (0, 0, false), .op (1, 2, false), .op (2, 0, false), .op (3, 0, false), .op (4, 2, false), .op (5, 2, false), .op (6, 0, false), .op (7, 0, false)]) .leaf))) .leaf)) (.seq (.reg [.op (0, 0, false), .op (1, 0, false), .op (2, 0, false), .op (3, 0, false), .op (4, 2, false), .op (5, 0, false), .op (6, 0, false), .op (7, 0, false)]) (.seq (.reg [.op (0, 0, false), .op (1, 0, false), .op (2, 2, false), .op (3, 0, false)]) (.seq (.reg [.op (0, 0, false), .op (1, 0, false), .op (2, 2, false), .op (3, 2, false), .op (4, 2, false), .op (5, 0, false)]) (.seq (.blk (.loop [10] 39459338752221496262409585664 (.seq (.seq (.reg [.op (0, 0, false), .op (1, 0, false), .op (2, 0, false), .op (3, 0, false), .op (4, 0, false)]) (.cond .leaf .leaf)) (.blk (.reg [.op (0, 0, false), .op (1, 2, false), .op (2, 2, false), .op (3, 0, false)]))))) (.seq (.reg [.op (0, 0, false), .op (1, 0, false), .op (2, 0, false)]) (.seq (.reg [.op (0, 0, false), .op (1, 0, false), .op (2, 0, false), .op (3, 0, false), .op (4, 2, false), .op (5, 0, false)]) (.seq (.seq (.reg [.op (0, 0, false), .op (1, 0, false), .op (2, 0, false), .op (3, 0, false)]) (.blk (.loop [13] 7410693711188236507108543040556026102609279018560431279317982035658545802764288 (.seq (.seq (.reg [.op (0, 0, false), .op (1, 0, false)]) (.cond .leaf .leaf)) (.seq (.blk (.seq (.reg [.op (0, 0, false), .op (1, 0, false), .op (2, 0, false), .op (3, 0, false), .op (4, 0, false), .op (5, 0, false), .op (6, 0, false), .op (7, 0, false), .op (8, 0, false), .op (9, 0, false), .op (10, 0, false), .op (11, 0, false), .op (12, 0, false), .op (13, 0, false), .op (14, 0, false), .op (15, 0, false), .op (16, 0, false), .op (17, 0, false)]) (.seq (.reg [.op (0, 0, false), .op (1, 0, false), .op (2, 0, false), .op (3, 0, false), .op (4, 0, false), .op (5, 0, false), .op (6, 0, false), .op (7, 0, false), .op (8, 0, false), .op (9, 0, false), .op (10, 0, false), .op (11, 0, false), .op (12, 0, false), .op (13, 0, false), .op (14, 0, false), .op (15, 0, false), .op (16, 0, false), .op (17, 0, false)]) (.cut [15] 1532495540860313672058714371364925254050577031807205376 (.blk (.loop [15, 16] 1532495540860313672058714371364925254050577031807205376 (.seq (.seq (.reg [.op (0, 0, false), .op (1, 0, false), .op (2, 0, false), .op (3, 0, false), .grp 3 false [(4, 0, false), (5, 0, false), (6, 0, false), (7, 0, false), (8, 0, false), (9, 0, false), (10, 0, false), (11, 0, false), (12, 0, false), (13, 0, false), (14, 0, false), (15, 0, false), (16, 0, false), (17, 0, false), (18, 0, false), (19, 0, false), (20, 0, false), (21, 0, false), (22, 0, false), (23, 0, false)] [165] 93536015586196992642543263150969022664533658828800, .op (24, 0, false)]) (.cond .leaf .leaf)) (.blk (.seq (.reg [.op (0, 0, false), .op (1, 0, false), .op (2, 0, false)]) (.seq (.reg [.op (0, 0, false), .op (1, 0, false), .op (2, 0, false), .op (3, 0, false), .op (4, 0, false), .op (5, 0, false), .op (6, 0, false), .op (7, 0, false), .op (8, 0, false)]) (.seq (.reg [.op (0, 0, false), .op (1, 0, false), .op (2, 0, false)]) (.cond .leaf .leaf)))))))) (.seq (.reg [.op (0, 0, false), .op (1, 0, false)]) (.seq (.seq (.reg [.op (0, 0, false)]) (.blk (.loop [17, 18, 19] 1684996666695382491625822554080368570075171217225167040946794004480 (.seq (.seq (.reg [.op (0, 0, false), .op (1, 0, false), .op (2, 0, false)]) (.cond .leaf .leaf)) (.seq (.blk (.cut [17] 200818215675066075999277794437776515421399574570939229274112 (.seq (.reg [.op (0, 0, false), .op (1, 0, false), .op (2, 0, false)]) (.cond (.reg [.op (0, 0, false), .op (1, 0, false), .op (2, 0, false), .op (3, 0, false), .op (4, 0, false), .op (5, 0, false), .op (6, 0, false), .op (7, 0, false), .op (8, 0, false), .op (9, 0, false)]) .leaf)) (.seq (.reg [.op (0, 0, false), .op (1, 0, false), .op (2, 0, false), .op (3, 0, false), .op (4, 0, false), .op (5, 0, false), .op (6, 0, false), .op (7, 0, false), .op (8, 0, false), .op (9, 0, false), .op (10, 0, false), .op (11, 0, false), .op (12, 0, false)]) (.seq (.reg [.op (0, 0, false), .op (1, 0, false), .op (2, 0, false), .op (3, 0, false), .op (4, 0, false), .op (5, 0, false), .op (6, 0, false), .op (7, 2, false)]) (.seq (.reg [.op (0, 0, false), .op (1, 0, false), .op (2, 0, false)]) (.reg [.op (0, 0, false), .op (1, 0, false), .op (2, 0, false)])))))) (.reg [.op (0, 0, false), .op (1, 0, false), .op (2, 0, false)])))))) (.cut [15] 231584178472947394180445055030209127263601242414178806552506382235757289963520 (.seq (.reg [.op (0, 0, false), .op (1, 0, false)]) (.cond (.seq (.reg [.op (0, 0, false), .op (1, 0, false), .op (2, 0, false)]) (.seq (.reg [.op (0, 0, false)]) (.seq (.reg [.op (0, 0, false)]) (.blk (.loop [21, 22] 231584178447672444179991330222708800619520338657643983656374595534722655322112 (.seq (.seq (.reg [.op (0, 0, false), .op (1, 0, false), .op (2, 0, false)]) (.cond .leaf .leaf)) (.seq (.blk (.seq (.reg [.op (0, 0, false), .op (1, 0, false), .op (2, 0, false), .op (3, 0, false), .op (4, 0, false), .op (5, 0, false), .op (6, 0, false), .op (7, 0, false), .op (8, 0, false), .op (9, 0, false)]) (.cut [21] 451871136817071792290928335815001410422879006625939548539600785980589604864 (.seq (.reg [.op (0, 0, false), .op (1, 0, false), .op (2, 0, false)]) (.cond (.reg [.op (0, 0, false), .op (1, 0, false), .op (2, 0, false), .op (3, 0, false), .op (4, 0, false), .op (5, 0, false), .op (6, 0, false), .op (7, 0, false)]) .leaf)) (.seq (.reg [.op (0, 0, false), .op (1, 0, false), .op (2, 0, false), .op (3, 0, false), .op (4, 0, false), .op (5, 0, false), .op (6, 0, false), .op (7, 2, false)]) (.reg [.op (0, 0, false), .op (1, 0, false), .op (2, 0, false)]))))) (.reg [.op (0, 0, false), .op (1, 0, false), .op (2, 0, false)])))))))) .leaf)) (.reg [.op (0, 0, false), .op (1, 0, false), .op (2, 0, false), .op (3, 0, false), .op (4, 0, false), .op (5, 2, false)])))))))) (.reg [.op (0, 0, false), .op (1, 0, false), .op (2, 0, false)])))))) (.seq (.reg [.op (0, 0, false), .op (1, 2, false), .op (2, 0, false), .op (3, 2, false), .op (4, 0, false), .op (5, 2, false), .op (6, 0, false), .op (7, 0, false)]) .leaf)))))))))))
theorem I_impl_magDiv {a0 a1 : Value} {w : World} {K : Value → World → Prop} (h : D_impl_magDiv a0 a1 w K) : call P f_impl_magDiv [a0, a1] w K :=
  call_of_vc mixed Tryz.func299 (c := codeOf Tryz.f299) (by kernel_rfl) (by kernel_rfl) (p := P_impl_magDiv) (by kernel_rfl) (by rw [Tryz.ntmps299]; simp) (by
    have e : D_impl_magDiv a0 a1 w K = vc P P_impl_magDiv (codeOf Tryz.f299) (env0 [a0, a1]) w (retX P Tryz.f299.results.toList K) := by kernel_rfl
    exact e ▸ h)

end Go.Proofs.YtabgkpfcpncmhaaGreat
