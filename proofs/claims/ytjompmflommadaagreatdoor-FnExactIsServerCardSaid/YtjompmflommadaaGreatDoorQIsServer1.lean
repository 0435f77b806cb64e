import Derived.Test.YtjompmflommadaaGreatDoorProg
import Derived.Test.YtjompmflommadaaGreatDoorQIsServerVVcH
set_option linter.unusedSimpArgs false
set_option linter.unusedVariables false

namespace Go.Proofs.YtjompmflommadaaGreatDoor
open Go Go.Vc
noncomputable abbrev P : Program := Tryz.prog
theorem mixed : P.follows .mixedOrders = true := by kernel_rfl
def codeOf (f : Func) : Code := match f.body with
  | some c => c
  | none => .skip
abbrev f_laws_FnExactIsProgram : FuncId := 3
abbrev f_laws_FnExactDepthOf : FuncId := 4
abbrev f_laws_FnExactVariablesOf : FuncId := 5
abbrev f_laws_FnExactProgramText : FuncId := 6
abbrev f_laws_FnExactParseProgram : FuncId := 7
abbrev f_laws_FnExactIsServer : FuncId := 8
abbrev f_laws_FnExactRunExact : FuncId := 9
abbrev f_laws_FnExactRunPair : FuncId := 10
abbrev f_laws_FnProgramTexts : FuncId := 11
abbrev f_laws_szProgram : FuncId := 12
abbrev f_spec_IsProgram : FuncId := 13
abbrev f_laws_toProgram : FuncId := 14
abbrev f_impl_IsProgram : FuncId := 15
abbrev f_laws_eqProgram : FuncId := 16
abbrev f_spec_DepthOf : FuncId := 17
abbrev f_impl_DepthOf : FuncId := 18
abbrev f_spec_VariablesOf : FuncId := 19
abbrev f_impl_VariablesOf : FuncId := 20
abbrev f_spec_ProgramText : FuncId := 21
abbrev f_impl_ProgramText : FuncId := 22
abbrev f_spec_ParseProgram : FuncId := 23
abbrev f_impl_ParseProgram : FuncId := 24
abbrev f_laws_markProgram : FuncId := 25
abbrev f_laws_heldProgram : FuncId := 26
abbrev f_laws_szServer : FuncId := 27
abbrev f_spec_IsServer : FuncId := 28
abbrev f_laws_toServer : FuncId := 29
abbrev f_impl_IsServer : FuncId := 30
abbrev f_laws_eqServer : FuncId := 31
abbrev f_spec_RunExact : FuncId := 32
abbrev f_laws_toFloat32S : FuncId := 33
abbrev f_impl_RunExact : FuncId := 34
abbrev f_laws_eqDyadic : FuncId := 35
abbrev f_laws_eqFloat32S : FuncId := 36
abbrev f_laws_markFloat32S : FuncId := 37
abbrev f_laws_markDyadic : FuncId := 38
abbrev f_laws_heldDyadic : FuncId := 39
abbrev f_spec_RunPair : FuncId := 40
abbrev f_impl_RunPair : FuncId := 41
abbrev f_laws_eqPair : FuncId := 42
abbrev f_laws_big : FuncId := 43
abbrev f_spec_DrawProgramText : FuncId := 44
abbrev f_laws_words5 : FuncId := 45
abbrev f_spec_DrawParseProgram : FuncId := 46
abbrev f_spec_DrawVariablesOf : FuncId := 47
abbrev f_spec_DrawRunPair : FuncId := 48
abbrev f_laws_float5 : FuncId := 49
abbrev f_impl_IsPair : FuncId := 50
abbrev f_laws_szStringS : FuncId := 51
abbrev f_spec_l08Is : FuncId := 52
abbrev f_laws_toStringS : FuncId := 53
abbrev f_impl_depthOf : FuncId := 54
abbrev f_laws_eqStringS : FuncId := 55
abbrev f_spec_l08Depth : FuncId := 56
abbrev f_spec_l08Variables : FuncId := 57
abbrev f_impl_needs : FuncId := 58
abbrev f_spec_l08Text : FuncId := 59
abbrev f_impl_programText : FuncId := 60
abbrev f_spec_l06Split : FuncId := 61
abbrev f_strings_Split : FuncId := 62
abbrev f_laws_markStringS : FuncId := 63
abbrev f_laws_heldStringS : FuncId := 64
abbrev f_laws_szProgramS : FuncId := 65
abbrev f_laws_szKeptS : FuncId := 66
abbrev f_spec_l12Is : FuncId := 67
abbrev f_laws_toProgramS : FuncId := 68
abbrev f_laws_toKeptS : FuncId := 69
abbrev f_impl_isName : FuncId := 70
abbrev f_slices_Contains_string_string : FuncId := 71
abbrev f_laws_eqProgramS : FuncId := 72
abbrev f_laws_eqKeptS : FuncId := 73
abbrev f_spec_l08Code : FuncId := 74
abbrev f_spec_l08Exact : FuncId := 75
abbrev f_impl_asked : FuncId := 76
abbrev f_impl_areFinite : FuncId := 77
abbrev f_impl_numOf : FuncId := 78
abbrev f_impl_num_odd : FuncId := 79
abbrev f_impl_run_impl_num : FuncId := 80
abbrev f_impl_RunExact_1 : FuncId := 81
abbrev f_impl_exactOne : FuncId := 82
abbrev f_impl_exactTwo : FuncId := 83
abbrev f_impl_num_dyadic : FuncId := 84
abbrev f_laws_eqWhole : FuncId := 85
abbrev f_laws_sameFloat : FuncId := 86
abbrev f_laws_markWhole : FuncId := 87
abbrev f_laws_heldWhole : FuncId := 88
abbrev f_spec_l08Needs : FuncId := 89
abbrev f_spec_l08Leaf : FuncId := 90
abbrev f_spec_l08PairOne : FuncId := 91
abbrev f_spec_l08PairTwo : FuncId := 92
abbrev f_impl_run_impl_Pair : FuncId := 93
abbrev f_impl_RunPair_1 : FuncId := 94
abbrev f_impl_pairOne : FuncId := 95
abbrev f_impl_pairTwo : FuncId := 96
abbrev f_spec_l08Spoil : FuncId := 97
abbrev f_spec_l01From : FuncId := 98
abbrev f_spec_l08Draw : FuncId := 99
abbrev f_spec_l01Next : FuncId := 100
abbrev f_spec_l01Damage : FuncId := 101
abbrev f_spec_l08Plain : FuncId := 102
abbrev f_impl_form : FuncId := 103
abbrev f_spec_l08Variable : FuncId := 104
abbrev f_impl_variable : FuncId := 105
abbrev f_strings_Join : FuncId := 106
abbrev f_strings_genSplit : FuncId := 107
abbrev f_laws_markText : FuncId := 108
abbrev f_laws_szKept : FuncId := 109
abbrev f_spec_l12Name : FuncId := 110
abbrev f_spec_l12Place : FuncId := 111
abbrev f_spec_l12Key : FuncId := 112
abbrev f_laws_toKept : FuncId := 113
abbrev f_slices_Index_string_string : FuncId := 114
abbrev f_laws_eqKept : FuncId := 115
abbrev f_spec_l01Finite : FuncId := 116
abbrev f_spec_l01In : FuncId := 117
abbrev f_spec_l03Of : FuncId := 118
abbrev f_spec_l08Exactly : FuncId := 119
abbrev f_spec_l03Is : FuncId := 120
abbrev f_spec_l03Make : FuncId := 121
abbrev f_impl_isFinite : FuncId := 122
abbrev f_impl_parts : FuncId := 123
abbrev f_impl_newInt : FuncId := 124
abbrev f_impl_num_sign : FuncId := 125
abbrev f_impl_zero : FuncId := 126
abbrev f_impl_integer_TrailingZeroBits : FuncId := 127
abbrev f_impl_integer_Rsh : FuncId := 128
abbrev f_impl_parseFloat : FuncId := 129
abbrev f_impl_num_neg : FuncId := 130
abbrev f_impl_kept : FuncId := 131
abbrev f_impl_num_mul : FuncId := 132
abbrev f_impl_num_abs : FuncId := 133
abbrev f_impl_num_add : FuncId := 134
abbrev f_impl_num_sub : FuncId := 135
abbrev f_impl_num_cmp : FuncId := 136
abbrev f_impl_fromBig : FuncId := 137
abbrev f_laws_eqInt64S : FuncId := 138
abbrev f_laws_markInt64S : FuncId := 139
abbrev f_laws_heldInt64S : FuncId := 140
abbrev f_spec_l06Float : FuncId := 141
abbrev f_spec_l08Turn : FuncId := 142
abbrev f_spec_l05Value : FuncId := 143
abbrev f_spec_l05Times : FuncId := 144
abbrev f_spec_l05Add : FuncId := 145
abbrev f_spec_l05Over : FuncId := 146
abbrev f_spec_l03Compare : FuncId := 147
abbrev f_impl_opposite : FuncId := 148
abbrev f_impl_limited : FuncId := 149
abbrev f_impl_mulPairs : FuncId := 150
abbrev f_impl_pairValue : FuncId := 151
abbrev f_impl_addPairs : FuncId := 152
abbrev f_impl_divPairs : FuncId := 153
abbrev f_spec_l08Some : FuncId := 154
abbrev f_spec_l01Pick : FuncId := 155
abbrev f_spec_l08Floating : FuncId := 156
abbrev f_strings_Builder_Grow : FuncId := 157
abbrev f_strings_Builder_WriteString : FuncId := 158
abbrev f_strings_Builder_String : FuncId := 159
abbrev f_strings_explode : FuncId := 160
abbrev f_strings_Count : FuncId := 161
abbrev f_strings_Index : FuncId := 162
abbrev f_spec_l01Parts : FuncId := 163
abbrev f_spec_l02Of : FuncId := 164
abbrev f_spec_l03Neg : FuncId := 165
abbrev f_spec_l03Mul : FuncId := 166
abbrev f_spec_l02Abs : FuncId := 167
abbrev f_spec_l03Add : FuncId := 168
abbrev f_spec_l03Sub : FuncId := 169
abbrev f_spec_l02Is : FuncId := 170
abbrev f_spec_l02Twos : FuncId := 171
abbrev f_spec_l02Cut : FuncId := 172
abbrev f_math_Float32bits : FuncId := 173
abbrev f_impl_integer_SetInt64 : FuncId := 174
abbrev f_impl_integer_Sign : FuncId := 175
abbrev f_impl_integer_BitLen : FuncId := 176
abbrev f_impl_integer_Bit : FuncId := 177
abbrev f_impl_integer_put : FuncId := 178
abbrev f_impl_magRight : FuncId := 179
abbrev f_impl_magSub : FuncId := 180
abbrev f_impl_magAdd : FuncId := 181
abbrev f_impl_ParseDyadic : FuncId := 182
abbrev f_impl_RoundDyadic : FuncId := 183
abbrev f_impl_integer_Neg : FuncId := 184
abbrev f_impl_integer_Mul : FuncId := 185
abbrev f_impl_integer_Abs : FuncId := 186
abbrev f_impl_integer_Add : FuncId := 187
abbrev f_impl_num_at : FuncId := 188
abbrev f_impl_integer_And : FuncId := 189
abbrev f_impl_integer_Int64 : FuncId := 190
abbrev f_spec_l03Read : FuncId := 191
abbrev f_spec_l03Round : FuncId := 192
abbrev f_spec_l01Turned : FuncId := 193
abbrev f_spec_l05Product : FuncId := 194
abbrev f_spec_l05Quick : FuncId := 195
abbrev f_spec_l05Is : FuncId := 196
abbrev f_spec_l05Sum : FuncId := 197
abbrev f_impl_shortProduct : FuncId := 198
abbrev f_impl_quick : FuncId := 199
abbrev f_impl_exactSum : FuncId := 200
abbrev f_spec_l03Text : FuncId := 201
abbrev f_spec_l01Pick32 : FuncId := 202
abbrev f_spec_l01Draw : FuncId := 203
abbrev f_spec_l01Count : FuncId := 204
abbrev f_spec_l01Spoil : FuncId := 205
abbrev f_strings_Builder_copyCheck : FuncId := 206
abbrev f_strings_Builder_grow : FuncId := 207
abbrev f_unicode_utf8_RuneCountInString : FuncId := 208
abbrev f_unicode_utf8_DecodeRuneInString : FuncId := 209
abbrev f_internal_bytealg_CountString : FuncId := 210
abbrev f_internal_stringslite_Index : FuncId := 211
abbrev f_spec_l01Twos : FuncId := 212
abbrev f_spec_l01Abs : FuncId := 213
abbrev f_spec_l02Make : FuncId := 214
abbrev f_spec_l02Neg : FuncId := 215
abbrev f_spec_l02Mul : FuncId := 216
abbrev f_spec_l02Add : FuncId := 217
abbrev f_spec_l02Left : FuncId := 218
abbrev f_spec_l02Bit : FuncId := 219
abbrev f_impl_magBits : FuncId := 220
abbrev f_impl_magTrim : FuncId := 221
abbrev f_strings_Cut : FuncId := 222
abbrev f_impl_isNumeral : FuncId := 223
abbrev f_impl_ParseWhole : FuncId := 224
abbrev f_strconv_ParseInt : FuncId := 225
abbrev f_impl_IsDyadic : FuncId := 226
abbrev f_impl_isMode : FuncId := 227
abbrev f_impl_numberOf : FuncId := 228
abbrev f_impl_num_round : FuncId := 229
abbrev f_slices_Clone_uint32_uint32 : FuncId := 230
abbrev f_impl_magMul : FuncId := 231
abbrev f_impl_integer_plus : FuncId := 232
abbrev f_impl_integer_Lsh : FuncId := 233
abbrev f_impl_integer_low : FuncId := 234
abbrev f_spec_l02Read : FuncId := 235
abbrev f_spec_l03Multiple : FuncId := 236
abbrev f_spec_l02Length : FuncId := 237
abbrev f_spec_l03Over : FuncId := 238
abbrev f_spec_l05Near : FuncId := 239
abbrev f_impl_rest : FuncId := 240
abbrev f_spec_l02Text : FuncId := 241
abbrev f_spec_l01At : FuncId := 242
abbrev f_spec_l01Strange : FuncId := 243
abbrev f_internal_abi_NoEscape : FuncId := 244
abbrev f_internal_bytealg_MakeNoZero : FuncId := 245
abbrev f_unicode_utf8_decodeRuneInStringSlow : FuncId := 246
abbrev f_internal_stringslite_IndexByte : FuncId := 247
abbrev f_internal_bytealg_IndexString : FuncId := 248
abbrev f_internal_bytealg_Cutover : FuncId := 249
abbrev f_internal_bytealg_IndexRabinKarp_string : FuncId := 250
abbrev f_spec_l01Own : FuncId := 251
abbrev f_spec_l02Plus : FuncId := 252
abbrev f_spec_l02CompareLimbs : FuncId := 253
abbrev f_spec_l02Minus : FuncId := 254
abbrev f_internal_stringslite_Cut : FuncId := 255
abbrev f_impl_integer_SetString : FuncId := 256
abbrev f_impl_whole : FuncId := 257
abbrev f_internal_strconv_ParseInt : FuncId := 258
abbrev f_strconv_toError : FuncId := 259
abbrev f_impl_IsWhole : FuncId := 260
abbrev f_impl_toBig : FuncId := 261
abbrev f_impl_num_round_1 : FuncId := 262
abbrev f_impl_atPlace : FuncId := 263
abbrev f_impl_infinite : FuncId := 264
abbrev f_impl_integer_Sub : FuncId := 265
abbrev f_impl_integer_Cmp : FuncId := 266
abbrev f_math_Ldexp : FuncId := 267
abbrev f_impl_magCmp : FuncId := 268
abbrev f_impl_magLeft : FuncId := 269
abbrev f_spec_l01Huge : FuncId := 270
abbrev f_impl_plain : FuncId := 271
abbrev f_spec_l02Digits : FuncId := 272
abbrev f_internal_bytealg_IndexByteString : FuncId := 273
abbrev f_internal_bytealg_hashStr_string : FuncId := 274
abbrev f_internal_strconv_ParseUint : FuncId := 275
abbrev f_strconv_syntaxError : FuncId := 276
abbrev f_strconv_rangeError : FuncId := 277
abbrev f_strconv_baseError : FuncId := 278
abbrev f_strconv_bitSizeError : FuncId := 279
abbrev f_impl_integer_Or : FuncId := 280
abbrev f_math_Float32frombits : FuncId := 281
abbrev f_math_Inf : FuncId := 282
abbrev f_math_archLdexp : FuncId := 283
abbrev f_math_ldexp : FuncId := 284
abbrev f_cmp_Compare_int : FuncId := 285
abbrev f_cmp_Compare_uint32 : FuncId := 286
abbrev f_internal_strconv_lower : FuncId := 287
abbrev f_internal_strconv_underscoreOK : FuncId := 288
abbrev f_internal_stringslite_Clone : FuncId := 289
abbrev f_errors_New : FuncId := 290
abbrev f_strconv_Itoa : FuncId := 291
abbrev f_math_Float64frombits : FuncId := 292
abbrev f_math_IsInf : FuncId := 293
abbrev f_math_IsNaN : FuncId := 294
abbrev f_math_normalize : FuncId := 295
abbrev f_math_Float64bits : FuncId := 296
abbrev f_math_Copysign : FuncId := 297
abbrev f_cmp_isNaN_int : FuncId := 298
abbrev f_cmp_isNaN_uint32 : FuncId := 299
abbrev f_internal_strconv_Itoa : FuncId := 300
abbrev f_math_Abs : FuncId := 301
abbrev f_internal_strconv_FormatInt : FuncId := 302
abbrev f_internal_strconv_small : FuncId := 303
abbrev f_internal_strconv_numDigits : FuncId := 304
abbrev f_internal_strconv_formatBase10 : FuncId := 305
abbrev f_internal_strconv_formatBits : FuncId := 306
abbrev f_internal_strconv_log10Pow2 : FuncId := 307
abbrev f_math_bits_Len64 : FuncId := 308
abbrev f_internal_strconv_bool2_int : FuncId := 309
abbrev f_internal_strconv_isPowerOfTwo : FuncId := 310
abbrev f_math_bits_TrailingZeros : FuncId := 311
abbrev f_math_bits_TrailingZeros32 : FuncId := 312
abbrev f_math_bits_TrailingZeros64 : FuncId := 313
abbrev f_internal_abi_Type_Align : FuncId := 326
abbrev f_internal_runtime_maps_unhashableTypeError_Error : FuncId := 327
abbrev f_internal_runtime_maps_unhashableTypeError_RuntimeError : FuncId := 328
abbrev f_impl_integer_String : FuncId := 329
abbrev f_impl_num_high : FuncId := 330
abbrev f_strings_Builder_Reset : FuncId := 331
abbrev f_internal_strconv_Error_Error : FuncId := 332
abbrev f_strconv_NumError_Error : FuncId := 333
abbrev f_errors_errorString_Error : FuncId := 334
abbrev f_internal_abi_Kind_String : FuncId := 335
abbrev f_var_s_door_gosem_cut_vars_holds_initialisers_alone_see_the_manifest_s_row_cutvarsword_look_11_test_files_too : FuncId := 336
abbrev f_var_s_door_internal_strconv_uint64pow10_is_laid_by_its_own_initialiser_plain_data_look_11 : FuncId := 337
abbrev f_var_s_door_math_bits_deBruijn32tab_is_laid_by_its_own_initialiser_plain_data_look_11 : FuncId := 338
abbrev f_var_s_door_math_bits_deBruijn64tab_is_laid_by_its_own_initialiser_plain_data_look_11 : FuncId := 339
abbrev f_var_s_door_strconv_ErrRange_is_laid_by_its_own_call_of_errors_New_on_one_literal_look_11 : FuncId := 340
abbrev f_var_s_door_strconv_ErrSyntax_is_laid_by_its_own_call_of_errors_New_on_one_literal_look_11 : FuncId := 341
abbrev f_var_s_door_the_look_of_gosem_cut_vars_went_over_the_folder_that_the_caller_named_as_the_repository_s_root_look_11 : FuncId := 342
abbrev f_var_s_door_unicode_utf8_acceptRanges_is_laid_by_its_own_initialiser_plain_data_look_11 : FuncId := 343
abbrev f_var_s_door_unicode_utf8_first_is_laid_by_its_text_alone_pinned_1 : FuncId := 344
noncomputable abbrev F_math_Float32bits : Func := Tryz.f173
theorem fun_math_Float32bits : P.funcs[f_math_Float32bits]? = some F_math_Float32bits := Tryz.func173
noncomputable abbrev F_internal_bytealg_CountString : Func := Tryz.f210
theorem fun_internal_bytealg_CountString : P.funcs[f_internal_bytealg_CountString]? = some F_internal_bytealg_CountString := Tryz.func210
noncomputable abbrev F_internal_bytealg_MakeNoZero : Func := Tryz.f245
theorem fun_internal_bytealg_MakeNoZero : P.funcs[f_internal_bytealg_MakeNoZero]? = some F_internal_bytealg_MakeNoZero := Tryz.func245
noncomputable abbrev F_internal_bytealg_IndexString : Func := Tryz.f248
theorem fun_internal_bytealg_IndexString : P.funcs[f_internal_bytealg_IndexString]? = some F_internal_bytealg_IndexString := Tryz.func248
noncomputable abbrev F_internal_bytealg_IndexByteString : Func := Tryz.f273
theorem fun_internal_bytealg_IndexByteString : P.funcs[f_internal_bytealg_IndexByteString]? = some F_internal_bytealg_IndexByteString := Tryz.func273
noncomputable abbrev F_math_Float32frombits : Func := Tryz.f281
theorem fun_math_Float32frombits : P.funcs[f_math_Float32frombits]? = some F_math_Float32frombits := Tryz.func281
noncomputable abbrev F_math_Float64frombits : Func := Tryz.f292
theorem fun_math_Float64frombits : P.funcs[f_math_Float64frombits]? = some F_math_Float64frombits := Tryz.func292
noncomputable abbrev F_math_Float64bits : Func := Tryz.f296
theorem fun_math_Float64bits : P.funcs[f_math_Float64bits]? = some F_math_Float64bits := Tryz.func296
abbrev t_int64 : TypeId := 2
theorem u_int64 : P.underlying 2 = some (.int .i64) := Tryz.underlying2
theorem i_int64 : TI P 2 (.int .i64 0) 1 8 := TI_of (by kernel_rfl)
abbrev t_int : TypeId := 3
theorem u_int : P.underlying 3 = some (.int .i64) := Tryz.underlying3
theorem i_int : TI P 3 (.int .i64 0) 1 8 := TI_of (by kernel_rfl)
abbrev t_bool : TypeId := 4
theorem u_bool : P.underlying 4 = some (.bool) := Tryz.underlying4
theorem i_bool : TI P 4 (.bool false) 1 1 := TI_of (by kernel_rfl)
abbrev t_uint8 : TypeId := 5
theorem u_uint8 : P.underlying 5 = some (.int .u8) := Tryz.underlying5
theorem i_uint8 : TI P 5 (.int .u8 0) 1 1 := TI_of (by kernel_rfl)
abbrev t_string : TypeId := 9
theorem u_string : P.underlying 9 = some (.string) := Tryz.underlying9
theorem i_string : TI P 9 (.string ⟨#[]⟩) 1 16 := TI_of (by kernel_rfl)
abbrev t_uintptr : TypeId := 12
theorem u_uintptr : P.underlying 12 = some (.int .u64) := Tryz.underlying12
theorem i_uintptr : TI P 12 (.int .u64 0) 1 8 := TI_of (by kernel_rfl)
abbrev t_p_runtime_TypeAssertionError : TypeId := 15
theorem u_p_runtime_TypeAssertionError : P.underlying 15 = some (.pointer 322) := Tryz.underlying15
theorem i_p_runtime_TypeAssertionError : TI P 15 (.pointer none) 1 8 := TI_of (by kernel_rfl)
abbrev t_p_runtime_PanicNilError : TypeId := 16
theorem u_p_runtime_PanicNilError : P.underlying 16 = some (.pointer 325) := Tryz.underlying16
theorem i_p_runtime_PanicNilError : TI P 16 (.pointer none) 1 8 := TI_of (by kernel_rfl)
abbrev t_p_abi_Type : TypeId := 17
theorem u_p_abi_Type : P.underlying 17 = some (.pointer 332) := Tryz.underlying17
theorem i_p_abi_Type : TI P 17 (.pointer none) 1 8 := TI_of (by kernel_rfl)
abbrev t_int32 : TypeId := 21
theorem u_int32 : P.underlying 21 = some (.int .i32) := Tryz.underlying21
theorem i_int32 : TI P 21 (.int .i32 0) 1 4 := TI_of (by kernel_rfl)
abbrev t_s_string : TypeId := 22
theorem u_s_string : P.underlying 22 = some (.slice 9) := Tryz.underlying22
theorem i_s_string : TI P 22 (.slice none 0 0) 1 24 := TI_of (by kernel_rfl)
abbrev t_laws_Program : TypeId := 24
theorem u_laws_Program : P.underlying 24 = some (.struct #[{ name := "Words", type := 22, offset := 0, embedded := false, tag := "", pkgPath := "", byteOffset := 0 }]) := Tryz.underlying24
theorem i_laws_Program : TI P 24 (.agg #[(.slice none 0 0)]) 1 24 := TI_of (by kernel_rfl)
abbrev t_impl_Program : TypeId := 27
theorem u_impl_Program : P.underlying 27 = some (.struct #[{ name := "Words", type := 22, offset := 0, embedded := false, tag := "", pkgPath := "", byteOffset := 0 }]) := Tryz.underlying27
theorem i_impl_Program : TI P 27 (.agg #[(.slice none 0 0)]) 1 24 := TI_of (by kernel_rfl)
abbrev t_s_laws_Program : TypeId := 39
theorem u_s_laws_Program : P.underlying 39 = some (.slice 24) := Tryz.underlying39
theorem i_s_laws_Program : TI P 39 (.slice none 0 0) 1 24 := TI_of (by kernel_rfl)
abbrev t_s_laws_Kept : TypeId := 40
theorem u_s_laws_Kept : P.underlying 40 = some (.slice 138) := Tryz.underlying40
theorem i_s_laws_Kept : TI P 40 (.slice none 0 0) 1 24 := TI_of (by kernel_rfl)
abbrev t_laws_Server : TypeId := 42
theorem u_laws_Server : P.underlying 42 = some (.struct #[{ name := "Names", type := 22, offset := 0, embedded := false, tag := "", pkgPath := "", byteOffset := 0 }, { name := "Programs", type := 39, offset := 1, embedded := false, tag := "", pkgPath := "", byteOffset := 24 }, { name := "Results", type := 40, offset := 2, embedded := false, tag := "", pkgPath := "", byteOffset := 48 }]) := Tryz.underlying42
theorem i_laws_Server : TI P 42 (.agg #[(.slice none 0 0), (.slice none 0 0), (.slice none 0 0)]) 3 72 := TI_of (by kernel_rfl)
abbrev t_s_impl_Program : TypeId := 45
theorem u_s_impl_Program : P.underlying 45 = some (.slice 27) := Tryz.underlying45
theorem i_s_impl_Program : TI P 45 (.slice none 0 0) 1 24 := TI_of (by kernel_rfl)
abbrev t_s_impl_Kept : TypeId := 46
theorem u_s_impl_Kept : P.underlying 46 = some (.slice 96) := Tryz.underlying46
theorem i_s_impl_Kept : TI P 46 (.slice none 0 0) 1 24 := TI_of (by kernel_rfl)
abbrev t_impl_Server : TypeId := 48
theorem u_impl_Server : P.underlying 48 = some (.struct #[{ name := "Names", type := 22, offset := 0, embedded := false, tag := "", pkgPath := "", byteOffset := 0 }, { name := "Programs", type := 45, offset := 1, embedded := false, tag := "", pkgPath := "", byteOffset := 24 }, { name := "Results", type := 46, offset := 2, embedded := false, tag := "", pkgPath := "", byteOffset := 48 }]) := Tryz.underlying48
theorem i_impl_Server : TI P 48 (.agg #[(.slice none 0 0), (.slice none 0 0), (.slice none 0 0)]) 3 72 := TI_of (by kernel_rfl)
abbrev t_s_float32 : TypeId := 52
theorem u_s_float32 : P.underlying 52 = some (.slice 66) := Tryz.underlying52
theorem i_s_float32 : TI P 52 (.slice none 0 0) 1 24 := TI_of (by kernel_rfl)
abbrev t_s_int64 : TypeId := 53
theorem u_s_int64 : P.underlying 53 = some (.slice 2) := Tryz.underlying53
theorem i_s_int64 : TI P 53 (.slice none 0 0) 1 24 := TI_of (by kernel_rfl)
abbrev t_impl_Whole : TypeId := 55
theorem u_impl_Whole : P.underlying 55 = some (.struct #[{ name := "Sign", type := 2, offset := 0, embedded := false, tag := "", pkgPath := "", byteOffset := 0 }, { name := "Limbs", type := 53, offset := 1, embedded := false, tag := "", pkgPath := "", byteOffset := 8 }]) := Tryz.underlying55
theorem i_impl_Whole : TI P 55 (.agg #[(.int .i64 0), (.slice none 0 0)]) 2 32 := TI_of (by kernel_rfl)
abbrev t_impl_Dyadic : TypeId := 57
theorem u_impl_Dyadic : P.underlying 57 = some (.struct #[{ name := "Whole", type := 55, offset := 0, embedded := false, tag := "", pkgPath := "", byteOffset := 0 }, { name := "Exponent", type := 2, offset := 2, embedded := false, tag := "", pkgPath := "", byteOffset := 32 }]) := Tryz.underlying57
theorem i_impl_Dyadic : TI P 57 (.agg #[(.int .i64 0), (.slice none 0 0), (.int .i64 0)]) 3 40 := TI_of (by kernel_rfl)
abbrev t_float32 : TypeId := 66
theorem u_float32 : P.underlying 66 = some (.float .f32) := Tryz.underlying66
theorem i_float32 : TI P 66 (.float .f32 0) 1 4 := TI_of (by kernel_rfl)
abbrev t_impl_Pair : TypeId := 68
theorem u_impl_Pair : P.underlying 68 = some (.struct #[{ name := "High", type := 66, offset := 0, embedded := false, tag := "", pkgPath := "", byteOffset := 0 }, { name := "Low", type := 66, offset := 1, embedded := false, tag := "", pkgPath := "", byteOffset := 4 }]) := Tryz.underlying68
theorem i_impl_Pair : TI P 68 (.agg #[(.float .f32 0), (.float .f32 0)]) 2 8 := TI_of (by kernel_rfl)
abbrev t_s_uint8 : TypeId := 72
theorem u_s_uint8 : P.underlying 72 = some (.slice 5) := Tryz.underlying72
theorem i_s_uint8 : TI P 72 (.slice none 0 0) 1 24 := TI_of (by kernel_rfl)
abbrev t_impl_Kept : TypeId := 96
theorem u_impl_Kept : P.underlying 96 = some (.struct #[{ name := "Key", type := 9, offset := 0, embedded := false, tag := "", pkgPath := "", byteOffset := 0 }, { name := "Output", type := 9, offset := 1, embedded := false, tag := "", pkgPath := "", byteOffset := 16 }]) := Tryz.underlying96
theorem i_impl_Kept : TI P 96 (.agg #[(.string ⟨#[]⟩), (.string ⟨#[]⟩)]) 2 32 := TI_of (by kernel_rfl)
abbrev t_s_impl_num : TypeId := 102
theorem u_s_impl_num : P.underlying 102 = some (.slice 105) := Tryz.underlying102
theorem i_s_impl_num : TI P 102 (.slice none 0 0) 1 24 := TI_of (by kernel_rfl)
abbrev t_p_impl_integer : TypeId := 103
theorem u_p_impl_integer : P.underlying 103 = some (.pointer 158) := Tryz.underlying103
theorem i_p_impl_integer : TI P 103 (.pointer none) 1 8 := TI_of (by kernel_rfl)
abbrev t_impl_num : TypeId := 105
theorem u_impl_num : P.underlying 105 = some (.struct #[{ name := "m", type := 103, offset := 0, embedded := false, tag := "", pkgPath := "loop.example/g01172/impl", byteOffset := 0 }, { name := "e", type := 3, offset := 1, embedded := false, tag := "", pkgPath := "loop.example/g01172/impl", byteOffset := 8 }]) := Tryz.underlying105
theorem i_impl_num : TI P 105 (.agg #[(.pointer none), (.int .i64 0)]) 2 16 := TI_of (by kernel_rfl)
abbrev t_float64 : TypeId := 117
theorem u_float64 : P.underlying 117 = some (.float .f64) := Tryz.underlying117
theorem i_float64 : TI P 117 (.float .f64 0) 1 8 := TI_of (by kernel_rfl)
abbrev t_s_impl_Pair : TypeId := 119
theorem u_s_impl_Pair : P.underlying 119 = some (.slice 68) := Tryz.underlying119
theorem i_s_impl_Pair : TI P 119 (.slice none 0 0) 1 24 := TI_of (by kernel_rfl)
abbrev t_p_spec_l01Source : TypeId := 129
theorem u_p_spec_l01Source : P.underlying 129 = some (.pointer 180) := Tryz.underlying129
theorem i_p_spec_l01Source : TI P 129 (.pointer none) 1 8 := TI_of (by kernel_rfl)
abbrev t_laws_Kept : TypeId := 138
theorem u_laws_Kept : P.underlying 138 = some (.struct #[{ name := "Key", type := 9, offset := 0, embedded := false, tag := "", pkgPath := "", byteOffset := 0 }, { name := "Output", type := 9, offset := 1, embedded := false, tag := "", pkgPath := "", byteOffset := 16 }]) := Tryz.underlying138
theorem i_laws_Kept : TI P 138 (.agg #[(.string ⟨#[]⟩), (.string ⟨#[]⟩)]) 2 32 := TI_of (by kernel_rfl)
abbrev t_s_impl_Dyadic : TypeId := 145
theorem u_s_impl_Dyadic : P.underlying 145 = some (.slice 57) := Tryz.underlying145
theorem i_s_impl_Dyadic : TI P 145 (.slice none 0 0) 1 24 := TI_of (by kernel_rfl)
abbrev t_uint : TypeId := 154
theorem u_uint : P.underlying 154 = some (.int .u64) := Tryz.underlying154
theorem i_uint : TI P 154 (.int .u64 0) 1 8 := TI_of (by kernel_rfl)
abbrev t_s_uint32 : TypeId := 156
theorem u_s_uint32 : P.underlying 156 = some (.slice 202) := Tryz.underlying156
theorem i_s_uint32 : TI P 156 (.slice none 0 0) 1 24 := TI_of (by kernel_rfl)
abbrev t_impl_integer : TypeId := 158
theorem u_impl_integer : P.underlying 158 = some (.struct #[{ name := "neg", type := 4, offset := 0, embedded := false, tag := "", pkgPath := "loop.example/g01172/impl", byteOffset := 0 }, { name := "mag", type := 156, offset := 1, embedded := false, tag := "", pkgPath := "loop.example/g01172/impl", byteOffset := 8 }]) := Tryz.underlying158
theorem i_impl_integer : TI P 158 (.agg #[(.bool false), (.slice none 0 0)]) 2 32 := TI_of (by kernel_rfl)
abbrev t_p_impl_num : TypeId := 160
theorem u_p_impl_num : P.underlying 160 = some (.pointer 105) := Tryz.underlying160
theorem i_p_impl_num : TI P 160 (.pointer none) 1 8 := TI_of (by kernel_rfl)
abbrev t_p_impl_Pair : TypeId := 175
theorem u_p_impl_Pair : P.underlying 175 = some (.pointer 68) := Tryz.underlying175
theorem i_p_impl_Pair : TI P 175 (.pointer none) 1 8 := TI_of (by kernel_rfl)
abbrev t_uint64 : TypeId := 178
theorem u_uint64 : P.underlying 178 = some (.int .u64) := Tryz.underlying178
theorem i_uint64 : TI P 178 (.int .u64 0) 1 8 := TI_of (by kernel_rfl)
abbrev t_spec_l01Source : TypeId := 180
theorem u_spec_l01Source : P.underlying 180 = some (.struct #[{ name := "code", type := 72, offset := 0, embedded := false, tag := "", pkgPath := "loop.example/g01172/spec", byteOffset := 0 }, { name := "at", type := 3, offset := 1, embedded := false, tag := "", pkgPath := "loop.example/g01172/spec", byteOffset := 24 }, { name := "hash", type := 178, offset := 2, embedded := false, tag := "", pkgPath := "loop.example/g01172/spec", byteOffset := 32 }]) := Tryz.underlying180
theorem i_spec_l01Source : TI P 180 (.agg #[(.slice none 0 0), (.int .i64 0), (.int .u64 0)]) 3 40 := TI_of (by kernel_rfl)
abbrev t_p_strings_Builder : TypeId := 184
theorem u_p_strings_Builder : P.underlying 184 = some (.pointer 186) := Tryz.underlying184
theorem i_p_strings_Builder : TI P 184 (.pointer none) 1 8 := TI_of (by kernel_rfl)
abbrev t_uint32 : TypeId := 202
theorem u_uint32 : P.underlying 202 = some (.int .u32) := Tryz.underlying202
theorem i_uint32 : TI P 202 (.int .u32 0) 1 4 := TI_of (by kernel_rfl)
abbrev t_p_uint8 : TypeId := 226
theorem u_p_uint8 : P.underlying 226 = some (.pointer 5) := Tryz.underlying226
theorem i_p_uint8 : TI P 226 (.pointer none) 1 8 := TI_of (by kernel_rfl)
abbrev t_p_strconv_NumError : TypeId := 283
theorem u_p_strconv_NumError : P.underlying 283 = some (.pointer 293) := Tryz.underlying283
theorem i_p_strconv_NumError : TI P 283 (.pointer none) 1 8 := TI_of (by kernel_rfl)
abbrev t_p_errors_errorString : TypeId := 304
theorem u_p_errors_errorString : P.underlying 304 = some (.pointer 306) := Tryz.underlying304
theorem i_p_errors_errorString : TI P 304 (.pointer none) 1 8 := TI_of (by kernel_rfl)
abbrev t_errors_errorString : TypeId := 306
theorem u_errors_errorString : P.underlying 306 = some (.struct #[{ name := "s", type := 9, offset := 0, embedded := false, tag := "", pkgPath := "errors", byteOffset := 0 }]) := Tryz.underlying306
theorem i_errors_errorString : TI P 306 (.agg #[(.string ⟨#[]⟩)]) 1 16 := TI_of (by kernel_rfl)
abbrev t_error : TypeId := 189
theorem u_error : ∃ ms, P.underlying 189 = some (.interface ms) := ⟨_, Tryz.underlying189⟩
@[simp] theorem l_s_string {w : World} {K : Value → Prop} {ty : TypeId} (a : Option Addr) (n c : Nat) : bl0 P .len #[22] ty [.slice a n c] w K = K (.int .i64 n) := bl0_len u_s_string
@[simp] theorem d_laws_Program_0 {w : World} {K : Value → Prop} (a : Addr) : fda P 24 (.pointer (some a)) 0 w K = K (.pointer (some (a.add 0))) := fda_off (s := 1) u_laws_Program rfl i_s_string (by decide)
@[simp] theorem d_impl_Program_0 {w : World} {K : Value → Prop} (a : Addr) : fda P 27 (.pointer (some a)) 0 w K = K (.pointer (some (a.add 0))) := fda_off (s := 1) u_impl_Program rfl i_s_string (by decide)
@[simp] theorem l_s_laws_Program {w : World} {K : Value → Prop} {ty : TypeId} (a : Option Addr) (n c : Nat) : bl0 P .len #[39] ty [.slice a n c] w K = K (.int .i64 n) := bl0_len u_s_laws_Program
@[simp] theorem l_s_laws_Kept {w : World} {K : Value → Prop} {ty : TypeId} (a : Option Addr) (n c : Nat) : bl0 P .len #[40] ty [.slice a n c] w K = K (.int .i64 n) := bl0_len u_s_laws_Kept
@[simp] theorem d_laws_Server_0 {w : World} {K : Value → Prop} (a : Addr) : fda P 42 (.pointer (some a)) 0 w K = K (.pointer (some (a.add 0))) := fda_off (s := 1) u_laws_Server rfl i_s_string (by decide)
@[simp] theorem d_laws_Server_1 {w : World} {K : Value → Prop} (a : Addr) : fda P 42 (.pointer (some a)) 1 w K = K (.pointer (some (a.add 1))) := fda_off (s := 1) u_laws_Server rfl i_s_laws_Program (by decide)
@[simp] theorem d_laws_Server_2 {w : World} {K : Value → Prop} (a : Addr) : fda P 42 (.pointer (some a)) 2 w K = K (.pointer (some (a.add 2))) := fda_off (s := 1) u_laws_Server rfl i_s_laws_Kept (by decide)
@[simp] theorem l_s_impl_Program {w : World} {K : Value → Prop} {ty : TypeId} (a : Option Addr) (n c : Nat) : bl0 P .len #[45] ty [.slice a n c] w K = K (.int .i64 n) := bl0_len u_s_impl_Program
@[simp] theorem l_s_impl_Kept {w : World} {K : Value → Prop} {ty : TypeId} (a : Option Addr) (n c : Nat) : bl0 P .len #[46] ty [.slice a n c] w K = K (.int .i64 n) := bl0_len u_s_impl_Kept
@[simp] theorem d_impl_Server_0 {w : World} {K : Value → Prop} (a : Addr) : fda P 48 (.pointer (some a)) 0 w K = K (.pointer (some (a.add 0))) := fda_off (s := 1) u_impl_Server rfl i_s_string (by decide)
@[simp] theorem d_impl_Server_1 {w : World} {K : Value → Prop} (a : Addr) : fda P 48 (.pointer (some a)) 1 w K = K (.pointer (some (a.add 1))) := fda_off (s := 1) u_impl_Server rfl i_s_impl_Program (by decide)
@[simp] theorem d_impl_Server_2 {w : World} {K : Value → Prop} (a : Addr) : fda P 48 (.pointer (some a)) 2 w K = K (.pointer (some (a.add 2))) := fda_off (s := 1) u_impl_Server rfl i_s_impl_Kept (by decide)
@[simp] theorem l_s_float32 {w : World} {K : Value → Prop} {ty : TypeId} (a : Option Addr) (n c : Nat) : bl0 P .len #[52] ty [.slice a n c] w K = K (.int .i64 n) := bl0_len u_s_float32
@[simp] theorem l_s_int64 {w : World} {K : Value → Prop} {ty : TypeId} (a : Option Addr) (n c : Nat) : bl0 P .len #[53] ty [.slice a n c] w K = K (.int .i64 n) := bl0_len u_s_int64
@[simp] theorem d_impl_Whole_0 {w : World} {K : Value → Prop} (a : Addr) : fda P 55 (.pointer (some a)) 0 w K = K (.pointer (some (a.add 0))) := fda_off (s := 1) u_impl_Whole rfl i_int64 (by decide)
@[simp] theorem d_impl_Whole_1 {w : World} {K : Value → Prop} (a : Addr) : fda P 55 (.pointer (some a)) 1 w K = K (.pointer (some (a.add 1))) := fda_off (s := 1) u_impl_Whole rfl i_s_int64 (by decide)
@[simp] theorem d_impl_Dyadic_0 {w : World} {K : Value → Prop} (a : Addr) : fda P 57 (.pointer (some a)) 0 w K = K (.pointer (some (a.add 0))) := fda_off (s := 2) u_impl_Dyadic rfl i_impl_Whole (by decide)
@[simp] theorem d_impl_Dyadic_1 {w : World} {K : Value → Prop} (a : Addr) : fda P 57 (.pointer (some a)) 1 w K = K (.pointer (some (a.add 2))) := fda_off (s := 1) u_impl_Dyadic rfl i_int64 (by decide)
@[simp] theorem d_impl_Pair_0 {w : World} {K : Value → Prop} (a : Addr) : fda P 68 (.pointer (some a)) 0 w K = K (.pointer (some (a.add 0))) := fda_off (s := 1) u_impl_Pair rfl i_float32 (by decide)
@[simp] theorem d_impl_Pair_1 {w : World} {K : Value → Prop} (a : Addr) : fda P 68 (.pointer (some a)) 1 w K = K (.pointer (some (a.add 1))) := fda_off (s := 1) u_impl_Pair rfl i_float32 (by decide)
@[simp] theorem l_s_uint8 {w : World} {K : Value → Prop} {ty : TypeId} (a : Option Addr) (n c : Nat) : bl0 P .len #[72] ty [.slice a n c] w K = K (.int .i64 n) := bl0_len u_s_uint8
@[simp] theorem d_impl_Kept_0 {w : World} {K : Value → Prop} (a : Addr) : fda P 96 (.pointer (some a)) 0 w K = K (.pointer (some (a.add 0))) := fda_off (s := 1) u_impl_Kept rfl i_string (by decide)
@[simp] theorem d_impl_Kept_1 {w : World} {K : Value → Prop} (a : Addr) : fda P 96 (.pointer (some a)) 1 w K = K (.pointer (some (a.add 1))) := fda_off (s := 1) u_impl_Kept rfl i_string (by decide)
@[simp] theorem l_s_impl_num {w : World} {K : Value → Prop} {ty : TypeId} (a : Option Addr) (n c : Nat) : bl0 P .len #[102] ty [.slice a n c] w K = K (.int .i64 n) := bl0_len u_s_impl_num
@[simp] theorem d_impl_num_0 {w : World} {K : Value → Prop} (a : Addr) : fda P 105 (.pointer (some a)) 0 w K = K (.pointer (some (a.add 0))) := fda_off (s := 1) u_impl_num rfl i_p_impl_integer (by decide)
@[simp] theorem d_impl_num_1 {w : World} {K : Value → Prop} (a : Addr) : fda P 105 (.pointer (some a)) 1 w K = K (.pointer (some (a.add 1))) := fda_off (s := 1) u_impl_num rfl i_int (by decide)
@[simp] theorem l_s_impl_Pair {w : World} {K : Value → Prop} {ty : TypeId} (a : Option Addr) (n c : Nat) : bl0 P .len #[119] ty [.slice a n c] w K = K (.int .i64 n) := bl0_len u_s_impl_Pair
@[simp] theorem d_laws_Kept_0 {w : World} {K : Value → Prop} (a : Addr) : fda P 138 (.pointer (some a)) 0 w K = K (.pointer (some (a.add 0))) := fda_off (s := 1) u_laws_Kept rfl i_string (by decide)
@[simp] theorem d_laws_Kept_1 {w : World} {K : Value → Prop} (a : Addr) : fda P 138 (.pointer (some a)) 1 w K = K (.pointer (some (a.add 1))) := fda_off (s := 1) u_laws_Kept rfl i_string (by decide)
@[simp] theorem l_s_impl_Dyadic {w : World} {K : Value → Prop} {ty : TypeId} (a : Option Addr) (n c : Nat) : bl0 P .len #[145] ty [.slice a n c] w K = K (.int .i64 n) := bl0_len u_s_impl_Dyadic
@[simp] theorem l_s_uint32 {w : World} {K : Value → Prop} {ty : TypeId} (a : Option Addr) (n c : Nat) : bl0 P .len #[156] ty [.slice a n c] w K = K (.int .i64 n) := bl0_len u_s_uint32
@[simp] theorem d_impl_integer_0 {w : World} {K : Value → Prop} (a : Addr) : fda P 158 (.pointer (some a)) 0 w K = K (.pointer (some (a.add 0))) := fda_off (s := 1) u_impl_integer rfl i_bool (by decide)
@[simp] theorem d_impl_integer_1 {w : World} {K : Value → Prop} (a : Addr) : fda P 158 (.pointer (some a)) 1 w K = K (.pointer (some (a.add 1))) := fda_off (s := 1) u_impl_integer rfl i_s_uint32 (by decide)
@[simp] theorem d_spec_l01Source_0 {w : World} {K : Value → Prop} (a : Addr) : fda P 180 (.pointer (some a)) 0 w K = K (.pointer (some (a.add 0))) := fda_off (s := 1) u_spec_l01Source rfl i_s_uint8 (by decide)
@[simp] theorem d_spec_l01Source_1 {w : World} {K : Value → Prop} (a : Addr) : fda P 180 (.pointer (some a)) 1 w K = K (.pointer (some (a.add 1))) := fda_off (s := 1) u_spec_l01Source rfl i_int (by decide)
@[simp] theorem d_spec_l01Source_2 {w : World} {K : Value → Prop} (a : Addr) : fda P 180 (.pointer (some a)) 2 w K = K (.pointer (some (a.add 2))) := fda_off (s := 1) u_spec_l01Source rfl i_uint64 (by decide)
@[simp] theorem d_errors_errorString_0 {w : World} {K : Value → Prop} (a : Addr) : fda P 306 (.pointer (some a)) 0 w K = K (.pointer (some (a.add 0))) := fda_off (s := 1) u_errors_errorString rfl i_string (by decide)
end Go.Proofs.YtjompmflommadaaGreatDoor


set_option linter.unusedVariables false
set_option maxRecDepth 20000
namespace Go.Proofs.YtjompmflommadaaGreatDoor
open Go Go.Vc
def rg0 : Plan := .reg [.op (0, 0, false), .op (1, 0, false), .op (2, 0, false)]
def rg1 : Plan := .reg [.op (0, 0, false), .op (1, 0, false)]
def rg2 : Plan := .reg [.op (0, 0, false)]
def rg3 : Plan := .reg [.op (0, 0, false), .op (1, 0, false), .op (2, 0, false), .op (3, 0, false), .op (4, 0, false)]
def rg4 : Plan := .reg [.op (0, 0, false), .op (1, 0, false), .op (2, 0, false), .op (3, 0, false)]
def rg5 : Plan := .reg [.op (0, 0, false), .op (1, 2, false), .op (2, 0, false)]
def rg6 : Plan := .reg [.op (0, 0, false), .op (1, 0, false), .op (2, 0, false), .op (3, 0, false), .op (4, 0, false), .op (5, 0, false)]
def rg7 : Plan := .reg [.op (0, 2, false), .op (1, 0, false)]
def rg8 : Plan := .reg [.op (0, 0, false), .op (1, 0, false), .op (2, 0, false), .op (3, 0, false), .op (4, 0, false), .op (5, 0, false), .op (6, 0, false)]
def rg9 : Plan := .reg [.op (0, 0, false), .op (1, 0, false), .op (2, 0, false), .op (3, 0, false), .op (4, 0, false), .op (5, 0, false), .op (6, 0, false), .op (7, 0, false)]
def rg10 : Plan := .reg [.op (0, 0, false), .op (1, 0, false), .op (2, 2, false), .op (3, 0, false)]
def rg11 : Plan := .reg [.op (0, 0, false), .op (1, 0, false), .op (2, 0, false), .op (3, 0, false), .op (4, 0, false), .op (5, 0, false), .op (6, 0, false), .op (7, 0, false), .op (8, 0, false), .op (9, 0, false), .op (10, 0, false), .op (11, 0, false)]
def rg12 : Plan := .reg [.op (0, 0, false), .op (1, 0, false), .op (2, 0, false), .op (3, 0, false), .op (4, 2, false), .op (5, 0, false)]
def rg13 : Plan := .reg [.op (0, 0, false), .op (1, 0, false), .op (2, 0, false), .op (3, 0, false), .op (4, 0, false), .op (5, 0, false), .op (6, 0, false), .op (7, 0, false), .op (8, 2, false), .op (9, 0, false)]
def rg14 : Plan := .reg [.op (0, 0, false), .op (1, 0, false), .op (2, 0, false), .op (3, 0, false), .op (4, 0, false), .op (5, 0, false), .op (6, 0, false), .op (7, 0, false), .op (8, 0, false), .op (9, 0, false), .op (10, 2, true), .op (11, 2, false), .op (12, 0, false)]
def rg15 : Plan := .reg [.op (0, 0, false), .op (1, 0, false), .op (2, 0, false), .op (3, 0, false), .op (4, 0, false), .op (5, 0, false), .op (6, 0, false), .op (7, 0, false), .op (8, 0, false)]
def rg16 : Plan := .reg [.op (0, 0, false), .op (1, 0, false), .op (2, 0, false), .op (3, 0, false), .op (4, 0, false), .op (5, 2, false), .op (6, 0, false)]
def rg17 : Plan := .reg [.op (0, 0, false), .op (1, 2, false), .op (2, 0, false), .op (3, 0, false), .op (4, 0, false), .op (5, 0, false), .op (6, 0, false)]
def rg18 : Plan := .reg [.op (0, 0, false), .op (1, 0, false), .op (2, 0, false), .op (3, 0, false), .op (4, 0, false), .op (5, 0, false), .op (6, 0, false), .op (7, 2, false)]
def rg19 : Plan := .reg [.op (0, 0, false), .op (1, 2, false), .op (2, 0, false), .op (3, 0, false), .op (4, 0, false), .op (5, 2, false), .op (6, 2, false), .op (7, 0, false)]
def rg20 : Plan := .reg [.op (0, 0, false), .op (1, 0, false), .op (2, 0, false), .op (3, 2, false), .op (4, 0, false)]
def rg21 : Plan := .reg [.op (0, 0, false), .op (1, 0, false), .op (2, 0, false), .op (3, 0, false), .op (4, 0, false), .op (5, 0, false), .op (6, 0, false), .op (7, 0, false), .op (8, 2, false)]
def rg22 : Plan := .reg [.op (0, 0, false), .op (1, 0, false), .op (2, 0, false), .op (3, 0, false), .op (4, 0, false), .op (5, 0, false), .op (6, 2, true), .op (7, 2, false), .op (8, 2, false)]
def rg23 : Plan := .reg [.op (0, 0, false), .op (1, 0, false), .op (2, 2, false), .op (3, 2, false), .op (4, 0, false)]
def rg24 : Plan := .reg [.op (0, 0, false), .op (1, 0, false), .op (2, 0, false), .op (3, 0, false), .op (4, 0, false), .op (5, 2, false)]
def rg25 : Plan := .reg [.op (0, 0, false), .op (1, 0, false), .op (2, 2, false), .op (3, 0, false), .op (4, 0, false)]
def rg26 : Plan := .reg [.op (0, 0, false), .op (1, 0, false), .op (2, 2, false), .op (3, 0, false), .op (4, 2, false)]
def rg27 : Plan := .reg [.op (0, 0, false), .op (1, 2, false), .op (2, 0, false), .op (3, 0, false), .op (4, 0, false)]
def rg28 : Plan := .reg [.op (0, 2, false), .op (1, 0, false), .op (2, 2, false), .op (3, 0, false)]
def rg29 : Plan := .reg [.op (0, 0, false), .op (1, 2, false), .op (2, 0, false), .op (3, 0, false)]
def rg30 : Plan := .reg [.op (0, 0, false), .op (1, 0, false), .op (2, 2, false), .op (3, 2, false)]
def rg31 : Plan := .reg [.op (0, 2, false), .op (1, 2, false)]
def rg32 : Plan := .reg [.op (0, 0, false), .op (1, 1, false), .op (2, 0, false)]
def rg33 : Plan := .reg [.op (0, 2, false), .op (1, 0, false), .op (2, 0, false)]
def rg34 : Plan := .reg [.op (0, 0, false), .op (1, 0, false), .op (2, 0, false), .op (3, 2, false)]
def rg35 : Plan := .reg [.op (0, 2, false), .op (1, 2, false), .op (2, 0, false)]
def rg36 : Plan := .reg [.op (0, 0, false), .op (1, 0, false), .op (2, 2, false)]
def rg37 : Plan := .reg [.op (0, 0, false), .op (1, 2, false)]
def rg38 : Plan := .reg [.op (0, 2, false)]
def D_impl_atPlace (a0 : Value) (w : World) (K : Value → World → Prop) : Prop :=
  bin P .lss 2 false true a0 (.int .i64 0) w fun b =>
  cnd b
  (una P .neg a0 w fun c =>
  cnv P 2 202 c w fun d =>
  bin P .or 202 false true d (.int .u32 2147483648) w fun e =>
  call P f_math_Float32frombits [e] w fun g h =>
  K g h)
  (cnv P 2 202 a0 w fun i =>
  call P f_math_Float32frombits [i] w fun j k =>
  K j k)
def P_impl_atPlace : Plan := (.seq rg2 (.seq (.seq rg1 (.cond (.seq rg12 .leaf) .leaf)) (.seq rg10 .leaf)))
theorem I_impl_atPlace {a0 : Value} {w : World} {K : Value → World → Prop} (h : D_impl_atPlace a0 w K) : call P f_impl_atPlace [a0] w K :=
  call_of_vc mixed Tryz.func263 (c := codeOf Tryz.f263) (by kernel_rfl) (by kernel_rfl) (p := P_impl_atPlace) (by kernel_rfl) (by rw [Tryz.ntmps263]; simp) (by
    have e : D_impl_atPlace a0 w K = vc P P_impl_atPlace (codeOf Tryz.f263) (env0 [a0]) w (retX P Tryz.f263.results.toList K) := by kernel_rfl
    exact e ▸ h)
def D_impl_infinite (a0 : Value) (w : World) (K : Value → World → Prop) : Prop :=
  call P f_math_Inf [a0] w fun b c =>
  rcnv P 117 66 b c fun d =>
  K d c
def P_impl_infinite : Plan := (.seq rg2 (.seq (.reg [.op (0, 0, false), .op (1, 2, false), .op (2, 1, false), .op (3, 0, false)]) .leaf))
theorem I_impl_infinite {a0 : Value} {w : World} {K : Value → World → Prop} (h : D_impl_infinite a0 w K) : call P f_impl_infinite [a0] w K :=
  call_of_vc mixed Tryz.func264 (c := codeOf Tryz.f264) (by kernel_rfl) (by kernel_rfl) (p := P_impl_infinite) (by kernel_rfl) (by rw [Tryz.ntmps264]; simp) (by
    have e : D_impl_infinite a0 w K = vc P P_impl_infinite (codeOf Tryz.f264) (env0 [a0]) w (retX P Tryz.f264.results.toList K) := by kernel_rfl
    exact e ▸ h)
end Go.Proofs.YtjompmflommadaaGreatDoor


set_option linter.unusedVariables false
set_option maxRecDepth 20000
namespace Go.Proofs.YtjompmflommadaaGreatDoor
open Go Go.Vc
end Go.Proofs.YtjompmflommadaaGreatDoor


set_option linter.unusedVariables false
set_option maxRecDepth 20000
namespace Go.Proofs.YtjompmflommadaaGreatDoor
open Go Go.Vc
def D_spec_l01In (a0 a1 a2 : Value) (w : World) (K : Value → World → Prop) : Prop :=
  bin P .geq 2 false false a0 a1 w fun b =>
  ∃ c : Value → World → Prop, (∀ (d : Value) (_ : Env) (e : World), c d e →
  pick b d (.bool false) fun g =>
  K g e) ∧
  grd b true
  (bin P .leq 2 false false a0 a2 w fun h =>
  c h w)
  (c undef w)
def P_spec_l01In : Plan := (.seq rg2 (.seq (.reg [.op (0, 0, false), .op (1, 0, false), .op (2, 0, false), .op (3, 0, false), .grp 3 true [(4, 0, false), (5, 0, false), (6, 0, false)] [13] 14336, .op (7, 0, false), .op (8, 0, false)]) .leaf))
theorem I_spec_l01In {a0 a1 a2 : Value} {w : World} {K : Value → World → Prop} (h : D_spec_l01In a0 a1 a2 w K) : call P f_spec_l01In [a0, a1, a2] w K :=
  call_of_vc mixed Tryz.func117 (c := codeOf Tryz.f117) (by kernel_rfl) (by kernel_rfl) (p := P_spec_l01In) (by kernel_rfl) (by rw [Tryz.ntmps117]; simp) (by
    have e : D_spec_l01In a0 a1 a2 w K = vc P P_spec_l01In (codeOf Tryz.f117) (env0 [a0, a1, a2]) w (retX P Tryz.f117.results.toList K) := by kernel_rfl
    exact e ▸ h)
def D_spec_l01Turned (a0 : Value) (w : World) (K : Value → World → Prop) : Prop :=
  rbin P .mul 66 false true a0 (.float .f32 3212836864) w fun b =>
  K b w
def P_spec_l01Turned : Plan := (.seq rg2 (.seq rg32 .leaf))
theorem I_spec_l01Turned {a0 : Value} {w : World} {K : Value → World → Prop} (h : D_spec_l01Turned a0 w K) : call P f_spec_l01Turned [a0] w K :=
  call_of_vc mixed Tryz.func193 (c := codeOf Tryz.f193) (by kernel_rfl) (by kernel_rfl) (p := P_spec_l01Turned) (by kernel_rfl) (by rw [Tryz.ntmps193]; simp) (by
    have e : D_spec_l01Turned a0 w K = vc P P_spec_l01Turned (codeOf Tryz.f193) (env0 [a0]) w (retX P Tryz.f193.results.toList K) := by kernel_rfl
    exact e ▸ h)
def D_spec_l01Twos (a0 a1 : Value) (w : World) (K : Value → World → Prop) : Prop :=
  ∃ b : Nat → Value → Value → World → Prop, (∃ c, b c a0 a1 w) ∧ ∀ (d : Nat) (e : Value) (g : Value) (_ : Env) (h : World), b d e g h →
  bin P .gtr 2 false true g (.int .i64 0) h fun i =>
  cnd i
  (rbin P .mul 117 false true e (.float .f64 4611686018427387904) h fun j =>
  bin P .sub 2 false true g (.int .i64 1) h fun k =>
  ∃ l, l < d ∧ b l j k h)
  (∃ m : Nat → Value → Value → World → Prop, (∃ n, m n e g h) ∧ ∀ (o : Nat) (p : Value) (q : Value) (_ : Env) (r : World), m o p q r →
  bin P .lss 2 false true q (.int .i64 0) r fun s =>
  cnd s
  (rbin P .quo 117 false true p (.float .f64 4611686018427387904) r fun t =>
  bin P .add 2 false true q (.int .i64 1) r fun u =>
  ∃ v, v < o ∧ m v t u r)
  (K p r))
def P_spec_l01Twos : Plan := (.seq rg2 (.seq (.blk (.loop [0, 1] 2019 (.seq (.seq rg1 (.cond .leaf .leaf)) (.seq (.blk rg32) rg0)))) (.seq (.blk (.loop [0, 1] 129027 (.seq (.seq rg1 (.cond .leaf .leaf)) (.seq (.blk rg32) rg0)))) (.seq rg1 .leaf))))
theorem I_spec_l01Twos {a0 a1 : Value} {w : World} {K : Value → World → Prop} (h : D_spec_l01Twos a0 a1 w K) : call P f_spec_l01Twos [a0, a1] w K :=
  call_of_vc mixed Tryz.func212 (c := codeOf Tryz.f212) (by kernel_rfl) (by kernel_rfl) (p := P_spec_l01Twos) (by kernel_rfl) (by rw [Tryz.ntmps212]; simp) (by
    have e : D_spec_l01Twos a0 a1 w K = vc P P_spec_l01Twos (codeOf Tryz.f212) (env0 [a0, a1]) w (retX P Tryz.f212.results.toList K) := by kernel_rfl
    exact e ▸ h)
def D_spec_l01At (a0 : Value) (w : World) (K : Value → World → Prop) : Prop :=
  bin P .lss 2 false true a0 (.int .i64 0) w fun b =>
  cnd b
  (una P .neg a0 w fun c =>
  call P f_spec_l01At [c] w fun d e =>
  una P .neg d e fun g =>
  K g e)
  (bin P .shr 2 false true a0 (.int .u64 23) w fun h =>
  bin P .and 2 false true a0 (.int .i64 8388607) w fun i =>
  bin P .eql 2 false true h (.int .i64 255) w fun j =>
  cnd j
  (call P f_spec_l01Huge [] w fun k l =>
  K k l)
  (bin P .eql 2 false true h (.int .i64 0) w fun m =>
  cnd m
  (cnv P 2 117 i w fun n =>
  call P f_spec_l01Twos [n, (.int .i64 (-149))] w fun o p =>
  rcnv P 117 66 o p fun q =>
  K q p)
  (bin P .add 2 false true i (.int .i64 8388608) w fun r =>
  cnv P 2 117 r w fun s =>
  bin P .sub 2 false true h (.int .i64 150) w fun t =>
  call P f_spec_l01Twos [s, t] w fun u v =>
  rcnv P 117 66 u v fun x =>
  K x v)))
def P_spec_l01At : Plan := (.seq rg2 (.seq (.seq rg1 (.cond (.seq rg25 .leaf) .leaf)) (.seq rg6 (.seq (.blk (.seq rg0 (.cond (.seq rg7 .leaf) (.seq rg0 (.cond (.seq (.reg [.op (0, 0, false), .op (1, 0, false), .op (2, 2, false), .op (3, 1, false), .op (4, 0, false)]) .leaf) .leaf))))) (.seq (.reg [.op (0, 0, false), .op (1, 0, false), .op (2, 0, false), .op (3, 0, false), .op (4, 0, false), .op (5, 2, false), .op (6, 1, false), .op (7, 0, false)]) .leaf)))))
theorem I_spec_l01At {a0 : Value} {w : World} {K : Value → World → Prop} (h : D_spec_l01At a0 w K) : call P f_spec_l01At [a0] w K :=
  call_of_vc mixed Tryz.func242 (c := codeOf Tryz.f242) (by kernel_rfl) (by kernel_rfl) (p := P_spec_l01At) (by kernel_rfl) (by rw [Tryz.ntmps242]; simp) (by
    have e : D_spec_l01At a0 w K = vc P P_spec_l01At (codeOf Tryz.f242) (env0 [a0]) w (retX P Tryz.f242.results.toList K) := by kernel_rfl
    exact e ▸ h)
def D_spec_l01Own (a0 : Value) (w : World) (K : Value → World → Prop) : Prop :=
  bsl P 53 0 [] w fun b c =>
  bl2 P .append #[53, 53] 53 [b, a0] c fun d e =>
  K d e
def P_spec_l01Own : Plan := (.seq rg2 (.seq rg28 .leaf))
theorem I_spec_l01Own {a0 : Value} {w : World} {K : Value → World → Prop} (h : D_spec_l01Own a0 w K) : call P f_spec_l01Own [a0] w K :=
  call_of_vc mixed Tryz.func251 (c := codeOf Tryz.f251) (by kernel_rfl) (by kernel_rfl) (p := P_spec_l01Own) (by kernel_rfl) (by rw [Tryz.ntmps251]; simp) (by
    have e : D_spec_l01Own a0 w K = vc P P_spec_l01Own (codeOf Tryz.f251) (env0 [a0]) w (retX P Tryz.f251.results.toList K) := by kernel_rfl
    exact e ▸ h)
def D_spec_l01Huge (w : World) (K : Value → World → Prop) : Prop :=
  rbin P .mul 66 false true (.float .f32 2137108966) (.float .f32 1092616192) w fun b =>
  K b w
def P_spec_l01Huge : Plan := (.seq rg2 (.seq rg2 (.seq rg32 .leaf)))
theorem I_spec_l01Huge {w : World} {K : Value → World → Prop} (h : D_spec_l01Huge  w K) : call P f_spec_l01Huge [] w K :=
  call_of_vc mixed Tryz.func270 (c := codeOf Tryz.f270) (by kernel_rfl) (by kernel_rfl) (p := P_spec_l01Huge) (by kernel_rfl) (by rw [Tryz.ntmps270]; simp) (by
    have e : D_spec_l01Huge  w K = vc P P_spec_l01Huge (codeOf Tryz.f270) (env0 []) w (retX P Tryz.f270.results.toList K) := by kernel_rfl
    exact e ▸ h)
end Go.Proofs.YtjompmflommadaaGreatDoor


set_option linter.unusedVariables false
set_option maxRecDepth 20000
namespace Go.Proofs.YtjompmflommadaaGreatDoor
open Go Go.Vc
def D_laws_szProgram (a0 a1 : Value) (w : World) (K : Value → World → Prop) : Prop :=
  bx P 24 a0 w fun b c =>
  fda P 24 b 0 c fun d =>
  ld P 22 d c fun e =>
  call P f_laws_szStringS [e, a1] c fun g h =>
  bin P .lss 3 false true g (.int .i64 0) h fun i =>
  cnd i
  (K (.int .i64 (-1)) h)
  (K g h)
def P_laws_szProgram : Plan := (.seq rg7 (.seq rg20 (.seq (.seq rg1 (.cond (.seq rg2 .leaf) .leaf)) (.seq rg1 .leaf))))
theorem I_laws_szProgram {a0 a1 : Value} {w : World} {K : Value → World → Prop} (h : D_laws_szProgram a0 a1 w K) : call P f_laws_szProgram [a0, a1] w K :=
  call_of_vc mixed Tryz.func12 (c := codeOf Tryz.f12) (by kernel_rfl) (by kernel_rfl) (p := P_laws_szProgram) (by kernel_rfl) (by rw [Tryz.ntmps12]; simp) (by
    have e : D_laws_szProgram a0 a1 w K = vc P P_laws_szProgram (codeOf Tryz.f12) (env0 [a0, a1]) w (retX P Tryz.f12.results.toList K) := by kernel_rfl
    exact e ▸ h)
def D_laws_toProgram (a0 : Value) (w : World) (K : Value → World → Prop) : Prop :=
  bx P 24 a0 w fun b c =>
  alc P 27 c fun d e =>
  alc P 27 e fun g h =>
  fda P 24 b 0 h fun i =>
  ld P 22 i h fun j =>
  call P f_laws_toStringS [j] h fun k l =>
  fda P 27 g 0 l fun m =>
  sto P 22 m k l fun n =>
  ld P 27 g n fun o =>
  sto P 27 d o n fun p =>
  ldc P 27 d p fun q =>
  K q p
def P_laws_toProgram : Plan := (.seq rg31 (.seq rg38 (.seq rg26 (.seq rg37 .leaf))))
theorem I_laws_toProgram {a0 : Value} {w : World} {K : Value → World → Prop} (h : D_laws_toProgram a0 w K) : call P f_laws_toProgram [a0] w K :=
  call_of_vc mixed Tryz.func14 (c := codeOf Tryz.f14) (by kernel_rfl) (by kernel_rfl) (p := P_laws_toProgram) (by kernel_rfl) (by rw [Tryz.ntmps14]; simp) (by
    have e : D_laws_toProgram a0 w K = vc P P_laws_toProgram (codeOf Tryz.f14) (env0 [a0]) w (retX P Tryz.f14.results.toList K) := by kernel_rfl
    exact e ▸ h)
def D_laws_eqProgram (a0 a1 : Value) (w : World) (K : Value → World → Prop) : Prop :=
  bx P 27 a0 w fun b c =>
  bx P 27 a1 c fun d e =>
  fda P 27 b 0 e fun g =>
  ld P 22 g e fun h =>
  fda P 27 d 0 e fun i =>
  ld P 22 i e fun j =>
  call P f_laws_eqStringS [h, j] e fun k l =>
  una P .not k l fun m =>
  cnd m
  (K (.bool false) l)
  (K (.bool true) l)
def P_laws_eqProgram : Plan := (.seq rg35 (.seq (.seq rg12 (.cond (.seq rg2 .leaf) .leaf)) (.seq rg2 .leaf)))
theorem I_laws_eqProgram {a0 a1 : Value} {w : World} {K : Value → World → Prop} (h : D_laws_eqProgram a0 a1 w K) : call P f_laws_eqProgram [a0, a1] w K :=
  call_of_vc mixed Tryz.func16 (c := codeOf Tryz.f16) (by kernel_rfl) (by kernel_rfl) (p := P_laws_eqProgram) (by kernel_rfl) (by rw [Tryz.ntmps16]; simp) (by
    have e : D_laws_eqProgram a0 a1 w K = vc P P_laws_eqProgram (codeOf Tryz.f16) (env0 [a0, a1]) w (retX P Tryz.f16.results.toList K) := by kernel_rfl
    exact e ▸ h)
def D_laws_szServer (a0 a1 : Value) (w : World) (K : Value → World → Prop) : Prop :=
  bx P 42 a0 w fun b c =>
  fda P 42 b 0 c fun d =>
  ld P 22 d c fun e =>
  call P f_laws_szStringS [e, a1] c fun g h =>
  bin P .lss 3 false true g (.int .i64 0) h fun i =>
  cnd i
  (K (.int .i64 (-1)) h)
  (fda P 42 b 1 h fun j =>
  ld P 39 j h fun k =>
  call P f_laws_szProgramS [k, g] h fun l m =>
  bin P .lss 3 false true l (.int .i64 0) m fun n =>
  cnd n
  (K (.int .i64 (-1)) m)
  (fda P 42 b 2 m fun o =>
  ld P 40 o m fun p =>
  call P f_laws_szKeptS [p, l] m fun q r =>
  bin P .lss 3 false true q (.int .i64 0) r fun s =>
  cnd s
  (K (.int .i64 (-1)) r)
  (K q r)))
def P_laws_szServer : Plan := (.seq rg7 (.seq rg20 (.seq (.seq rg1 (.cond (.seq rg2 .leaf) .leaf)) (.seq rg20 (.seq (.seq rg1 (.cond (.seq rg2 .leaf) .leaf)) (.seq rg20 (.seq (.seq rg1 (.cond (.seq rg2 .leaf) .leaf)) (.seq rg1 .leaf))))))))
theorem I_laws_szServer {a0 a1 : Value} {w : World} {K : Value → World → Prop} (h : D_laws_szServer a0 a1 w K) : call P f_laws_szServer [a0, a1] w K :=
  call_of_vc mixed Tryz.func27 (c := codeOf Tryz.f27) (by kernel_rfl) (by kernel_rfl) (p := P_laws_szServer) (by kernel_rfl) (by rw [Tryz.ntmps27]; simp) (by
    have e : D_laws_szServer a0 a1 w K = vc P P_laws_szServer (codeOf Tryz.f27) (env0 [a0, a1]) w (retX P Tryz.f27.results.toList K) := by kernel_rfl
    exact e ▸ h)
def D_laws_toServer (a0 : Value) (w : World) (K : Value → World → Prop) : Prop :=
  bx P 42 a0 w fun b c =>
  alc P 48 c fun d e =>
  alc P 48 e fun g h =>
  fda P 42 b 0 h fun i =>
  ld P 22 i h fun j =>
  call P f_laws_toStringS [j] h fun k l =>
  fda P 48 g 0 l fun m =>
  sto P 22 m k l fun n =>
  fda P 42 b 1 n fun o =>
  ld P 39 o n fun p =>
  call P f_laws_toProgramS [p] n fun q r =>
  fda P 48 g 1 r fun s =>
  sto P 45 s q r fun t =>
  fda P 42 b 2 t fun u =>
  ld P 40 u t fun v =>
  call P f_laws_toKeptS [v] t fun x y =>
  fda P 48 g 2 y fun z =>
  sto P 46 z x y fun A =>
  ld P 48 g A fun B =>
  sto P 48 d B A fun C =>
  ldc P 48 d C fun D =>
  K D C
def P_laws_toServer : Plan := (.seq rg31 (.seq rg38 (.seq rg26 (.seq rg26 (.seq rg26 (.seq rg37 .leaf))))))
theorem I_laws_toServer {a0 : Value} {w : World} {K : Value → World → Prop} (h : D_laws_toServer a0 w K) : call P f_laws_toServer [a0] w K :=
  call_of_vc mixed Tryz.func29 (c := codeOf Tryz.f29) (by kernel_rfl) (by kernel_rfl) (p := P_laws_toServer) (by kernel_rfl) (by rw [Tryz.ntmps29]; simp) (by
    have e : D_laws_toServer a0 w K = vc P P_laws_toServer (codeOf Tryz.f29) (env0 [a0]) w (retX P Tryz.f29.results.toList K) := by kernel_rfl
    exact e ▸ h)
def D_laws_eqServer (a0 a1 : Value) (w : World) (K : Value → World → Prop) : Prop :=
  bx P 48 a0 w fun b c =>
  bx P 48 a1 c fun d e =>
  fda P 48 b 0 e fun g =>
  ld P 22 g e fun h =>
  fda P 48 d 0 e fun i =>
  ld P 22 i e fun j =>
  call P f_laws_eqStringS [h, j] e fun k l =>
  una P .not k l fun m =>
  cnd m
  (K (.bool false) l)
  (fda P 48 b 1 l fun n =>
  ld P 45 n l fun o =>
  fda P 48 d 1 l fun p =>
  ld P 45 p l fun q =>
  call P f_laws_eqProgramS [o, q] l fun r s =>
  una P .not r s fun t =>
  cnd t
  (K (.bool false) s)
  (fda P 48 b 2 s fun u =>
  ld P 46 u s fun v =>
  fda P 48 d 2 s fun x =>
  ld P 46 x s fun y =>
  call P f_laws_eqKeptS [v, y] s fun z A =>
  una P .not z A fun B =>
  cnd B
  (K (.bool false) A)
  (K (.bool true) A)))
def P_laws_eqServer : Plan := (.seq rg35 (.seq (.seq rg12 (.cond (.seq rg2 .leaf) .leaf)) (.seq (.seq rg12 (.cond (.seq rg2 .leaf) .leaf)) (.seq (.seq rg12 (.cond (.seq rg2 .leaf) .leaf)) (.seq rg2 .leaf)))))
theorem I_laws_eqServer {a0 a1 : Value} {w : World} {K : Value → World → Prop} (h : D_laws_eqServer a0 a1 w K) : call P f_laws_eqServer [a0, a1] w K :=
  call_of_vc mixed Tryz.func31 (c := codeOf Tryz.f31) (by kernel_rfl) (by kernel_rfl) (p := P_laws_eqServer) (by kernel_rfl) (by rw [Tryz.ntmps31]; simp) (by
    have e : D_laws_eqServer a0 a1 w K = vc P P_laws_eqServer (codeOf Tryz.f31) (env0 [a0, a1]) w (retX P Tryz.f31.results.toList K) := by kernel_rfl
    exact e ▸ h)
def D_laws_szStringS (a0 a1 : Value) (w : World) (K : Value → World → Prop) : Prop :=
  bl0 P .len #[22] 3 [a0] w fun b =>
  bin P .sub 3 false false a1 b w fun c =>
  bin P .lss 3 false true c (.int .i64 0) w fun d =>
  cnd d
  (K (.int .i64 (-1)) w)
  (∃ e : Nat → Value → Value → World → Prop, (∃ g, e g c (.int .i64 0) w) ∧ ∀ (h : Nat) (i : Value) (j : Value) (_ : Env) (k : World), e h i j k →
  bl0 P .len #[22] 3 [a0] k fun l =>
  bin P .lss 3 false false j l k fun m =>
  cnd m
  (ixa P 22 a0 j k fun n =>
  ld P 9 n k fun o =>
  bl0 P .len #[9] 3 [o] k fun p =>
  bin P .sub 3 false false i p k fun q =>
  bin P .lss 3 false true q (.int .i64 0) k fun r =>
  cnd r
  (K (.int .i64 (-1)) k)
  (bin P .add 3 false true j (.int .i64 1) k fun s =>
  ∃ t, t < h ∧ e t q s k))
  (K i k))
def P_laws_szStringS : Plan := (.seq rg2 (.seq rg3 (.seq (.seq rg1 (.cond (.seq rg2 .leaf) .leaf)) (.seq (.seq rg2 (.blk (.loop [1, 5] 134213682 (.seq (.seq rg4 (.cond .leaf .leaf)) (.seq (.blk (.seq rg9 (.seq rg1 (.cond (.seq rg2 .leaf) .leaf)))) rg0))))) (.seq rg1 .leaf)))))
theorem I_laws_szStringS {a0 a1 : Value} {w : World} {K : Value → World → Prop} (h : D_laws_szStringS a0 a1 w K) : call P f_laws_szStringS [a0, a1] w K :=
  call_of_vc mixed Tryz.func51 (c := codeOf Tryz.f51) (by kernel_rfl) (by kernel_rfl) (p := P_laws_szStringS) (by kernel_rfl) (by rw [Tryz.ntmps51]; simp) (by
    have e : D_laws_szStringS a0 a1 w K = vc P P_laws_szStringS (codeOf Tryz.f51) (env0 [a0, a1]) w (retX P Tryz.f51.results.toList K) := by kernel_rfl
    exact e ▸ h)
def D_laws_toStringS (a0 : Value) (w : World) (K : Value → World → Prop) : Prop :=
  bl0 P .len #[22] 3 [a0] w fun b =>
  mks P 22 b b w fun c d =>
  ∃ e : Nat → Value → World → Prop, (∃ g, e g (.int .i64 0) d) ∧ ∀ (h : Nat) (i : Value) (_ : Env) (j : World), e h i j →
  bl0 P .len #[22] 3 [a0] j fun k =>
  bin P .lss 3 false false i k j fun l =>
  cnd l
  (ixa P 22 a0 i j fun m =>
  ld P 9 m j fun n =>
  ixa P 22 c i j fun o =>
  sto P 9 o n j fun p =>
  bin P .add 3 false true i (.int .i64 1) p fun q =>
  ∃ r, r < h ∧ e r q p)
  (K c j)
def P_laws_toStringS : Plan := (.seq rg2 (.seq rg10 (.seq (.seq rg2 (.blk (.loop [4] 2096912 (.seq (.seq rg4 (.cond .leaf .leaf)) (.seq (.blk rg18) rg0))))) (.seq rg1 .leaf))))
theorem I_laws_toStringS {a0 : Value} {w : World} {K : Value → World → Prop} (h : D_laws_toStringS a0 w K) : call P f_laws_toStringS [a0] w K :=
  call_of_vc mixed Tryz.func53 (c := codeOf Tryz.f53) (by kernel_rfl) (by kernel_rfl) (p := P_laws_toStringS) (by kernel_rfl) (by rw [Tryz.ntmps53]; simp) (by
    have e : D_laws_toStringS a0 w K = vc P P_laws_toStringS (codeOf Tryz.f53) (env0 [a0]) w (retX P Tryz.f53.results.toList K) := by kernel_rfl
    exact e ▸ h)
def D_laws_eqStringS (a0 a1 : Value) (w : World) (K : Value → World → Prop) : Prop :=
  bl0 P .len #[22] 3 [a0] w fun b =>
  bl0 P .len #[22] 3 [a1] w fun c =>
  bin P .neq 3 false false b c w fun d =>
  cnd d
  (K (.bool false) w)
  (∃ e : Nat → Value → World → Prop, (∃ g, e g (.int .i64 0) w) ∧ ∀ (h : Nat) (i : Value) (_ : Env) (j : World), e h i j →
  bl0 P .len #[22] 3 [a0] j fun k =>
  bin P .lss 3 false false i k j fun l =>
  cnd l
  (ixa P 22 a0 i j fun m =>
  ld P 9 m j fun n =>
  ixa P 22 a1 i j fun o =>
  ld P 9 o j fun p =>
  bin P .neq 9 false false n p j fun q =>
  cnd q
  (K (.bool false) j)
  (bin P .add 3 false true i (.int .i64 1) j fun r =>
  ∃ s, s < h ∧ e s r j))
  (K (.bool true) j))
def P_laws_eqStringS : Plan := (.seq rg2 (.seq (.seq rg3 (.cond (.seq rg2 .leaf) .leaf)) (.seq (.seq rg2 (.blk (.loop [5] 67106864 (.seq (.seq rg4 (.cond .leaf .leaf)) (.seq (.blk (.seq rg15 (.cond (.seq rg2 .leaf) .leaf))) rg0))))) (.seq rg2 .leaf))))
theorem I_laws_eqStringS {a0 a1 : Value} {w : World} {K : Value → World → Prop} (h : D_laws_eqStringS a0 a1 w K) : call P f_laws_eqStringS [a0, a1] w K :=
  call_of_vc mixed Tryz.func55 (c := codeOf Tryz.f55) (by kernel_rfl) (by kernel_rfl) (p := P_laws_eqStringS) (by kernel_rfl) (by rw [Tryz.ntmps55]; simp) (by
    have e : D_laws_eqStringS a0 a1 w K = vc P P_laws_eqStringS (codeOf Tryz.f55) (env0 [a0, a1]) w (retX P Tryz.f55.results.toList K) := by kernel_rfl
    exact e ▸ h)
def D_laws_szProgramS (a0 a1 : Value) (w : World) (K : Value → World → Prop) : Prop :=
  bl0 P .len #[39] 3 [a0] w fun b =>
  bin P .sub 3 false false a1 b w fun c =>
  bin P .lss 3 false true c (.int .i64 0) w fun d =>
  cnd d
  (K (.int .i64 (-1)) w)
  (∃ e : Nat → Value → Value → World → Prop, (∃ g, e g c (.int .i64 0) w) ∧ ∀ (h : Nat) (i : Value) (j : Value) (_ : Env) (k : World), e h i j k →
  bl0 P .len #[39] 3 [a0] k fun l =>
  bin P .lss 3 false false j l k fun m =>
  cnd m
  (ixa P 39 a0 j k fun n =>
  ld P 24 n k fun o =>
  call P f_laws_szProgram [o, i] k fun p q =>
  bin P .lss 3 false true p (.int .i64 0) q fun r =>
  cnd r
  (K (.int .i64 (-1)) q)
  (bin P .add 3 false true j (.int .i64 1) q fun s =>
  ∃ t, t < h ∧ e t p s q))
  (K i k))
def P_laws_szProgramS : Plan := (.seq rg2 (.seq rg3 (.seq (.seq rg1 (.cond (.seq rg2 .leaf) .leaf)) (.seq (.seq rg2 (.blk (.loop [1, 5] 67104818 (.seq (.seq rg4 (.cond .leaf .leaf)) (.seq (.blk (.seq rg16 (.seq rg1 (.cond (.seq rg2 .leaf) .leaf)))) rg0))))) (.seq rg1 .leaf)))))
theorem I_laws_szProgramS {a0 a1 : Value} {w : World} {K : Value → World → Prop} (h : D_laws_szProgramS a0 a1 w K) : call P f_laws_szProgramS [a0, a1] w K :=
  call_of_vc mixed Tryz.func65 (c := codeOf Tryz.f65) (by kernel_rfl) (by kernel_rfl) (p := P_laws_szProgramS) (by kernel_rfl) (by rw [Tryz.ntmps65]; simp) (by
    have e : D_laws_szProgramS a0 a1 w K = vc P P_laws_szProgramS (codeOf Tryz.f65) (env0 [a0, a1]) w (retX P Tryz.f65.results.toList K) := by kernel_rfl
    exact e ▸ h)
def D_laws_szKeptS (a0 a1 : Value) (w : World) (K : Value → World → Prop) : Prop :=
  bl0 P .len #[40] 3 [a0] w fun b =>
  bin P .sub 3 false false a1 b w fun c =>
  bin P .lss 3 false true c (.int .i64 0) w fun d =>
  cnd d
  (K (.int .i64 (-1)) w)
  (∃ e : Nat → Value → Value → World → Prop, (∃ g, e g c (.int .i64 0) w) ∧ ∀ (h : Nat) (i : Value) (j : Value) (_ : Env) (k : World), e h i j k →
  bl0 P .len #[40] 3 [a0] k fun l =>
  bin P .lss 3 false false j l k fun m =>
  cnd m
  (ixa P 40 a0 j k fun n =>
  ld P 138 n k fun o =>
  call P f_laws_szKept [o, i] k fun p q =>
  bin P .lss 3 false true p (.int .i64 0) q fun r =>
  cnd r
  (K (.int .i64 (-1)) q)
  (bin P .add 3 false true j (.int .i64 1) q fun s =>
  ∃ t, t < h ∧ e t p s q))
  (K i k))
def P_laws_szKeptS : Plan := (.seq rg2 (.seq rg3 (.seq (.seq rg1 (.cond (.seq rg2 .leaf) .leaf)) (.seq (.seq rg2 (.blk (.loop [1, 5] 67104818 (.seq (.seq rg4 (.cond .leaf .leaf)) (.seq (.blk (.seq rg16 (.seq rg1 (.cond (.seq rg2 .leaf) .leaf)))) rg0))))) (.seq rg1 .leaf)))))
theorem I_laws_szKeptS {a0 a1 : Value} {w : World} {K : Value → World → Prop} (h : D_laws_szKeptS a0 a1 w K) : call P f_laws_szKeptS [a0, a1] w K :=
  call_of_vc mixed Tryz.func66 (c := codeOf Tryz.f66) (by kernel_rfl) (by kernel_rfl) (p := P_laws_szKeptS) (by kernel_rfl) (by rw [Tryz.ntmps66]; simp) (by
    have e : D_laws_szKeptS a0 a1 w K = vc P P_laws_szKeptS (codeOf Tryz.f66) (env0 [a0, a1]) w (retX P Tryz.f66.results.toList K) := by kernel_rfl
    exact e ▸ h)
def D_laws_toProgramS (a0 : Value) (w : World) (K : Value → World → Prop) : Prop :=
  bl0 P .len #[39] 3 [a0] w fun b =>
  mks P 45 b b w fun c d =>
  ∃ e : Nat → Value → World → Prop, (∃ g, e g (.int .i64 0) d) ∧ ∀ (h : Nat) (i : Value) (_ : Env) (j : World), e h i j →
  bl0 P .len #[39] 3 [a0] j fun k =>
  bin P .lss 3 false false i k j fun l =>
  cnd l
  (ixa P 39 a0 i j fun m =>
  ld P 24 m j fun n =>
  call P f_laws_toProgram [n] j fun o p =>
  ixa P 45 c i p fun q =>
  sto P 27 q o p fun r =>
  bin P .add 3 false true i (.int .i64 1) r fun s =>
  ∃ t, t < h ∧ e t s r)
  (K c j)
def P_laws_toProgramS : Plan := (.seq rg2 (.seq rg10 (.seq (.seq rg2 (.blk (.loop [4] 4194064 (.seq (.seq rg4 (.cond .leaf .leaf)) (.seq (.blk (.reg [.op (0, 0, false), .op (1, 0, false), .op (2, 0, false), .op (3, 0, false), .op (4, 0, false), .op (5, 0, false), .op (6, 2, false), .op (7, 0, false), .op (8, 2, false)])) rg0))))) (.seq rg1 .leaf))))
theorem I_laws_toProgramS {a0 : Value} {w : World} {K : Value → World → Prop} (h : D_laws_toProgramS a0 w K) : call P f_laws_toProgramS [a0] w K :=
  call_of_vc mixed Tryz.func68 (c := codeOf Tryz.f68) (by kernel_rfl) (by kernel_rfl) (p := P_laws_toProgramS) (by kernel_rfl) (by rw [Tryz.ntmps68]; simp) (by
    have e : D_laws_toProgramS a0 w K = vc P P_laws_toProgramS (codeOf Tryz.f68) (env0 [a0]) w (retX P Tryz.f68.results.toList K) := by kernel_rfl
    exact e ▸ h)
def D_laws_toKeptS (a0 : Value) (w : World) (K : Value → World → Prop) : Prop :=
  bl0 P .len #[40] 3 [a0] w fun b =>
  mks P 46 b b w fun c d =>
  ∃ e : Nat → Value → World → Prop, (∃ g, e g (.int .i64 0) d) ∧ ∀ (h : Nat) (i : Value) (_ : Env) (j : World), e h i j →
  bl0 P .len #[40] 3 [a0] j fun k =>
  bin P .lss 3 false false i k j fun l =>
  cnd l
  (ixa P 40 a0 i j fun m =>
  ld P 138 m j fun n =>
  call P f_laws_toKept [n] j fun o p =>
  ixa P 46 c i p fun q =>
  sto P 96 q o p fun r =>
  bin P .add 3 false true i (.int .i64 1) r fun s =>
  ∃ t, t < h ∧ e t s r)
  (K c j)
def P_laws_toKeptS : Plan := (.seq rg2 (.seq rg10 (.seq (.seq rg2 (.blk (.loop [4] 4194064 (.seq (.seq rg4 (.cond .leaf .leaf)) (.seq (.blk (.reg [.op (0, 0, false), .op (1, 0, false), .op (2, 0, false), .op (3, 0, false), .op (4, 0, false), .op (5, 0, false), .op (6, 2, false), .op (7, 0, false), .op (8, 2, false)])) rg0))))) (.seq rg1 .leaf))))
theorem I_laws_toKeptS {a0 : Value} {w : World} {K : Value → World → Prop} (h : D_laws_toKeptS a0 w K) : call P f_laws_toKeptS [a0] w K :=
  call_of_vc mixed Tryz.func69 (c := codeOf Tryz.f69) (by kernel_rfl) (by kernel_rfl) (p := P_laws_toKeptS) (by kernel_rfl) (by rw [Tryz.ntmps69]; simp) (by
    have e : D_laws_toKeptS a0 w K = vc P P_laws_toKeptS (codeOf Tryz.f69) (env0 [a0]) w (retX P Tryz.f69.results.toList K) := by kernel_rfl
    exact e ▸ h)
def D_laws_eqProgramS (a0 a1 : Value) (w : World) (K : Value → World → Prop) : Prop :=
  bl0 P .len #[45] 3 [a0] w fun b =>
  bl0 P .len #[45] 3 [a1] w fun c =>
  bin P .neq 3 false false b c w fun d =>
  cnd d
  (K (.bool false) w)
  (∃ e : Nat → Value → World → Prop, (∃ g, e g (.int .i64 0) w) ∧ ∀ (h : Nat) (i : Value) (_ : Env) (j : World), e h i j →
  bl0 P .len #[45] 3 [a0] j fun k =>
  bin P .lss 3 false false i k j fun l =>
  cnd l
  (ixa P 45 a0 i j fun m =>
  ld P 27 m j fun n =>
  ixa P 45 a1 i j fun o =>
  ld P 27 o j fun p =>
  call P f_laws_eqProgram [n, p] j fun q r =>
  una P .not q r fun s =>
  cnd s
  (K (.bool false) r)
  (bin P .add 3 false true i (.int .i64 1) r fun t =>
  ∃ u, u < h ∧ e u t r))
  (K (.bool true) j))
def P_laws_eqProgramS : Plan := (.seq rg2 (.seq (.seq rg3 (.cond (.seq rg2 .leaf) .leaf)) (.seq (.seq rg2 (.blk (.loop [5] 134215728 (.seq (.seq rg4 (.cond .leaf .leaf)) (.seq (.blk (.seq rg13 (.cond (.seq rg2 .leaf) .leaf))) rg0))))) (.seq rg2 .leaf))))
theorem I_laws_eqProgramS {a0 a1 : Value} {w : World} {K : Value → World → Prop} (h : D_laws_eqProgramS a0 a1 w K) : call P f_laws_eqProgramS [a0, a1] w K :=
  call_of_vc mixed Tryz.func72 (c := codeOf Tryz.f72) (by kernel_rfl) (by kernel_rfl) (p := P_laws_eqProgramS) (by kernel_rfl) (by rw [Tryz.ntmps72]; simp) (by
    have e : D_laws_eqProgramS a0 a1 w K = vc P P_laws_eqProgramS (codeOf Tryz.f72) (env0 [a0, a1]) w (retX P Tryz.f72.results.toList K) := by kernel_rfl
    exact e ▸ h)
def D_laws_eqKeptS (a0 a1 : Value) (w : World) (K : Value → World → Prop) : Prop :=
  bl0 P .len #[46] 3 [a0] w fun b =>
  bl0 P .len #[46] 3 [a1] w fun c =>
  bin P .neq 3 false false b c w fun d =>
  cnd d
  (K (.bool false) w)
  (∃ e : Nat → Value → World → Prop, (∃ g, e g (.int .i64 0) w) ∧ ∀ (h : Nat) (i : Value) (_ : Env) (j : World), e h i j →
  bl0 P .len #[46] 3 [a0] j fun k =>
  bin P .lss 3 false false i k j fun l =>
  cnd l
  (ixa P 46 a0 i j fun m =>
  ld P 96 m j fun n =>
  ixa P 46 a1 i j fun o =>
  ld P 96 o j fun p =>
  call P f_laws_eqKept [n, p] j fun q r =>
  una P .not q r fun s =>
  cnd s
  (K (.bool false) r)
  (bin P .add 3 false true i (.int .i64 1) r fun t =>
  ∃ u, u < h ∧ e u t r))
  (K (.bool true) j))
def P_laws_eqKeptS : Plan := (.seq rg2 (.seq (.seq rg3 (.cond (.seq rg2 .leaf) .leaf)) (.seq (.seq rg2 (.blk (.loop [5] 134215728 (.seq (.seq rg4 (.cond .leaf .leaf)) (.seq (.blk (.seq rg13 (.cond (.seq rg2 .leaf) .leaf))) rg0))))) (.seq rg2 .leaf))))
theorem I_laws_eqKeptS {a0 a1 : Value} {w : World} {K : Value → World → Prop} (h : D_laws_eqKeptS a0 a1 w K) : call P f_laws_eqKeptS [a0, a1] w K :=
  call_of_vc mixed Tryz.func73 (c := codeOf Tryz.f73) (by kernel_rfl) (by kernel_rfl) (p := P_laws_eqKeptS) (by kernel_rfl) (by rw [Tryz.ntmps73]; simp) (by
    have e : D_laws_eqKeptS a0 a1 w K = vc P P_laws_eqKeptS (codeOf Tryz.f73) (env0 [a0, a1]) w (retX P Tryz.f73.results.toList K) := by kernel_rfl
    exact e ▸ h)
def D_laws_szKept (a0 a1 : Value) (w : World) (K : Value → World → Prop) : Prop :=
  bx P 138 a0 w fun b c =>
  fda P 138 b 0 c fun d =>
  ld P 9 d c fun e =>
  bl0 P .len #[9] 3 [e] c fun g =>
  bin P .sub 3 false false a1 g c fun h =>
  bin P .lss 3 false true h (.int .i64 0) c fun i =>
  cnd i
  (K (.int .i64 (-1)) c)
  (fda P 138 b 1 c fun j =>
  ld P 9 j c fun k =>
  bl0 P .len #[9] 3 [k] c fun l =>
  bin P .sub 3 false false h l c fun m =>
  bin P .lss 3 false true m (.int .i64 0) c fun n =>
  cnd n
  (K (.int .i64 (-1)) c)
  (K m c))
def P_laws_szKept : Plan := (.seq rg7 (.seq rg6 (.seq (.seq rg1 (.cond (.seq rg2 .leaf) .leaf)) (.seq rg6 (.seq (.seq rg1 (.cond (.seq rg2 .leaf) .leaf)) (.seq rg1 .leaf))))))
theorem I_laws_szKept {a0 a1 : Value} {w : World} {K : Value → World → Prop} (h : D_laws_szKept a0 a1 w K) : call P f_laws_szKept [a0, a1] w K :=
  call_of_vc mixed Tryz.func109 (c := codeOf Tryz.f109) (by kernel_rfl) (by kernel_rfl) (p := P_laws_szKept) (by kernel_rfl) (by rw [Tryz.ntmps109]; simp) (by
    have e : D_laws_szKept a0 a1 w K = vc P P_laws_szKept (codeOf Tryz.f109) (env0 [a0, a1]) w (retX P Tryz.f109.results.toList K) := by kernel_rfl
    exact e ▸ h)
def D_laws_toKept (a0 : Value) (w : World) (K : Value → World → Prop) : Prop :=
  bx P 138 a0 w fun b c =>
  alc P 96 c fun d e =>
  alc P 96 e fun g h =>
  fda P 138 b 0 h fun i =>
  ld P 9 i h fun j =>
  fda P 96 g 0 h fun k =>
  sto P 9 k j h fun l =>
  fda P 138 b 1 l fun m =>
  ld P 9 m l fun n =>
  fda P 96 g 1 l fun o =>
  sto P 9 o n l fun p =>
  ld P 96 g p fun q =>
  sto P 96 d q p fun r =>
  ldc P 96 d r fun s =>
  K s r
def P_laws_toKept : Plan := (.seq rg31 (.seq rg38 (.seq rg34 (.seq rg34 (.seq rg37 .leaf)))))
theorem I_laws_toKept {a0 : Value} {w : World} {K : Value → World → Prop} (h : D_laws_toKept a0 w K) : call P f_laws_toKept [a0] w K :=
  call_of_vc mixed Tryz.func113 (c := codeOf Tryz.f113) (by kernel_rfl) (by kernel_rfl) (p := P_laws_toKept) (by kernel_rfl) (by rw [Tryz.ntmps113]; simp) (by
    have e : D_laws_toKept a0 w K = vc P P_laws_toKept (codeOf Tryz.f113) (env0 [a0]) w (retX P Tryz.f113.results.toList K) := by kernel_rfl
    exact e ▸ h)
def D_laws_eqKept (a0 a1 : Value) (w : World) (K : Value → World → Prop) : Prop :=
  bx P 96 a0 w fun b c =>
  bx P 96 a1 c fun d e =>
  fda P 96 b 0 e fun g =>
  ld P 9 g e fun h =>
  fda P 96 d 0 e fun i =>
  ld P 9 i e fun j =>
  bin P .neq 9 false false h j e fun k =>
  cnd k
  (K (.bool false) e)
  (fda P 96 b 1 e fun l =>
  ld P 9 l e fun m =>
  fda P 96 d 1 e fun n =>
  ld P 9 n e fun o =>
  bin P .neq 9 false false m o e fun p =>
  cnd p
  (K (.bool false) e)
  (K (.bool true) e))
def P_laws_eqKept : Plan := (.seq rg35 (.seq (.seq rg3 (.cond (.seq rg2 .leaf) .leaf)) (.seq (.seq rg3 (.cond (.seq rg2 .leaf) .leaf)) (.seq rg2 .leaf))))
theorem I_laws_eqKept {a0 a1 : Value} {w : World} {K : Value → World → Prop} (h : D_laws_eqKept a0 a1 w K) : call P f_laws_eqKept [a0, a1] w K :=
  call_of_vc mixed Tryz.func115 (c := codeOf Tryz.f115) (by kernel_rfl) (by kernel_rfl) (p := P_laws_eqKept) (by kernel_rfl) (by rw [Tryz.ntmps115]; simp) (by
    have e : D_laws_eqKept a0 a1 w K = vc P P_laws_eqKept (codeOf Tryz.f115) (env0 [a0, a1]) w (retX P Tryz.f115.results.toList K) := by kernel_rfl
    exact e ▸ h)
end Go.Proofs.YtjompmflommadaaGreatDoor


set_option linter.unusedVariables false
set_option maxRecDepth 20000
namespace Go.Proofs.YtjompmflommadaaGreatDoor
open Go Go.Vc
def D_slices_Contains_string_string (a0 a1 : Value) (w : World) (K : Value → World → Prop) : Prop :=
  call P f_slices_Index_string_string [a0, a1] w fun b c =>
  bin P .geq 3 false true b (.int .i64 0) c fun d =>
  K d c
def P_slices_Contains_string_string : Plan := (.seq rg2 (.seq rg25 .leaf))
theorem I_slices_Contains_string_string {a0 a1 : Value} {w : World} {K : Value → World → Prop} (h : D_slices_Contains_string_string a0 a1 w K) : call P f_slices_Contains_string_string [a0, a1] w K :=
  call_of_vc mixed Tryz.func71 (c := codeOf Tryz.f71) (by kernel_rfl) (by kernel_rfl) (p := P_slices_Contains_string_string) (by kernel_rfl) (by rw [Tryz.ntmps71]; simp) (by
    have e : D_slices_Contains_string_string a0 a1 w K = vc P P_slices_Contains_string_string (codeOf Tryz.f71) (env0 [a0, a1]) w (retX P Tryz.f71.results.toList K) := by kernel_rfl
    exact e ▸ h)
def D_slices_Index_string_string (a0 a1 : Value) (w : World) (K : Value → World → Prop) : Prop :=
  bl0 P .len #[22] 3 [a0] w fun b =>
  ∃ c : Nat → Value → World → Prop, (∃ d, c d (.int .i64 0) w) ∧ ∀ (e : Nat) (g : Value) (_ : Env) (h : World), c e g h →
  bin P .lss 3 false false g b h fun i =>
  cnd i
  (ixa P 22 a0 g h fun j =>
  ld P 9 j h fun k =>
  bin P .eql 9 false false a1 k h fun l =>
  cnd l
  (K g h)
  (bin P .add 3 false true g (.int .i64 1) h fun m =>
  ∃ n, n < e ∧ c n m h))
  (K (.int .i64 (-1)) h)
def P_slices_Index_string_string : Plan := (.seq rg2 (.seq (.seq rg0 (.blk (.loop [8] 524080 (.seq rg2 (.seq (.cond .leaf .leaf) (.seq (.blk (.seq rg1 (.seq rg6 (.cond (.seq rg1 .leaf) .leaf)))) rg1)))))) (.seq rg2 .leaf)))
theorem I_slices_Index_string_string {a0 a1 : Value} {w : World} {K : Value → World → Prop} (h : D_slices_Index_string_string a0 a1 w K) : call P f_slices_Index_string_string [a0, a1] w K :=
  call_of_vc mixed Tryz.func114 (c := codeOf Tryz.f114) (by kernel_rfl) (by kernel_rfl) (p := P_slices_Index_string_string) (by kernel_rfl) (by rw [Tryz.ntmps114]; simp) (by
    have e : D_slices_Index_string_string a0 a1 w K = vc P P_slices_Index_string_string (codeOf Tryz.f114) (env0 [a0, a1]) w (retX P Tryz.f114.results.toList K) := by kernel_rfl
    exact e ▸ h)
def D_internal_stringslite_Index (a0 a1 : Value) (w : World) (K : Value → World → Prop) : Prop :=
  bl0 P .len #[9] 3 [a1] w fun b =>
  bin P .eql 3 false true b (.int .i64 0) w fun c =>
  ∃ d : Value → World → Prop, (∀ (e : Value) (_ : Env) (g : World), d e g →
  pick c (.bool true) e fun h =>
  cnd h
  (K (.int .i64 0) g)
  (bin P .eql 3 false true b (.int .i64 1) g fun i =>
  cnd i
  (idx P 9 a1 (.int .i64 0) g fun j =>
  call P f_internal_stringslite_IndexByte [a0, j] g fun k l =>
  K k l)
  (bl0 P .len #[9] 3 [a0] g fun m =>
  bin P .geq 3 false false b m g fun n =>
  cnd n
  (K (.int .i64 (-1)) g)
  (ld P 3 (.pointer (some ⟨1, 0, none⟩)) g fun o =>
  bin P .leq 3 false false b o g fun p =>
  ∃ q : Value → World → Prop, (∀ (r : Value) (_ : Env) (s : World), q r s →
  pick p r (.bool false) fun t =>
  cnd t
  (call P f_internal_bytealg_IndexString [a0, a1] s fun u v =>
  K u v)
  (idx P 9 a1 (.int .i64 0) s fun x =>
  idx P 9 a1 (.int .i64 1) s fun y =>
  bl0 P .len #[9] 3 [a0] s fun z =>
  bin P .sub 3 false false z b s fun A =>
  bin P .add 3 false true A (.int .i64 1) s fun B =>
  ∃ C : Nat → Value → Value → World → Prop, (∃ D, C D (.int .i64 0) (.int .i64 0) s) ∧ ∀ (E : Nat) (F : Value) (G : Value) (_ : Env) (H : World), C E F G H →
  bin P .lss 3 false false F B H fun L =>
  cnd L
  (∃ M : Value → World → Prop, (∀ (N : Value) (_ : Env) (O : World), M N O →
  bin P .add 3 false true N (.int .i64 1) O fun Q =>
  idx P 9 a0 Q O fun R =>
  bin P .eql 5 false false R y O fun S =>
  ∃ T : Value → World → Prop, (∀ (U : Value) (_ : Env) (V : World), T U V →
  pick S U (.bool false) fun W =>
  cnd W
  (K N V)
  (bin P .add 3 false true N (.int .i64 1) V fun X =>
  bin P .add 3 false true G (.int .i64 1) V fun Y =>
  ld P 3 (.pointer (some ⟨1, 0, none⟩)) V fun Z =>
  bin P .leq 3 false false b Z V fun b0 =>
  ∃ c0 : Value → World → Prop, (∀ (d0 : Value) (_ : Env) (e0 : World), c0 d0 e0 →
  pick b0 d0 (.bool false) fun g0 =>
  cnd g0
  (sli P 9 a0 (some X) none none e0 fun h0 =>
  call P f_internal_bytealg_IndexString [h0, a1] e0 fun i0 j0 =>
  bin P .geq 3 false true i0 (.int .i64 0) j0 fun k0 =>
  cnd k0
  (bin P .add 3 false false i0 X j0 fun l0 =>
  K l0 j0)
  (K (.int .i64 (-1)) j0))
  (ld P 3 (.pointer (some ⟨1, 0, none⟩)) e0 fun m0 =>
  bin P .gtr 3 false false b m0 e0 fun n0 =>
  ∃ o0 : Value → World → Prop, (∀ (p0 : Value) (_ : Env) (q0 : World), o0 p0 q0 →
  pick n0 p0 (.bool false) fun r0 =>
  ∃ s0 : Value → World → Prop, (∀ (t0 : Value) (_ : Env) (u0 : World), s0 t0 u0 →
  pick r0 t0 (.bool false) fun v0 =>
  cnd v0
  (sli P 9 a0 (some X) none none u0 fun x0 =>
  call P f_internal_bytealg_IndexRabinKarp_string [x0, a1] u0 fun y0 z0 =>
  bin P .lss 3 false true y0 (.int .i64 0) z0 fun A0 =>
  cnd A0
  (K (.int .i64 (-1)) z0)
  (bin P .add 3 false false X y0 z0 fun B0 =>
  K B0 z0))
  (∃ C0, C0 < E ∧ C C0 X Y u0)) ∧
  grd r0 true
  (bin P .lss 3 false false X B q0 fun D0 =>
  s0 D0 q0)
  (s0 undef q0)) ∧
  grd n0 true
  (bin P .shr 3 false true X (.int .u64 4) e0 fun E0 =>
  bin P .add 3 true false (.int .i64 4) E0 e0 fun F0 =>
  bin P .geq 3 false false Y F0 e0 fun G0 =>
  o0 G0 e0)
  (o0 undef e0))) ∧
  grd b0 true
  (call P f_internal_bytealg_Cutover [X] V fun H0 L0 =>
  bin P .gtr 3 false false Y H0 L0 fun M0 =>
  c0 M0 L0)
  (c0 undef V))) ∧
  grd S true
  (bin P .add 3 false false N b O fun N0 =>
  sli P 9 a0 (some N) (some N0) none O fun O0 =>
  bin P .eql 9 false false O0 a1 O fun Q0 =>
  T Q0 O)
  (T undef O)) ∧
  (idx P 9 a0 F H fun R0 =>
  bin P .neq 5 false false R0 x H fun S0 =>
  cnd S0
  (bin P .add 3 false true F (.int .i64 1) H fun T0 =>
  sli P 9 a0 (some T0) (some B) none H fun U0 =>
  call P f_internal_stringslite_IndexByte [U0, x] H fun V0 W0 =>
  bin P .lss 3 false true V0 (.int .i64 0) W0 fun X0 =>
  cnd X0
  (K (.int .i64 (-1)) W0)
  (bin P .add 3 false true V0 (.int .i64 1) W0 fun Y0 =>
  bin P .add 3 false false F Y0 W0 fun Z0 =>
  M Z0 W0))
  (M F H)))
  (K (.int .i64 (-1)) H))) ∧
  grd p true
  (bl0 P .len #[9] 3 [a0] g fun b1 =>
  bin P .leq 3 false true b1 (.int .i64 64) g fun c1 =>
  q c1 g)
  (q undef g))))) ∧
  grd c false
  (bin P .eql 9 false false a1 a0 w fun d1 =>
  d d1 w)
  (d undef w)
def P_internal_stringslite_Index : Plan := (.seq rg2 (.seq rg0 (.seq (.blk (.seq (.reg [.op (0, 0, false), .op (1, 0, false), .op (2, 0, false), .grp 2 false [(3, 0, false), (4, 0, false), (5, 0, false)] [22] 7340032, .op (6, 0, false), .op (7, 0, false)]) (.cond (.seq rg2 .leaf) (.seq rg0 (.cond (.seq rg20 .leaf) (.seq rg3 (.cond (.seq rg2 .leaf) (.seq (.reg [.op (0, 0, false), .op (1, 0, false), .op (2, 0, false), .op (3, 0, false), .grp 3 true [(4, 0, false), (5, 0, false), (6, 0, false)] [43] 15393162788864, .op (7, 0, false), .op (8, 0, false)]) (.cond (.seq rg10 .leaf) .leaf))))))))) (.seq rg0 (.seq rg0 (.seq rg2 (.seq rg6 (.seq rg2 (.seq (.blk (.loop [8, 10] 11150372599265311570767858992208992677149968 (.seq (.seq rg0 (.cond .leaf .leaf)) (.blk (.cut [8] 302230301982152686831888 (.seq rg3 (.cond (.seq (.reg [.op (0, 0, false), .op (1, 0, false), .op (2, 0, false), .op (3, 0, false), .op (4, 0, false), .op (5, 0, false), .op (6, 2, false), .op (7, 0, false)]) (.seq (.seq rg1 (.cond (.seq rg2 .leaf) .leaf)) rg3)) .leaf)) (.seq (.seq (.reg [.op (0, 0, false), .op (1, 0, false), .op (2, 0, false), .op (3, 0, false), .op (4, 0, false), .op (5, 0, false), .op (6, 0, false), .grp 6 true [(7, 0, false), (8, 0, false), (9, 0, false), (10, 0, false), (11, 0, false), (12, 0, false), (13, 0, false), (14, 0, false)] [92] 9864834688055374065602396160, .op (15, 0, false)]) (.cond (.seq rg1 .leaf) .leaf)) (.seq rg0 (.seq rg0 (.seq (.reg [.op (0, 0, false), .op (1, 0, false), .op (2, 0, false), .op (3, 0, false), .grp 3 true [(4, 0, false), (5, 0, false), (6, 2, false), (7, 0, false)] [106] 152118072027387528179604384645120, .op (8, 0, false)]) (.cond (.seq rg12 (.seq (.seq rg1 (.cond (.seq rg4 .leaf) .leaf)) (.seq rg2 .leaf))) (.seq (.reg [.op (0, 0, false), .op (1, 0, false), .op (2, 0, false), .op (3, 0, false), .grp 3 true [(4, 0, false), (5, 0, false), (6, 0, false), (7, 0, false), (8, 0, false)] [126] 164824271477329568240072075474762727424, .op (9, 0, false), .op (10, 0, false), .grp 10 true [(11, 0, false), (12, 0, false), (13, 0, false)] [131] 4763953136893138488487244504044754960384, .op (14, 0, false)]) (.cond (.seq rg12 (.seq (.seq rg1 (.cond (.seq rg2 .leaf) .leaf)) (.seq rg4 .leaf))) .leaf)))))))))))) (.seq rg2 .leaf))))))))))
theorem I_internal_stringslite_Index {a0 a1 : Value} {w : World} {K : Value → World → Prop} (h : D_internal_stringslite_Index a0 a1 w K) : call P f_internal_stringslite_Index [a0, a1] w K :=
  call_of_vc mixed Tryz.func211 (c := codeOf Tryz.f211) (by kernel_rfl) (by kernel_rfl) (p := P_internal_stringslite_Index) (by kernel_rfl) (by rw [Tryz.ntmps211]; simp) (by
    have e : D_internal_stringslite_Index a0 a1 w K = vc P P_internal_stringslite_Index (codeOf Tryz.f211) (env0 [a0, a1]) w (retX P Tryz.f211.results.toList K) := by kernel_rfl
    exact e ▸ h)
def D_strings_Cut (a0 a1 : Value) (w : World) (K : Value → World → Prop) : Prop :=
  call P f_internal_stringslite_Cut [a0, a1] w fun b c =>
  xtr P b 0 c fun d =>
  xtr P b 1 c fun e =>
  xtr P b 2 c fun g =>
  K (.tuple #[d, e, g]) c
def P_strings_Cut : Plan := (.seq rg0 (.seq (.reg [.op (0, 0, false), .op (1, 0, false), .op (2, 2, false), .op (3, 0, false), .op (4, 0, false), .op (5, 0, false), .op (6, 0, false), .op (7, 0, false), .op (8, 0, false)]) .leaf))
theorem I_strings_Cut {a0 a1 : Value} {w : World} {K : Value → World → Prop} (h : D_strings_Cut a0 a1 w K) : call P f_strings_Cut [a0, a1] w K :=
  call_of_vc mixed Tryz.func222 (c := codeOf Tryz.f222) (by kernel_rfl) (by kernel_rfl) (p := P_strings_Cut) (by kernel_rfl) (by rw [Tryz.ntmps222]; simp) (by
    have e : D_strings_Cut a0 a1 w K = vc P P_strings_Cut (codeOf Tryz.f222) (env0 [a0, a1]) w (retX P Tryz.f222.results.toList K) := by kernel_rfl
    exact e ▸ h)
def D_strconv_ParseInt (a0 a1 a2 : Value) (w : World) (K : Value → World → Prop) : Prop :=
  call P f_internal_strconv_ParseInt [a0, a1, a2] w fun b c =>
  xtr P b 0 c fun d =>
  xtr P b 1 c fun e =>
  bin P .neq 189 false true e .nilIface c fun g =>
  cnd g
  (call P f_strconv_toError [(.string ⟨#[80, 97, 114, 115, 101, 73, 110, 116]⟩), a0, a1, a2, e] c fun h i =>
  K (.tuple #[d, h]) i)
  (K (.tuple #[d, .nilIface]) c)
def P_strconv_ParseInt : Plan := (.seq rg1 (.seq (.reg [.op (0, 0, false), .op (1, 0, false), .op (2, 0, false), .op (3, 2, false), .op (4, 0, false), .op (5, 0, false), .op (6, 0, false), .op (7, 0, false), .op (8, 0, false)]) (.seq (.seq rg1 (.cond (.seq (.reg [.op (0, 0, false), .op (1, 0, false), .op (2, 0, false), .op (3, 0, false), .op (4, 0, false), .op (5, 2, false), .op (6, 0, false), .op (7, 0, false)]) .leaf) .leaf)) (.seq rg0 .leaf))))
theorem I_strconv_ParseInt {a0 a1 a2 : Value} {w : World} {K : Value → World → Prop} (h : D_strconv_ParseInt a0 a1 a2 w K) : call P f_strconv_ParseInt [a0, a1, a2] w K :=
  call_of_vc mixed Tryz.func225 (c := codeOf Tryz.f225) (by kernel_rfl) (by kernel_rfl) (p := P_strconv_ParseInt) (by kernel_rfl) (by rw [Tryz.ntmps225]; simp) (by
    have e : D_strconv_ParseInt a0 a1 a2 w K = vc P P_strconv_ParseInt (codeOf Tryz.f225) (env0 [a0, a1, a2]) w (retX P Tryz.f225.results.toList K) := by kernel_rfl
    exact e ▸ h)
def D_slices_Clone_uint32_uint32 (a0 : Value) (w : World) (K : Value → World → Prop) : Prop :=
  bin P .eql 156 false true a0 (.slice none 0 0) w fun b =>
  cnd b
  (K (.slice none 0 0) w)
  (bsl P 156 0 [] w fun c d =>
  bl2 P .append #[156, 156] 156 [c, a0] d fun e g =>
  K e g)
def P_slices_Clone_uint32_uint32 : Plan := (.seq rg2 (.seq (.seq rg1 (.cond (.seq rg2 .leaf) .leaf)) (.seq rg28 .leaf)))
theorem I_slices_Clone_uint32_uint32 {a0 : Value} {w : World} {K : Value → World → Prop} (h : D_slices_Clone_uint32_uint32 a0 w K) : call P f_slices_Clone_uint32_uint32 [a0] w K :=
  call_of_vc mixed Tryz.func230 (c := codeOf Tryz.f230) (by kernel_rfl) (by kernel_rfl) (p := P_slices_Clone_uint32_uint32) (by kernel_rfl) (by rw [Tryz.ntmps230]; simp) (by
    have e : D_slices_Clone_uint32_uint32 a0 w K = vc P P_slices_Clone_uint32_uint32 (codeOf Tryz.f230) (env0 [a0]) w (retX P Tryz.f230.results.toList K) := by kernel_rfl
    exact e ▸ h)
def D_internal_stringslite_IndexByte (a0 a1 : Value) (w : World) (K : Value → World → Prop) : Prop :=
  call P f_internal_bytealg_IndexByteString [a0, a1] w fun b c =>
  K b c
def P_internal_stringslite_IndexByte : Plan := (.seq rg2 (.seq rg10 .leaf))
theorem I_internal_stringslite_IndexByte {a0 a1 : Value} {w : World} {K : Value → World → Prop} (h : D_internal_stringslite_IndexByte a0 a1 w K) : call P f_internal_stringslite_IndexByte [a0, a1] w K :=
  call_of_vc mixed Tryz.func247 (c := codeOf Tryz.f247) (by kernel_rfl) (by kernel_rfl) (p := P_internal_stringslite_IndexByte) (by kernel_rfl) (by rw [Tryz.ntmps247]; simp) (by
    have e : D_internal_stringslite_IndexByte a0 a1 w K = vc P P_internal_stringslite_IndexByte (codeOf Tryz.f247) (env0 [a0, a1]) w (retX P Tryz.f247.results.toList K) := by kernel_rfl
    exact e ▸ h)
def D_internal_stringslite_Cut (a0 a1 : Value) (w : World) (K : Value → World → Prop) : Prop :=
  call P f_internal_stringslite_Index [a0, a1] w fun b c =>
  bin P .geq 3 false true b (.int .i64 0) c fun d =>
  cnd d
  (sli P 9 a0 none (some b) none c fun e =>
  bl0 P .len #[9] 3 [a1] c fun g =>
  bin P .add 3 false false b g c fun h =>
  sli P 9 a0 (some h) none none c fun i =>
  K (.tuple #[e, i, (.bool true)]) c)
  (K (.tuple #[a0, (.string ⟨#[]⟩), (.bool false)]) c)
def P_internal_stringslite_Cut : Plan := (.seq rg0 (.seq (.seq rg10 (.seq rg1 (.cond (.seq rg11 .leaf) .leaf))) (.seq rg4 .leaf)))
theorem I_internal_stringslite_Cut {a0 a1 : Value} {w : World} {K : Value → World → Prop} (h : D_internal_stringslite_Cut a0 a1 w K) : call P f_internal_stringslite_Cut [a0, a1] w K :=
  call_of_vc mixed Tryz.func255 (c := codeOf Tryz.f255) (by kernel_rfl) (by kernel_rfl) (p := P_internal_stringslite_Cut) (by kernel_rfl) (by rw [Tryz.ntmps255]; simp) (by
    have e : D_internal_stringslite_Cut a0 a1 w K = vc P P_internal_stringslite_Cut (codeOf Tryz.f255) (env0 [a0, a1]) w (retX P Tryz.f255.results.toList K) := by kernel_rfl
    exact e ▸ h)
def D_internal_strconv_ParseInt (a0 a1 a2 : Value) (w : World) (K : Value → World → Prop) : Prop :=
  bin P .eql 9 false true a0 (.string ⟨#[]⟩) w fun b =>
  cnd b
  (mki P 280 (.int .i64 2) w fun c =>
  K (.tuple #[(.int .i64 0), c]) w)
  (∃ d : Value → Value → World → Prop, (∀ (e : Value) (g : Value) (_ : Env) (h : World), d e g h →
  call P f_internal_strconv_ParseUint [e, a1, a2] h fun i j =>
  xtr P i 0 j fun k =>
  xtr P i 1 j fun l =>
  bin P .neq 189 false true l .nilIface j fun m =>
  ∃ n : Value → World → Prop, (∀ (o : Value) (_ : Env) (p : World), n o p →
  pick m o (.bool false) fun q =>
  cnd q
  (K (.tuple #[(.int .i64 0), l]) p)
  (∃ r : Value → World → Prop, (∀ (s : Value) (_ : Env) (t : World), r s t →
  bin P .sub 3 false true s (.int .i64 1) t fun u =>
  cnv P 3 154 u t fun v =>
  bin P .shl 178 true false (.int .u64 1) v t fun x =>
  una P .not g t fun y =>
  ∃ z : Value → World → Prop, (∀ (A : Value) (_ : Env) (B : World), z A B →
  pick y A (.bool false) fun C =>
  cnd C
  (bin P .sub 178 false true x (.int .u64 1) B fun D =>
  cnv P 178 2 D B fun E =>
  mki P 280 (.int .i64 1) B fun F =>
  K (.tuple #[E, F]) B)
  (∃ G : Value → World → Prop, (∀ (H : Value) (_ : Env) (L : World), G H L →
  pick g H (.bool false) fun M =>
  cnd M
  (cnv P 178 2 x L fun N =>
  una P .neg N L fun O =>
  mki P 280 (.int .i64 1) L fun Q =>
  K (.tuple #[O, Q]) L)
  (cnv P 178 2 k L fun R =>
  cnd g
  (una P .neg R L fun S =>
  K (.tuple #[S, .nilIface]) L)
  (K (.tuple #[R, .nilIface]) L))) ∧
  grd g true
  (bin P .gtr 178 false false k x B fun T =>
  G T B)
  (G undef B))) ∧
  grd y true
  (bin P .geq 178 false false k x t fun U =>
  z U t)
  (z undef t)) ∧
  (bin P .eql 3 false true a2 (.int .i64 0) p fun V =>
  cnd V
  (r (.int .i64 64) p)
  (r a2 p)))) ∧
  grd m true
  (mki P 280 (.int .i64 1) j fun W =>
  bin P .neq 189 false false l W j fun X =>
  n X j)
  (n undef j)) ∧
  (idx P 9 a0 (.int .i64 0) w fun Y =>
  bin P .eql 5 false true Y (.int .u8 43) w fun Z =>
  cnd Z
  (sli P 9 a0 (some (.int .i64 1)) none none w fun b0 =>
  d b0 (.bool false) w)
  (bin P .eql 5 false true Y (.int .u8 45) w fun c0 =>
  cnd c0
  (sli P 9 a0 (some (.int .i64 1)) none none w fun d0 =>
  d d0 (.bool true) w)
  (d a0 (.bool false) w))))
def P_internal_strconv_ParseInt : Plan := (.seq rg1 (.seq (.seq rg1 (.cond (.seq rg0 .leaf) .leaf)) (.seq rg2 (.cut [0, 8] 33521921 (.seq rg1 (.blk (.seq rg1 (.cond rg0 (.seq rg1 (.cond (.seq rg0 rg2) .leaf)))))) (.seq rg2 (.seq (.reg [.op (0, 0, false), .op (1, 0, false), .op (2, 0, false), .op (3, 2, false), .op (4, 0, false), .op (5, 0, false), .op (6, 0, false), .op (7, 0, false), .op (8, 0, false)]) (.seq (.seq (.reg [.op (0, 0, false), .op (1, 0, false), .op (2, 0, false), .grp 2 true [(3, 0, false), (4, 0, false), (5, 0, false)] [37] 240518168576, .op (6, 0, false)]) (.cond (.seq rg0 .leaf) .leaf)) (.cut [2] 3298534883332 (.seq rg1 (.cond rg2 .leaf)) (.seq rg3 (.seq (.seq (.reg [.op (0, 0, false), .op (1, 0, false), .op (2, 0, false), .grp 2 true [(3, 0, false), (4, 0, false), (5, 0, false)] [51] 3940649673949184, .op (6, 0, false)]) (.cond (.seq rg6 .leaf) .leaf)) (.seq (.seq (.reg [.op (0, 0, false), .op (1, 0, false), .grp 1 true [(2, 0, false), (3, 0, false), (4, 0, false)] [61] 4035225266123964416, .op (5, 0, false)]) (.cond (.seq rg6 .leaf) .leaf)) (.seq rg0 (.seq (.seq rg2 (.cond rg0 .leaf)) (.seq rg0 .leaf))))))))))))))
theorem I_internal_strconv_ParseInt {a0 a1 a2 : Value} {w : World} {K : Value → World → Prop} (h : D_internal_strconv_ParseInt a0 a1 a2 w K) : call P f_internal_strconv_ParseInt [a0, a1, a2] w K :=
  call_of_vc mixed Tryz.func258 (c := codeOf Tryz.f258) (by kernel_rfl) (by kernel_rfl) (p := P_internal_strconv_ParseInt) (by kernel_rfl) (by rw [Tryz.ntmps258]; simp) (by
    have e : D_internal_strconv_ParseInt a0 a1 a2 w K = vc P P_internal_strconv_ParseInt (codeOf Tryz.f258) (env0 [a0, a1, a2]) w (retX P Tryz.f258.results.toList K) := by kernel_rfl
    exact e ▸ h)
def D_internal_strconv_ParseUint (a0 a1 a2 : Value) (w : World) (K : Value → World → Prop) : Prop :=
  bin P .eql 9 false true a0 (.string ⟨#[]⟩) w fun b =>
  cnd b
  (mki P 280 (.int .i64 2) w fun c =>
  K (.tuple #[(.int .u64 0), c]) w)
  (bin P .eql 3 false true a1 (.int .i64 0) w fun d =>
  ∃ e : Value → Value → World → Prop, (∀ (g : Value) (h : Value) (_ : Env) (i : World), e g h i →
  ∃ j : Value → World → Prop, (∀ (k : Value) (_ : Env) (l : World), j k l →
  ∃ m : Value → World → Prop, (∀ (n : Value) (_ : Env) (o : World), m n o →
  cnv P 3 154 k o fun p =>
  bin P .shl 178 true false (.int .u64 1) p o fun q =>
  bin P .sub 178 false true q (.int .u64 1) o fun r =>
  cnv2 P 9 72 g o fun s t =>
  bl0 P .len #[72] 3 [s] t fun u =>
  ∃ v : Nat → Value → Value → Value → World → Prop, (∃ x, v x (.bool false) (.int .u64 0) (.int .i64 0) t) ∧ ∀ (y : Nat) (z : Value) (A : Value) (B : Value) (_ : Env) (C : World), v y z A B C →
  bin P .lss 3 false false B u C fun D =>
  cnd D
  (ixa P 72 s B C fun E =>
  ld P 5 E C fun F =>
  ∃ G : Value → Value → World → Prop, (∀ (H : Value) (L : Value) (_ : Env) (M : World), G H L M →
  cnv P 3 5 h M fun N =>
  bin P .geq 5 false false L N M fun O =>
  cnd O
  (mki P 280 (.int .i64 2) M fun Q =>
  K (.tuple #[(.int .u64 0), Q]) M)
  (bin P .geq 178 false false A n M fun R =>
  cnd R
  (mki P 280 (.int .i64 1) M fun S =>
  K (.tuple #[r, S]) M)
  (cnv P 3 178 h M fun T =>
  bin P .mul 178 false false A T M fun U =>
  cnv P 5 178 L M fun V =>
  bin P .add 178 false false U V M fun W =>
  bin P .lss 178 false false W U M fun X =>
  ∃ Y : Value → World → Prop, (∀ (Z : Value) (_ : Env) (b0 : World), Y Z b0 →
  pick X (.bool true) Z fun c0 =>
  cnd c0
  (mki P 280 (.int .i64 1) b0 fun d0 =>
  K (.tuple #[r, d0]) b0)
  (bin P .add 3 false true B (.int .i64 1) b0 fun e0 =>
  ∃ g0, g0 < y ∧ v g0 H W e0 b0)) ∧
  grd X false
  (bin P .gtr 178 false false W r M fun h0 =>
  Y h0 M)
  (Y undef M)))) ∧
  (bin P .eql 5 false true F (.int .u8 95) C fun i0 =>
  ∃ j0 : Value → World → Prop, (∀ (k0 : Value) (_ : Env) (l0 : World), j0 k0 l0 →
  pick i0 k0 (.bool false) fun m0 =>
  cnd m0
  (bin P .add 3 false true B (.int .i64 1) l0 fun n0 =>
  ∃ o0, o0 < y ∧ v o0 (.bool true) A n0 l0)
  (bin P .leq 5 true false (.int .u8 48) F l0 fun p0 =>
  ∃ q0 : Value → World → Prop, (∀ (r0 : Value) (_ : Env) (s0 : World), q0 r0 s0 →
  pick p0 r0 (.bool false) fun t0 =>
  cnd t0
  (bin P .sub 5 false true F (.int .u8 48) s0 fun u0 =>
  G z u0 s0)
  (call P f_internal_strconv_lower [F] s0 fun v0 x0 =>
  bin P .leq 5 true false (.int .u8 97) v0 x0 fun y0 =>
  ∃ z0 : Value → World → Prop, (∀ (A0 : Value) (_ : Env) (B0 : World), z0 A0 B0 →
  pick y0 A0 (.bool false) fun C0 =>
  cnd C0
  (call P f_internal_strconv_lower [F] B0 fun D0 E0 =>
  bin P .sub 5 false true D0 (.int .u8 97) E0 fun F0 =>
  bin P .add 5 false true F0 (.int .u8 10) E0 fun G0 =>
  G z G0 E0)
  (mki P 280 (.int .i64 2) B0 fun H0 =>
  K (.tuple #[(.int .u64 0), H0]) B0)) ∧
  grd y0 true
  (call P f_internal_strconv_lower [F] x0 fun L0 M0 =>
  bin P .leq 5 false true L0 (.int .u8 122) M0 fun N0 =>
  z0 N0 M0)
  (z0 undef x0))) ∧
  grd p0 true
  (bin P .leq 5 false true F (.int .u8 57) l0 fun O0 =>
  q0 O0 l0)
  (q0 undef l0))) ∧
  grd i0 true
  (j0 d C)
  (j0 undef C)))
  (∃ Q0 : Value → World → Prop, (∀ (R0 : Value) (_ : Env) (S0 : World), Q0 R0 S0 →
  pick z R0 (.bool false) fun T0 =>
  cnd T0
  (mki P 280 (.int .i64 2) S0 fun U0 =>
  K (.tuple #[(.int .u64 0), U0]) S0)
  (K (.tuple #[A, .nilIface]) S0)) ∧
  grd z true
  (call P f_internal_strconv_underscoreOK [a0] C fun V0 W0 =>
  una P .not V0 W0 fun X0 =>
  Q0 X0 W0)
  (Q0 undef C))) ∧
  (bin P .eql 3 false true h (.int .i64 10) l fun Y0 =>
  cnd Y0
  (m (.int .u64 1844674407370955162) l)
  (bin P .eql 3 false true h (.int .i64 16) l fun Z0 =>
  cnd Z0
  (m (.int .u64 1152921504606846976) l)
  (cnv P 3 178 h l fun b1 =>
  bin P .quo 178 true false (.int .u64 18446744073709551615) b1 l fun c1 =>
  bin P .add 178 false true c1 (.int .u64 1) l fun d1 =>
  m d1 l)))) ∧
  (bin P .eql 3 false true a2 (.int .i64 0) i fun e1 =>
  cnd e1
  (j (.int .i64 64) i)
  (bin P .lss 3 false true a2 (.int .i64 0) i fun g1 =>
  ∃ h1 : Value → World → Prop, (∀ (i1 : Value) (_ : Env) (j1 : World), h1 i1 j1 →
  pick g1 (.bool true) i1 fun k1 =>
  cnd k1
  (mki P 280 (.int .i64 4) j1 fun l1 =>
  K (.tuple #[(.int .u64 0), l1]) j1)
  (j a2 j1)) ∧
  grd g1 false
  (bin P .gtr 3 false true a2 (.int .i64 64) i fun m1 =>
  h1 m1 i)
  (h1 undef i)))) ∧
  (bin P .leq 3 true false (.int .i64 2) a1 w fun n1 =>
  ∃ o1 : Value → World → Prop, (∀ (p1 : Value) (_ : Env) (q1 : World), o1 p1 q1 →
  pick n1 p1 (.bool false) fun r1 =>
  cnd r1
  (e a0 a1 q1)
  (bin P .eql 3 false true a1 (.int .i64 0) q1 fun s1 =>
  cnd s1
  (idx P 9 a0 (.int .i64 0) q1 fun t1 =>
  bin P .eql 5 false true t1 (.int .u8 48) q1 fun u1 =>
  cnd u1
  (bl0 P .len #[9] 3 [a0] q1 fun v1 =>
  bin P .geq 3 false true v1 (.int .i64 3) q1 fun x1 =>
  ∃ y1 : Value → World → Prop, (∀ (z1 : Value) (_ : Env) (A1 : World), y1 z1 A1 →
  pick x1 z1 (.bool false) fun B1 =>
  cnd B1
  (sli P 9 a0 (some (.int .i64 2)) none none A1 fun C1 =>
  e C1 (.int .i64 2) A1)
  (bl0 P .len #[9] 3 [a0] A1 fun D1 =>
  bin P .geq 3 false true D1 (.int .i64 3) A1 fun E1 =>
  ∃ F1 : Value → World → Prop, (∀ (G1 : Value) (_ : Env) (H1 : World), F1 G1 H1 →
  pick E1 G1 (.bool false) fun L1 =>
  cnd L1
  (sli P 9 a0 (some (.int .i64 2)) none none H1 fun M1 =>
  e M1 (.int .i64 8) H1)
  (bl0 P .len #[9] 3 [a0] H1 fun N1 =>
  bin P .geq 3 false true N1 (.int .i64 3) H1 fun O1 =>
  ∃ Q1 : Value → World → Prop, (∀ (R1 : Value) (_ : Env) (S1 : World), Q1 R1 S1 →
  pick O1 R1 (.bool false) fun T1 =>
  cnd T1
  (sli P 9 a0 (some (.int .i64 2)) none none S1 fun U1 =>
  e U1 (.int .i64 16) S1)
  (sli P 9 a0 (some (.int .i64 1)) none none S1 fun V1 =>
  e V1 (.int .i64 8) S1)) ∧
  grd O1 true
  (idx P 9 a0 (.int .i64 1) H1 fun W1 =>
  call P f_internal_strconv_lower [W1] H1 fun X1 Y1 =>
  bin P .eql 5 false true X1 (.int .u8 120) Y1 fun Z1 =>
  Q1 Z1 Y1)
  (Q1 undef H1))) ∧
  grd E1 true
  (idx P 9 a0 (.int .i64 1) A1 fun b2 =>
  call P f_internal_strconv_lower [b2] A1 fun c2 d2 =>
  bin P .eql 5 false true c2 (.int .u8 111) d2 fun e2 =>
  F1 e2 d2)
  (F1 undef A1))) ∧
  grd x1 true
  (idx P 9 a0 (.int .i64 1) q1 fun g2 =>
  call P f_internal_strconv_lower [g2] q1 fun h2 i2 =>
  bin P .eql 5 false true h2 (.int .u8 98) i2 fun j2 =>
  y1 j2 i2)
  (y1 undef q1))
  (e a0 (.int .i64 10) q1))
  (mki P 280 (.int .i64 3) q1 fun k2 =>
  K (.tuple #[(.int .u64 0), k2]) q1))) ∧
  grd n1 true
  (bin P .leq 3 false true a1 (.int .i64 36) w fun l2 =>
  o1 l2 w)
  (o1 undef w)))
def P_internal_strconv_ParseUint : Plan := (.seq rg1 (.seq (.seq rg1 (.cond (.seq rg0 .leaf) .leaf)) (.seq rg0 (.seq rg1 (.cut [0, 1] 75557863725914306642115 (.blk (.seq (.reg [.op (0, 0, false), .op (1, 0, false), .op (2, 0, false), .grp 2 true [(3, 0, false), (4, 0, false)] [30] 1610612736, .op (5, 0, false), .op (6, 0, false)]) (.cond .leaf (.seq rg0 (.cond (.seq rg2 (.seq rg0 (.cond (.blk (.seq (.reg [.op (0, 0, false), .op (1, 0, false), .op (2, 0, false), .op (3, 0, false), .grp 3 true [(4, 0, false), (5, 0, false), (6, 2, false), (7, 0, false)] [48] 527765581332480, .op (8, 0, false), .op (9, 0, false)]) (.cond (.seq rg2 rg0) (.seq (.reg [.op (0, 0, false), .op (1, 0, false), .op (2, 0, false), .op (3, 0, false), .grp 3 true [(4, 0, false), (5, 0, false), (6, 2, false), (7, 0, false)] [60] 2161727821137838080, .op (8, 0, false), .op (9, 0, false)]) (.cond (.seq rg2 rg0) (.seq (.reg [.op (0, 0, false), .op (1, 0, false), .op (2, 0, false), .op (3, 0, false), .grp 3 true [(4, 0, false), (5, 0, false), (6, 2, false), (7, 0, false)] [72] 8854437155380584775680, .op (8, 0, false), .op (9, 0, false)]) (.cond (.seq rg2 rg0) (.seq rg2 rg0)))))))) .leaf))) (.seq rg0 .leaf)))))) (.cut [2] 38610068363942219267178692 (.seq rg1 (.cond rg2 (.seq (.reg [.op (0, 0, false), .op (1, 0, false), .op (2, 0, false), .grp 2 false [(3, 0, false), (4, 0, false)] [82] 7253554917687775048237056, .op (5, 0, false)]) (.cond (.seq rg0 .leaf) .leaf)))) (.seq rg2 (.cut [10] 19768355002338416264795390976 (.seq rg2 (.blk (.seq rg1 (.cond rg2 (.seq rg1 (.cond rg2 rg3)))))) (.seq rg3 (.seq rg2 (.seq rg2 (.seq (.seq rg29 (.blk (.loop [12, 13, 101] 23384026197294446688723656123004069511501514518720 (.seq rg2 (.seq (.cond .leaf .leaf) (.seq (.blk (.seq rg0 (.seq rg2 (.cut [12, 16] 21778071442375242454352634027738663030976 (.blk (.seq (.reg [.op (0, 0, false), .op (1, 0, false), .op (2, 0, false), .grp 2 true [(3, 0, false)] [110] 1298074214633706907132624082305024, .op (4, 0, false), .op (5, 0, false)]) (.cond (.seq rg2 .leaf) (.seq (.reg [.op (0, 0, false), .op (1, 0, false), .op (2, 0, false), .grp 2 true [(3, 0, false), (4, 0, false)] [117] 249230249209671726169463823802564608, .op (5, 0, false), .op (6, 0, false)]) (.cond rg0 (.seq (.reg [.op (0, 0, false), .op (1, 2, false), .op (2, 0, false), .op (3, 0, false), .grp 3 true [(4, 0, false), (5, 2, false), (6, 0, false)] [128] 595494142111642311060905563005594370048, .op (7, 0, false), .op (8, 0, false)]) (.cond rg27 (.seq rg0 .leaf)))))))) (.seq (.seq rg4 (.cond (.seq rg0 .leaf) .leaf)) (.seq (.seq rg0 (.cond (.seq rg4 .leaf) .leaf)) (.seq rg3 (.seq rg3 (.seq (.seq (.reg [.op (0, 0, false), .op (1, 0, false), .op (2, 0, false), .op (3, 0, false), .grp 3 false [(4, 0, false), (5, 0, false), (6, 0, false)] [158] 639406966332270026714112114313373821099470487552, .op (7, 0, false)]) (.cond (.seq rg4 .leaf) .leaf)) rg1))))))))) rg1)))))) (.seq (.seq (.reg [.op (0, 0, false), .op (1, 0, false), .grp 1 true [(2, 0, false), (3, 2, false), (4, 0, false)] [168] 654752733524244507355250805056894792805857779253248, .op (5, 0, false)]) (.cond (.seq rg0 .leaf) .leaf)) (.seq rg0 .leaf))))))))))))))
theorem I_internal_strconv_ParseUint {a0 a1 a2 : Value} {w : World} {K : Value → World → Prop} (h : D_internal_strconv_ParseUint a0 a1 a2 w K) : call P f_internal_strconv_ParseUint [a0, a1, a2] w K :=
  call_of_vc mixed Tryz.func275 (c := codeOf Tryz.f275) (by kernel_rfl) (by kernel_rfl) (p := P_internal_strconv_ParseUint) (by kernel_rfl) (by rw [Tryz.ntmps275]; simp) (by
    have e : D_internal_strconv_ParseUint a0 a1 a2 w K = vc P P_internal_strconv_ParseUint (codeOf Tryz.f275) (env0 [a0, a1, a2]) w (retX P Tryz.f275.results.toList K) := by kernel_rfl
    exact e ▸ h)
def D_cmp_Compare_int (a0 a1 : Value) (w : World) (K : Value → World → Prop) : Prop :=
  call P f_cmp_isNaN_int [a0] w fun b c =>
  call P f_cmp_isNaN_int [a1] c fun d e =>
  cnd b
  (cnd d
  (K (.int .i64 0) e)
  (K (.int .i64 (-1)) e))
  (cnd d
  (K (.int .i64 1) e)
  (bin P .lss 3 false false a0 a1 e fun g =>
  cnd g
  (K (.int .i64 (-1)) e)
  (bin P .gtr 3 false false a0 a1 e fun h =>
  cnd h
  (K (.int .i64 1) e)
  (K (.int .i64 0) e))))
def P_cmp_Compare_int : Plan := (.seq rg2 (.seq rg5 (.seq rg5 (.seq (.seq rg2 (.cond (.seq (.seq rg2 (.cond (.seq rg2 .leaf) .leaf)) (.seq rg2 .leaf)) .leaf)) (.seq (.seq rg2 (.cond (.seq rg2 .leaf) .leaf)) (.seq (.seq rg0 (.cond (.seq rg2 .leaf) .leaf)) (.seq (.seq rg0 (.cond (.seq rg2 .leaf) .leaf)) (.seq rg2 .leaf))))))))
theorem I_cmp_Compare_int {a0 a1 : Value} {w : World} {K : Value → World → Prop} (h : D_cmp_Compare_int a0 a1 w K) : call P f_cmp_Compare_int [a0, a1] w K :=
  call_of_vc mixed Tryz.func285 (c := codeOf Tryz.f285) (by kernel_rfl) (by kernel_rfl) (p := P_cmp_Compare_int) (by kernel_rfl) (by rw [Tryz.ntmps285]; simp) (by
    have e : D_cmp_Compare_int a0 a1 w K = vc P P_cmp_Compare_int (codeOf Tryz.f285) (env0 [a0, a1]) w (retX P Tryz.f285.results.toList K) := by kernel_rfl
    exact e ▸ h)
def D_cmp_Compare_uint32 (a0 a1 : Value) (w : World) (K : Value → World → Prop) : Prop :=
  call P f_cmp_isNaN_uint32 [a0] w fun b c =>
  call P f_cmp_isNaN_uint32 [a1] c fun d e =>
  cnd b
  (cnd d
  (K (.int .i64 0) e)
  (K (.int .i64 (-1)) e))
  (cnd d
  (K (.int .i64 1) e)
  (bin P .lss 202 false false a0 a1 e fun g =>
  cnd g
  (K (.int .i64 (-1)) e)
  (bin P .gtr 202 false false a0 a1 e fun h =>
  cnd h
  (K (.int .i64 1) e)
  (K (.int .i64 0) e))))
def P_cmp_Compare_uint32 : Plan := (.seq rg2 (.seq rg5 (.seq rg5 (.seq (.seq rg2 (.cond (.seq (.seq rg2 (.cond (.seq rg2 .leaf) .leaf)) (.seq rg2 .leaf)) .leaf)) (.seq (.seq rg2 (.cond (.seq rg2 .leaf) .leaf)) (.seq (.seq rg0 (.cond (.seq rg2 .leaf) .leaf)) (.seq (.seq rg0 (.cond (.seq rg2 .leaf) .leaf)) (.seq rg2 .leaf))))))))
theorem I_cmp_Compare_uint32 {a0 a1 : Value} {w : World} {K : Value → World → Prop} (h : D_cmp_Compare_uint32 a0 a1 w K) : call P f_cmp_Compare_uint32 [a0, a1] w K :=
  call_of_vc mixed Tryz.func286 (c := codeOf Tryz.f286) (by kernel_rfl) (by kernel_rfl) (p := P_cmp_Compare_uint32) (by kernel_rfl) (by rw [Tryz.ntmps286]; simp) (by
    have e : D_cmp_Compare_uint32 a0 a1 w K = vc P P_cmp_Compare_uint32 (codeOf Tryz.f286) (env0 [a0, a1]) w (retX P Tryz.f286.results.toList K) := by kernel_rfl
    exact e ▸ h)
def D_cmp_isNaN_int (a0 : Value) (w : World) (K : Value → World → Prop) : Prop :=
  bin P .neq 3 false false a0 a0 w fun b =>
  K b w
def P_cmp_isNaN_int : Plan := (.seq rg2 (.seq rg4 .leaf))
theorem I_cmp_isNaN_int {a0 : Value} {w : World} {K : Value → World → Prop} (h : D_cmp_isNaN_int a0 w K) : call P f_cmp_isNaN_int [a0] w K :=
  call_of_vc mixed Tryz.func298 (c := codeOf Tryz.f298) (by kernel_rfl) (by kernel_rfl) (p := P_cmp_isNaN_int) (by kernel_rfl) (by rw [Tryz.ntmps298]; simp) (by
    have e : D_cmp_isNaN_int a0 w K = vc P P_cmp_isNaN_int (codeOf Tryz.f298) (env0 [a0]) w (retX P Tryz.f298.results.toList K) := by kernel_rfl
    exact e ▸ h)
def D_cmp_isNaN_uint32 (a0 : Value) (w : World) (K : Value → World → Prop) : Prop :=
  bin P .neq 202 false false a0 a0 w fun b =>
  K b w
def P_cmp_isNaN_uint32 : Plan := (.seq rg2 (.seq rg4 .leaf))
theorem I_cmp_isNaN_uint32 {a0 : Value} {w : World} {K : Value → World → Prop} (h : D_cmp_isNaN_uint32 a0 w K) : call P f_cmp_isNaN_uint32 [a0] w K :=
  call_of_vc mixed Tryz.func299 (c := codeOf Tryz.f299) (by kernel_rfl) (by kernel_rfl) (p := P_cmp_isNaN_uint32) (by kernel_rfl) (by rw [Tryz.ntmps299]; simp) (by
    have e : D_cmp_isNaN_uint32 a0 w K = vc P P_cmp_isNaN_uint32 (codeOf Tryz.f299) (env0 [a0]) w (retX P Tryz.f299.results.toList K) := by kernel_rfl
    exact e ▸ h)
end Go.Proofs.YtjompmflommadaaGreatDoor


set_option linter.unusedVariables false
set_option maxRecDepth 20000
namespace Go.Proofs.YtjompmflommadaaGreatDoor
open Go Go.Vc
def D_impl_newInt (a0 : Value) (w : World) (K : Value → World → Prop) : Prop :=
  alc P 158 w fun b c =>
  call P f_impl_integer_SetInt64 [b, a0] c fun d e =>
  K d e
def P_impl_newInt : Plan := (.seq rg2 (.seq rg28 .leaf))
theorem I_impl_newInt {a0 : Value} {w : World} {K : Value → World → Prop} (h : D_impl_newInt a0 w K) : call P f_impl_newInt [a0] w K :=
  call_of_vc mixed Tryz.func124 (c := codeOf Tryz.f124) (by kernel_rfl) (by kernel_rfl) (p := P_impl_newInt) (by kernel_rfl) (by rw [Tryz.ntmps124]; simp) (by
    have e : D_impl_newInt a0 w K = vc P P_impl_newInt (codeOf Tryz.f124) (env0 [a0]) w (retX P Tryz.f124.results.toList K) := by kernel_rfl
    exact e ▸ h)
def D_impl_integer_Rsh (a0 a1 a2 : Value) (w : World) (K : Value → World → Prop) : Prop :=
  nch a1 fun b =>
  fda P 158 b 0 w fun c =>
  ld P 4 c w fun d =>
  una P .not d w fun e =>
  cnd e
  (nch a1 fun g =>
  fda P 158 g 1 w fun h =>
  ld P 156 h w fun i =>
  call P f_impl_magRight [i, a2] w fun j k =>
  call P f_impl_integer_put [a0, (.bool false), j] k fun l m =>
  K l m)
  (nch a1 fun n =>
  fda P 158 n 1 w fun o =>
  ld P 156 o w fun p =>
  bsl P 156 1 [(0, (.int .u32 1))] w fun q r =>
  call P f_impl_magSub [p, q] r fun s t =>
  call P f_impl_magRight [s, a2] t fun u v =>
  bsl P 156 1 [(0, (.int .u32 1))] v fun x y =>
  call P f_impl_magAdd [u, x] y fun z A =>
  call P f_impl_integer_put [a0, (.bool true), z] A fun B C =>
  K B C)
def P_impl_integer_Rsh : Plan := (.seq rg2 (.seq (.seq rg3 (.cond (.seq (.reg [.op (0, 0, false), .op (1, 0, false), .op (2, 0, false), .op (3, 0, false), .op (4, 0, false), .op (5, 0, false), .op (6, 2, false), .op (7, 2, false), .op (8, 0, false)]) .leaf) .leaf)) (.seq (.reg [.op (0, 0, false), .op (1, 0, false), .op (2, 0, false), .op (3, 0, false), .op (4, 2, false), .op (5, 2, false), .op (6, 0, false)]) (.seq (.reg [.op (0, 0, false), .op (1, 0, false), .op (2, 0, false), .op (3, 2, false), .op (4, 2, false), .op (5, 2, false), .op (6, 2, false), .op (7, 0, false)]) .leaf))))
theorem I_impl_integer_Rsh {a0 a1 a2 : Value} {w : World} {K : Value → World → Prop} (h : D_impl_integer_Rsh a0 a1 a2 w K) : call P f_impl_integer_Rsh [a0, a1, a2] w K :=
  call_of_vc mixed Tryz.func128 (c := codeOf Tryz.f128) (by kernel_rfl) (by kernel_rfl) (p := P_impl_integer_Rsh) (by kernel_rfl) (by rw [Tryz.ntmps128]; simp) (by
    have e : D_impl_integer_Rsh a0 a1 a2 w K = vc P P_impl_integer_Rsh (codeOf Tryz.f128) (env0 [a0, a1, a2]) w (retX P Tryz.f128.results.toList K) := by kernel_rfl
    exact e ▸ h)
def D_impl_fromBig (a0 : Value) (w : World) (K : Value → World → Prop) : Prop :=
  alc P 55 w fun b c =>
  call P f_impl_integer_BitLen [a0] c fun d e =>
  bin P .gtr 3 false true d (.int .i64 2400) e fun g =>
  cnd g
  (bld P 55 [] e fun h =>
  sto P 55 b h e fun i =>
  ldc P 55 b i fun j =>
  K (.tuple #[j, (.bool false)]) i)
  (call P f_impl_integer_Sign [a0] e fun k l =>
  bld P 55 [(0, k)] l fun m =>
  alc P 55 l fun n o =>
  sto P 55 n m o fun p =>
  alc P 158 p fun q r =>
  call P f_impl_integer_Abs [q, a0] r fun s t =>
  call P f_impl_newInt [(.int .i64 16777215)] t fun u v =>
  ∃ x : Nat → World → Prop, (∃ y, x y v) ∧ ∀ (z : Nat) (_ : Env) (A : World), x z A →
  call P f_impl_integer_Sign [s] A fun B C =>
  bin P .gtr 3 false true B (.int .i64 0) C fun D =>
  cnd D
  (fda P 55 n 1 C fun E =>
  ld P 53 E C fun F =>
  alc P 158 C fun G H =>
  Ext C H ∧ call P f_impl_integer_And [G, s, u] H fun L M =>
  (fda P 55 n 1 M fun z => z = E) ∧ (ld P 53 E M fun z => z = F) ∧ call P f_impl_integer_Int64 [L] M fun N O =>
  Ext M O ∧ bsl P 53 1 [(0, N)] O fun Q R =>
  Ext O R ∧ bl2 P .append #[53, 53] 53 [F, Q] R fun S T =>
  fda P 55 n 1 T fun U =>
  sto P 53 U S T fun V =>
  call P f_impl_integer_Rsh [s, s, (.int .u64 24)] V fun W X =>
  ∃ Y, Y < z ∧ x Y X)
  (ld P 55 n C fun Z =>
  sto P 55 b Z C fun b0 =>
  ldc P 55 b b0 fun c0 =>
  K (.tuple #[c0, (.bool true)]) b0))
def P_impl_fromBig : Plan := (.seq rg7 (.seq (.seq rg5 (.cond (.seq rg5 .leaf) .leaf)) (.seq (.reg [.op (0, 0, false), .op (1, 2, false), .op (2, 0, false), .op (3, 2, false), .op (4, 2, false)]) (.seq rg28 (.seq rg7 (.seq (.blk (.loop [] 17179607040 (.seq (.seq rg5 (.cond .leaf .leaf)) (.blk (.seq (.reg [.op (0, 0, false), .op (1, 0, false), .op (3, 0, false), .op (4, 0, false), .op (2, 2, true), .op (5, 5, false), .op (6, 2, true), .op (7, 2, true), .op (8, 2, false), .op (9, 0, false), .op (10, 2, false)]) rg36))))) (.seq rg5 .leaf)))))))
theorem I_impl_fromBig {a0 : Value} {w : World} {K : Value → World → Prop} (h : D_impl_fromBig a0 w K) : call P f_impl_fromBig [a0] w K :=
  call_of_vc mixed Tryz.func137 (c := codeOf Tryz.f137) (by kernel_rfl) (by kernel_rfl) (p := P_impl_fromBig) (by kernel_rfl) (by rw [Tryz.ntmps137]; simp) (by
    have e : D_impl_fromBig a0 w K = vc P P_impl_fromBig (codeOf Tryz.f137) (env0 [a0]) w (retX P Tryz.f137.results.toList K) := by kernel_rfl
    exact e ▸ h)
def D_impl_integer_SetInt64 (a0 a1 : Value) (w : World) (K : Value → World → Prop) : Prop :=
  cnv P 2 178 a1 w fun b =>
  ∃ c : Value → World → Prop, (∀ (d : Value) (_ : Env) (e : World), c d e →
  bin P .lss 2 false true a1 (.int .i64 0) e fun g =>
  cnv P 178 202 d e fun h =>
  bin P .shr 178 false true d (.int .u64 32) e fun i =>
  cnv P 178 202 i e fun j =>
  bsl P 156 2 [(0, h), (1, j)] e fun k l =>
  call P f_impl_integer_put [a0, g, k] l fun m n =>
  K m n) ∧
  (bin P .lss 2 false true a1 (.int .i64 0) w fun o =>
  cnd o
  (una P .neg b w fun p =>
  c p w)
  (c b w))
def P_impl_integer_SetInt64 : Plan := (.seq rg2 (.seq rg0 (.cut [5] 3872 (.seq rg1 (.cond rg0 .leaf)) (.seq (.reg [.op (0, 0, false), .op (1, 0, false), .op (2, 0, false), .op (3, 0, false), .op (4, 0, false), .op (5, 0, false), .op (6, 0, false), .op (7, 0, false), .op (8, 2, false), .op (9, 2, false), .op (10, 0, false)]) .leaf))))
theorem I_impl_integer_SetInt64 {a0 a1 : Value} {w : World} {K : Value → World → Prop} (h : D_impl_integer_SetInt64 a0 a1 w K) : call P f_impl_integer_SetInt64 [a0, a1] w K :=
  call_of_vc mixed Tryz.func174 (c := codeOf Tryz.f174) (by kernel_rfl) (by kernel_rfl) (p := P_impl_integer_SetInt64) (by kernel_rfl) (by rw [Tryz.ntmps174]; simp) (by
    have e : D_impl_integer_SetInt64 a0 a1 w K = vc P P_impl_integer_SetInt64 (codeOf Tryz.f174) (env0 [a0, a1]) w (retX P Tryz.f174.results.toList K) := by kernel_rfl
    exact e ▸ h)
def D_impl_integer_Sign (a0 : Value) (w : World) (K : Value → World → Prop) : Prop :=
  nch a0 fun b =>
  fda P 158 b 0 w fun c =>
  ld P 4 c w fun d =>
  cnd d
  (K (.int .i64 (-1)) w)
  (nch a0 fun e =>
  fda P 158 e 1 w fun g =>
  ld P 156 g w fun h =>
  bl0 P .len #[156] 3 [h] w fun i =>
  bin P .gtr 3 false true i (.int .i64 0) w fun j =>
  cnd j
  (K (.int .i64 1) w)
  (K (.int .i64 0) w))
def P_impl_integer_Sign : Plan := (.seq rg2 (.seq (.blk (.seq rg3 (.cond (.seq rg2 .leaf) (.seq rg8 (.cond (.seq rg2 .leaf) .leaf))))) (.seq rg2 .leaf)))
theorem I_impl_integer_Sign {a0 : Value} {w : World} {K : Value → World → Prop} (h : D_impl_integer_Sign a0 w K) : call P f_impl_integer_Sign [a0] w K :=
  call_of_vc mixed Tryz.func175 (c := codeOf Tryz.f175) (by kernel_rfl) (by kernel_rfl) (p := P_impl_integer_Sign) (by kernel_rfl) (by rw [Tryz.ntmps175]; simp) (by
    have e : D_impl_integer_Sign a0 w K = vc P P_impl_integer_Sign (codeOf Tryz.f175) (env0 [a0]) w (retX P Tryz.f175.results.toList K) := by kernel_rfl
    exact e ▸ h)
def D_impl_integer_BitLen (a0 : Value) (w : World) (K : Value → World → Prop) : Prop :=
  nch a0 fun b =>
  fda P 158 b 1 w fun c =>
  ld P 156 c w fun d =>
  call P f_impl_magBits [d] w fun e g =>
  K e g
def P_impl_integer_BitLen : Plan := (.seq rg2 (.seq rg12 .leaf))
theorem I_impl_integer_BitLen {a0 : Value} {w : World} {K : Value → World → Prop} (h : D_impl_integer_BitLen a0 w K) : call P f_impl_integer_BitLen [a0] w K :=
  call_of_vc mixed Tryz.func176 (c := codeOf Tryz.f176) (by kernel_rfl) (by kernel_rfl) (p := P_impl_integer_BitLen) (by kernel_rfl) (by rw [Tryz.ntmps176]; simp) (by
    have e : D_impl_integer_BitLen a0 w K = vc P P_impl_integer_BitLen (codeOf Tryz.f176) (env0 [a0]) w (retX P Tryz.f176.results.toList K) := by kernel_rfl
    exact e ▸ h)
def D_impl_integer_Bit (a0 a1 : Value) (w : World) (K : Value → World → Prop) : Prop :=
  bin P .quo 3 false true a1 (.int .i64 32) w fun b =>
  nch a0 fun c =>
  fda P 158 c 1 w fun d =>
  ld P 156 d w fun e =>
  bl0 P .len #[156] 3 [e] w fun g =>
  bin P .geq 3 false false b g w fun h =>
  cnd h
  (K (.int .u64 0) w)
  (nch a0 fun i =>
  fda P 158 i 1 w fun j =>
  ld P 156 j w fun k =>
  bin P .quo 3 false true a1 (.int .i64 32) w fun l =>
  ixa P 156 k l w fun m =>
  ld P 202 m w fun n =>
  bin P .rem 3 false true a1 (.int .i64 32) w fun o =>
  bin P .shr 202 false false n o w fun p =>
  bin P .and 202 false true p (.int .u32 1) w fun q =>
  cnv P 202 154 q w fun r =>
  K r w)
def P_impl_integer_Bit : Plan := (.seq rg2 (.seq (.seq rg9 (.cond (.seq rg2 .leaf) .leaf)) (.seq (.reg [.op (0, 0, false), .op (1, 0, false), .op (2, 0, false), .op (3, 0, false), .op (4, 0, false), .op (5, 0, false), .op (6, 0, false), .op (7, 0, false), .op (8, 0, false), .op (9, 0, false), .op (10, 0, false), .op (11, 0, false), .op (12, 0, false), .op (13, 0, false)]) .leaf)))
theorem I_impl_integer_Bit {a0 a1 : Value} {w : World} {K : Value → World → Prop} (h : D_impl_integer_Bit a0 a1 w K) : call P f_impl_integer_Bit [a0, a1] w K :=
  call_of_vc mixed Tryz.func177 (c := codeOf Tryz.f177) (by kernel_rfl) (by kernel_rfl) (p := P_impl_integer_Bit) (by kernel_rfl) (by rw [Tryz.ntmps177]; simp) (by
    have e : D_impl_integer_Bit a0 a1 w K = vc P P_impl_integer_Bit (codeOf Tryz.f177) (env0 [a0, a1]) w (retX P Tryz.f177.results.toList K) := by kernel_rfl
    exact e ▸ h)
def D_impl_integer_put (a0 a1 a2 : Value) (w : World) (K : Value → World → Prop) : Prop :=
  call P f_impl_magTrim [a2] w fun b c =>
  nch a0 fun d =>
  fda P 158 d 1 c fun e =>
  sto P 156 e b c fun g =>
  ∃ h : Value → World → Prop, (∀ (i : Value) (_ : Env) (j : World), h i j →
  pick a1 i (.bool false) fun k =>
  nch a0 fun l =>
  fda P 158 l 0 j fun m =>
  sto P 4 m k j fun n =>
  K a0 n) ∧
  grd a1 true
  (nch a0 fun o =>
  fda P 158 o 1 g fun p =>
  ld P 156 p g fun q =>
  bl0 P .len #[156] 3 [q] g fun r =>
  bin P .gtr 3 false true r (.int .i64 0) g fun s =>
  h s g)
  (h undef g)
def P_impl_integer_put : Plan := (.seq rg2 (.seq (.reg [.op (0, 0, false), .op (1, 0, false), .op (2, 2, false), .op (3, 0, false), .op (4, 0, false), .op (5, 2, false)]) (.seq (.reg [.op (0, 0, false), .op (1, 0, false), .op (2, 0, false), .grp 2 true [(3, 0, false), (4, 0, false), (5, 0, false), (6, 0, false), (7, 0, false), (8, 0, false)] [20] 2064384, .op (9, 0, false), .op (10, 0, false), .op (11, 0, false), .op (12, 2, false)]) (.seq rg1 .leaf))))
theorem I_impl_integer_put {a0 a1 a2 : Value} {w : World} {K : Value → World → Prop} (h : D_impl_integer_put a0 a1 a2 w K) : call P f_impl_integer_put [a0, a1, a2] w K :=
  call_of_vc mixed Tryz.func178 (c := codeOf Tryz.f178) (by kernel_rfl) (by kernel_rfl) (p := P_impl_integer_put) (by kernel_rfl) (by rw [Tryz.ntmps178]; simp) (by
    have e : D_impl_integer_put a0 a1 a2 w K = vc P P_impl_integer_put (codeOf Tryz.f178) (env0 [a0, a1, a2]) w (retX P Tryz.f178.results.toList K) := by kernel_rfl
    exact e ▸ h)
def D_impl_magRight (a0 a1 : Value) (w : World) (K : Value → World → Prop) : Prop :=
  bl0 P .len #[156] 3 [a0] w fun b =>
  cnv P 3 154 b w fun c =>
  bin P .quo 154 false true a1 (.int .u64 32) w fun d =>
  bin P .leq 154 false false c d w fun e =>
  cnd e
  (K (.slice none 0 0) w)
  (bin P .quo 154 false true a1 (.int .u64 32) w fun g =>
  sli P 156 a0 (some g) none none w fun h =>
  bl0 P .len #[156] 3 [h] w fun i =>
  mks P 156 i i w fun j k =>
  bl0 P .len #[156] 3 [h] k fun l =>
  ∃ m : Nat → Value → World → Prop, (∃ n, m n (.int .i64 0) k) ∧ ∀ (o : Nat) (p : Value) (_ : Env) (q : World), m o p q →
  bin P .lss 3 false false p l q fun r =>
  cnd r
  (ixa P 156 h p q fun s =>
  ld P 202 s q fun t =>
  cnv P 202 178 t q fun u =>
  ∃ v : Value → World → Prop, (∀ (x : Value) (_ : Env) (y : World), v x y →
  bin P .rem 154 false true a1 (.int .u64 32) y fun z =>
  bin P .shr 178 false false x z y fun A =>
  cnv P 178 202 A y fun B =>
  ixa P 156 j p y fun C =>
  sto P 202 C B y fun D =>
  bin P .add 3 false true p (.int .i64 1) D fun E =>
  ∃ F, F < o ∧ m F E D) ∧
  (bin P .add 3 false true p (.int .i64 1) q fun G =>
  bl0 P .len #[156] 3 [h] q fun H =>
  bin P .lss 3 false false G H q fun L =>
  cnd L
  (bin P .add 3 false true p (.int .i64 1) q fun M =>
  ixa P 156 h M q fun N =>
  ld P 202 N q fun O =>
  cnv P 202 178 O q fun Q =>
  bin P .shl 178 false true Q (.int .u64 32) q fun R =>
  bin P .or 178 false false u R q fun S =>
  v S q)
  (v u q)))
  (call P f_impl_magTrim [j] q fun T U =>
  K T U))
def P_impl_magRight : Plan := (.seq rg2 (.seq (.seq rg6 (.cond (.seq rg2 .leaf) .leaf)) (.seq rg3 (.seq rg10 (.seq (.seq rg0 (.blk (.loop [24] 18014398492705216 (.seq rg2 (.seq (.cond .leaf .leaf) (.seq (.blk (.seq rg3 (.seq rg0 (.cut [8] 35182224605440 (.seq rg3 (.cond (.reg [.op (0, 0, false), .op (1, 0, false), .op (2, 0, false), .op (3, 0, false), .op (4, 0, false), .op (5, 0, false), .op (6, 0, false), .op (7, 0, false), .op (8, 0, false), .op (9, 0, false)]) .leaf)) rg21)))) rg1)))))) (.seq rg5 .leaf))))))
theorem I_impl_magRight {a0 a1 : Value} {w : World} {K : Value → World → Prop} (h : D_impl_magRight a0 a1 w K) : call P f_impl_magRight [a0, a1] w K :=
  call_of_vc mixed Tryz.func179 (c := codeOf Tryz.f179) (by kernel_rfl) (by kernel_rfl) (p := P_impl_magRight) (by kernel_rfl) (by rw [Tryz.ntmps179]; simp) (by
    have e : D_impl_magRight a0 a1 w K = vc P P_impl_magRight (codeOf Tryz.f179) (env0 [a0, a1]) w (retX P Tryz.f179.results.toList K) := by kernel_rfl
    exact e ▸ h)
def D_impl_magSub (a0 a1 : Value) (w : World) (K : Value → World → Prop) : Prop :=
  bl0 P .len #[156] 3 [a0] w fun b =>
  mks P 156 b b w fun c d =>
  bl0 P .len #[156] 3 [a0] d fun e =>
  ∃ g : Nat → Value → Value → World → Prop, (∃ h, g h (.int .u64 0) (.int .i64 0) d) ∧ ∀ (i : Nat) (j : Value) (k : Value) (_ : Env) (l : World), g i j k l →
  bin P .lss 3 false false k e l fun m =>
  cnd m
  (ixa P 156 a0 k l fun n =>
  ld P 202 n l fun o =>
  ∃ p : Value → World → Prop, (∀ (q : Value) (_ : Env) (r : World), p q r →
  cnv P 202 178 o r fun s =>
  bin P .sub 178 false false s q r fun t =>
  cnv P 178 202 t r fun u =>
  ixa P 156 c k r fun v =>
  sto P 202 v u r fun x =>
  bin P .shr 178 false true t (.int .u64 63) x fun y =>
  bin P .add 3 false true k (.int .i64 1) x fun z =>
  ∃ A, A < i ∧ g A y z x) ∧
  (bl0 P .len #[156] 3 [a1] l fun B =>
  bin P .lss 3 false false k B l fun C =>
  cnd C
  (ixa P 156 a1 k l fun D =>
  ld P 202 D l fun E =>
  cnv P 202 178 E l fun F =>
  bin P .add 178 false false j F l fun G =>
  p G l)
  (p j l)))
  (call P f_impl_magTrim [c] l fun H L =>
  K H L)
def P_impl_magSub : Plan := (.seq rg2 (.seq rg10 (.seq rg2 (.seq (.seq rg0 (.blk (.loop [6, 16] 35184372025280 (.seq rg2 (.seq (.cond .leaf .leaf) (.seq (.blk (.seq rg3 (.seq rg1 (.cut [9] 8585740800 (.seq rg4 (.cond rg9 .leaf)) (.seq rg3 (.seq rg24 rg0)))))) rg1)))))) (.seq rg5 .leaf)))))
theorem I_impl_magSub {a0 a1 : Value} {w : World} {K : Value → World → Prop} (h : D_impl_magSub a0 a1 w K) : call P f_impl_magSub [a0, a1] w K :=
  call_of_vc mixed Tryz.func180 (c := codeOf Tryz.f180) (by kernel_rfl) (by kernel_rfl) (p := P_impl_magSub) (by kernel_rfl) (by rw [Tryz.ntmps180]; simp) (by
    have e : D_impl_magSub a0 a1 w K = vc P P_impl_magSub (codeOf Tryz.f180) (env0 [a0, a1]) w (retX P Tryz.f180.results.toList K) := by kernel_rfl
    exact e ▸ h)
def D_impl_magAdd (a0 a1 : Value) (w : World) (K : Value → World → Prop) : Prop :=
  ∃ b : Value → Value → World → Prop, (∀ (c : Value) (d : Value) (_ : Env) (e : World), b c d e →
  bl0 P .len #[156] 3 [c] e fun g =>
  bin P .add 3 false true g (.int .i64 1) e fun h =>
  mks P 156 h h e fun i j =>
  bl0 P .len #[156] 3 [c] j fun k =>
  ∃ l : Nat → Value → Value → World → Prop, (∃ m, l m (.int .u64 0) (.int .i64 0) j) ∧ ∀ (n : Nat) (o : Value) (p : Value) (_ : Env) (q : World), l n o p q →
  bin P .lss 3 false false p k q fun r =>
  cnd r
  (ixa P 156 c p q fun s =>
  ld P 202 s q fun t =>
  cnv P 202 178 t q fun u =>
  bin P .add 178 false false o u q fun v =>
  ∃ x : Value → World → Prop, (∀ (y : Value) (_ : Env) (z : World), x y z →
  cnv P 178 202 y z fun A =>
  ixa P 156 i p z fun B =>
  sto P 202 B A z fun C =>
  bin P .shr 178 false true y (.int .u64 32) C fun D =>
  bin P .add 3 false true p (.int .i64 1) C fun E =>
  ∃ F, F < n ∧ l F D E C) ∧
  (bl0 P .len #[156] 3 [d] q fun G =>
  bin P .lss 3 false false p G q fun H =>
  cnd H
  (ixa P 156 d p q fun L =>
  ld P 202 L q fun M =>
  cnv P 202 178 M q fun N =>
  bin P .add 178 false false v N q fun O =>
  x O q)
  (x v q)))
  (bl0 P .len #[156] 3 [c] q fun Q =>
  cnv P 178 202 o q fun R =>
  ixa P 156 i Q q fun S =>
  sto P 202 S R q fun T =>
  call P f_impl_magTrim [i] T fun U V =>
  K U V)) ∧
  (bl0 P .len #[156] 3 [a0] w fun W =>
  bl0 P .len #[156] 3 [a1] w fun X =>
  bin P .lss 3 false false W X w fun Y =>
  cnd Y
  (b a1 a0 w)
  (b a0 a1 w))
def P_impl_magAdd : Plan := (.seq rg2 (.cut [0, 1] 65027 (.seq rg3 (.cond rg4 .leaf)) (.seq rg20 (.seq rg2 (.seq (.seq rg0 (.blk (.loop [6, 22] 1125899902648768 (.seq rg2 (.seq (.cond .leaf .leaf) (.seq (.blk (.seq rg3 (.seq rg3 (.cut [6] 4395899027520 (.seq rg4 (.cond rg9 .leaf)) (.seq rg24 rg0))))) rg1)))))) (.seq (.reg [.op (0, 0, false), .op (1, 0, false), .op (2, 0, false), .op (3, 0, false), .op (4, 0, false), .op (5, 0, false), .op (6, 2, false)]) (.seq rg5 .leaf)))))))
theorem I_impl_magAdd {a0 a1 : Value} {w : World} {K : Value → World → Prop} (h : D_impl_magAdd a0 a1 w K) : call P f_impl_magAdd [a0, a1] w K :=
  call_of_vc mixed Tryz.func181 (c := codeOf Tryz.f181) (by kernel_rfl) (by kernel_rfl) (p := P_impl_magAdd) (by kernel_rfl) (by rw [Tryz.ntmps181]; simp) (by
    have e : D_impl_magAdd a0 a1 w K = vc P P_impl_magAdd (codeOf Tryz.f181) (env0 [a0, a1]) w (retX P Tryz.f181.results.toList K) := by kernel_rfl
    exact e ▸ h)
def D_impl_integer_Neg (a0 a1 : Value) (w : World) (K : Value → World → Prop) : Prop :=
  nch a1 fun b =>
  fda P 158 b 0 w fun c =>
  ld P 4 c w fun d =>
  una P .not d w fun e =>
  nch a1 fun g =>
  fda P 158 g 1 w fun h =>
  ld P 156 h w fun i =>
  call P f_slices_Clone_uint32_uint32 [i] w fun j k =>
  Ext w k ∧ call P f_impl_integer_put [a0, e, j] k fun l m =>
  K l m
def P_impl_integer_Neg : Plan := (.seq rg2 (.seq rg14 .leaf))
theorem I_impl_integer_Neg {a0 a1 : Value} {w : World} {K : Value → World → Prop} (h : D_impl_integer_Neg a0 a1 w K) : call P f_impl_integer_Neg [a0, a1] w K :=
  call_of_vc mixed Tryz.func184 (c := codeOf Tryz.f184) (by kernel_rfl) (by kernel_rfl) (p := P_impl_integer_Neg) (by kernel_rfl) (by rw [Tryz.ntmps184]; simp) (by
    have e : D_impl_integer_Neg a0 a1 w K = vc P P_impl_integer_Neg (codeOf Tryz.f184) (env0 [a0, a1]) w (retX P Tryz.f184.results.toList K) := by kernel_rfl
    exact e ▸ h)
def D_impl_integer_Abs (a0 a1 : Value) (w : World) (K : Value → World → Prop) : Prop :=
  nch a1 fun b =>
  fda P 158 b 1 w fun c =>
  ld P 156 c w fun d =>
  call P f_slices_Clone_uint32_uint32 [d] w fun e g =>
  call P f_impl_integer_put [a0, (.bool false), e] g fun h i =>
  K h i
def P_impl_integer_Abs : Plan := (.seq rg2 (.seq (.reg [.op (0, 0, false), .op (1, 0, false), .op (2, 0, false), .op (3, 0, false), .op (4, 0, false), .op (5, 2, false), .op (6, 2, false), .op (7, 0, false)]) .leaf))
theorem I_impl_integer_Abs {a0 a1 : Value} {w : World} {K : Value → World → Prop} (h : D_impl_integer_Abs a0 a1 w K) : call P f_impl_integer_Abs [a0, a1] w K :=
  call_of_vc mixed Tryz.func186 (c := codeOf Tryz.f186) (by kernel_rfl) (by kernel_rfl) (p := P_impl_integer_Abs) (by kernel_rfl) (by rw [Tryz.ntmps186]; simp) (by
    have e : D_impl_integer_Abs a0 a1 w K = vc P P_impl_integer_Abs (codeOf Tryz.f186) (env0 [a0, a1]) w (retX P Tryz.f186.results.toList K) := by kernel_rfl
    exact e ▸ h)
def D_impl_integer_Add (a0 a1 a2 : Value) (w : World) (K : Value → World → Prop) : Prop :=
  nch a2 fun b =>
  fda P 158 b 0 w fun c =>
  ld P 4 c w fun d =>
  nch a2 fun e =>
  fda P 158 e 1 w fun g =>
  ld P 156 g w fun h =>
  call P f_impl_integer_plus [a0, a1, d, h] w fun i j =>
  K i j
def P_impl_integer_Add : Plan := (.seq rg2 (.seq (.reg [.op (0, 0, false), .op (1, 0, false), .op (2, 0, false), .op (3, 0, false), .op (4, 0, false), .op (5, 0, false), .op (6, 0, false), .op (7, 0, false), .op (8, 0, false), .op (9, 0, false), .op (10, 2, false), .op (11, 0, false)]) .leaf))
theorem I_impl_integer_Add {a0 a1 a2 : Value} {w : World} {K : Value → World → Prop} (h : D_impl_integer_Add a0 a1 a2 w K) : call P f_impl_integer_Add [a0, a1, a2] w K :=
  call_of_vc mixed Tryz.func187 (c := codeOf Tryz.f187) (by kernel_rfl) (by kernel_rfl) (p := P_impl_integer_Add) (by kernel_rfl) (by rw [Tryz.ntmps187]; simp) (by
    have e : D_impl_integer_Add a0 a1 a2 w K = vc P P_impl_integer_Add (codeOf Tryz.f187) (env0 [a0, a1, a2]) w (retX P Tryz.f187.results.toList K) := by kernel_rfl
    exact e ▸ h)
def D_impl_integer_And (a0 a1 a2 : Value) (w : World) (K : Value → World → Prop) : Prop :=
  bsl P 156 0 [] w fun b c =>
  nch a1 fun d =>
  fda P 158 d 1 c fun e =>
  ld P 156 e c fun g =>
  bl0 P .len #[156] 3 [g] c fun h =>
  nch a2 fun i =>
  fda P 158 i 1 c fun j =>
  ld P 156 j c fun k =>
  bl0 P .len #[156] 3 [k] c fun l =>
  bl0 P .min #[3, 3] 3 [h, l] c fun m =>
  ∃ n : Nat → Value → Value → World → Prop, (∃ o, n o b (.int .i64 0) c) ∧ ∀ (p : Nat) (q : Value) (r : Value) (_ : Env) (s : World), n p q r s →
  bin P .lss 3 false false r m s fun t =>
  cnd t
  (nch a1 fun u =>
  fda P 158 u 1 s fun v =>
  ld P 156 v s fun x =>
  ixa P 156 x r s fun y =>
  ld P 202 y s fun z =>
  nch a2 fun A =>
  fda P 158 A 1 s fun B =>
  ld P 156 B s fun C =>
  ixa P 156 C r s fun D =>
  ld P 202 D s fun E =>
  bin P .and 202 false false z E s fun F =>
  bsl P 156 1 [(0, F)] s fun G H =>
  bl2 P .append #[156, 156] 156 [q, G] H fun L M =>
  bin P .add 3 false true r (.int .i64 1) M fun N =>
  ∃ O, O < p ∧ n O L N M)
  (call P f_impl_integer_put [a0, (.bool false), q] s fun Q R =>
  K Q R)
def P_impl_integer_And : Plan := (.seq rg2 (.seq rg7 (.seq (.seq rg11 (.blk (.loop [7, 21] 8796090925440 (.seq rg2 (.seq (.cond .leaf .leaf) (.seq (.blk (.seq rg1 (.reg [.op (0, 0, false), .op (1, 0, false), .op (2, 0, false), .op (3, 0, false), .op (4, 0, false), .op (5, 0, false), .op (6, 0, false), .op (7, 0, false), .op (8, 0, false), .op (9, 0, false), .op (10, 0, false), .op (11, 0, false), .op (12, 0, false), .op (13, 0, false), .op (14, 0, false), .op (15, 0, false), .op (16, 2, false), .op (17, 2, false), .op (18, 0, false)]))) rg1)))))) (.seq rg10 .leaf))))
theorem I_impl_integer_And {a0 a1 a2 : Value} {w : World} {K : Value → World → Prop} (h : D_impl_integer_And a0 a1 a2 w K) : call P f_impl_integer_And [a0, a1, a2] w K :=
  call_of_vc mixed Tryz.func189 (c := codeOf Tryz.f189) (by kernel_rfl) (by kernel_rfl) (p := P_impl_integer_And) (by kernel_rfl) (by rw [Tryz.ntmps189]; simp) (by
    have e : D_impl_integer_And a0 a1 a2 w K = vc P P_impl_integer_And (codeOf Tryz.f189) (env0 [a0, a1, a2]) w (retX P Tryz.f189.results.toList K) := by kernel_rfl
    exact e ▸ h)
def D_impl_integer_Int64 (a0 : Value) (w : World) (K : Value → World → Prop) : Prop :=
  nch a0 fun b =>
  fda P 158 b 0 w fun c =>
  ld P 4 c w fun d =>
  cnd d
  (call P f_impl_integer_low [a0] w fun e g =>
  cnv P 178 2 e g fun h =>
  una P .neg h g fun i =>
  K i g)
  (call P f_impl_integer_low [a0] w fun j k =>
  cnv P 178 2 j k fun l =>
  K l k)
def P_impl_integer_Int64 : Plan := (.seq rg2 (.seq (.seq rg4 (.cond (.seq rg27 .leaf) .leaf)) (.seq rg29 .leaf)))
theorem I_impl_integer_Int64 {a0 : Value} {w : World} {K : Value → World → Prop} (h : D_impl_integer_Int64 a0 w K) : call P f_impl_integer_Int64 [a0] w K :=
  call_of_vc mixed Tryz.func190 (c := codeOf Tryz.f190) (by kernel_rfl) (by kernel_rfl) (p := P_impl_integer_Int64) (by kernel_rfl) (by rw [Tryz.ntmps190]; simp) (by
    have e : D_impl_integer_Int64 a0 w K = vc P P_impl_integer_Int64 (codeOf Tryz.f190) (env0 [a0]) w (retX P Tryz.f190.results.toList K) := by kernel_rfl
    exact e ▸ h)
def D_impl_magBits (a0 : Value) (w : World) (K : Value → World → Prop) : Prop :=
  bl0 P .len #[156] 3 [a0] w fun b =>
  bin P .eql 3 false true b (.int .i64 0) w fun c =>
  cnd c
  (K (.int .i64 0) w)
  (bl0 P .len #[156] 3 [a0] w fun d =>
  bin P .sub 3 false true d (.int .i64 1) w fun e =>
  bin P .mul 3 true false (.int .i64 32) e w fun g =>
  bl0 P .len #[156] 3 [a0] w fun h =>
  bin P .sub 3 false true h (.int .i64 1) w fun i =>
  ixa P 156 a0 i w fun j =>
  ld P 202 j w fun k =>
  ∃ l : Nat → Value → Value → World → Prop, (∃ m, l m g k w) ∧ ∀ (n : Nat) (o : Value) (p : Value) (_ : Env) (q : World), l n o p q →
  bin P .gtr 202 false true p (.int .u32 0) q fun r =>
  cnd r
  (bin P .add 3 false true o (.int .i64 1) q fun s =>
  bin P .shr 202 false true p (.int .u64 1) q fun t =>
  ∃ u, u < n ∧ l u s t q)
  (K o q))
def P_impl_magBits : Plan := (.seq rg2 (.seq (.seq rg0 (.cond (.seq rg2 .leaf) .leaf)) (.seq rg3 (.seq (.seq rg8 (.blk (.loop [3, 4] 16515096 (.seq (.seq rg1 (.cond .leaf .leaf)) (.seq (.blk rg0) rg0))))) (.seq rg1 .leaf)))))
theorem I_impl_magBits {a0 : Value} {w : World} {K : Value → World → Prop} (h : D_impl_magBits a0 w K) : call P f_impl_magBits [a0] w K :=
  call_of_vc mixed Tryz.func220 (c := codeOf Tryz.f220) (by kernel_rfl) (by kernel_rfl) (p := P_impl_magBits) (by kernel_rfl) (by rw [Tryz.ntmps220]; simp) (by
    have e : D_impl_magBits a0 w K = vc P P_impl_magBits (codeOf Tryz.f220) (env0 [a0]) w (retX P Tryz.f220.results.toList K) := by kernel_rfl
    exact e ▸ h)
def D_impl_magTrim (a0 : Value) (w : World) (K : Value → World → Prop) : Prop :=
  ∃ b : Nat → Value → World → Prop, (∃ c, b c a0 w) ∧ ∀ (d : Nat) (e : Value) (_ : Env) (g : World), b d e g →
  bl0 P .len #[156] 3 [e] g fun h =>
  bin P .gtr 3 false true h (.int .i64 0) g fun i =>
  ∃ j : Value → World → Prop, (∀ (k : Value) (_ : Env) (l : World), j k l →
  pick i k (.bool false) fun m =>
  cnd m
  (bl0 P .len #[156] 3 [e] l fun n =>
  bin P .sub 3 false true n (.int .i64 1) l fun o =>
  sli P 156 e none (some o) none l fun p =>
  ∃ q, q < d ∧ b q p l)
  (K e l)) ∧
  grd i true
  (bl0 P .len #[156] 3 [e] g fun r =>
  bin P .sub 3 false true r (.int .i64 1) g fun s =>
  ixa P 156 e s g fun t =>
  ld P 202 t g fun u =>
  bin P .eql 202 false true u (.int .u32 0) g fun v =>
  j v g)
  (j undef g)
def P_impl_magTrim : Plan := (.seq rg2 (.seq (.blk (.loop [0] 1048569 (.seq (.seq (.reg [.op (0, 0, false), .op (1, 0, false), .op (2, 0, false), .op (3, 0, false), .grp 3 true [(4, 0, false), (5, 0, false), (6, 0, false), (7, 0, false), (8, 0, false), (9, 0, false), (10, 0, false)] [13] 16256, .op (11, 0, false)]) (.cond .leaf .leaf)) (.blk rg6)))) (.seq rg1 .leaf)))
theorem I_impl_magTrim {a0 : Value} {w : World} {K : Value → World → Prop} (h : D_impl_magTrim a0 w K) : call P f_impl_magTrim [a0] w K :=
  call_of_vc mixed Tryz.func221 (c := codeOf Tryz.f221) (by kernel_rfl) (by kernel_rfl) (p := P_impl_magTrim) (by kernel_rfl) (by rw [Tryz.ntmps221]; simp) (by
    have e : D_impl_magTrim a0 w K = vc P P_impl_magTrim (codeOf Tryz.f221) (env0 [a0]) w (retX P Tryz.f221.results.toList K) := by kernel_rfl
    exact e ▸ h)
def D_impl_isNumeral (a0 : Value) (w : World) (K : Value → World → Prop) : Prop :=
  ∃ b : Value → World → Prop, (∀ (c : Value) (_ : Env) (d : World), b c d →
  bin P .eql 9 false true c (.string ⟨#[]⟩) d fun e =>
  ∃ g : Value → World → Prop, (∀ (h : Value) (_ : Env) (i : World), g h i →
  ∃ j : Value → World → Prop, (∀ (k : Value) (_ : Env) (l : World), j k l →
  ∃ m : Value → World → Prop, (∀ (n : Value) (_ : Env) (o : World), m n o →
  pick e (.bool true) n fun p =>
  cnd p
  (K (.bool false) o)
  (bl0 P .len #[9] 3 [c] o fun q =>
  ∃ r : Nat → Value → World → Prop, (∃ s, r s (.int .i64 0) o) ∧ ∀ (t : Nat) (u : Value) (_ : Env) (v : World), r t u v →
  bin P .lss 3 false false u q v fun x =>
  cnd x
  (idx P 9 c u v fun y =>
  bin P .lss 5 false true y (.int .u8 48) v fun z =>
  ∃ A : Value → World → Prop, (∀ (B : Value) (_ : Env) (C : World), A B C →
  pick z (.bool true) B fun D =>
  cnd D
  (K (.bool false) C)
  (bin P .add 3 false true u (.int .i64 1) C fun E =>
  ∃ F, F < t ∧ r F E C)) ∧
  grd z false
  (idx P 9 c u v fun G =>
  bin P .gtr 5 false true G (.int .u8 57) v fun H =>
  A H v)
  (A undef v))
  (K (.bool true) v))) ∧
  grd e false
  (pick h k (.bool false) fun L =>
  m L l)
  (m undef l)) ∧
  grd h true
  (bl0 P .len #[9] 3 [c] i fun M =>
  bin P .gtr 3 false true M (.int .i64 1) i fun N =>
  j N i)
  (j undef i)) ∧
  grd e false
  (idx P 9 c (.int .i64 0) d fun O =>
  bin P .eql 5 false true O (.int .u8 48) d fun Q =>
  g Q d)
  (g undef d)) ∧
  (bl0 P .len #[9] 3 [a0] w fun R =>
  bin P .gtr 3 false true R (.int .i64 0) w fun S =>
  ∃ T : Value → World → Prop, (∀ (U : Value) (_ : Env) (V : World), T U V →
  pick S U (.bool false) fun W =>
  cnd W
  (sli P 9 a0 (some (.int .i64 1)) none none V fun X =>
  bin P .eql 9 false true X (.string ⟨#[48]⟩) V fun Y =>
  cnd Y
  (K (.bool false) V)
  (b X V))
  (b a0 V)) ∧
  grd S true
  (idx P 9 a0 (.int .i64 0) w fun Z =>
  bin P .eql 5 false true Z (.int .u8 45) w fun b0 =>
  T b0 w)
  (T undef w))
def P_impl_isNumeral : Plan := (.seq rg2 (.cut [0] 65525 (.seq (.reg [.op (0, 0, false), .op (1, 0, false), .op (2, 0, false), .op (3, 0, false), .grp 3 true [(4, 0, false), (5, 0, false), (6, 0, false)] [10] 1792, .op (7, 0, false)]) (.cond (.seq rg0 (.seq rg1 (.cond (.seq rg2 .leaf) .leaf))) .leaf)) (.seq (.seq (.reg [.op (0, 0, false), .op (1, 0, false), .op (2, 0, false), .grp 2 false [(3, 0, false), (4, 0, false), (5, 0, false), (6, 0, false)] [22] 7864320, .grp 6 true [(7, 0, false), (8, 0, false), (9, 0, false)] [25] 58720256, .grp 2 false [(10, 0, false)] [26] 67108864, .op (11, 0, false)]) (.cond (.seq rg2 .leaf) .leaf)) (.seq (.seq rg0 (.blk (.loop [30] 17591112302604 (.seq rg2 (.seq (.cond .leaf .leaf) (.seq (.blk (.seq rg1 (.seq (.reg [.op (0, 0, false), .op (1, 0, false), .op (2, 0, false), .op (3, 0, false), .op (4, 0, false), .grp 4 false [(5, 0, false), (6, 0, false), (7, 0, false), (8, 0, false)] [41] 4123168604160, .op (9, 0, false)]) (.cond (.seq rg2 .leaf) .leaf)))) rg1)))))) (.seq rg2 .leaf)))))
theorem I_impl_isNumeral {a0 : Value} {w : World} {K : Value → World → Prop} (h : D_impl_isNumeral a0 w K) : call P f_impl_isNumeral [a0] w K :=
  call_of_vc mixed Tryz.func223 (c := codeOf Tryz.f223) (by kernel_rfl) (by kernel_rfl) (p := P_impl_isNumeral) (by kernel_rfl) (by rw [Tryz.ntmps223]; simp) (by
    have e : D_impl_isNumeral a0 w K = vc P P_impl_isNumeral (codeOf Tryz.f223) (env0 [a0]) w (retX P Tryz.f223.results.toList K) := by kernel_rfl
    exact e ▸ h)
def D_impl_ParseWhole (a0 : Value) (w : World) (K : Value → World → Prop) : Prop :=
  alc P 55 w fun b c =>
  call P f_impl_isNumeral [a0] c fun d e =>
  una P .not d e fun g =>
  cnd g
  (bld P 55 [] e fun h =>
  sto P 55 b h e fun i =>
  ldc P 55 b i fun j =>
  K (.tuple #[j, (.int .i64 6)]) i)
  (bl0 P .len #[9] 3 [a0] e fun k =>
  bin P .gtr 3 false true k (.int .i64 800) e fun l =>
  cnd l
  (bld P 55 [] e fun m =>
  sto P 55 b m e fun n =>
  ldc P 55 b n fun o =>
  K (.tuple #[o, (.int .i64 3)]) n)
  (alc P 158 e fun p q =>
  call P f_impl_integer_SetString [p, a0, (.int .i64 10)] q fun r s =>
  xtr P r 0 s fun t =>
  xtr P r 1 s fun u =>
  call P f_impl_whole [t] s fun v x =>
  xtr P v 0 x fun y =>
  xtr P v 1 x fun z =>
  sto P 55 b y x fun A =>
  ldc P 55 b A fun B =>
  K (.tuple #[B, z]) A))
def P_impl_ParseWhole : Plan := (.seq rg7 (.seq (.seq rg5 (.cond (.seq rg5 .leaf) .leaf)) (.seq (.seq rg0 (.cond (.seq rg5 .leaf) .leaf)) (.seq (.reg [.op (0, 2, false), .op (1, 0, false), .op (2, 2, false), .op (3, 0, false), .op (4, 0, false), .op (5, 0, false), .op (6, 0, false), .op (7, 0, false)]) (.seq (.reg [.op (0, 0, false), .op (1, 2, false), .op (2, 0, false), .op (3, 0, false), .op (4, 2, false), .op (5, 0, false)]) .leaf)))))
theorem I_impl_ParseWhole {a0 : Value} {w : World} {K : Value → World → Prop} (h : D_impl_ParseWhole a0 w K) : call P f_impl_ParseWhole [a0] w K :=
  call_of_vc mixed Tryz.func224 (c := codeOf Tryz.f224) (by kernel_rfl) (by kernel_rfl) (p := P_impl_ParseWhole) (by kernel_rfl) (by rw [Tryz.ntmps224]; simp) (by
    have e : D_impl_ParseWhole a0 w K = vc P P_impl_ParseWhole (codeOf Tryz.f224) (env0 [a0]) w (retX P Tryz.f224.results.toList K) := by kernel_rfl
    exact e ▸ h)
def D_impl_magMul (a0 a1 : Value) (w : World) (K : Value → World → Prop) : Prop :=
  bl0 P .len #[156] 3 [a0] w fun b =>
  bl0 P .len #[156] 3 [a1] w fun c =>
  bin P .add 3 false false b c w fun d =>
  mks P 156 d d w fun e g =>
  bl0 P .len #[156] 3 [a0] g fun h =>
  ∃ i : Nat → Value → World → Prop, (∃ j, i j (.int .i64 0) g) ∧ ∀ (k : Nat) (l : Value) (_ : Env) (m : World), i k l m →
  bin P .lss 3 false false l h m fun n =>
  cnd n
  (ixa P 156 a0 l m fun o =>
  ld P 202 o m fun p =>
  bl0 P .len #[156] 3 [a1] m fun q =>
  ∃ r : Nat → Value → Value → World → Prop, (∃ s, r s (.int .u64 0) (.int .i64 0) m) ∧ ∀ (t : Nat) (u : Value) (v : Value) (_ : Env) (x : World), r t u v x →
  bin P .lss 3 false false v q x fun y =>
  cnd y
  (ixa P 156 a1 v x fun z =>
  ld P 202 z x fun A =>
  cnv P 202 178 p x fun B =>
  cnv P 202 178 A x fun C =>
  bin P .mul 178 false false B C x fun D =>
  bin P .add 3 false false l v x fun E =>
  ixa P 156 e E x fun F =>
  ld P 202 F x fun G =>
  cnv P 202 178 G x fun H =>
  bin P .add 178 false false D H x fun L =>
  bin P .add 178 false false u L x fun M =>
  bin P .add 3 false false l v x fun N =>
  cnv P 178 202 M x fun O =>
  ixa P 156 e N x fun Q =>
  sto P 202 Q O x fun R =>
  bin P .shr 178 false true M (.int .u64 32) R fun S =>
  bin P .add 3 false true v (.int .i64 1) R fun T =>
  ∃ U, U < t ∧ r U S T R)
  (bl0 P .len #[156] 3 [a1] x fun V =>
  bin P .add 3 false false l V x fun W =>
  cnv P 178 202 u x fun X =>
  ixa P 156 e W x fun Y =>
  sto P 202 Y X x fun Z =>
  bin P .add 3 false true l (.int .i64 1) Z fun b0 =>
  ∃ c0, c0 < k ∧ i c0 b0 Z))
  (call P f_impl_magTrim [e] m fun d0 e0 =>
  K d0 e0)
def P_impl_magMul : Plan := (.seq rg2 (.seq rg16 (.seq (.seq rg0 (.blk (.loop [19] 36893488147418580928 (.seq rg2 (.seq (.cond .leaf .leaf) (.seq (.blk (.seq rg3 (.seq rg2 (.seq (.seq rg0 (.blk (.loop [8, 26] 72057593970820864 (.seq rg2 (.seq (.cond .leaf .leaf) (.seq (.blk (.seq rg3 (.seq (.reg [.op (0, 0, false), .op (1, 0, false), .op (2, 0, false), .op (3, 0, false), .op (4, 0, false), .op (5, 0, false), .op (6, 0, false), .op (7, 0, false), .op (8, 0, false), .op (9, 0, false), .op (10, 0, false), .op (11, 0, false), .op (12, 0, false), .op (13, 0, false), .op (14, 0, false), .op (15, 0, false)]) (.seq rg18 rg0)))) rg1)))))) rg21)))) rg1)))))) (.seq rg5 .leaf))))
theorem I_impl_magMul {a0 a1 : Value} {w : World} {K : Value → World → Prop} (h : D_impl_magMul a0 a1 w K) : call P f_impl_magMul [a0, a1] w K :=
  call_of_vc mixed Tryz.func231 (c := codeOf Tryz.f231) (by kernel_rfl) (by kernel_rfl) (p := P_impl_magMul) (by kernel_rfl) (by rw [Tryz.ntmps231]; simp) (by
    have e : D_impl_magMul a0 a1 w K = vc P P_impl_magMul (codeOf Tryz.f231) (env0 [a0, a1]) w (retX P Tryz.f231.results.toList K) := by kernel_rfl
    exact e ▸ h)
def D_impl_integer_plus (a0 a1 a2 a3 : Value) (w : World) (K : Value → World → Prop) : Prop :=
  nch a1 fun b =>
  fda P 158 b 0 w fun c =>
  ld P 4 c w fun d =>
  bin P .eql 4 false false d a2 w fun e =>
  cnd e
  (nch a1 fun g =>
  fda P 158 g 1 w fun h =>
  ld P 156 h w fun i =>
  call P f_impl_magAdd [i, a3] w fun j k =>
  call P f_impl_integer_put [a0, a2, j] k fun l m =>
  K l m)
  (nch a1 fun n =>
  fda P 158 n 1 w fun o =>
  ld P 156 o w fun p =>
  call P f_impl_magCmp [p, a3] w fun q r =>
  bin P .geq 3 false true q (.int .i64 0) r fun s =>
  cnd s
  (nch a1 fun t =>
  fda P 158 t 0 r fun u =>
  ld P 4 u r fun v =>
  nch a1 fun x =>
  fda P 158 x 1 r fun y =>
  ld P 156 y r fun z =>
  call P f_impl_magSub [z, a3] r fun A B =>
  Ext r B ∧ call P f_impl_integer_put [a0, v, A] B fun C D =>
  K C D)
  (nch a1 fun E =>
  fda P 158 E 1 r fun F =>
  ld P 156 F r fun G =>
  call P f_impl_magSub [a3, G] r fun H L =>
  call P f_impl_integer_put [a0, a2, H] L fun M N =>
  K M N))
def P_impl_integer_plus : Plan := (.seq rg2 (.seq (.blk (.seq rg8 (.cond (.seq (.reg [.op (0, 0, false), .op (1, 0, false), .op (2, 0, false), .op (3, 0, false), .op (4, 0, false), .op (5, 0, false), .op (6, 0, false), .op (7, 2, false), .op (8, 2, false), .op (9, 0, false)]) .leaf) (.seq (.reg [.op (0, 0, false), .op (1, 0, false), .op (2, 0, false), .op (3, 0, false), .op (4, 0, false), .op (5, 2, false), .op (6, 0, false), .op (7, 0, false)]) (.cond (.seq rg14 .leaf) .leaf))))) (.seq (.reg [.op (0, 0, false), .op (1, 0, false), .op (2, 0, false), .op (3, 0, false), .op (4, 0, false), .op (5, 0, false), .op (6, 0, false), .op (7, 2, false), .op (8, 2, false), .op (9, 0, false)]) .leaf)))
theorem I_impl_integer_plus {a0 a1 a2 a3 : Value} {w : World} {K : Value → World → Prop} (h : D_impl_integer_plus a0 a1 a2 a3 w K) : call P f_impl_integer_plus [a0, a1, a2, a3] w K :=
  call_of_vc mixed Tryz.func232 (c := codeOf Tryz.f232) (by kernel_rfl) (by kernel_rfl) (p := P_impl_integer_plus) (by kernel_rfl) (by rw [Tryz.ntmps232]; simp) (by
    have e : D_impl_integer_plus a0 a1 a2 a3 w K = vc P P_impl_integer_plus (codeOf Tryz.f232) (env0 [a0, a1, a2, a3]) w (retX P Tryz.f232.results.toList K) := by kernel_rfl
    exact e ▸ h)
def D_impl_integer_Lsh (a0 a1 a2 : Value) (w : World) (K : Value → World → Prop) : Prop :=
  nch a1 fun b =>
  fda P 158 b 0 w fun c =>
  ld P 4 c w fun d =>
  nch a1 fun e =>
  fda P 158 e 1 w fun g =>
  ld P 156 g w fun h =>
  call P f_impl_magLeft [h, a2] w fun i j =>
  Ext w j ∧ call P f_impl_integer_put [a0, d, i] j fun k l =>
  K k l
def P_impl_integer_Lsh : Plan := (.seq rg2 (.seq rg14 .leaf))
theorem I_impl_integer_Lsh {a0 a1 a2 : Value} {w : World} {K : Value → World → Prop} (h : D_impl_integer_Lsh a0 a1 a2 w K) : call P f_impl_integer_Lsh [a0, a1, a2] w K :=
  call_of_vc mixed Tryz.func233 (c := codeOf Tryz.f233) (by kernel_rfl) (by kernel_rfl) (p := P_impl_integer_Lsh) (by kernel_rfl) (by rw [Tryz.ntmps233]; simp) (by
    have e : D_impl_integer_Lsh a0 a1 a2 w K = vc P P_impl_integer_Lsh (codeOf Tryz.f233) (env0 [a0, a1, a2]) w (retX P Tryz.f233.results.toList K) := by kernel_rfl
    exact e ▸ h)
def D_impl_integer_low (a0 : Value) (w : World) (K : Value → World → Prop) : Prop :=
  nch a0 fun b =>
  fda P 158 b 1 w fun c =>
  ld P 156 c w fun d =>
  bl0 P .len #[156] 3 [d] w fun e =>
  bl0 P .min #[3, 3] 3 [e, (.int .i64 2)] w fun g =>
  bin P .sub 3 false true g (.int .i64 1) w fun h =>
  ∃ i : Nat → Value → Value → World → Prop, (∃ j, i j (.int .u64 0) h w) ∧ ∀ (k : Nat) (l : Value) (m : Value) (_ : Env) (n : World), i k l m n →
  bin P .geq 3 false true m (.int .i64 0) n fun o =>
  cnd o
  (bin P .shl 178 false true l (.int .u64 32) n fun p =>
  nch a0 fun q =>
  fda P 158 q 1 n fun r =>
  ld P 156 r n fun s =>
  ixa P 156 s m n fun t =>
  ld P 202 t n fun u =>
  cnv P 202 178 u n fun v =>
  bin P .or 178 false false p v n fun x =>
  bin P .sub 3 false true m (.int .i64 1) n fun y =>
  ∃ z, z < k ∧ i z x y n)
  (K l n)
def P_impl_integer_low : Plan := (.seq rg2 (.seq rg2 (.seq (.seq rg9 (.blk (.loop [3, 4] 134213656 (.seq (.seq rg1 (.cond .leaf .leaf)) (.seq (.blk rg11) rg0))))) (.seq rg1 .leaf))))
theorem I_impl_integer_low {a0 : Value} {w : World} {K : Value → World → Prop} (h : D_impl_integer_low a0 w K) : call P f_impl_integer_low [a0] w K :=
  call_of_vc mixed Tryz.func234 (c := codeOf Tryz.f234) (by kernel_rfl) (by kernel_rfl) (p := P_impl_integer_low) (by kernel_rfl) (by rw [Tryz.ntmps234]; simp) (by
    have e : D_impl_integer_low a0 w K = vc P P_impl_integer_low (codeOf Tryz.f234) (env0 [a0]) w (retX P Tryz.f234.results.toList K) := by kernel_rfl
    exact e ▸ h)
def D_impl_integer_SetString (a0 a1 a2 : Value) (w : World) (K : Value → World → Prop) : Prop :=
  bin P .neq 9 false true a1 (.string ⟨#[]⟩) w fun b =>
  ∃ c : Value → World → Prop, (∀ (d : Value) (_ : Env) (e : World), c d e →
  pick b d (.bool false) fun g =>
  ∃ h : Value → World → Prop, (∀ (i : Value) (_ : Env) (j : World), h i j →
  bsl P 156 0 [] j fun k l =>
  bl0 P .len #[9] 3 [i] l fun m =>
  ∃ n : Nat → Value → Value → World → Prop, (∃ o, n o k (.int .i64 0) l) ∧ ∀ (p : Nat) (q : Value) (r : Value) (_ : Env) (s : World), n p q r s →
  bin P .lss 3 false false r m s fun t =>
  cnd t
  (idx P 9 i r s fun u =>
  bin P .lss 5 false true u (.int .u8 48) s fun v =>
  ∃ x : Value → World → Prop, (∀ (y : Value) (_ : Env) (z : World), x y z →
  pick v (.bool true) y fun A =>
  cnd A
  (K (.tuple #[(.pointer none), (.bool false)]) z)
  (∃ B : Value → World → Prop, (∀ (C : Value) (_ : Env) (D : World), B C D →
  bin P .add 3 false true r (.int .i64 1) D fun E =>
  ∃ F, F < p ∧ n F C E D) ∧
  (cnv P 3 202 a2 z fun G =>
  idx P 9 i r z fun H =>
  bin P .sub 5 false true H (.int .u8 48) z fun L =>
  cnv P 5 202 L z fun M =>
  (bsl P 156 1 [(0, G)] z fun N O =>
  Ext z O ∧ (call P f_impl_magMul [q, N] O fun Q R =>
  Ext O R ∧ bsl P 156 1 [(0, M)] R fun S T =>
  Ext R T ∧ call P f_impl_magTrim [S] T fun U V =>
  call P f_impl_magAdd [Q, U] V fun W X =>
  B W X) ∧
  (bsl P 156 1 [(0, M)] O fun Y Z =>
  Ext O Z ∧ call P f_impl_magMul [q, N] Z fun b0 c0 =>
  Ext Z c0 ∧ call P f_impl_magTrim [Y] c0 fun d0 e0 =>
  call P f_impl_magAdd [b0, d0] e0 fun g0 h0 =>
  B g0 h0)) ∧
  (bsl P 156 1 [(0, M)] z fun i0 j0 =>
  Ext z j0 ∧ bsl P 156 1 [(0, G)] j0 fun k0 l0 =>
  Ext j0 l0 ∧ call P f_impl_magMul [q, k0] l0 fun m0 n0 =>
  Ext l0 n0 ∧ call P f_impl_magTrim [i0] n0 fun o0 p0 =>
  call P f_impl_magAdd [m0, o0] p0 fun q0 r0 =>
  B q0 r0)))) ∧
  grd v false
  (idx P 9 i r s fun s0 =>
  bin P .gtr 5 false true s0 (.int .u8 57) s fun t0 =>
  x t0 s)
  (x undef s))
  (bin P .eql 9 false true i (.string ⟨#[]⟩) s fun u0 =>
  cnd u0
  (K (.tuple #[(.pointer none), (.bool false)]) s)
  (call P f_impl_integer_put [a0, g, q] s fun v0 x0 =>
  K (.tuple #[v0, (.bool true)]) x0))) ∧
  (bin P .neq 9 false true a1 (.string ⟨#[]⟩) e fun y0 =>
  ∃ z0 : Value → World → Prop, (∀ (A0 : Value) (_ : Env) (B0 : World), z0 A0 B0 →
  ∃ C0 : Value → World → Prop, (∀ (D0 : Value) (_ : Env) (E0 : World), C0 D0 E0 →
  ∃ F0 : Value → World → Prop, (∀ (G0 : Value) (_ : Env) (H0 : World), F0 G0 H0 →
  pick y0 G0 (.bool false) fun L0 =>
  cnd L0
  (sli P 9 a1 (some (.int .i64 1)) none none H0 fun M0 =>
  h M0 H0)
  (h a1 H0)) ∧
  grd y0 true
  (pick A0 (.bool true) D0 fun N0 =>
  F0 N0 E0)
  (F0 undef E0)) ∧
  grd A0 false
  (idx P 9 a1 (.int .i64 0) B0 fun O0 =>
  bin P .eql 5 false true O0 (.int .u8 43) B0 fun Q0 =>
  C0 Q0 B0)
  (C0 undef B0)) ∧
  grd y0 true
  (idx P 9 a1 (.int .i64 0) e fun R0 =>
  bin P .eql 5 false true R0 (.int .u8 45) e fun S0 =>
  z0 S0 e)
  (z0 undef e))) ∧
  grd b true
  (idx P 9 a1 (.int .i64 0) w fun T0 =>
  bin P .eql 5 false true T0 (.int .u8 45) w fun U0 =>
  c U0 w)
  (c undef w)
def P_impl_integer_SetString : Plan := (.seq rg1 (.seq (.reg [.op (0, 0, false), .op (1, 0, false), .op (2, 0, false), .grp 2 true [(3, 0, false), (4, 0, false), (5, 0, false)] [16] 114688, .op (6, 0, false), .op (7, 0, false)]) (.cut [1] 4294705154 (.seq (.reg [.op (0, 0, false), .op (1, 0, false), .op (2, 0, false), .grp 2 true [(3, 0, false), (4, 0, false), (5, 0, false), (6, 0, false)] [24] 31457280, .grp 6 false [(7, 0, false), (8, 0, false), (9, 0, false)] [27] 234881024, .grp 2 true [(10, 0, false)] [28] 268435456, .op (11, 0, false)]) (.cond rg0 .leaf)) (.seq rg7 (.seq (.seq rg0 (.blk (.loop [9, 35] 4611685984067651264 (.seq rg2 (.seq (.cond .leaf .leaf) (.seq (.blk (.seq rg1 (.seq (.seq (.reg [.op (0, 0, false), .op (1, 0, false), .op (2, 0, false), .op (3, 0, false), .op (4, 0, false), .grp 4 false [(5, 0, false), (6, 0, false), (7, 0, false), (8, 0, false)] [46] 131941395333120, .op (9, 0, false)]) (.cond (.seq rg1 .leaf) .leaf)) (.tree [9] 2305561534236983808 (.op (0, 0, false) (.op (1, 0, false) (.op (2, 0, false) (.op (5, 0, false) (.op (6, 0, false) (.op (7, 0, false) (.op (8, 0, false) (.op (9, 0, false) (.fork (3, 2, true) (.fork (4, 2, true) (.fork (10, 2, true) (.fork (11, 2, false) (.fork (12, 2, false) (.op (13, 0, false) .done) .stop) .stop) .stop) (.fork (10, 2, true) (.fork (4, 2, true) (.fork (11, 2, false) (.fork (12, 2, false) (.op (13, 0, false) .done) .stop) .stop) .stop) .stop)) (.fork (10, 2, true) (.fork (3, 2, true) (.fork (4, 2, true) (.fork (11, 2, false) (.fork (12, 2, false) (.op (13, 0, false) .done) .stop) .stop) .stop) .stop) .stop)))))))))))))) rg1)))))) (.seq (.seq rg1 (.cond (.seq rg1 .leaf) .leaf)) (.seq (.reg [.op (0, 0, false), .op (1, 0, false), .op (2, 0, false), .op (3, 2, false), .op (4, 0, false), .op (5, 0, false)]) .leaf)))))))
theorem I_impl_integer_SetString {a0 a1 a2 : Value} {w : World} {K : Value → World → Prop} (h : D_impl_integer_SetString a0 a1 a2 w K) : call P f_impl_integer_SetString [a0, a1, a2] w K :=
  call_of_vc mixed Tryz.func256 (c := codeOf Tryz.f256) (by kernel_rfl) (by kernel_rfl) (p := P_impl_integer_SetString) (by kernel_rfl) (by rw [Tryz.ntmps256]; simp) (by
    have e : D_impl_integer_SetString a0 a1 a2 w K = vc P P_impl_integer_SetString (codeOf Tryz.f256) (env0 [a0, a1, a2]) w (retX P Tryz.f256.results.toList K) := by kernel_rfl
    exact e ▸ h)
def D_impl_whole (a0 : Value) (w : World) (K : Value → World → Prop) : Prop :=
  alc P 55 w fun b c =>
  call P f_impl_fromBig [a0] c fun d e =>
  xtr P d 0 e fun g =>
  xtr P d 1 e fun h =>
  alc P 55 e fun i j =>
  sto P 55 i g j fun k =>
  una P .not h k fun l =>
  cnd l
  (bld P 55 [] k fun m =>
  sto P 55 b m k fun n =>
  ldc P 55 b n fun o =>
  K (.tuple #[o, (.int .i64 3)]) n)
  (ld P 55 i k fun p =>
  sto P 55 b p k fun q =>
  ldc P 55 b q fun r =>
  K (.tuple #[r, (.int .i64 0)]) q)
def P_impl_whole : Plan := (.seq rg7 (.seq rg19 (.seq (.seq rg1 (.cond (.seq rg5 .leaf) .leaf)) (.seq rg5 .leaf))))
theorem I_impl_whole {a0 : Value} {w : World} {K : Value → World → Prop} (h : D_impl_whole a0 w K) : call P f_impl_whole [a0] w K :=
  call_of_vc mixed Tryz.func257 (c := codeOf Tryz.f257) (by kernel_rfl) (by kernel_rfl) (p := P_impl_whole) (by kernel_rfl) (by rw [Tryz.ntmps257]; simp) (by
    have e : D_impl_whole a0 w K = vc P P_impl_whole (codeOf Tryz.f257) (env0 [a0]) w (retX P Tryz.f257.results.toList K) := by kernel_rfl
    exact e ▸ h)
def D_impl_IsWhole (a0 : Value) (w : World) (K : Value → World → Prop) : Prop :=
  bx P 55 a0 w fun b c =>
  fda P 55 b 1 c fun d =>
  ld P 53 d c fun e =>
  bl0 P .len #[53] 3 [e] c fun g =>
  bin P .gtr 3 false true g (.int .i64 100) c fun h =>
  ∃ i : Value → World → Prop, (∀ (j : Value) (_ : Env) (k : World), i j k →
  pick h (.bool true) j fun l =>
  ∃ m : Value → World → Prop, (∀ (n : Value) (_ : Env) (o : World), m n o →
  pick l (.bool true) n fun p =>
  ∃ q : Value → World → Prop, (∀ (r : Value) (_ : Env) (s : World), q r s →
  pick p (.bool true) r fun t =>
  cnd t
  (K (.bool false) s)
  (fda P 55 b 1 s fun u =>
  ld P 53 u s fun v =>
  bl0 P .len #[53] 3 [v] s fun x =>
  ∃ y : Nat → Value → World → Prop, (∃ z, y z (.int .i64 0) s) ∧ ∀ (A : Nat) (B : Value) (_ : Env) (C : World), y A B C →
  bin P .lss 3 false false B x C fun D =>
  cnd D
  (ixa P 53 v B C fun E =>
  ld P 2 E C fun F =>
  bin P .lss 2 false true F (.int .i64 0) C fun G =>
  ∃ H : Value → World → Prop, (∀ (L : Value) (_ : Env) (M : World), H L M →
  pick G (.bool true) L fun N =>
  cnd N
  (K (.bool false) M)
  (bin P .add 3 false true B (.int .i64 1) M fun O =>
  ∃ Q, Q < A ∧ y Q O M)) ∧
  grd G false
  (bin P .gtr 2 false true F (.int .i64 16777215) C fun R =>
  H R C)
  (H undef C))
  (bin P .eql 3 false true g (.int .i64 0) C fun S =>
  ∃ T : Value → World → Prop, (∀ (U : Value) (_ : Env) (V : World), T U V →
  pick S (.bool true) U fun W =>
  K W V) ∧
  grd S false
  (fda P 55 b 1 C fun X =>
  ld P 53 X C fun Y =>
  bin P .sub 3 false true g (.int .i64 1) C fun Z =>
  ixa P 53 Y Z C fun b0 =>
  ld P 2 b0 C fun c0 =>
  bin P .neq 2 false true c0 (.int .i64 0) C fun d0 =>
  T d0 C)
  (T undef C)))) ∧
  grd p false
  (fda P 55 b 0 o fun e0 =>
  ld P 2 e0 o fun g0 =>
  bin P .eql 2 false true g0 (.int .i64 0) o fun h0 =>
  bin P .eql 3 false true g (.int .i64 0) o fun i0 =>
  bin P .neq 4 false false h0 i0 o fun j0 =>
  q j0 o)
  (q undef o)) ∧
  grd l false
  (fda P 55 b 0 k fun k0 =>
  ld P 2 k0 k fun l0 =>
  bin P .gtr 2 false true l0 (.int .i64 1) k fun m0 =>
  m m0 k)
  (m undef k)) ∧
  grd h false
  (fda P 55 b 0 c fun n0 =>
  ld P 2 n0 c fun o0 =>
  bin P .lss 2 false true o0 (.int .i64 (-1)) c fun p0 =>
  i p0 c)
  (i undef c)
def P_impl_IsWhole : Plan := (.seq rg7 (.seq rg4 (.seq (.seq (.reg [.op (0, 0, false), .op (1, 0, false), .op (2, 0, false), .grp 2 false [(3, 0, false), (4, 0, false), (5, 0, false)] [14] 28672, .op (6, 0, false), .op (7, 0, false), .grp 7 false [(8, 0, false), (9, 0, false), (10, 0, false)] [19] 917504, .op (11, 0, false), .op (12, 0, false), .grp 12 false [(13, 0, false), (14, 0, false), (15, 0, false), (16, 0, false), (17, 0, false), (18, 0, false)] [27] 264241152, .op (19, 0, false)]) (.cond (.seq rg2 .leaf) .leaf)) (.seq (.seq rg4 (.blk (.loop [32] 8791798054948 (.seq rg2 (.seq (.cond .leaf .leaf) (.seq (.blk (.seq rg0 (.seq (.reg [.op (0, 0, false), .op (1, 0, false), .op (2, 0, false), .grp 2 false [(3, 0, false), (4, 0, false)] [40] 1649267441664, .op (5, 0, false)]) (.cond (.seq rg2 .leaf) .leaf)))) rg1)))))) (.seq (.reg [.op (0, 0, false), .op (1, 0, false), .op (2, 0, false), .grp 2 false [(3, 0, false), (4, 0, false), (5, 0, false), (6, 0, false), (7, 0, false), (8, 0, false), (9, 0, false)] [52] 8936830510563328, .op (10, 0, false), .op (11, 0, false)]) .leaf)))))
theorem I_impl_IsWhole {a0 : Value} {w : World} {K : Value → World → Prop} (h : D_impl_IsWhole a0 w K) : call P f_impl_IsWhole [a0] w K :=
  call_of_vc mixed Tryz.func260 (c := codeOf Tryz.f260) (by kernel_rfl) (by kernel_rfl) (p := P_impl_IsWhole) (by kernel_rfl) (by rw [Tryz.ntmps260]; simp) (by
    have e : D_impl_IsWhole a0 w K = vc P P_impl_IsWhole (codeOf Tryz.f260) (env0 [a0]) w (retX P Tryz.f260.results.toList K) := by kernel_rfl
    exact e ▸ h)
def D_impl_toBig (a0 : Value) (w : World) (K : Value → World → Prop) : Prop :=
  bx P 55 a0 w fun b c =>
  alc P 158 c fun d e =>
  fda P 55 b 1 e fun g =>
  ld P 53 g e fun h =>
  bl0 P .len #[53] 3 [h] e fun i =>
  bin P .sub 3 false true i (.int .i64 1) e fun j =>
  ∃ k : Nat → Value → World → Prop, (∃ l, k l j e) ∧ ∀ (m : Nat) (n : Value) (_ : Env) (o : World), k m n o →
  bin P .geq 3 false true n (.int .i64 0) o fun p =>
  cnd p
  (call P f_impl_integer_Lsh [d, d, (.int .u64 24)] o fun q r =>
  fda P 55 b 1 r fun s =>
  ld P 53 s r fun t =>
  ixa P 53 t n r fun u =>
  ld P 2 u r fun v =>
  call P f_impl_newInt [v] r fun x y =>
  call P f_impl_integer_Or [d, d, x] y fun z A =>
  bin P .sub 3 false true n (.int .i64 1) A fun B =>
  ∃ C, C < m ∧ k C B A)
  (fda P 55 b 0 o fun D =>
  ld P 2 D o fun E =>
  bin P .lss 2 false true E (.int .i64 0) o fun F =>
  cnd F
  (call P f_impl_integer_Neg [d, d] o fun G H =>
  K d H)
  (K d o))
def P_impl_toBig : Plan := (.seq rg7 (.seq rg7 (.seq (.seq rg3 (.blk (.loop [4] 67107856 (.seq (.seq rg1 (.cond .leaf .leaf)) (.seq (.blk (.seq rg36 (.reg [.op (0, 0, false), .op (1, 0, false), .op (2, 0, false), .op (3, 0, false), .op (4, 0, false), .op (5, 0, false), .op (6, 0, false), .op (7, 2, false), .op (8, 2, false)]))) rg0))))) (.seq (.seq rg0 (.cond rg36 .leaf)) (.seq rg1 .leaf)))))
theorem I_impl_toBig {a0 : Value} {w : World} {K : Value → World → Prop} (h : D_impl_toBig a0 w K) : call P f_impl_toBig [a0] w K :=
  call_of_vc mixed Tryz.func261 (c := codeOf Tryz.f261) (by kernel_rfl) (by kernel_rfl) (p := P_impl_toBig) (by kernel_rfl) (by rw [Tryz.ntmps261]; simp) (by
    have e : D_impl_toBig a0 w K = vc P P_impl_toBig (codeOf Tryz.f261) (env0 [a0]) w (retX P Tryz.f261.results.toList K) := by kernel_rfl
    exact e ▸ h)
def D_impl_integer_Sub (a0 a1 a2 : Value) (w : World) (K : Value → World → Prop) : Prop :=
  nch a2 fun b =>
  fda P 158 b 0 w fun c =>
  ld P 4 c w fun d =>
  una P .not d w fun e =>
  nch a2 fun g =>
  fda P 158 g 1 w fun h =>
  ld P 156 h w fun i =>
  call P f_impl_integer_plus [a0, a1, e, i] w fun j k =>
  K j k
def P_impl_integer_Sub : Plan := (.seq rg2 (.seq (.reg [.op (0, 0, false), .op (1, 0, false), .op (2, 0, false), .op (3, 0, false), .op (4, 0, false), .op (5, 0, false), .op (6, 0, false), .op (7, 0, false), .op (8, 0, false), .op (9, 0, false), .op (10, 0, false), .op (11, 2, false), .op (12, 0, false)]) .leaf))
theorem I_impl_integer_Sub {a0 a1 a2 : Value} {w : World} {K : Value → World → Prop} (h : D_impl_integer_Sub a0 a1 a2 w K) : call P f_impl_integer_Sub [a0, a1, a2] w K :=
  call_of_vc mixed Tryz.func265 (c := codeOf Tryz.f265) (by kernel_rfl) (by kernel_rfl) (p := P_impl_integer_Sub) (by kernel_rfl) (by rw [Tryz.ntmps265]; simp) (by
    have e : D_impl_integer_Sub a0 a1 a2 w K = vc P P_impl_integer_Sub (codeOf Tryz.f265) (env0 [a0, a1, a2]) w (retX P Tryz.f265.results.toList K) := by kernel_rfl
    exact e ▸ h)
def D_impl_integer_Cmp (a0 a1 : Value) (w : World) (K : Value → World → Prop) : Prop :=
  nch a0 fun b =>
  fda P 158 b 0 w fun c =>
  ld P 4 c w fun d =>
  ∃ e : Value → World → Prop, (∀ (g : Value) (_ : Env) (h : World), e g h →
  pick d g (.bool false) fun i =>
  cnd i
  (nch a1 fun j =>
  fda P 158 j 1 h fun k =>
  ld P 156 k h fun l =>
  nch a0 fun m =>
  fda P 158 m 1 h fun n =>
  ld P 156 n h fun o =>
  call P f_impl_magCmp [l, o] h fun p q =>
  K p q)
  (nch a0 fun r =>
  fda P 158 r 0 h fun s =>
  ld P 4 s h fun t =>
  cnd t
  (K (.int .i64 (-1)) h)
  (nch a1 fun u =>
  fda P 158 u 0 h fun v =>
  ld P 4 v h fun x =>
  cnd x
  (K (.int .i64 1) h)
  (nch a0 fun y =>
  fda P 158 y 1 h fun z =>
  ld P 156 z h fun A =>
  nch a1 fun B =>
  fda P 158 B 1 h fun C =>
  ld P 156 C h fun D =>
  call P f_impl_magCmp [A, D] h fun E F =>
  K E F)))) ∧
  grd d true
  (nch a1 fun G =>
  fda P 158 G 0 w fun H =>
  ld P 4 H w fun L =>
  e L w)
  (e undef w)
def P_impl_integer_Cmp : Plan := (.seq rg2 (.seq (.blk (.seq (.reg [.op (0, 0, false), .op (1, 0, false), .op (2, 0, false), .op (3, 0, false), .op (4, 0, false), .grp 4 true [(5, 0, false), (6, 0, false), (7, 0, false), (8, 0, false)] [14] 30720, .op (9, 0, false), .op (10, 0, false)]) (.cond (.seq rg13 .leaf) (.seq rg3 (.cond (.seq rg2 .leaf) (.seq rg3 (.cond (.seq rg2 .leaf) .leaf))))))) (.seq rg13 .leaf)))
theorem I_impl_integer_Cmp {a0 a1 : Value} {w : World} {K : Value → World → Prop} (h : D_impl_integer_Cmp a0 a1 w K) : call P f_impl_integer_Cmp [a0, a1] w K :=
  call_of_vc mixed Tryz.func266 (c := codeOf Tryz.f266) (by kernel_rfl) (by kernel_rfl) (p := P_impl_integer_Cmp) (by kernel_rfl) (by rw [Tryz.ntmps266]; simp) (by
    have e : D_impl_integer_Cmp a0 a1 w K = vc P P_impl_integer_Cmp (codeOf Tryz.f266) (env0 [a0, a1]) w (retX P Tryz.f266.results.toList K) := by kernel_rfl
    exact e ▸ h)
def D_impl_magCmp (a0 a1 : Value) (w : World) (K : Value → World → Prop) : Prop :=
  bl0 P .len #[156] 3 [a0] w fun b =>
  bl0 P .len #[156] 3 [a1] w fun c =>
  bin P .neq 3 false false b c w fun d =>
  cnd d
  (bl0 P .len #[156] 3 [a0] w fun e =>
  bl0 P .len #[156] 3 [a1] w fun g =>
  call P f_cmp_Compare_int [e, g] w fun h i =>
  K h i)
  (bl0 P .len #[156] 3 [a0] w fun j =>
  bin P .sub 3 false true j (.int .i64 1) w fun k =>
  ∃ l : Nat → Value → World → Prop, (∃ m, l m k w) ∧ ∀ (n : Nat) (o : Value) (_ : Env) (p : World), l n o p →
  bin P .geq 3 false true o (.int .i64 0) p fun q =>
  cnd q
  (ixa P 156 a0 o p fun r =>
  ld P 202 r p fun s =>
  ixa P 156 a1 o p fun t =>
  ld P 202 t p fun u =>
  bin P .neq 202 false false s u p fun v =>
  cnd v
  (ixa P 156 a0 o p fun x =>
  ld P 202 x p fun y =>
  ixa P 156 a1 o p fun z =>
  ld P 202 z p fun A =>
  call P f_cmp_Compare_uint32 [y, A] p fun B C =>
  K B C)
  (bin P .sub 3 false true o (.int .i64 1) p fun D =>
  ∃ E, E < n ∧ l E D p))
  (K (.int .i64 0) p))
def P_impl_magCmp : Plan := (.seq rg2 (.seq (.seq rg3 (.cond (.seq rg12 .leaf) .leaf)) (.seq (.seq rg4 (.blk (.loop [5] 2199022731312 (.seq (.seq rg1 (.cond .leaf .leaf)) (.seq (.blk (.seq rg15 (.cond (.seq rg13 .leaf) .leaf))) rg0))))) (.seq rg2 .leaf))))
theorem I_impl_magCmp {a0 a1 : Value} {w : World} {K : Value → World → Prop} (h : D_impl_magCmp a0 a1 w K) : call P f_impl_magCmp [a0, a1] w K :=
  call_of_vc mixed Tryz.func268 (c := codeOf Tryz.f268) (by kernel_rfl) (by kernel_rfl) (p := P_impl_magCmp) (by kernel_rfl) (by rw [Tryz.ntmps268]; simp) (by
    have e : D_impl_magCmp a0 a1 w K = vc P P_impl_magCmp (codeOf Tryz.f268) (env0 [a0, a1]) w (retX P Tryz.f268.results.toList K) := by kernel_rfl
    exact e ▸ h)
def D_impl_magLeft (a0 a1 : Value) (w : World) (K : Value → World → Prop) : Prop :=
  bl0 P .len #[156] 3 [a0] w fun b =>
  bin P .eql 3 false true b (.int .i64 0) w fun c =>
  cnd c
  (K (.slice none 0 0) w)
  (bin P .quo 154 false true a1 (.int .u64 32) w fun d =>
  cnv P 154 3 d w fun e =>
  bl0 P .len #[156] 3 [a0] w fun g =>
  bin P .add 3 false false e g w fun h =>
  bin P .add 3 false true h (.int .i64 1) w fun i =>
  mks P 156 i i w fun j k =>
  bl0 P .len #[156] 3 [a0] k fun l =>
  ∃ m : Nat → Value → World → Prop, (∃ n, m n (.int .i64 0) k) ∧ ∀ (o : Nat) (p : Value) (_ : Env) (q : World), m o p q →
  bin P .lss 3 false false p l q fun r =>
  cnd r
  (ixa P 156 a0 p q fun s =>
  ld P 202 s q fun t =>
  cnv P 202 178 t q fun u =>
  bin P .rem 154 false true a1 (.int .u64 32) q fun v =>
  bin P .shl 178 false false u v q fun x =>
  bin P .quo 154 false true a1 (.int .u64 32) q fun y =>
  cnv P 154 3 y q fun z =>
  bin P .add 3 false false z p q fun A =>
  ixa P 156 j A q fun B =>
  ld P 202 B q fun C =>
  cnv P 178 202 x q fun D =>
  bin P .or 202 false false C D q fun E =>
  ixa P 156 j A q fun F =>
  sto P 202 F E q fun G =>
  bin P .quo 154 false true a1 (.int .u64 32) G fun H =>
  cnv P 154 3 H G fun L =>
  bin P .add 3 false false L p G fun M =>
  bin P .add 3 false true M (.int .i64 1) G fun N =>
  bin P .shr 178 false true x (.int .u64 32) G fun O =>
  cnv P 178 202 O G fun Q =>
  ixa P 156 j N G fun R =>
  sto P 202 R Q G fun S =>
  bin P .add 3 false true p (.int .i64 1) S fun T =>
  ∃ U, U < o ∧ m U T S)
  (call P f_impl_magTrim [j] q fun V W =>
  K V W))
def P_impl_magLeft : Plan := (.seq rg2 (.seq (.seq rg0 (.cond (.seq rg2 .leaf) .leaf)) (.seq (.reg [.op (0, 0, false), .op (1, 0, false), .op (2, 0, false), .op (3, 0, false), .op (4, 0, false), .op (5, 0, false), .op (6, 0, false), .op (7, 2, false), .op (8, 0, false)]) (.seq (.seq rg0 (.blk (.loop [22] 72057594033734080 (.seq rg2 (.seq (.cond .leaf .leaf) (.seq (.blk (.seq rg3 (.seq rg6 (.seq (.reg [.op (0, 0, false), .op (1, 0, false), .op (2, 0, false), .op (3, 0, false), .op (4, 0, false), .op (5, 0, false), .op (6, 0, false), .op (7, 0, false), .op (8, 0, false), .op (9, 0, false), .op (10, 0, false), .op (11, 0, false), .op (12, 2, false)]) (.reg [.op (0, 0, false), .op (1, 0, false), .op (2, 0, false), .op (3, 0, false), .op (4, 0, false), .op (5, 0, false), .op (6, 0, false), .op (7, 0, false), .op (8, 0, false), .op (9, 0, false), .op (10, 0, false), .op (11, 2, false)]))))) rg1)))))) (.seq rg5 .leaf)))))
theorem I_impl_magLeft {a0 a1 : Value} {w : World} {K : Value → World → Prop} (h : D_impl_magLeft a0 a1 w K) : call P f_impl_magLeft [a0, a1] w K :=
  call_of_vc mixed Tryz.func269 (c := codeOf Tryz.f269) (by kernel_rfl) (by kernel_rfl) (p := P_impl_magLeft) (by kernel_rfl) (by rw [Tryz.ntmps269]; simp) (by
    have e : D_impl_magLeft a0 a1 w K = vc P P_impl_magLeft (codeOf Tryz.f269) (env0 [a0, a1]) w (retX P Tryz.f269.results.toList K) := by kernel_rfl
    exact e ▸ h)
def D_impl_integer_Or (a0 a1 a2 : Value) (w : World) (K : Value → World → Prop) : Prop :=
  nch a1 fun b =>
  fda P 158 b 1 w fun c =>
  ld P 156 c w fun d =>
  bl0 P .len #[156] 3 [d] w fun e =>
  nch a2 fun g =>
  fda P 158 g 1 w fun h =>
  ld P 156 h w fun i =>
  bl0 P .len #[156] 3 [i] w fun j =>
  bl0 P .max #[3, 3] 3 [e, j] w fun k =>
  mks P 156 k k w fun l m =>
  nch a1 fun n =>
  fda P 158 n 1 m fun o =>
  ld P 156 o m fun p =>
  bl2 P .copy #[156, 156] 3 [l, p] m fun q r =>
  nch a2 fun s =>
  fda P 158 s 1 r fun t =>
  ld P 156 t r fun u =>
  bl0 P .len #[156] 3 [u] r fun v =>
  ∃ x : Nat → Value → World → Prop, (∃ y, x y (.int .i64 0) r) ∧ ∀ (z : Nat) (A : Value) (_ : Env) (B : World), x z A B →
  bin P .lss 3 false false A v B fun C =>
  cnd C
  (ixa P 156 u A B fun D =>
  ld P 202 D B fun E =>
  ixa P 156 l A B fun F =>
  ld P 202 F B fun G =>
  bin P .or 202 false false G E B fun H =>
  ixa P 156 l A B fun L =>
  sto P 202 L H B fun M =>
  bin P .add 3 false true A (.int .i64 1) M fun N =>
  ∃ O, O < z ∧ x O N M)
  (call P f_impl_integer_put [a0, (.bool false), l] B fun Q R =>
  K Q R)
def P_impl_integer_Or : Plan := (.seq rg2 (.seq (.reg [.op (0, 0, false), .op (1, 0, false), .op (2, 0, false), .op (3, 0, false), .op (4, 0, false), .op (5, 0, false), .op (6, 0, false), .op (7, 0, false), .op (8, 0, false), .op (9, 0, false), .op (10, 0, false), .op (11, 2, false), .op (12, 0, false)]) (.seq rg24 (.seq (.seq rg6 (.blk (.loop [33] 70360154243840 (.seq rg2 (.seq (.cond .leaf .leaf) (.seq (.blk (.seq rg3 rg18)) rg1)))))) (.seq rg10 .leaf)))))
theorem I_impl_integer_Or {a0 a1 a2 : Value} {w : World} {K : Value → World → Prop} (h : D_impl_integer_Or a0 a1 a2 w K) : call P f_impl_integer_Or [a0, a1, a2] w K :=
  call_of_vc mixed Tryz.func280 (c := codeOf Tryz.f280) (by kernel_rfl) (by kernel_rfl) (p := P_impl_integer_Or) (by kernel_rfl) (by rw [Tryz.ntmps280]; simp) (by
    have e : D_impl_integer_Or a0 a1 a2 w K = vc P P_impl_integer_Or (codeOf Tryz.f280) (env0 [a0, a1, a2]) w (retX P Tryz.f280.results.toList K) := by kernel_rfl
    exact e ▸ h)
end Go.Proofs.YtjompmflommadaaGreatDoor


set_option linter.unusedVariables false
set_option maxRecDepth 20000
namespace Go.Proofs.YtjompmflommadaaGreatDoor
open Go Go.Vc
def D_impl_num_sign (a0 : Value) (w : World) (K : Value → World → Prop) : Prop :=
  bx P 105 a0 w fun b c =>
  fda P 105 b 0 c fun d =>
  ld P 103 d c fun e =>
  call P f_impl_integer_Sign [e] c fun g h =>
  K g h
def P_impl_num_sign : Plan := (.seq rg7 (.seq rg10 .leaf))
theorem I_impl_num_sign {a0 : Value} {w : World} {K : Value → World → Prop} (h : D_impl_num_sign a0 w K) : call P f_impl_num_sign [a0] w K :=
  call_of_vc mixed Tryz.func125 (c := codeOf Tryz.f125) (by kernel_rfl) (by kernel_rfl) (p := P_impl_num_sign) (by kernel_rfl) (by rw [Tryz.ntmps125]; simp) (by
    have e : D_impl_num_sign a0 w K = vc P P_impl_num_sign (codeOf Tryz.f125) (env0 [a0]) w (retX P Tryz.f125.results.toList K) := by kernel_rfl
    exact e ▸ h)
def D_impl_ParseDyadic (a0 : Value) (w : World) (K : Value → World → Prop) : Prop :=
  alc P 57 w fun b c =>
  call P f_strings_Cut [a0, (.string ⟨#[112]⟩)] c fun d e =>
  xtr P d 0 e fun g =>
  xtr P d 1 e fun h =>
  xtr P d 2 e fun i =>
  una P .not i e fun j =>
  ∃ k : Value → World → Prop, (∀ (l : Value) (_ : Env) (m : World), k l m →
  pick j (.bool true) l fun n =>
  ∃ o : Value → World → Prop, (∀ (p : Value) (_ : Env) (q : World), o p q →
  pick n (.bool true) p fun r =>
  cnd r
  (bld P 57 [] q fun s =>
  sto P 57 b s q fun t =>
  ldc P 57 b t fun u =>
  K (.tuple #[u, (.int .i64 6)]) t)
  (call P f_impl_ParseWhole [g] q fun v x =>
  xtr P v 0 x fun y =>
  xtr P v 1 x fun z =>
  alc P 55 x fun A B =>
  sto P 55 A y B fun C =>
  call P f_strconv_ParseInt [h, (.int .i64 10), (.int .i64 64)] C fun D E =>
  xtr P D 0 E fun F =>
  xtr P D 1 E fun G =>
  ld P 55 A E fun H =>
  bld P 57 [(0, H), (1, F)] E fun L =>
  alc P 57 E fun M N =>
  sto P 57 M L N fun O =>
  bin P .neq 2 false true z (.int .i64 0) O fun Q =>
  ∃ R : Value → World → Prop, (∀ (S : Value) (_ : Env) (T : World), R S T →
  pick Q (.bool true) S fun U =>
  ∃ V : Value → World → Prop, (∀ (W : Value) (_ : Env) (X : World), V W X →
  pick U (.bool true) W fun Y =>
  cnd Y
  (bld P 57 [] X fun Z =>
  sto P 57 b Z X fun b0 =>
  ldc P 57 b b0 fun c0 =>
  K (.tuple #[c0, (.int .i64 6)]) b0)
  (ld P 57 M X fun d0 =>
  sto P 57 b d0 X fun e0 =>
  ldc P 57 b e0 fun g0 =>
  K (.tuple #[g0, (.int .i64 0)]) e0)) ∧
  grd U false
  (ld P 57 M T fun h0 =>
  call P f_impl_IsDyadic [h0] T fun i0 j0 =>
  una P .not i0 j0 fun k0 =>
  V k0 j0)
  (V undef T)) ∧
  grd Q false
  (bin P .neq 189 false true G .nilIface O fun l0 =>
  R l0 O)
  (R undef O))) ∧
  grd n false
  (bl0 P .len #[9] 3 [h] m fun m0 =>
  bin P .gtr 3 false true m0 (.int .i64 6) m fun n0 =>
  o n0 m)
  (o undef m)) ∧
  grd j false
  (call P f_impl_isNumeral [h] e fun o0 p0 =>
  una P .not o0 p0 fun q0 =>
  k q0 p0)
  (k undef e)
def P_impl_ParseDyadic : Plan := (.seq rg7 (.seq (.reg [.op (0, 0, false), .op (1, 2, false), .op (2, 0, false), .op (3, 0, false), .op (4, 0, false), .op (5, 0, false), .op (6, 0, false), .op (7, 0, false), .op (8, 0, false)]) (.seq (.seq (.reg [.op (0, 0, false), .op (1, 0, false), .op (2, 0, false), .grp 2 false [(3, 0, false), (4, 2, false), (5, 0, false)] [23] 14680064, .op (6, 0, false), .op (7, 0, false), .grp 7 false [(8, 0, false), (9, 0, false), (10, 0, false)] [28] 469762048, .op (11, 0, false)]) (.cond (.seq rg5 .leaf) .leaf)) (.seq rg19 (.seq rg17 (.seq (.reg [.op (0, 0, false), .op (1, 0, false), .op (2, 0, false), .op (3, 2, false), .op (4, 2, false)]) (.seq (.seq (.reg [.op (0, 0, false), .op (1, 0, false), .op (2, 0, false), .grp 2 false [(3, 0, false), (4, 0, false)] [48] 422212465065984, .op (5, 0, false), .op (6, 0, false), .grp 6 false [(7, 0, false), (8, 2, false), (9, 0, false)] [53] 15762598695796736, .op (10, 0, false)]) (.cond (.seq rg5 .leaf) .leaf)) (.seq rg5 .leaf))))))))
theorem I_impl_ParseDyadic {a0 : Value} {w : World} {K : Value → World → Prop} (h : D_impl_ParseDyadic a0 w K) : call P f_impl_ParseDyadic [a0] w K :=
  call_of_vc mixed Tryz.func182 (c := codeOf Tryz.f182) (by kernel_rfl) (by kernel_rfl) (p := P_impl_ParseDyadic) (by kernel_rfl) (by rw [Tryz.ntmps182]; simp) (by
    have e : D_impl_ParseDyadic a0 w K = vc P P_impl_ParseDyadic (codeOf Tryz.f182) (env0 [a0]) w (retX P Tryz.f182.results.toList K) := by kernel_rfl
    exact e ▸ h)
def D_impl_RoundDyadic (a0 a1 : Value) (w : World) (K : Value → World → Prop) : Prop :=
  bx P 57 a0 w fun b c =>
  ld P 57 b c fun d =>
  call P f_impl_IsDyadic [d] c fun e g =>
  una P .not e g fun h =>
  cnd h
  (K (.tuple #[(.float .f32 0), (.int .i64 0), (.int .i64 1)]) g)
  (call P f_impl_isMode [a1] g fun i j =>
  una P .not i j fun k =>
  cnd k
  (K (.tuple #[(.float .f32 0), (.int .i64 0), (.int .i64 2)]) j)
  (ld P 57 b j fun l =>
  call P f_impl_numberOf [l] j fun m n =>
  call P f_impl_num_round [m, a1] n fun o p =>
  xtr P o 0 p fun q =>
  xtr P o 1 p fun r =>
  K (.tuple #[q, r, (.int .i64 0)]) p))
def P_impl_RoundDyadic : Plan := (.seq (.reg [.op (0, 2, false), .op (1, 0, false), .op (2, 0, false), .op (3, 0, false)]) (.seq (.seq rg5 (.cond (.seq rg0 .leaf) .leaf)) (.seq (.seq rg5 (.cond (.seq rg0 .leaf) .leaf)) (.seq (.reg [.op (0, 0, false), .op (1, 2, false), .op (2, 0, false), .op (3, 2, false), .op (4, 0, false), .op (5, 0, false), .op (6, 0, false), .op (7, 0, false), .op (8, 0, false)]) (.seq rg3 .leaf)))))
theorem I_impl_RoundDyadic {a0 a1 : Value} {w : World} {K : Value → World → Prop} (h : D_impl_RoundDyadic a0 a1 w K) : call P f_impl_RoundDyadic [a0, a1] w K :=
  call_of_vc mixed Tryz.func183 (c := codeOf Tryz.f183) (by kernel_rfl) (by kernel_rfl) (p := P_impl_RoundDyadic) (by kernel_rfl) (by rw [Tryz.ntmps183]; simp) (by
    have e : D_impl_RoundDyadic a0 a1 w K = vc P P_impl_RoundDyadic (codeOf Tryz.f183) (env0 [a0, a1]) w (retX P Tryz.f183.results.toList K) := by kernel_rfl
    exact e ▸ h)
def D_impl_IsDyadic (a0 : Value) (w : World) (K : Value → World → Prop) : Prop :=
  bx P 57 a0 w fun b c =>
  fda P 57 b 0 c fun d =>
  ld P 55 d c fun e =>
  call P f_impl_IsWhole [e] c fun g h =>
  una P .not g h fun i =>
  cnd i
  (K (.bool false) h)
  (fda P 57 b 0 h fun j =>
  fda P 55 j 0 h fun k =>
  ld P 2 k h fun l =>
  bin P .eql 2 false true l (.int .i64 0) h fun m =>
  cnd m
  (fda P 57 b 1 h fun n =>
  ld P 2 n h fun o =>
  bin P .eql 2 false true o (.int .i64 0) h fun p =>
  K p h)
  (fda P 57 b 0 h fun q =>
  fda P 55 q 1 h fun r =>
  ld P 53 r h fun s =>
  ixa P 53 s (.int .i64 0) h fun t =>
  ld P 2 t h fun u =>
  bin P .rem 2 false true u (.int .i64 2) h fun v =>
  bin P .eql 2 false true v (.int .i64 1) h fun x =>
  ∃ y : Value → World → Prop, (∀ (z : Value) (_ : Env) (A : World), y z A →
  pick x z (.bool false) fun B =>
  ∃ C : Value → World → Prop, (∀ (D : Value) (_ : Env) (E : World), C D E →
  pick B D (.bool false) fun F =>
  K F E) ∧
  grd B true
  (fda P 57 b 1 A fun G =>
  ld P 2 G A fun H =>
  bin P .leq 2 false true H (.int .i64 3000) A fun L =>
  C L A)
  (C undef A)) ∧
  grd x true
  (fda P 57 b 1 h fun M =>
  ld P 2 M h fun N =>
  bin P .geq 2 false true N (.int .i64 (-3000)) h fun O =>
  y O h)
  (y undef h)))
def P_impl_IsDyadic : Plan := (.seq rg7 (.seq (.seq rg10 (.cond (.seq rg2 .leaf) .leaf)) (.seq (.seq rg4 (.cond (.seq rg4 .leaf) .leaf)) (.seq (.reg [.op (0, 0, false), .op (1, 0, false), .op (2, 0, false), .op (3, 0, false), .op (4, 0, false), .op (5, 0, false), .op (6, 0, false), .op (7, 0, false), .grp 7 true [(8, 0, false), (9, 0, false), (10, 0, false)] [24] 29360128, .op (11, 0, false), .op (12, 0, false), .grp 12 true [(13, 0, false), (14, 0, false), (15, 0, false)] [29] 939524096, .op (16, 0, false), .op (17, 0, false)]) .leaf))))
theorem I_impl_IsDyadic {a0 : Value} {w : World} {K : Value → World → Prop} (h : D_impl_IsDyadic a0 w K) : call P f_impl_IsDyadic [a0] w K :=
  call_of_vc mixed Tryz.func226 (c := codeOf Tryz.f226) (by kernel_rfl) (by kernel_rfl) (p := P_impl_IsDyadic) (by kernel_rfl) (by rw [Tryz.ntmps226]; simp) (by
    have e : D_impl_IsDyadic a0 w K = vc P P_impl_IsDyadic (codeOf Tryz.f226) (env0 [a0]) w (retX P Tryz.f226.results.toList K) := by kernel_rfl
    exact e ▸ h)
def D_impl_isMode (a0 : Value) (w : World) (K : Value → World → Prop) : Prop :=
  bin P .geq 2 false true a0 (.int .i64 0) w fun b =>
  ∃ c : Value → World → Prop, (∀ (d : Value) (_ : Env) (e : World), c d e →
  pick b d (.bool false) fun g =>
  K g e) ∧
  grd b true
  (bin P .leq 2 false true a0 (.int .i64 4) w fun h =>
  c h w)
  (c undef w)
def P_impl_isMode : Plan := (.seq rg2 (.seq (.reg [.op (0, 0, false), .op (1, 0, false), .op (2, 0, false), .grp 2 true [(3, 0, false), (4, 0, false)] [7] 192, .op (5, 0, false), .op (6, 0, false)]) .leaf))
theorem I_impl_isMode {a0 : Value} {w : World} {K : Value → World → Prop} (h : D_impl_isMode a0 w K) : call P f_impl_isMode [a0] w K :=
  call_of_vc mixed Tryz.func227 (c := codeOf Tryz.f227) (by kernel_rfl) (by kernel_rfl) (p := P_impl_isMode) (by kernel_rfl) (by rw [Tryz.ntmps227]; simp) (by
    have e : D_impl_isMode a0 w K = vc P P_impl_isMode (codeOf Tryz.f227) (env0 [a0]) w (retX P Tryz.f227.results.toList K) := by kernel_rfl
    exact e ▸ h)
def D_impl_numberOf (a0 : Value) (w : World) (K : Value → World → Prop) : Prop :=
  bx P 57 a0 w fun b c =>
  alc P 105 c fun d e =>
  fda P 57 b 0 e fun g =>
  ld P 55 g e fun h =>
  fda P 57 b 1 e fun i =>
  ld P 2 i e fun j =>
  call P f_impl_toBig [h] e fun k l =>
  Ext e l ∧ bld P 105 [(0, k), (1, j)] l fun m =>
  sto P 105 d m l fun n =>
  ldc P 105 d n fun o =>
  K o n
def P_impl_numberOf : Plan := (.seq rg31 (.seq (.reg [.op (0, 0, false), .op (1, 0, false), .op (3, 0, false), .op (4, 0, false), .op (2, 2, true), .op (5, 0, false), .op (6, 2, false)]) .leaf))
theorem I_impl_numberOf {a0 : Value} {w : World} {K : Value → World → Prop} (h : D_impl_numberOf a0 w K) : call P f_impl_numberOf [a0] w K :=
  call_of_vc mixed Tryz.func228 (c := codeOf Tryz.f228) (by kernel_rfl) (by kernel_rfl) (p := P_impl_numberOf) (by kernel_rfl) (by rw [Tryz.ntmps228]; simp) (by
    have e : D_impl_numberOf a0 w K = vc P P_impl_numberOf (codeOf Tryz.f228) (env0 [a0]) w (retX P Tryz.f228.results.toList K) := by kernel_rfl
    exact e ▸ h)
def D_impl_num_round (a0 a1 : Value) (w : World) (K : Value → World → Prop) : Prop :=
  bx P 105 a0 w fun b c =>
  bx P 2 a1 c fun d e =>
  ld P 105 b e fun g =>
  call P f_impl_num_sign [g] e fun h i =>
  bin P .eql 3 false true h (.int .i64 0) i fun j =>
  cnd j
  (K (.tuple #[(.float .f32 0), (.int .i64 0)]) i)
  (∃ k : Value → Value → World → Prop, (∀ (l : Value) (m : Value) (_ : Env) (n : World), k l m n →
  fda P 105 b 1 n fun o =>
  ld P 3 o n fun p =>
  bin P .add 3 false false m p n fun q =>
  bin P .gtr 3 false true q (.int .i64 128) n fun r =>
  cnd r
  (callv P (.func (.func 262) #[] #[d, l]) [] n fun s t =>
  xtr P s 0 t fun u =>
  xtr P s 1 t fun v =>
  K (.tuple #[u, v]) t)
  (fda P 105 b 1 n fun x =>
  ld P 3 x n fun y =>
  bin P .add 3 false false m y n fun z =>
  bin P .sub 3 false true z (.int .i64 24) n fun A =>
  bl0 P .max #[3, 3] 3 [A, (.int .i64 (-149))] n fun B =>
  alc P 158 n fun C D =>
  fda P 105 b 0 D fun E =>
  ld P 103 E D fun F =>
  call P f_impl_integer_Abs [C, F] D fun G H =>
  alc P 158 H fun L M =>
  ∃ N : Value → World → Prop, (∀ (O : Value) (_ : Env) (Q : World), N O Q →
  call P f_impl_integer_BitLen [L] Q fun R S =>
  bin P .add 3 false false R B S fun T =>
  bin P .gtr 3 false true T (.int .i64 128) S fun U =>
  cnd U
  (callv P (.func (.func 262) #[] #[d, l]) [] S fun V W =>
  xtr P V 0 W fun X =>
  xtr P V 1 W fun Y =>
  K (.tuple #[X, Y]) W)
  (call P f_impl_integer_Int64 [L] S fun Z b0 =>
  cnv P 2 117 Z b0 fun c0 =>
  call P f_math_Ldexp [c0, B] b0 fun d0 e0 =>
  rcnv P 117 66 d0 e0 fun g0 =>
  ld P 3 l e0 fun h0 =>
  bin P .lss 3 false true h0 (.int .i64 0) e0 fun i0 =>
  cnd i0
  (una P .neg g0 e0 fun j0 =>
  K (.tuple #[j0, O]) e0)
  (K (.tuple #[g0, O]) e0))) ∧
  (fda P 105 b 1 M fun k0 =>
  ld P 3 k0 M fun l0 =>
  bin P .geq 3 false false l0 B M fun m0 =>
  cnd m0
  (fda P 105 b 1 M fun n0 =>
  ld P 3 n0 M fun o0 =>
  bin P .sub 3 false false o0 B M fun p0 =>
  cnv P 3 154 p0 M fun q0 =>
  call P f_impl_integer_Lsh [L, G, q0] M fun r0 s0 =>
  N (.int .i64 0) s0)
  (fda P 105 b 1 M fun t0 =>
  ld P 3 t0 M fun u0 =>
  bin P .sub 3 false false B u0 M fun v0 =>
  cnv P 3 154 v0 M fun x0 =>
  call P f_impl_integer_Rsh [L, G, x0] M fun y0 z0 =>
  alc P 158 z0 fun A0 B0 =>
  alc P 158 B0 fun C0 D0 =>
  call P f_impl_integer_Lsh [C0, L, x0] D0 fun E0 F0 =>
  call P f_impl_integer_Sub [A0, G, E0] F0 fun G0 H0 =>
  call P f_impl_integer_Sign [G0] H0 fun L0 M0 =>
  bin P .neq 3 false true L0 (.int .i64 0) M0 fun N0 =>
  cnd N0
  (∃ O0 : Value → World → Prop, (∀ (Q0 : Value) (_ : Env) (R0 : World), O0 Q0 R0 →
  alc P 158 R0 fun S0 T0 =>
  call P f_impl_newInt [(.int .i64 1)] T0 fun U0 V0 =>
  bin P .sub 154 false true x0 (.int .u64 1) V0 fun W0 =>
  call P f_impl_integer_Lsh [S0, U0, W0] V0 fun X0 Y0 =>
  call P f_impl_integer_Cmp [G0, X0] Y0 fun Z0 b1 =>
  ∃ c1 : Value → World → Prop, (∀ (d1 : Value) (_ : Env) (e1 : World), c1 d1 e1 →
  cnd d1
  (call P f_impl_newInt [(.int .i64 1)] e1 fun g1 h1 =>
  call P f_impl_integer_Add [L, L, g1] h1 fun i1 j1 =>
  N Q0 j1)
  (N Q0 e1)) ∧
  (ld P 2 d b1 fun k1 =>
  bin P .eql 2 false true k1 (.int .i64 0) b1 fun l1 =>
  cnd l1
  (bin P .gtr 3 false true Z0 (.int .i64 0) b1 fun m1 =>
  ∃ n1 : Value → World → Prop, (∀ (o1 : Value) (_ : Env) (p1 : World), n1 o1 p1 →
  ∃ q1 : Value → World → Prop, (∀ (r1 : Value) (_ : Env) (s1 : World), q1 r1 s1 →
  ∃ t1 : Value → World → Prop, (∀ (u1 : Value) (_ : Env) (v1 : World), t1 u1 v1 →
  pick m1 (.bool true) u1 fun x1 =>
  c1 x1 v1) ∧
  grd m1 false
  (pick o1 r1 (.bool false) fun y1 =>
  t1 y1 s1)
  (t1 undef s1)) ∧
  grd o1 true
  (call P f_impl_integer_Bit [L, (.int .i64 0)] p1 fun z1 A1 =>
  bin P .eql 154 false true z1 (.int .u64 1) A1 fun B1 =>
  q1 B1 A1)
  (q1 undef p1)) ∧
  grd m1 false
  (bin P .eql 3 false true Z0 (.int .i64 0) b1 fun C1 =>
  n1 C1 b1)
  (n1 undef b1))
  (bin P .eql 2 false true k1 (.int .i64 1) b1 fun D1 =>
  cnd D1
  (ld P 3 l b1 fun E1 =>
  bin P .lss 3 false true E1 (.int .i64 0) b1 fun F1 =>
  c1 F1 b1)
  (bin P .eql 2 false true k1 (.int .i64 2) b1 fun G1 =>
  cnd G1
  (ld P 3 l b1 fun H1 =>
  bin P .gtr 3 false true H1 (.int .i64 0) b1 fun L1 =>
  c1 L1 b1)
  (bin P .eql 2 false true k1 (.int .i64 4) b1 fun M1 =>
  cnd M1
  (c1 (.bool true) b1)
  (c1 (.bool false) b1)))))) ∧
  (fda P 105 b 1 M0 fun N1 =>
  ld P 3 N1 M0 fun O1 =>
  bin P .add 3 false false m O1 M0 fun Q1 =>
  bin P .leq 3 false true Q1 (.int .i64 (-126)) M0 fun R1 =>
  cnd R1
  (bin P .or 2 false true (.int .i64 1) (.int .i64 2) M0 fun S1 =>
  O0 S1 M0)
  (O0 (.int .i64 1) M0)))
  (N (.int .i64 0) M0))))) ∧
  (ld P 105 b i fun T1 =>
  fda P 105 b 0 i fun U1 =>
  ld P 103 U1 i fun V1 =>
  (call P f_impl_num_sign [T1] i fun W1 X1 =>
  Ext i X1 ∧ (call P f_impl_integer_BitLen [V1] X1 fun Y1 Z1 =>
  alc P 3 Z1 fun b2 c2 =>
  Ext Z1 c2 ∧ sto P 3 b2 W1 c2 fun d2 =>
  k b2 Y1 d2) ∧
  (alc P 3 X1 fun e2 g2 =>
  Ext X1 g2 ∧ call P f_impl_integer_BitLen [V1] g2 fun h2 i2 =>
  sto P 3 e2 W1 i2 fun j2 =>
  k e2 h2 j2)) ∧
  (alc P 3 i fun k2 l2 =>
  Ext i l2 ∧ call P f_impl_num_sign [T1] l2 fun m2 n2 =>
  Ext l2 n2 ∧ call P f_impl_integer_BitLen [V1] n2 fun o2 p2 =>
  sto P 3 k2 m2 p2 fun q2 =>
  k k2 o2 q2)))
def P_impl_num_round : Plan := (.seq (.reg [.op (0, 2, false), .op (1, 2, false), .op (2, 0, false), .op (3, 0, false)]) (.seq (.seq rg5 (.cond (.seq rg1 .leaf) .leaf)) (.seq (.tree [6, 7] 65011904 (.op (0, 0, false) (.op (2, 0, false) (.op (3, 0, false) (.fork (1, 2, true) (.fork (4, 2, false) (.fork (5, 2, true) (.fork (6, 2, false) (.op (7, 0, false) .done) .stop) .stop) (.fork (5, 2, true) (.fork (4, 2, false) (.fork (6, 2, false) (.op (7, 0, false) .done) .stop) .stop) .stop)) (.fork (5, 2, true) (.fork (1, 2, true) (.fork (4, 2, false) (.fork (6, 2, false) (.op (7, 0, false) .done) .stop) .stop) .stop) .stop)))))) (.seq rg1 (.seq (.seq rg3 (.cond (.seq (.reg [.op (0, 0, false), .op (1, 2, false), .op (2, 0, false), .op (3, 0, false), .op (4, 0, false), .op (5, 0, false)]) .leaf) .leaf)) (.seq rg8 (.seq (.reg [.op (0, 2, false), .op (1, 0, false), .op (2, 0, false), .op (3, 2, false), .op (4, 0, false)]) (.seq rg2 (.seq rg7 (.cut [11] 2658455991569831745807473383072458752 (.seq rg4 (.cond rg18 (.seq rg6 (.seq rg34 (.seq (.reg [.op (0, 2, false), .op (1, 0, false), .op (2, 2, false), .op (3, 0, false), .op (4, 0, false), .op (5, 2, false), .op (6, 2, false), .op (7, 0, false)]) (.seq rg5 (.cond (.seq rg2 (.cut [11] 38383394772764476296923136 (.seq rg3 (.cond rg0 .leaf)) (.seq (.reg [.op (0, 0, false), .op (1, 2, false), .op (2, 2, false), .op (3, 0, false), .op (4, 0, false), .op (5, 2, false), .op (6, 2, false), .op (7, 0, false)]) (.seq rg2 (.cut [16] 83076744784797084914966841671090176 (.seq rg2 (.blk (.seq rg1 (.cond (.reg [.op (0, 0, false), .op (1, 0, false), .op (2, 0, false), .grp 2 false [(3, 0, false), (4, 0, false), (5, 0, false)] [100] 2218388550399401452619230609408, .grp 5 true [(6, 0, false), (7, 2, false), (8, 0, false)] [103] 17747108403195211620953844875264, .grp 2 false [(9, 0, false)] [104] 20282409603651670423947251286016, .op (10, 0, false), .op (11, 0, false)]) (.seq rg1 (.cond rg0 (.seq rg1 (.cond rg0 (.seq rg1 (.cond rg2 .leaf)))))))))) (.seq rg2 (.cond rg30 .leaf))))))) .leaf))))))) (.seq (.seq rg27 (.cond (.seq (.reg [.op (0, 0, false), .op (1, 2, false), .op (2, 0, false), .op (3, 0, false), .op (4, 0, false), .op (5, 0, false)]) .leaf) .leaf)) (.seq (.reg [.op (0, 0, false), .op (1, 2, false), .op (2, 0, false), .op (3, 0, false), .op (4, 2, false), .op (5, 1, false), .op (6, 0, false)]) (.seq (.seq rg1 (.cond rg0 .leaf)) (.seq rg4 .leaf))))))))))))))
theorem I_impl_num_round {a0 a1 : Value} {w : World} {K : Value → World → Prop} (h : D_impl_num_round a0 a1 w K) : call P f_impl_num_round [a0, a1] w K :=
  call_of_vc mixed Tryz.func229 (c := codeOf Tryz.f229) (by kernel_rfl) (by kernel_rfl) (p := P_impl_num_round) (by kernel_rfl) (by rw [Tryz.ntmps229]; simp) (by
    have e : D_impl_num_round a0 a1 w K = vc P P_impl_num_round (codeOf Tryz.f229) (env0 [a0, a1]) w (retX P Tryz.f229.results.toList K) := by kernel_rfl
    exact e ▸ h)
def D_impl_num_round_1 (a0 a1 : Value) (w : World) (K : Value → World → Prop) : Prop :=
  ld P 2 a0 w fun b =>
  bin P .eql 2 false true b (.int .i64 3) w fun c =>
  ∃ d : Value → World → Prop, (∀ (e : Value) (_ : Env) (g : World), d e g →
  ∃ h : Value → World → Prop, (∀ (i : Value) (_ : Env) (j : World), h i j →
  ∃ k : Value → World → Prop, (∀ (l : Value) (_ : Env) (m : World), k l m →
  pick c (.bool true) l fun n =>
  ∃ o : Value → World → Prop, (∀ (p : Value) (_ : Env) (q : World), o p q →
  ∃ r : Value → World → Prop, (∀ (s : Value) (_ : Env) (t : World), r s t →
  ∃ u : Value → World → Prop, (∀ (v : Value) (_ : Env) (x : World), u v x →
  pick n (.bool true) v fun y =>
  cnd y
  (ld P 3 a1 x fun z =>
  bin P .mul 2 false true z (.int .i64 2139095039) x fun A =>
  call P f_impl_atPlace [A] x fun B C =>
  K (.tuple #[B, (.int .i64 5)]) C)
  (ld P 3 a1 x fun D =>
  call P f_impl_infinite [D] x fun E F =>
  K (.tuple #[E, (.int .i64 5)]) F)) ∧
  grd n false
  (pick p s (.bool false) fun G =>
  u G t)
  (u undef t)) ∧
  grd p true
  (ld P 3 a1 q fun H =>
  bin P .lss 3 false true H (.int .i64 0) q fun L =>
  r L q)
  (r undef q)) ∧
  grd n false
  (ld P 2 a0 m fun M =>
  bin P .eql 2 false true M (.int .i64 2) m fun N =>
  o N m)
  (o undef m)) ∧
  grd c false
  (pick e i (.bool false) fun O =>
  k O j)
  (k undef j)) ∧
  grd e true
  (ld P 3 a1 g fun Q =>
  bin P .gtr 3 false true Q (.int .i64 0) g fun R =>
  h R g)
  (h undef g)) ∧
  grd c false
  (ld P 2 a0 w fun S =>
  bin P .eql 2 false true S (.int .i64 1) w fun T =>
  d T w)
  (d undef w)
def P_impl_num_round_1 : Plan := (.seq rg1 (.seq (.seq (.reg [.op (0, 0, false), .op (1, 0, false), .op (2, 0, false), .grp 2 false [(3, 0, false), (4, 0, false), (5, 0, false)] [9] 896, .grp 5 true [(6, 0, false), (7, 0, false)] [11] 3072, .grp 2 false [(8, 0, false)] [12] 4096, .op (9, 0, false), .op (10, 0, false), .grp 10 false [(11, 0, false), (12, 0, false), (13, 0, false)] [17] 229376, .grp 13 true [(14, 0, false), (15, 0, false)] [19] 786432, .grp 10 false [(16, 0, false)] [20] 1048576, .op (17, 0, false)]) (.cond (.seq rg25 .leaf) .leaf)) (.seq rg29 .leaf)))
theorem I_impl_num_round_1 {a0 a1 : Value} {w : World} {K : Value → World → Prop} (h : D_impl_num_round_1 a0 a1 w K) : call P f_impl_num_round_1 [a0, a1] w K :=
  call_of_vc mixed Tryz.func262 (c := codeOf Tryz.f262) (by kernel_rfl) (by kernel_rfl) (p := P_impl_num_round_1) (by kernel_rfl) (by rw [Tryz.ntmps262]; simp) (by
    have e : D_impl_num_round_1 a0 a1 w K = vc P P_impl_num_round_1 (codeOf Tryz.f262) (env0 [a0, a1]) w (retX P Tryz.f262.results.toList K) := by kernel_rfl
    exact e ▸ h)
end Go.Proofs.YtjompmflommadaaGreatDoor


set_option linter.unusedVariables false
set_option maxRecDepth 20000
namespace Go.Proofs.YtjompmflommadaaGreatDoor
open Go Go.Vc
def D_spec_l02Of (a0 : Value) (w : World) (K : Value → World → Prop) : Prop :=
  alc P 55 w fun b c =>
  bsl P 53 0 [] c fun d e =>
  ∃ g : Value → World → Prop, (∀ (h : Value) (_ : Env) (i : World), g h i →
  ∃ j : Nat → Value → Value → World → Prop, (∃ k, j k a0 d i) ∧ ∀ (l : Nat) (m : Value) (n : Value) (_ : Env) (o : World), j l m n o →
  bin P .neq 2 false true m (.int .i64 0) o fun p =>
  cnd p
  (bin P .rem 2 false true m (.int .i64 16777216) o fun q =>
  ∃ r : Value → World → Prop, (∀ (s : Value) (_ : Env) (t : World), r s t →
  bsl P 53 1 [(0, s)] t fun u v =>
  bl2 P .append #[53, 53] 53 [n, u] v fun x y =>
  bin P .quo 2 false true m (.int .i64 16777216) y fun z =>
  ∃ A, A < l ∧ j A z x y) ∧
  (bin P .lss 2 false true q (.int .i64 0) o fun B =>
  cnd B
  (una P .neg q o fun C =>
  r C o)
  (r q o)))
  (call P f_spec_l02Make [h, n] o fun D E =>
  sto P 55 b D E fun F =>
  ldc P 55 b F fun G =>
  K G F)) ∧
  (bin P .lss 2 false true a0 (.int .i64 0) e fun H =>
  cnd H
  (g (.int .i64 (-1)) e)
  (g (.int .i64 1) e))
def P_spec_l02Of : Plan := (.seq rg38 (.seq rg33 (.cut [3] 392 (.seq rg1 (.cond rg2 .leaf)) (.seq (.blk (.loop [0, 4] 8388145 (.seq (.seq rg1 (.cond .leaf .leaf)) (.blk (.seq rg0 (.cut [5] 122912 (.seq rg1 (.cond rg0 .leaf)) (.seq rg23 rg0))))))) (.seq rg30 .leaf)))))
theorem I_spec_l02Of {a0 : Value} {w : World} {K : Value → World → Prop} (h : D_spec_l02Of a0 w K) : call P f_spec_l02Of [a0] w K :=
  call_of_vc mixed Tryz.func164 (c := codeOf Tryz.f164) (by kernel_rfl) (by kernel_rfl) (p := P_spec_l02Of) (by kernel_rfl) (by rw [Tryz.ntmps164]; simp) (by
    have e : D_spec_l02Of a0 w K = vc P P_spec_l02Of (codeOf Tryz.f164) (env0 [a0]) w (retX P Tryz.f164.results.toList K) := by kernel_rfl
    exact e ▸ h)
def D_spec_l02Abs (a0 : Value) (w : World) (K : Value → World → Prop) : Prop :=
  bx P 55 a0 w fun b c =>
  alc P 55 c fun d e =>
  fda P 55 b 0 e fun g =>
  ld P 2 g e fun h =>
  fda P 55 b 0 e fun i =>
  ld P 2 i e fun j =>
  bin P .mul 2 false false h j e fun k =>
  fda P 55 b 1 e fun l =>
  ld P 53 l e fun m =>
  call P f_spec_l02Make [k, m] e fun n o =>
  sto P 55 d n o fun p =>
  ldc P 55 d p fun q =>
  K q p
def P_spec_l02Abs : Plan := (.seq rg31 (.seq (.reg [.op (0, 0, false), .op (1, 0, false), .op (2, 0, false), .op (3, 0, false), .op (4, 0, false), .op (5, 0, false), .op (6, 0, false), .op (7, 2, false), .op (8, 2, false)]) .leaf))
theorem I_spec_l02Abs {a0 : Value} {w : World} {K : Value → World → Prop} (h : D_spec_l02Abs a0 w K) : call P f_spec_l02Abs [a0] w K :=
  call_of_vc mixed Tryz.func167 (c := codeOf Tryz.f167) (by kernel_rfl) (by kernel_rfl) (p := P_spec_l02Abs) (by kernel_rfl) (by rw [Tryz.ntmps167]; simp) (by
    have e : D_spec_l02Abs a0 w K = vc P P_spec_l02Abs (codeOf Tryz.f167) (env0 [a0]) w (retX P Tryz.f167.results.toList K) := by kernel_rfl
    exact e ▸ h)
def D_spec_l02Is (a0 : Value) (w : World) (K : Value → World → Prop) : Prop :=
  bx P 55 a0 w fun b c =>
  fda P 55 b 1 c fun d =>
  ld P 53 d c fun e =>
  bl0 P .len #[53] 3 [e] c fun g =>
  ∃ h : Nat → Value → World → Prop, (∃ i, h i (.int .i64 0) c) ∧ ∀ (j : Nat) (k : Value) (_ : Env) (l : World), h j k l →
  bin P .lss 3 false false k g l fun m =>
  cnd m
  (fda P 55 b 1 l fun n =>
  ld P 53 n l fun o =>
  ixa P 53 o k l fun p =>
  ld P 2 p l fun q =>
  call P f_spec_l01In [q, (.int .i64 0), (.int .i64 16777215)] l fun r s =>
  una P .not r s fun t =>
  cnd t
  (K (.bool false) s)
  (bin P .add 3 false true k (.int .i64 1) s fun u =>
  ∃ v, v < j ∧ h v u s))
  (bin P .eql 3 false true g (.int .i64 0) l fun x =>
  cnd x
  (fda P 55 b 0 l fun y =>
  ld P 2 y l fun z =>
  bin P .eql 2 false true z (.int .i64 0) l fun A =>
  K A l)
  (bin P .leq 3 false true g (.int .i64 100) l fun B =>
  ∃ C : Value → World → Prop, (∀ (D : Value) (_ : Env) (E : World), C D E →
  pick B D (.bool false) fun F =>
  ∃ G : Value → World → Prop, (∀ (H : Value) (_ : Env) (L : World), G H L →
  ∃ M : Value → World → Prop, (∀ (N : Value) (_ : Env) (O : World), M N O →
  ∃ Q : Value → World → Prop, (∀ (R : Value) (_ : Env) (S : World), Q R S →
  pick F R (.bool false) fun T =>
  K T S) ∧
  grd F true
  (pick H (.bool true) N fun U =>
  Q U O)
  (Q undef O)) ∧
  grd H false
  (fda P 55 b 0 L fun V =>
  ld P 2 V L fun W =>
  bin P .eql 2 false true W (.int .i64 (-1)) L fun X =>
  M X L)
  (M undef L)) ∧
  grd F true
  (fda P 55 b 0 E fun Y =>
  ld P 2 Y E fun Z =>
  bin P .eql 2 false true Z (.int .i64 1) E fun b0 =>
  G b0 E)
  (G undef E)) ∧
  grd B true
  (fda P 55 b 1 l fun c0 =>
  ld P 53 c0 l fun d0 =>
  bin P .sub 3 false true g (.int .i64 1) l fun e0 =>
  ixa P 53 d0 e0 l fun g0 =>
  ld P 2 g0 l fun h0 =>
  bin P .neq 2 false true h0 (.int .i64 0) l fun i0 =>
  C i0 l)
  (C undef l)))
def P_spec_l02Is : Plan := (.seq rg7 (.seq rg4 (.seq (.seq rg2 (.blk (.loop [4] 1048340 (.seq (.seq rg0 (.cond .leaf .leaf)) (.seq (.blk (.seq rg16 (.cond (.seq rg2 .leaf) .leaf))) rg0))))) (.seq (.seq rg1 (.cond (.seq rg4 .leaf) .leaf)) (.seq (.reg [.op (0, 0, false), .op (1, 0, false), .op (2, 0, false), .grp 2 true [(3, 0, false), (4, 0, false), (5, 0, false), (6, 0, false), (7, 0, false), (8, 0, false), (9, 0, false)] [34] 34091302912, .op (10, 0, false), .op (11, 0, false), .grp 11 true [(12, 0, false), (13, 0, false), (14, 0, false), (15, 0, false)] [40] 2061584302080, .grp 15 false [(16, 0, false), (17, 0, false), (18, 0, false)] [43] 15393162788864, .grp 11 true [(19, 0, false)] [44] 17592186044416, .op (20, 0, false), .op (21, 0, false)]) .leaf)))))
theorem I_spec_l02Is {a0 : Value} {w : World} {K : Value → World → Prop} (h : D_spec_l02Is a0 w K) : call P f_spec_l02Is [a0] w K :=
  call_of_vc mixed Tryz.func170 (c := codeOf Tryz.f170) (by kernel_rfl) (by kernel_rfl) (p := P_spec_l02Is) (by kernel_rfl) (by rw [Tryz.ntmps170]; simp) (by
    have e : D_spec_l02Is a0 w K = vc P P_spec_l02Is (codeOf Tryz.f170) (env0 [a0]) w (retX P Tryz.f170.results.toList K) := by kernel_rfl
    exact e ▸ h)
def D_spec_l02Cut (a0 a1 : Value) (w : World) (K : Value → World → Prop) : Prop :=
  bx P 55 a0 w fun b c =>
  alc P 55 c fun d e =>
  bsl P 53 0 [] e fun g h =>
  bin P .quo 2 false true a1 (.int .i64 24) h fun i =>
  ∃ j : Nat → Value → Value → World → Prop, (∃ k, j k g i h) ∧ ∀ (l : Nat) (m : Value) (n : Value) (_ : Env) (o : World), j l m n o →
  fda P 55 b 1 o fun p =>
  ld P 53 p o fun q =>
  bl0 P .len #[53] 3 [q] o fun r =>
  bin P .lss 2 false false n r o fun s =>
  cnd s
  (fda P 55 b 1 o fun t =>
  ld P 53 t o fun u =>
  ixa P 53 u n o fun v =>
  ld P 2 v o fun x =>
  bin P .rem 2 false true a1 (.int .i64 24) o fun y =>
  cnv P 2 178 y o fun z =>
  bin P .shr 2 false false x z o fun A =>
  bin P .add 2 false true n (.int .i64 1) o fun B =>
  fda P 55 b 1 o fun C =>
  ld P 53 C o fun D =>
  bl0 P .len #[53] 3 [D] o fun E =>
  bin P .lss 2 false false B E o fun F =>
  cnd F
  (fda P 55 b 1 o fun G =>
  ld P 53 G o fun H =>
  bin P .add 2 false true n (.int .i64 1) o fun L =>
  ixa P 53 H L o fun M =>
  ld P 2 M o fun N =>
  bin P .rem 2 false true a1 (.int .i64 24) o fun O =>
  bin P .sub 2 true false (.int .i64 24) O o fun Q =>
  cnv P 2 178 Q o fun R =>
  bin P .shl 2 false false N R o fun S =>
  bin P .add 2 false false A S o fun T =>
  bin P .rem 2 false true T (.int .i64 16777216) o fun U =>
  bsl P 53 1 [(0, U)] o fun V W =>
  bl2 P .append #[53, 53] 53 [m, V] W fun X Y =>
  bin P .add 2 false true n (.int .i64 1) Y fun Z =>
  ∃ b0, b0 < l ∧ j b0 X Z Y)
  (bsl P 53 1 [(0, A)] o fun c0 d0 =>
  bl2 P .append #[53, 53] 53 [m, c0] d0 fun e0 g0 =>
  bin P .add 2 false true n (.int .i64 1) g0 fun h0 =>
  ∃ i0, i0 < l ∧ j i0 e0 h0 g0))
  (fda P 55 b 0 o fun j0 =>
  ld P 2 j0 o fun k0 =>
  call P f_spec_l02Make [k0, m] o fun l0 m0 =>
  sto P 55 d l0 m0 fun n0 =>
  ldc P 55 d n0 fun o0 =>
  K o0 n0)
def P_spec_l02Cut : Plan := (.seq rg31 (.seq rg7 (.seq (.seq rg0 (.blk (.loop [5, 6] 2251799813683424 (.seq (.seq rg3 (.cond .leaf .leaf)) (.seq (.blk (.seq (.reg [.op (0, 0, false), .op (1, 0, false), .op (2, 0, false), .op (3, 0, false), .op (4, 0, false), .op (5, 0, false), .op (6, 0, false), .op (7, 0, false), .op (8, 0, false), .op (9, 0, false)]) (.seq (.seq rg6 (.cond (.reg [.op (0, 0, false), .op (1, 0, false), .op (2, 0, false), .op (3, 0, false), .op (4, 0, false), .op (5, 0, false), .op (6, 0, false), .op (7, 0, false), .op (8, 0, false), .op (9, 0, false), .op (10, 0, false), .op (11, 0, false), .op (12, 0, false), .op (13, 0, false), .op (14, 0, false)]) .leaf)) rg23))) rg0))))) (.seq (.reg [.op (0, 0, false), .op (1, 0, false), .op (2, 0, false), .op (3, 2, false), .op (4, 2, false)]) .leaf))))
theorem I_spec_l02Cut {a0 a1 : Value} {w : World} {K : Value → World → Prop} (h : D_spec_l02Cut a0 a1 w K) : call P f_spec_l02Cut [a0, a1] w K :=
  call_of_vc mixed Tryz.func172 (c := codeOf Tryz.f172) (by kernel_rfl) (by kernel_rfl) (p := P_spec_l02Cut) (by kernel_rfl) (by rw [Tryz.ntmps172]; simp) (by
    have e : D_spec_l02Cut a0 a1 w K = vc P P_spec_l02Cut (codeOf Tryz.f172) (env0 [a0, a1]) w (retX P Tryz.f172.results.toList K) := by kernel_rfl
    exact e ▸ h)
def D_spec_l02Make (a0 a1 : Value) (w : World) (K : Value → World → Prop) : Prop :=
  alc P 55 w fun b c =>
  bl0 P .len #[53] 3 [a1] c fun d =>
  ∃ e : Nat → Value → World → Prop, (∃ g, e g d c) ∧ ∀ (h : Nat) (i : Value) (_ : Env) (j : World), e h i j →
  bin P .gtr 3 false true i (.int .i64 0) j fun k =>
  ∃ l : Value → World → Prop, (∀ (m : Value) (_ : Env) (n : World), l m n →
  pick k m (.bool false) fun o =>
  cnd o
  (bin P .sub 3 false true i (.int .i64 1) n fun p =>
  ∃ q, q < h ∧ e q p n)
  (bin P .eql 3 false true i (.int .i64 0) n fun r =>
  cnd r
  (bld P 55 [] n fun s =>
  sto P 55 b s n fun t =>
  ldc P 55 b t fun u =>
  K u t)
  (sli P 53 a1 none (some i) none n fun v =>
  call P f_spec_l01Own [v] n fun x y =>
  bld P 55 [(0, a0), (1, x)] y fun z =>
  sto P 55 b z y fun A =>
  ldc P 55 b A fun B =>
  K B A))) ∧
  grd k true
  (bin P .sub 3 false true i (.int .i64 1) j fun C =>
  ixa P 53 a1 C j fun D =>
  ld P 2 D j fun E =>
  bin P .eql 2 false true E (.int .i64 0) j fun F =>
  l F j)
  (l undef j)
def P_spec_l02Make : Plan := (.seq rg38 (.seq rg0 (.seq (.blk (.loop [5] 1048352 (.seq (.seq (.reg [.op (0, 0, false), .op (1, 0, false), .op (2, 0, false), .grp 2 true [(3, 0, false), (4, 0, false), (5, 0, false), (6, 0, false), (7, 0, false), (8, 0, false)] [16] 129024, .op (9, 0, false)]) (.cond .leaf .leaf)) (.blk rg0)))) (.seq (.seq rg1 (.cond (.seq rg37 .leaf) .leaf)) (.seq (.reg [.op (0, 0, false), .op (1, 0, false), .op (2, 0, false), .op (3, 0, false), .op (4, 2, false), .op (5, 0, false), .op (6, 2, false)]) .leaf)))))
theorem I_spec_l02Make {a0 a1 : Value} {w : World} {K : Value → World → Prop} (h : D_spec_l02Make a0 a1 w K) : call P f_spec_l02Make [a0, a1] w K :=
  call_of_vc mixed Tryz.func214 (c := codeOf Tryz.f214) (by kernel_rfl) (by kernel_rfl) (p := P_spec_l02Make) (by kernel_rfl) (by rw [Tryz.ntmps214]; simp) (by
    have e : D_spec_l02Make a0 a1 w K = vc P P_spec_l02Make (codeOf Tryz.f214) (env0 [a0, a1]) w (retX P Tryz.f214.results.toList K) := by kernel_rfl
    exact e ▸ h)
def D_spec_l02Add (a0 a1 : Value) (w : World) (K : Value → World → Prop) : Prop :=
  bx P 55 a0 w fun b c =>
  bx P 55 a1 c fun d e =>
  alc P 55 e fun g h =>
  fda P 55 b 0 h fun i =>
  ld P 2 i h fun j =>
  bin P .eql 2 false true j (.int .i64 0) h fun k =>
  cnd k
  (fda P 55 d 0 h fun l =>
  ld P 2 l h fun m =>
  fda P 55 d 1 h fun n =>
  ld P 53 n h fun o =>
  call P f_spec_l02Make [m, o] h fun p q =>
  sto P 55 g p q fun r =>
  ldc P 55 g r fun s =>
  K s r)
  (fda P 55 d 0 h fun t =>
  ld P 2 t h fun u =>
  bin P .eql 2 false true u (.int .i64 0) h fun v =>
  cnd v
  (fda P 55 b 0 h fun x =>
  ld P 2 x h fun y =>
  fda P 55 b 1 h fun z =>
  ld P 53 z h fun A =>
  call P f_spec_l02Make [y, A] h fun B C =>
  sto P 55 g B C fun D =>
  ldc P 55 g D fun E =>
  K E D)
  (fda P 55 b 0 h fun F =>
  ld P 2 F h fun G =>
  fda P 55 d 0 h fun H =>
  ld P 2 H h fun L =>
  bin P .eql 2 false false G L h fun M =>
  cnd M
  (fda P 55 b 0 h fun N =>
  ld P 2 N h fun O =>
  fda P 55 b 1 h fun Q =>
  ld P 53 Q h fun R =>
  fda P 55 d 1 h fun S =>
  ld P 53 S h fun T =>
  call P f_spec_l02Plus [R, T] h fun U V =>
  Ext h V ∧ call P f_spec_l02Make [O, U] V fun W X =>
  sto P 55 g W X fun Y =>
  ldc P 55 g Y fun Z =>
  K Z Y)
  (fda P 55 b 1 h fun b0 =>
  ld P 53 b0 h fun c0 =>
  fda P 55 d 1 h fun d0 =>
  ld P 53 d0 h fun e0 =>
  call P f_spec_l02CompareLimbs [c0, e0] h fun g0 h0 =>
  bin P .geq 2 false true g0 (.int .i64 0) h0 fun i0 =>
  cnd i0
  (fda P 55 b 0 h0 fun j0 =>
  ld P 2 j0 h0 fun k0 =>
  fda P 55 b 1 h0 fun l0 =>
  ld P 53 l0 h0 fun m0 =>
  fda P 55 d 1 h0 fun n0 =>
  ld P 53 n0 h0 fun o0 =>
  call P f_spec_l02Minus [m0, o0] h0 fun p0 q0 =>
  Ext h0 q0 ∧ call P f_spec_l02Make [k0, p0] q0 fun r0 s0 =>
  sto P 55 g r0 s0 fun t0 =>
  ldc P 55 g t0 fun u0 =>
  K u0 t0)
  (fda P 55 d 0 h0 fun v0 =>
  ld P 2 v0 h0 fun x0 =>
  fda P 55 d 1 h0 fun y0 =>
  ld P 53 y0 h0 fun z0 =>
  fda P 55 b 1 h0 fun A0 =>
  ld P 53 A0 h0 fun B0 =>
  call P f_spec_l02Minus [z0, B0] h0 fun C0 D0 =>
  Ext h0 D0 ∧ call P f_spec_l02Make [x0, C0] D0 fun E0 F0 =>
  sto P 55 g E0 F0 fun G0 =>
  ldc P 55 g G0 fun H0 =>
  K H0 G0))))
def P_spec_l02Add : Plan := (.seq (.reg [.op (0, 2, false), .op (1, 2, false), .op (2, 2, false)]) (.seq (.blk (.seq rg4 (.cond (.seq (.reg [.op (0, 0, false), .op (1, 0, false), .op (2, 0, false), .op (3, 0, false), .op (4, 2, false), .op (5, 2, false)]) .leaf) (.seq rg4 (.cond (.seq (.reg [.op (0, 0, false), .op (1, 0, false), .op (2, 0, false), .op (3, 0, false), .op (4, 2, false), .op (5, 2, false)]) .leaf) (.seq rg6 (.cond (.seq rg22 .leaf) (.seq (.reg [.op (0, 0, false), .op (1, 0, false), .op (2, 0, false), .op (3, 0, false), .op (4, 2, false), .op (5, 0, false), .op (6, 0, false)]) (.cond (.seq rg22 .leaf) .leaf))))))))) (.seq rg22 .leaf)))
theorem I_spec_l02Add {a0 a1 : Value} {w : World} {K : Value → World → Prop} (h : D_spec_l02Add a0 a1 w K) : call P f_spec_l02Add [a0, a1] w K :=
  call_of_vc mixed Tryz.func217 (c := codeOf Tryz.f217) (by kernel_rfl) (by kernel_rfl) (p := P_spec_l02Add) (by kernel_rfl) (by rw [Tryz.ntmps217]; simp) (by
    have e : D_spec_l02Add a0 a1 w K = vc P P_spec_l02Add (codeOf Tryz.f217) (env0 [a0, a1]) w (retX P Tryz.f217.results.toList K) := by kernel_rfl
    exact e ▸ h)
def D_spec_l02Left (a0 a1 : Value) (w : World) (K : Value → World → Prop) : Prop :=
  bx P 55 a0 w fun b c =>
  alc P 55 c fun d e =>
  bin P .quo 2 false true a1 (.int .i64 24) e fun g =>
  mks P 53 g g e fun h i =>
  ∃ j : Nat → Value → Value → Value → World → Prop, (∃ k, j k h (.int .i64 0) (.int .i64 0) i) ∧ ∀ (l : Nat) (m : Value) (n : Value) (o : Value) (_ : Env) (p : World), j l m n o p →
  fda P 55 b 1 p fun q =>
  ld P 53 q p fun r =>
  bl0 P .len #[53] 3 [r] p fun s =>
  bin P .lss 3 false false o s p fun t =>
  cnd t
  (fda P 55 b 1 p fun u =>
  ld P 53 u p fun v =>
  ixa P 53 v o p fun x =>
  ld P 2 x p fun y =>
  bin P .rem 2 false true a1 (.int .i64 24) p fun z =>
  cnv P 2 178 z p fun A =>
  bin P .shl 2 false false y A p fun B =>
  bin P .add 2 false false n B p fun C =>
  bin P .rem 2 false true C (.int .i64 16777216) p fun D =>
  bsl P 53 1 [(0, D)] p fun E F =>
  bl2 P .append #[53, 53] 53 [m, E] F fun G H =>
  bin P .quo 2 false true C (.int .i64 16777216) H fun L =>
  bin P .add 3 false true o (.int .i64 1) H fun M =>
  ∃ N, N < l ∧ j N G L M H)
  (fda P 55 b 0 p fun O =>
  ld P 2 O p fun Q =>
  bsl P 53 1 [(0, n)] p fun R S =>
  Ext p S ∧ bl2 P .append #[53, 53] 53 [m, R] S fun T U =>
  (fda P 55 b 0 U fun z => z = O) ∧ (ld P 2 O U fun z => z = Q) ∧ call P f_spec_l02Make [Q, T] U fun V W =>
  sto P 55 d V W fun X =>
  ldc P 55 d X fun Y =>
  K Y X)
def P_spec_l02Left : Plan := (.seq rg31 (.seq rg10 (.seq rg2 (.seq (.seq rg2 (.blk (.loop [5, 6, 7] 68719474912 (.seq (.seq rg3 (.cond .leaf .leaf)) (.seq (.blk (.seq rg11 (.seq (.reg [.op (0, 0, false), .op (1, 0, false), .op (2, 0, false), .op (3, 2, false), .op (4, 2, false), .op (5, 0, false)]) rg0))) rg0))))) (.seq (.reg [.op (0, 0, false), .op (1, 0, false), .op (2, 0, false), .op (3, 0, false), .op (4, 2, true), .op (5, 5, false), .op (6, 2, false), .op (7, 2, false)]) .leaf)))))
theorem I_spec_l02Left {a0 a1 : Value} {w : World} {K : Value → World → Prop} (h : D_spec_l02Left a0 a1 w K) : call P f_spec_l02Left [a0, a1] w K :=
  call_of_vc mixed Tryz.func218 (c := codeOf Tryz.f218) (by kernel_rfl) (by kernel_rfl) (p := P_spec_l02Left) (by kernel_rfl) (by rw [Tryz.ntmps218]; simp) (by
    have e : D_spec_l02Left a0 a1 w K = vc P P_spec_l02Left (codeOf Tryz.f218) (env0 [a0, a1]) w (retX P Tryz.f218.results.toList K) := by kernel_rfl
    exact e ▸ h)
def D_spec_l02Bit (a0 a1 : Value) (w : World) (K : Value → World → Prop) : Prop :=
  bx P 55 a0 w fun b c =>
  bin P .quo 2 false true a1 (.int .i64 24) c fun d =>
  fda P 55 b 1 c fun e =>
  ld P 53 e c fun g =>
  bl0 P .len #[53] 3 [g] c fun h =>
  bin P .geq 2 false false d h c fun i =>
  cnd i
  (K (.int .i64 0) c)
  (fda P 55 b 1 c fun j =>
  ld P 53 j c fun k =>
  bin P .quo 2 false true a1 (.int .i64 24) c fun l =>
  ixa P 53 k l c fun m =>
  ld P 2 m c fun n =>
  bin P .rem 2 false true a1 (.int .i64 24) c fun o =>
  cnv P 2 178 o c fun p =>
  bin P .shr 2 false false n p c fun q =>
  bin P .and 2 false true q (.int .i64 1) c fun r =>
  K r c)
def P_spec_l02Bit : Plan := (.seq rg7 (.seq (.seq rg6 (.cond (.seq rg2 .leaf) .leaf)) (.seq rg11 .leaf)))
theorem I_spec_l02Bit {a0 a1 : Value} {w : World} {K : Value → World → Prop} (h : D_spec_l02Bit a0 a1 w K) : call P f_spec_l02Bit [a0, a1] w K :=
  call_of_vc mixed Tryz.func219 (c := codeOf Tryz.f219) (by kernel_rfl) (by kernel_rfl) (p := P_spec_l02Bit) (by kernel_rfl) (by rw [Tryz.ntmps219]; simp) (by
    have e : D_spec_l02Bit a0 a1 w K = vc P P_spec_l02Bit (codeOf Tryz.f219) (env0 [a0, a1]) w (retX P Tryz.f219.results.toList K) := by kernel_rfl
    exact e ▸ h)
def D_spec_l02Read (a0 : Value) (w : World) (K : Value → World → Prop) : Prop :=
  alc P 55 w fun b c =>
  ∃ d : Value → Value → World → Prop, (∀ (e : Value) (g : Value) (_ : Env) (h : World), d e g h →
  bl0 P .len #[9] 3 [g] h fun i =>
  bin P .eql 3 false true i (.int .i64 0) h fun j =>
  ∃ k : Value → World → Prop, (∀ (l : Value) (_ : Env) (m : World), k l m →
  ∃ n : Value → World → Prop, (∀ (o : Value) (_ : Env) (p : World), n o p →
  ∃ q : Value → World → Prop, (∀ (r : Value) (_ : Env) (s : World), q r s →
  ∃ t : Value → World → Prop, (∀ (u : Value) (_ : Env) (v : World), t u v →
  ∃ x : Value → World → Prop, (∀ (y : Value) (_ : Env) (z : World), x y z →
  pick j (.bool true) y fun A =>
  cnd A
  (bld P 55 [] z fun B =>
  sto P 55 b B z fun C =>
  ldc P 55 b C fun D =>
  K (.tuple #[D, (.bool false)]) C)
  (∃ E : Nat → Value → World → Prop, (∃ F, E F (.int .i64 0) z) ∧ ∀ (G : Nat) (H : Value) (_ : Env) (L : World), E G H L →
  bl0 P .len #[9] 3 [g] L fun M =>
  bin P .lss 3 false false H M L fun N =>
  cnd N
  (idx P 9 g H L fun O =>
  bin P .lss 5 false true O (.int .u8 48) L fun Q =>
  ∃ R : Value → World → Prop, (∀ (S : Value) (_ : Env) (T : World), R S T →
  pick Q (.bool true) S fun U =>
  cnd U
  (bld P 55 [] T fun V =>
  sto P 55 b V T fun W =>
  ldc P 55 b W fun X =>
  K (.tuple #[X, (.bool false)]) W)
  (bin P .add 3 false true H (.int .i64 1) T fun Y =>
  ∃ Z, Z < G ∧ E Z Y T)) ∧
  grd Q false
  (idx P 9 g H L fun b0 =>
  bin P .gtr 5 false true b0 (.int .u8 57) L fun c0 =>
  R c0 L)
  (R undef L))
  (bsl P 53 0 [] L fun d0 e0 =>
  ∃ g0 : Nat → Value → Value → World → Prop, (∃ h0, g0 h0 d0 (.int .i64 0) e0) ∧ ∀ (i0 : Nat) (j0 : Value) (k0 : Value) (_ : Env) (l0 : World), g0 i0 j0 k0 l0 →
  bl0 P .len #[9] 3 [g] l0 fun m0 =>
  bin P .lss 3 false false k0 m0 l0 fun n0 =>
  ∃ o0 : Value → World → Prop, (∀ (p0 : Value) (_ : Env) (q0 : World), o0 p0 q0 →
  pick n0 p0 (.bool false) fun r0 =>
  cnd r0
  (idx P 9 g k0 q0 fun s0 =>
  bin P .sub 5 false true s0 (.int .u8 48) q0 fun t0 =>
  cnv P 5 2 t0 q0 fun u0 =>
  ∃ v0 : Nat → Value → Value → World → Prop, (∃ x0, v0 x0 u0 (.int .i64 0) q0) ∧ ∀ (y0 : Nat) (z0 : Value) (A0 : Value) (_ : Env) (B0 : World), v0 y0 z0 A0 B0 →
  bl0 P .len #[53] 3 [j0] B0 fun C0 =>
  bin P .lss 3 false false A0 C0 B0 fun D0 =>
  cnd D0
  (ixa P 53 j0 A0 B0 fun E0 =>
  ld P 2 E0 B0 fun F0 =>
  bin P .mul 2 true false (.int .i64 10) F0 B0 fun G0 =>
  bin P .add 2 false false z0 G0 B0 fun H0 =>
  bin P .rem 2 false true H0 (.int .i64 16777216) B0 fun L0 =>
  ixa P 53 j0 A0 B0 fun M0 =>
  sto P 2 M0 L0 B0 fun N0 =>
  bin P .quo 2 false true H0 (.int .i64 16777216) N0 fun O0 =>
  bin P .add 3 false true A0 (.int .i64 1) N0 fun Q0 =>
  ∃ R0, R0 < y0 ∧ v0 R0 O0 Q0 N0)
  (bin P .gtr 2 false true z0 (.int .i64 0) B0 fun S0 =>
  cnd S0
  (bsl P 53 1 [(0, z0)] B0 fun T0 U0 =>
  bl2 P .append #[53, 53] 53 [j0, T0] U0 fun V0 W0 =>
  bin P .add 3 false true k0 (.int .i64 1) W0 fun X0 =>
  ∃ Y0, Y0 < i0 ∧ g0 Y0 V0 X0 W0)
  (bin P .add 3 false true k0 (.int .i64 1) B0 fun Z0 =>
  ∃ b1, b1 < i0 ∧ g0 b1 j0 Z0 B0)))
  (call P f_spec_l02Make [e, j0] q0 fun c1 d1 =>
  sto P 55 b c1 d1 fun e1 =>
  ldc P 55 b e1 fun g1 =>
  K (.tuple #[g1, (.bool true)]) e1)) ∧
  grd n0 true
  (bin P .lss 3 false true k0 (.int .i64 1000) l0 fun h1 =>
  o0 h1 l0)
  (o0 undef l0)))) ∧
  grd j false
  (pick l u (.bool false) fun i1 =>
  x i1 v)
  (x undef v)) ∧
  grd l true
  (pick o (.bool true) r fun j1 =>
  t j1 s)
  (t undef s)) ∧
  grd o false
  (bin P .lss 2 false true e (.int .i64 0) p fun k1 =>
  q k1 p)
  (q undef p)) ∧
  grd l true
  (bl0 P .len #[9] 3 [g] m fun l1 =>
  bin P .gtr 3 false true l1 (.int .i64 1) m fun m1 =>
  n m1 m)
  (n undef m)) ∧
  grd j false
  (idx P 9 g (.int .i64 0) h fun n1 =>
  bin P .eql 5 false true n1 (.int .u8 48) h fun o1 =>
  k o1 h)
  (k undef h)) ∧
  (bl0 P .len #[9] 3 [a0] c fun p1 =>
  bin P .gtr 3 false true p1 (.int .i64 0) c fun q1 =>
  ∃ r1 : Value → World → Prop, (∀ (s1 : Value) (_ : Env) (t1 : World), r1 s1 t1 →
  pick q1 s1 (.bool false) fun u1 =>
  cnd u1
  (sli P 9 a0 (some (.int .i64 1)) none none t1 fun v1 =>
  d (.int .i64 (-1)) v1 t1)
  (d (.int .i64 1) a0 t1)) ∧
  grd q1 true
  (idx P 9 a0 (.int .i64 0) c fun x1 =>
  bin P .eql 5 false true x1 (.int .u8 45) c fun y1 =>
  r1 y1 c)
  (r1 undef c))
def P_spec_l02Read : Plan := (.seq rg7 (.seq rg0 (.cut [4, 5] 4190256 (.seq (.reg [.op (0, 0, false), .op (1, 0, false), .op (2, 0, false), .op (3, 0, false), .grp 3 true [(4, 0, false), (5, 0, false), (6, 0, false)] [18] 458752, .op (7, 0, false)]) (.cond (.seq rg2 rg0) .leaf)) (.seq (.seq (.reg [.op (0, 0, false), .op (1, 0, false), .op (2, 0, false), .op (3, 0, false), .grp 3 false [(4, 0, false), (5, 0, false), (6, 0, false), (7, 0, false)] [29] 1006632960, .grp 7 true [(8, 0, false), (9, 0, false), (10, 0, false), (11, 0, false)] [33] 16106127360, .grp 11 false [(12, 0, false), (13, 0, false)] [35] 51539607552, .grp 7 true [(14, 0, false)] [36] 68719476736, .grp 3 false [(15, 0, false)] [37] 137438953472, .op (16, 0, false)]) (.cond (.seq rg5 .leaf) .leaf)) (.seq (.seq rg2 (.blk (.loop [6] 144114088564228168 (.seq (.seq rg4 (.cond .leaf .leaf)) (.seq (.blk (.seq (.reg [.op (0, 0, false), .op (1, 0, false), .op (2, 0, false), .op (3, 0, false), .op (4, 0, false), .grp 4 false [(5, 0, false), (6, 0, false), (7, 0, false), (8, 0, false)] [54] 33776997205278720, .op (9, 0, false)]) (.cond (.seq rg5 .leaf) .leaf))) rg0))))) (.seq rg7 (.seq (.seq rg2 (.blk (.loop [7, 8] 633825300113826470372199892864 (.seq (.seq (.reg [.op (0, 0, false), .op (1, 0, false), .op (2, 0, false), .op (3, 0, false), .op (4, 0, false), .grp 4 true [(5, 0, false), (6, 0, false)] [64] 27670116110564327424, .op (7, 0, false)]) (.cond .leaf .leaf)) (.seq (.blk (.seq rg6 (.seq (.seq rg2 (.blk (.loop [9, 10] 9903510869550076459902567936 (.seq (.seq rg4 (.cond .leaf .leaf)) (.seq (.blk (.seq rg9 (.seq rg24 rg0))) rg0))))) (.seq rg1 (.cond rg23 .leaf))))) rg0))))) (.seq rg23 .leaf))))))))
theorem I_spec_l02Read {a0 : Value} {w : World} {K : Value → World → Prop} (h : D_spec_l02Read a0 w K) : call P f_spec_l02Read [a0] w K :=
  call_of_vc mixed Tryz.func235 (c := codeOf Tryz.f235) (by kernel_rfl) (by kernel_rfl) (p := P_spec_l02Read) (by kernel_rfl) (by rw [Tryz.ntmps235]; simp) (by
    have e : D_spec_l02Read a0 w K = vc P P_spec_l02Read (codeOf Tryz.f235) (env0 [a0]) w (retX P Tryz.f235.results.toList K) := by kernel_rfl
    exact e ▸ h)
def D_spec_l02Length (a0 : Value) (w : World) (K : Value → World → Prop) : Prop :=
  bx P 55 a0 w fun b c =>
  fda P 55 b 1 c fun d =>
  ld P 53 d c fun e =>
  bl0 P .len #[53] 3 [e] c fun g =>
  bin P .eql 2 false true g (.int .i64 0) c fun h =>
  cnd h
  (K (.int .i64 0) c)
  (bin P .sub 2 false true g (.int .i64 1) c fun i =>
  bin P .mul 2 false true i (.int .i64 24) c fun j =>
  fda P 55 b 1 c fun k =>
  ld P 53 k c fun l =>
  bin P .sub 2 false true g (.int .i64 1) c fun m =>
  ixa P 53 l m c fun n =>
  ld P 2 n c fun o =>
  ∃ p : Nat → Value → Value → World → Prop, (∃ q, p q j o c) ∧ ∀ (r : Nat) (s : Value) (t : Value) (_ : Env) (u : World), p r s t u →
  bin P .gtr 2 false true t (.int .i64 0) u fun v =>
  cnd v
  (bin P .add 2 false true s (.int .i64 1) u fun x =>
  bin P .quo 2 false true t (.int .i64 2) u fun y =>
  ∃ z, z < r ∧ p z x y u)
  (K s u))
def P_spec_l02Length : Plan := (.seq rg7 (.seq rg4 (.seq (.seq rg1 (.cond (.seq rg2 .leaf) .leaf)) (.seq rg4 (.seq (.seq rg8 (.blk (.loop [4, 5] 66060336 (.seq (.seq rg1 (.cond .leaf .leaf)) (.seq (.blk rg0) rg0))))) (.seq rg1 .leaf))))))
theorem I_spec_l02Length {a0 : Value} {w : World} {K : Value → World → Prop} (h : D_spec_l02Length a0 w K) : call P f_spec_l02Length [a0] w K :=
  call_of_vc mixed Tryz.func237 (c := codeOf Tryz.f237) (by kernel_rfl) (by kernel_rfl) (p := P_spec_l02Length) (by kernel_rfl) (by rw [Tryz.ntmps237]; simp) (by
    have e : D_spec_l02Length a0 w K = vc P P_spec_l02Length (codeOf Tryz.f237) (env0 [a0]) w (retX P Tryz.f237.results.toList K) := by kernel_rfl
    exact e ▸ h)
def D_spec_l02Plus (a0 a1 : Value) (w : World) (K : Value → World → Prop) : Prop :=
  bsl P 53 0 [] w fun b c =>
  ∃ d : Nat → Value → Value → Value → World → Prop, (∃ e, d e b (.int .i64 0) (.int .i64 0) c) ∧ ∀ (g : Nat) (h : Value) (i : Value) (j : Value) (_ : Env) (k : World), d g h i j k →
  bl0 P .len #[53] 3 [a0] k fun l =>
  bin P .lss 3 false false j l k fun m =>
  ∃ n : Value → World → Prop, (∀ (o : Value) (_ : Env) (p : World), n o p →
  pick m (.bool true) o fun q =>
  ∃ r : Value → World → Prop, (∀ (s : Value) (_ : Env) (t : World), r s t →
  pick q (.bool true) s fun u =>
  cnd u
  (∃ v : Value → World → Prop, (∀ (x : Value) (_ : Env) (y : World), v x y →
  ∃ z : Value → World → Prop, (∀ (A : Value) (_ : Env) (B : World), z A B →
  bin P .rem 2 false true A (.int .i64 16777216) B fun C =>
  bsl P 53 1 [(0, C)] B fun D E =>
  bl2 P .append #[53, 53] 53 [h, D] E fun F G =>
  bin P .quo 2 false true A (.int .i64 16777216) G fun H =>
  bin P .add 3 false true j (.int .i64 1) G fun L =>
  ∃ M, M < g ∧ d M F H L G) ∧
  (bl0 P .len #[53] 3 [a1] y fun N =>
  bin P .lss 3 false false j N y fun O =>
  cnd O
  (ixa P 53 a1 j y fun Q =>
  ld P 2 Q y fun R =>
  bin P .add 2 false false x R y fun S =>
  z S y)
  (z x y))) ∧
  (bl0 P .len #[53] 3 [a0] t fun T =>
  bin P .lss 3 false false j T t fun U =>
  cnd U
  (ixa P 53 a0 j t fun V =>
  ld P 2 V t fun W =>
  bin P .add 2 false false i W t fun X =>
  v X t)
  (v i t)))
  (K h t)) ∧
  grd q false
  (bin P .gtr 2 false true i (.int .i64 0) p fun Y =>
  r Y p)
  (r undef p)) ∧
  grd m false
  (bl0 P .len #[53] 3 [a1] k fun Z =>
  bin P .lss 3 false false j Z k fun b0 =>
  n b0 k)
  (n undef k)
def P_spec_l02Plus : Plan := (.seq rg2 (.seq rg33 (.seq (.seq rg2 (.blk (.loop [5, 6, 7] 4503599627370208 (.seq (.seq (.reg [.op (0, 0, false), .op (1, 0, false), .op (2, 0, false), .op (3, 0, false), .op (4, 0, false), .grp 4 false [(5, 0, false), (6, 0, false), (7, 0, false), (8, 0, false)] [17] 245760, .op (9, 0, false), .op (10, 0, false), .grp 10 false [(11, 0, false), (12, 0, false)] [21] 3145728, .op (13, 0, false)]) (.cond .leaf .leaf)) (.seq (.blk (.cut [6] 34326184000 (.seq rg4 (.cond rg8 .leaf)) (.cut [6] 35150012350528 (.seq rg4 (.cond rg8 .leaf)) (.seq (.reg [.op (0, 0, false), .op (1, 0, false), .op (2, 0, false), .op (3, 2, false), .op (4, 2, false), .op (5, 0, false)]) rg0)))) rg0))))) (.seq rg1 .leaf))))
theorem I_spec_l02Plus {a0 a1 : Value} {w : World} {K : Value → World → Prop} (h : D_spec_l02Plus a0 a1 w K) : call P f_spec_l02Plus [a0, a1] w K :=
  call_of_vc mixed Tryz.func252 (c := codeOf Tryz.f252) (by kernel_rfl) (by kernel_rfl) (p := P_spec_l02Plus) (by kernel_rfl) (by rw [Tryz.ntmps252]; simp) (by
    have e : D_spec_l02Plus a0 a1 w K = vc P P_spec_l02Plus (codeOf Tryz.f252) (env0 [a0, a1]) w (retX P Tryz.f252.results.toList K) := by kernel_rfl
    exact e ▸ h)
def D_spec_l02CompareLimbs (a0 a1 : Value) (w : World) (K : Value → World → Prop) : Prop :=
  bl0 P .len #[53] 3 [a0] w fun b =>
  bl0 P .len #[53] 3 [a1] w fun c =>
  bin P .neq 3 false false b c w fun d =>
  cnd d
  (bl0 P .len #[53] 3 [a0] w fun e =>
  bl0 P .len #[53] 3 [a1] w fun g =>
  bin P .lss 3 false false e g w fun h =>
  cnd h
  (K (.int .i64 (-1)) w)
  (K (.int .i64 1) w))
  (bl0 P .len #[53] 3 [a0] w fun i =>
  bin P .sub 3 false true i (.int .i64 1) w fun j =>
  ∃ k : Nat → Value → World → Prop, (∃ l, k l j w) ∧ ∀ (m : Nat) (n : Value) (_ : Env) (o : World), k m n o →
  bin P .geq 3 false true n (.int .i64 0) o fun p =>
  cnd p
  (ixa P 53 a0 n o fun q =>
  ld P 2 q o fun r =>
  ixa P 53 a1 n o fun s =>
  ld P 2 s o fun t =>
  bin P .neq 2 false false r t o fun u =>
  cnd u
  (ixa P 53 a0 n o fun v =>
  ld P 2 v o fun x =>
  ixa P 53 a1 n o fun y =>
  ld P 2 y o fun z =>
  bin P .lss 2 false false x z o fun A =>
  cnd A
  (K (.int .i64 (-1)) o)
  (K (.int .i64 1) o))
  (bin P .sub 3 false true n (.int .i64 1) o fun B =>
  ∃ C, C < m ∧ k C B o))
  (K (.int .i64 0) o))
def P_spec_l02CompareLimbs : Plan := (.seq rg2 (.seq (.seq rg3 (.cond (.seq (.seq rg3 (.cond (.seq rg2 .leaf) .leaf)) (.seq rg2 .leaf)) .leaf)) (.seq (.seq rg4 (.blk (.loop [5] 2199022731312 (.seq (.seq rg1 (.cond .leaf .leaf)) (.seq (.blk (.seq rg15 (.cond (.seq (.seq rg15 (.cond (.seq rg2 .leaf) .leaf)) (.seq rg2 .leaf)) .leaf))) rg0))))) (.seq rg2 .leaf))))
theorem I_spec_l02CompareLimbs {a0 a1 : Value} {w : World} {K : Value → World → Prop} (h : D_spec_l02CompareLimbs a0 a1 w K) : call P f_spec_l02CompareLimbs [a0, a1] w K :=
  call_of_vc mixed Tryz.func253 (c := codeOf Tryz.f253) (by kernel_rfl) (by kernel_rfl) (p := P_spec_l02CompareLimbs) (by kernel_rfl) (by rw [Tryz.ntmps253]; simp) (by
    have e : D_spec_l02CompareLimbs a0 a1 w K = vc P P_spec_l02CompareLimbs (codeOf Tryz.f253) (env0 [a0, a1]) w (retX P Tryz.f253.results.toList K) := by kernel_rfl
    exact e ▸ h)
def D_spec_l02Minus (a0 a1 : Value) (w : World) (K : Value → World → Prop) : Prop :=
  bsl P 53 0 [] w fun b c =>
  ∃ d : Nat → Value → Value → Value → World → Prop, (∃ e, d e b (.int .i64 0) (.int .i64 0) c) ∧ ∀ (g : Nat) (h : Value) (i : Value) (j : Value) (_ : Env) (k : World), d g h i j k →
  bl0 P .len #[53] 3 [a0] k fun l =>
  bin P .lss 3 false false j l k fun m =>
  cnd m
  (ixa P 53 a0 j k fun n =>
  ld P 2 n k fun o =>
  bin P .sub 2 false false o i k fun p =>
  ∃ q : Value → World → Prop, (∀ (r : Value) (_ : Env) (s : World), q r s →
  bin P .lss 2 false true r (.int .i64 0) s fun t =>
  cnd t
  (bin P .add 2 false true r (.int .i64 16777216) s fun u =>
  bsl P 53 1 [(0, u)] s fun v x =>
  bl2 P .append #[53, 53] 53 [h, v] x fun y z =>
  bin P .add 3 false true j (.int .i64 1) z fun A =>
  ∃ B, B < g ∧ d B y (.int .i64 1) A z)
  (bsl P 53 1 [(0, r)] s fun C D =>
  bl2 P .append #[53, 53] 53 [h, C] D fun E F =>
  bin P .add 3 false true j (.int .i64 1) F fun G =>
  ∃ H, H < g ∧ d H E (.int .i64 0) G F)) ∧
  (bl0 P .len #[53] 3 [a1] k fun L =>
  bin P .lss 3 false false j L k fun M =>
  cnd M
  (ixa P 53 a1 j k fun N =>
  ld P 2 N k fun O =>
  bin P .sub 2 false false p O k fun Q =>
  q Q k)
  (q p k)))
  (K h k)
def P_spec_l02Minus : Plan := (.seq rg2 (.seq rg33 (.seq (.seq rg2 (.blk (.loop [5, 6, 7] 1099511627232 (.seq (.seq rg4 (.cond .leaf .leaf)) (.seq (.blk (.seq rg8 (.cut [8] 4290773248 (.seq rg4 (.cond rg8 .leaf)) (.seq rg2 (.seq (.seq rg1 (.cond (.seq rg0 rg2) .leaf)) rg23))))) rg0))))) (.seq rg1 .leaf))))
theorem I_spec_l02Minus {a0 a1 : Value} {w : World} {K : Value → World → Prop} (h : D_spec_l02Minus a0 a1 w K) : call P f_spec_l02Minus [a0, a1] w K :=
  call_of_vc mixed Tryz.func254 (c := codeOf Tryz.f254) (by kernel_rfl) (by kernel_rfl) (p := P_spec_l02Minus) (by kernel_rfl) (by rw [Tryz.ntmps254]; simp) (by
    have e : D_spec_l02Minus a0 a1 w K = vc P P_spec_l02Minus (codeOf Tryz.f254) (env0 [a0, a1]) w (retX P Tryz.f254.results.toList K) := by kernel_rfl
    exact e ▸ h)
end Go.Proofs.YtjompmflommadaaGreatDoor
