import Derived.Test.YtjompmflommadaaGreatDoorProg
import Derived.Test.YtjompmflommadaaGreatDoorVcH
set_option linter.unusedSimpArgs false
set_option linter.unusedVariables false
/- Written by a program (gen.py): the program's names. -/
namespace Go.Proofs.YtjompmflommadaaGreatDoor
open Go Go.Vc
noncomputable abbrev P : Program := Tryz.prog
theorem mixed : P.follows .mixedOrders = true := by kernel_rfl
def codeOf (f : Func) : Code := match f.body with
  | some c => c
  | none => .skip
abbrev f_laws_FnExactIsProgram : FuncId := 3
abbrev f_laws_FnExactDepthOf : FuncId := 4
abbrev f_laws_FnExactVariablesOf : FuncId := 5
abbrev f_laws_FnExactProgramText : FuncId := 6
abbrev f_laws_FnExactParseProgram : FuncId := 7
abbrev f_laws_FnExactIsServer : FuncId := 8
abbrev f_laws_FnExactRunExact : FuncId := 9
abbrev f_laws_FnExactRunPair : FuncId := 10
abbrev f_laws_FnProgramTexts : FuncId := 11
abbrev f_laws_szProgram : FuncId := 12
abbrev f_spec_IsProgram : FuncId := 13
abbrev f_laws_toProgram : FuncId := 14
abbrev f_impl_IsProgram : FuncId := 15
abbrev f_laws_eqProgram : FuncId := 16
abbrev f_spec_DepthOf : FuncId := 17
abbrev f_impl_DepthOf : FuncId := 18
abbrev f_spec_VariablesOf : FuncId := 19
abbrev f_impl_VariablesOf : FuncId := 20
abbrev f_spec_ProgramText : FuncId := 21
abbrev f_impl_ProgramText : FuncId := 22
abbrev f_spec_ParseProgram : FuncId := 23
abbrev f_impl_ParseProgram : FuncId := 24
abbrev f_laws_markProgram : FuncId := 25
abbrev f_laws_heldProgram : FuncId := 26
abbrev f_laws_szServer : FuncId := 27
abbrev f_spec_IsServer : FuncId := 28
abbrev f_laws_toServer : FuncId := 29
abbrev f_impl_IsServer : FuncId := 30
abbrev f_laws_eqServer : FuncId := 31
abbrev f_spec_RunExact : FuncId := 32
abbrev f_laws_toFloat32S : FuncId := 33
abbrev f_impl_RunExact : FuncId := 34
abbrev f_laws_eqDyadic : FuncId := 35
abbrev f_laws_eqFloat32S : FuncId := 36
abbrev f_laws_markFloat32S : FuncId := 37
abbrev f_laws_markDyadic : FuncId := 38
abbrev f_laws_heldDyadic : FuncId := 39
abbrev f_spec_RunPair : FuncId := 40
abbrev f_impl_RunPair : FuncId := 41
abbrev f_laws_eqPair : FuncId := 42
abbrev f_laws_big : FuncId := 43
abbrev f_spec_DrawProgramText : FuncId := 44
abbrev f_laws_words5 : FuncId := 45
abbrev f_spec_DrawParseProgram : FuncId := 46
abbrev f_spec_DrawVariablesOf : FuncId := 47
abbrev f_spec_DrawRunPair : FuncId := 48
abbrev f_laws_float5 : FuncId := 49
abbrev f_impl_IsPair : FuncId := 50
abbrev f_laws_szStringS : FuncId := 51
abbrev f_spec_l08Is : FuncId := 52
abbrev f_laws_toStringS : FuncId := 53
abbrev f_impl_depthOf : FuncId := 54
abbrev f_laws_eqStringS : FuncId := 55
abbrev f_spec_l08Depth : FuncId := 56
abbrev f_spec_l08Variables : FuncId := 57
abbrev f_impl_needs : FuncId := 58
abbrev f_spec_l08Text : FuncId := 59
abbrev f_impl_programText : FuncId := 60
abbrev f_spec_l06Split : FuncId := 61
abbrev f_strings_Split : FuncId := 62
abbrev f_laws_markStringS : FuncId := 63
abbrev f_laws_heldStringS : FuncId := 64
abbrev f_laws_szProgramS : FuncId := 65
abbrev f_laws_szKeptS : FuncId := 66
abbrev f_spec_l12Is : FuncId := 67
abbrev f_laws_toProgramS : FuncId := 68
abbrev f_laws_toKeptS : FuncId := 69
abbrev f_impl_isName : FuncId := 70
abbrev f_slices_Contains_string_string : FuncId := 71
abbrev f_laws_eqProgramS : FuncId := 72
abbrev f_laws_eqKeptS : FuncId := 73
abbrev f_spec_l08Code : FuncId := 74
abbrev f_spec_l08Exact : FuncId := 75
abbrev f_impl_asked : FuncId := 76
abbrev f_impl_areFinite : FuncId := 77
abbrev f_impl_numOf : FuncId := 78
abbrev f_impl_num_odd : FuncId := 79
abbrev f_impl_run_impl_num : FuncId := 80
abbrev f_impl_RunExact_1 : FuncId := 81
abbrev f_impl_exactOne : FuncId := 82
abbrev f_impl_exactTwo : FuncId := 83
abbrev f_impl_num_dyadic : FuncId := 84
abbrev f_laws_eqWhole : FuncId := 85
abbrev f_laws_sameFloat : FuncId := 86
abbrev f_laws_markWhole : FuncId := 87
abbrev f_laws_heldWhole : FuncId := 88
abbrev f_spec_l08Needs : FuncId := 89
abbrev f_spec_l08Leaf : FuncId := 90
abbrev f_spec_l08PairOne : FuncId := 91
abbrev f_spec_l08PairTwo : FuncId := 92
abbrev f_impl_run_impl_Pair : FuncId := 93
abbrev f_impl_RunPair_1 : FuncId := 94
abbrev f_impl_pairOne : FuncId := 95
abbrev f_impl_pairTwo : FuncId := 96
abbrev f_spec_l08Spoil : FuncId := 97
abbrev f_spec_l01From : FuncId := 98
abbrev f_spec_l08Draw : FuncId := 99
abbrev f_spec_l01Next : FuncId := 100
abbrev f_spec_l01Damage : FuncId := 101
abbrev f_spec_l08Plain : FuncId := 102
abbrev f_impl_form : FuncId := 103
abbrev f_spec_l08Variable : FuncId := 104
abbrev f_impl_variable : FuncId := 105
abbrev f_strings_Join : FuncId := 106
abbrev f_strings_genSplit : FuncId := 107
abbrev f_laws_markText : FuncId := 108
abbrev f_laws_szKept : FuncId := 109
abbrev f_spec_l12Name : FuncId := 110
abbrev f_spec_l12Place : FuncId := 111
abbrev f_spec_l12Key : FuncId := 112
abbrev f_laws_toKept : FuncId := 113
abbrev f_slices_Index_string_string : FuncId := 114
abbrev f_laws_eqKept : FuncId := 115
abbrev f_spec_l01Finite : FuncId := 116
abbrev f_spec_l01In : FuncId := 117
abbrev f_spec_l03Of : FuncId := 118
abbrev f_spec_l08Exactly : FuncId := 119
abbrev f_spec_l03Is : FuncId := 120
abbrev f_spec_l03Make : FuncId := 121
abbrev f_impl_isFinite : FuncId := 122
abbrev f_impl_parts : FuncId := 123
abbrev f_impl_newInt : FuncId := 124
abbrev f_impl_num_sign : FuncId := 125
abbrev f_impl_zero : FuncId := 126
abbrev f_impl_integer_TrailingZeroBits : FuncId := 127
abbrev f_impl_integer_Rsh : FuncId := 128
abbrev f_impl_parseFloat : FuncId := 129
abbrev f_impl_num_neg : FuncId := 130
abbrev f_impl_kept : FuncId := 131
abbrev f_impl_num_mul : FuncId := 132
abbrev f_impl_num_abs : FuncId := 133
abbrev f_impl_num_add : FuncId := 134
abbrev f_impl_num_sub : FuncId := 135
abbrev f_impl_num_cmp : FuncId := 136
abbrev f_impl_fromBig : FuncId := 137
abbrev f_laws_eqInt64S : FuncId := 138
abbrev f_laws_markInt64S : FuncId := 139
abbrev f_laws_heldInt64S : FuncId := 140
abbrev f_spec_l06Float : FuncId := 141
abbrev f_spec_l08Turn : FuncId := 142
abbrev f_spec_l05Value : FuncId := 143
abbrev f_spec_l05Times : FuncId := 144
abbrev f_spec_l05Add : FuncId := 145
abbrev f_spec_l05Over : FuncId := 146
abbrev f_spec_l03Compare : FuncId := 147
abbrev f_impl_opposite : FuncId := 148
abbrev f_impl_limited : FuncId := 149
abbrev f_impl_mulPairs : FuncId := 150
abbrev f_impl_pairValue : FuncId := 151
abbrev f_impl_addPairs : FuncId := 152
abbrev f_impl_divPairs : FuncId := 153
abbrev f_spec_l08Some : FuncId := 154
abbrev f_spec_l01Pick : FuncId := 155
abbrev f_spec_l08Floating : FuncId := 156
abbrev f_strings_Builder_Grow : FuncId := 157
abbrev f_strings_Builder_WriteString : FuncId := 158
abbrev f_strings_Builder_String : FuncId := 159
abbrev f_strings_explode : FuncId := 160
abbrev f_strings_Count : FuncId := 161
abbrev f_strings_Index : FuncId := 162
abbrev f_spec_l01Parts : FuncId := 163
abbrev f_spec_l02Of : FuncId := 164
abbrev f_spec_l03Neg : FuncId := 165
abbrev f_spec_l03Mul : FuncId := 166
abbrev f_spec_l02Abs : FuncId := 167
abbrev f_spec_l03Add : FuncId := 168
abbrev f_spec_l03Sub : FuncId := 169
abbrev f_spec_l02Is : FuncId := 170
abbrev f_spec_l02Twos : FuncId := 171
abbrev f_spec_l02Cut : FuncId := 172
abbrev f_math_Float32bits : FuncId := 173
abbrev f_impl_integer_SetInt64 : FuncId := 174
abbrev f_impl_integer_Sign : FuncId := 175
abbrev f_impl_integer_BitLen : FuncId := 176
abbrev f_impl_integer_Bit : FuncId := 177
abbrev f_impl_integer_put : FuncId := 178
abbrev f_impl_magRight : FuncId := 179
abbrev f_impl_magSub : FuncId := 180
abbrev f_impl_magAdd : FuncId := 181
abbrev f_impl_ParseDyadic : FuncId := 182
abbrev f_impl_RoundDyadic : FuncId := 183
abbrev f_impl_integer_Neg : FuncId := 184
abbrev f_impl_integer_Mul : FuncId := 185
abbrev f_impl_integer_Abs : FuncId := 186
abbrev f_impl_integer_Add : FuncId := 187
abbrev f_impl_num_at : FuncId := 188
abbrev f_impl_integer_And : FuncId := 189
abbrev f_impl_integer_Int64 : FuncId := 190
abbrev f_spec_l03Read : FuncId := 191
abbrev f_spec_l03Round : FuncId := 192
abbrev f_spec_l01Turned : FuncId := 193
abbrev f_spec_l05Product : FuncId := 194
abbrev f_spec_l05Quick : FuncId := 195
abbrev f_spec_l05Is : FuncId := 196
abbrev f_spec_l05Sum : FuncId := 197
abbrev f_impl_shortProduct : FuncId := 198
abbrev f_impl_quick : FuncId := 199
abbrev f_impl_exactSum : FuncId := 200
abbrev f_spec_l03Text : FuncId := 201
abbrev f_spec_l01Pick32 : FuncId := 202
abbrev f_spec_l01Draw : FuncId := 203
abbrev f_spec_l01Count : FuncId := 204
abbrev f_spec_l01Spoil : FuncId := 205
abbrev f_strings_Builder_copyCheck : FuncId := 206
abbrev f_strings_Builder_grow : FuncId := 207
abbrev f_unicode_utf8_RuneCountInString : FuncId := 208
abbrev f_unicode_utf8_DecodeRuneInString : FuncId := 209
abbrev f_internal_bytealg_CountString : FuncId := 210
abbrev f_internal_stringslite_Index : FuncId := 211
abbrev f_spec_l01Twos : FuncId := 212
abbrev f_spec_l01Abs : FuncId := 213
abbrev f_spec_l02Make : FuncId := 214
abbrev f_spec_l02Neg : FuncId := 215
abbrev f_spec_l02Mul : FuncId := 216
abbrev f_spec_l02Add : FuncId := 217
abbrev f_spec_l02Left : FuncId := 218
abbrev f_spec_l02Bit : FuncId := 219
abbrev f_impl_magBits : FuncId := 220
abbrev f_impl_magTrim : FuncId := 221
abbrev f_strings_Cut : FuncId := 222
abbrev f_impl_isNumeral : FuncId := 223
abbrev f_impl_ParseWhole : FuncId := 224
abbrev f_strconv_ParseInt : FuncId := 225
abbrev f_impl_IsDyadic : FuncId := 226
abbrev f_impl_isMode : FuncId := 227
abbrev f_impl_numberOf : FuncId := 228
abbrev f_impl_num_round : FuncId := 229
abbrev f_slices_Clone_uint32_uint32 : FuncId := 230
abbrev f_impl_magMul : FuncId := 231
abbrev f_impl_integer_plus : FuncId := 232
abbrev f_impl_integer_Lsh : FuncId := 233
abbrev f_impl_integer_low : FuncId := 234
abbrev f_spec_l02Read : FuncId := 235
abbrev f_spec_l03Multiple : FuncId := 236
abbrev f_spec_l02Length : FuncId := 237
abbrev f_spec_l03Over : FuncId := 238
abbrev f_spec_l05Near : FuncId := 239
abbrev f_impl_rest : FuncId := 240
abbrev f_spec_l02Text : FuncId := 241
abbrev f_spec_l01At : FuncId := 242
abbrev f_spec_l01Strange : FuncId := 243
abbrev f_internal_abi_NoEscape : FuncId := 244
abbrev f_internal_bytealg_MakeNoZero : FuncId := 245
abbrev f_unicode_utf8_decodeRuneInStringSlow : FuncId := 246
abbrev f_internal_stringslite_IndexByte : FuncId := 247
abbrev f_internal_bytealg_IndexString : FuncId := 248
abbrev f_internal_bytealg_Cutover : FuncId := 249
abbrev f_internal_bytealg_IndexRabinKarp_string : FuncId := 250
abbrev f_spec_l01Own : FuncId := 251
abbrev f_spec_l02Plus : FuncId := 252
abbrev f_spec_l02CompareLimbs : FuncId := 253
abbrev f_spec_l02Minus : FuncId := 254
abbrev f_internal_stringslite_Cut : FuncId := 255
abbrev f_impl_integer_SetString : FuncId := 256
abbrev f_impl_whole : FuncId := 257
abbrev f_internal_strconv_ParseInt : FuncId := 258
abbrev f_strconv_toError : FuncId := 259
abbrev f_impl_IsWhole : FuncId := 260
abbrev f_impl_toBig : FuncId := 261
abbrev f_impl_num_round_1 : FuncId := 262
abbrev f_impl_atPlace : FuncId := 263
abbrev f_impl_infinite : FuncId := 264
abbrev f_impl_integer_Sub : FuncId := 265
abbrev f_impl_integer_Cmp : FuncId := 266
abbrev f_math_Ldexp : FuncId := 267
abbrev f_impl_magCmp : FuncId := 268
abbrev f_impl_magLeft : FuncId := 269
abbrev f_spec_l01Huge : FuncId := 270
abbrev f_impl_plain : FuncId := 271
abbrev f_spec_l02Digits : FuncId := 272
abbrev f_internal_bytealg_IndexByteString : FuncId := 273
abbrev f_internal_bytealg_hashStr_string : FuncId := 274
abbrev f_internal_strconv_ParseUint : FuncId := 275
abbrev f_strconv_syntaxError : FuncId := 276
abbrev f_strconv_rangeError : FuncId := 277
abbrev f_strconv_baseError : FuncId := 278
abbrev f_strconv_bitSizeError : FuncId := 279
abbrev f_impl_integer_Or : FuncId := 280
abbrev f_math_Float32frombits : FuncId := 281
abbrev f_math_Inf : FuncId := 282
abbrev f_math_archLdexp : FuncId := 283
abbrev f_math_ldexp : FuncId := 284
abbrev f_cmp_Compare_int : FuncId := 285
abbrev f_cmp_Compare_uint32 : FuncId := 286
abbrev f_internal_strconv_lower : FuncId := 287
abbrev f_internal_strconv_underscoreOK : FuncId := 288
abbrev f_internal_stringslite_Clone : FuncId := 289
abbrev f_errors_New : FuncId := 290
abbrev f_strconv_Itoa : FuncId := 291
abbrev f_math_Float64frombits : FuncId := 292
abbrev f_math_IsInf : FuncId := 293
abbrev f_math_IsNaN : FuncId := 294
abbrev f_math_normalize : FuncId := 295
abbrev f_math_Float64bits : FuncId := 296
abbrev f_math_Copysign : FuncId := 297
abbrev f_cmp_isNaN_int : FuncId := 298
abbrev f_cmp_isNaN_uint32 : FuncId := 299
abbrev f_internal_strconv_Itoa : FuncId := 300
abbrev f_math_Abs : FuncId := 301
abbrev f_internal_strconv_FormatInt : FuncId := 302
abbrev f_internal_strconv_small : FuncId := 303
abbrev f_internal_strconv_numDigits : FuncId := 304
abbrev f_internal_strconv_formatBase10 : FuncId := 305
abbrev f_internal_strconv_formatBits : FuncId := 306
abbrev f_internal_strconv_log10Pow2 : FuncId := 307
abbrev f_math_bits_Len64 : FuncId := 308
abbrev f_internal_strconv_bool2_int : FuncId := 309
abbrev f_internal_strconv_isPowerOfTwo : FuncId := 310
abbrev f_math_bits_TrailingZeros : FuncId := 311
abbrev f_math_bits_TrailingZeros32 : FuncId := 312
abbrev f_math_bits_TrailingZeros64 : FuncId := 313
abbrev f_internal_abi_Type_Align : FuncId := 326
abbrev f_internal_runtime_maps_unhashableTypeError_Error : FuncId := 327
abbrev f_internal_runtime_maps_unhashableTypeError_RuntimeError : FuncId := 328
abbrev f_impl_integer_String : FuncId := 329
abbrev f_impl_num_high : FuncId := 330
abbrev f_strings_Builder_Reset : FuncId := 331
abbrev f_internal_strconv_Error_Error : FuncId := 332
abbrev f_strconv_NumError_Error : FuncId := 333
abbrev f_errors_errorString_Error : FuncId := 334
abbrev f_internal_abi_Kind_String : FuncId := 335
abbrev f_var_s_door_gosem_cut_vars_holds_initialisers_alone_see_the_manifest_s_row_cutvarsword_look_11_test_files_too : FuncId := 336
abbrev f_var_s_door_internal_strconv_uint64pow10_is_laid_by_its_own_initialiser_plain_data_look_11 : FuncId := 337
abbrev f_var_s_door_math_bits_deBruijn32tab_is_laid_by_its_own_initialiser_plain_data_look_11 : FuncId := 338
abbrev f_var_s_door_math_bits_deBruijn64tab_is_laid_by_its_own_initialiser_plain_data_look_11 : FuncId := 339
abbrev f_var_s_door_strconv_ErrRange_is_laid_by_its_own_call_of_errors_New_on_one_literal_look_11 : FuncId := 340
abbrev f_var_s_door_strconv_ErrSyntax_is_laid_by_its_own_call_of_errors_New_on_one_literal_look_11 : FuncId := 341
abbrev f_var_s_door_the_look_of_gosem_cut_vars_went_over_the_folder_that_the_caller_named_as_the_repository_s_root_look_11 : FuncId := 342
abbrev f_var_s_door_unicode_utf8_acceptRanges_is_laid_by_its_own_initialiser_plain_data_look_11 : FuncId := 343
abbrev f_var_s_door_unicode_utf8_first_is_laid_by_its_text_alone_pinned_1 : FuncId := 344
noncomputable abbrev F_math_Float32bits : Func := Tryz.f173
theorem fun_math_Float32bits : P.funcs[f_math_Float32bits]? = some F_math_Float32bits := Tryz.func173
noncomputable abbrev F_internal_bytealg_CountString : Func := Tryz.f210
theorem fun_internal_bytealg_CountString : P.funcs[f_internal_bytealg_CountString]? = some F_internal_bytealg_CountString := Tryz.func210
noncomputable abbrev F_internal_bytealg_MakeNoZero : Func := Tryz.f245
theorem fun_internal_bytealg_MakeNoZero : P.funcs[f_internal_bytealg_MakeNoZero]? = some F_internal_bytealg_MakeNoZero := Tryz.func245
noncomputable abbrev F_internal_bytealg_IndexString : Func := Tryz.f248
theorem fun_internal_bytealg_IndexString : P.funcs[f_internal_bytealg_IndexString]? = some F_internal_bytealg_IndexString := Tryz.func248
noncomputable abbrev F_internal_bytealg_IndexByteString : Func := Tryz.f273
theorem fun_internal_bytealg_IndexByteString : P.funcs[f_internal_bytealg_IndexByteString]? = some F_internal_bytealg_IndexByteString := Tryz.func273
noncomputable abbrev F_math_Float32frombits : Func := Tryz.f281
theorem fun_math_Float32frombits : P.funcs[f_math_Float32frombits]? = some F_math_Float32frombits := Tryz.func281
noncomputable abbrev F_math_Float64frombits : Func := Tryz.f292
theorem fun_math_Float64frombits : P.funcs[f_math_Float64frombits]? = some F_math_Float64frombits := Tryz.func292
noncomputable abbrev F_math_Float64bits : Func := Tryz.f296
theorem fun_math_Float64bits : P.funcs[f_math_Float64bits]? = some F_math_Float64bits := Tryz.func296
abbrev t_int64 : TypeId := 2
theorem u_int64 : P.underlying 2 = some (.int .i64) := Tryz.underlying2
theorem i_int64 : TI P 2 (.int .i64 0) 1 8 := TI_of (by kernel_rfl)
abbrev t_int : TypeId := 3
theorem u_int : P.underlying 3 = some (.int .i64) := Tryz.underlying3
theorem i_int : TI P 3 (.int .i64 0) 1 8 := TI_of (by kernel_rfl)
abbrev t_bool : TypeId := 4
theorem u_bool : P.underlying 4 = some (.bool) := Tryz.underlying4
theorem i_bool : TI P 4 (.bool false) 1 1 := TI_of (by kernel_rfl)
abbrev t_uint8 : TypeId := 5
theorem u_uint8 : P.underlying 5 = some (.int .u8) := Tryz.underlying5
theorem i_uint8 : TI P 5 (.int .u8 0) 1 1 := TI_of (by kernel_rfl)
abbrev t_string : TypeId := 9
theorem u_string : P.underlying 9 = some (.string) := Tryz.underlying9
theorem i_string : TI P 9 (.string ⟨#[]⟩) 1 16 := TI_of (by kernel_rfl)
abbrev t_uintptr : TypeId := 12
theorem u_uintptr : P.underlying 12 = some (.int .u64) := Tryz.underlying12
theorem i_uintptr : TI P 12 (.int .u64 0) 1 8 := TI_of (by kernel_rfl)
abbrev t_p_runtime_TypeAssertionError : TypeId := 15
theorem u_p_runtime_TypeAssertionError : P.underlying 15 = some (.pointer 322) := Tryz.underlying15
theorem i_p_runtime_TypeAssertionError : TI P 15 (.pointer none) 1 8 := TI_of (by kernel_rfl)
abbrev t_p_runtime_PanicNilError : TypeId := 16
theorem u_p_runtime_PanicNilError : P.underlying 16 = some (.pointer 325) := Tryz.underlying16
theorem i_p_runtime_PanicNilError : TI P 16 (.pointer none) 1 8 := TI_of (by kernel_rfl)
abbrev t_p_abi_Type : TypeId := 17
theorem u_p_abi_Type : P.underlying 17 = some (.pointer 332) := Tryz.underlying17
theorem i_p_abi_Type : TI P 17 (.pointer none) 1 8 := TI_of (by kernel_rfl)
abbrev t_int32 : TypeId := 21
theorem u_int32 : P.underlying 21 = some (.int .i32) := Tryz.underlying21
theorem i_int32 : TI P 21 (.int .i32 0) 1 4 := TI_of (by kernel_rfl)
abbrev t_s_string : TypeId := 22
theorem u_s_string : P.underlying 22 = some (.slice 9) := Tryz.underlying22
theorem i_s_string : TI P 22 (.slice none 0 0) 1 24 := TI_of (by kernel_rfl)
abbrev t_laws_Program : TypeId := 24
theorem u_laws_Program : P.underlying 24 = some (.struct #[{ name := "Words", type := 22, offset := 0, embedded := false, tag := "", pkgPath := "", byteOffset := 0 }]) := Tryz.underlying24
theorem i_laws_Program : TI P 24 (.agg #[(.slice none 0 0)]) 1 24 := TI_of (by kernel_rfl)
abbrev t_impl_Program : TypeId := 27
theorem u_impl_Program : P.underlying 27 = some (.struct #[{ name := "Words", type := 22, offset := 0, embedded := false, tag := "", pkgPath := "", byteOffset := 0 }]) := Tryz.underlying27
theorem i_impl_Program : TI P 27 (.agg #[(.slice none 0 0)]) 1 24 := TI_of (by kernel_rfl)
abbrev t_s_laws_Program : TypeId := 39
theorem u_s_laws_Program : P.underlying 39 = some (.slice 24) := Tryz.underlying39
theorem i_s_laws_Program : TI P 39 (.slice none 0 0) 1 24 := TI_of (by kernel_rfl)
abbrev t_s_laws_Kept : TypeId := 40
theorem u_s_laws_Kept : P.underlying 40 = some (.slice 138) := Tryz.underlying40
theorem i_s_laws_Kept : TI P 40 (.slice none 0 0) 1 24 := TI_of (by kernel_rfl)
abbrev t_laws_Server : TypeId := 42
theorem u_laws_Server : P.underlying 42 = some (.struct #[{ name := "Names", type := 22, offset := 0, embedded := false, tag := "", pkgPath := "", byteOffset := 0 }, { name := "Programs", type := 39, offset := 1, embedded := false, tag := "", pkgPath := "", byteOffset := 24 }, { name := "Results", type := 40, offset := 2, embedded := false, tag := "", pkgPath := "", byteOffset := 48 }]) := Tryz.underlying42
theorem i_laws_Server : TI P 42 (.agg #[(.slice none 0 0), (.slice none 0 0), (.slice none 0 0)]) 3 72 := TI_of (by kernel_rfl)
abbrev t_s_impl_Program : TypeId := 45
theorem u_s_impl_Program : P.underlying 45 = some (.slice 27) := Tryz.underlying45
theorem i_s_impl_Program : TI P 45 (.slice none 0 0) 1 24 := TI_of (by kernel_rfl)
abbrev t_s_impl_Kept : TypeId := 46
theorem u_s_impl_Kept : P.underlying 46 = some (.slice 96) := Tryz.underlying46
theorem i_s_impl_Kept : TI P 46 (.slice none 0 0) 1 24 := TI_of (by kernel_rfl)
abbrev t_impl_Server : TypeId := 48
theorem u_impl_Server : P.underlying 48 = some (.struct #[{ name := "Names", type := 22, offset := 0, embedded := false, tag := "", pkgPath := "", byteOffset := 0 }, { name := "Programs", type := 45, offset := 1, embedded := false, tag := "", pkgPath := "", byteOffset := 24 }, { name := "Results", type := 46, offset := 2, embedded := false, tag := "", pkgPath := "", byteOffset := 48 }]) := Tryz.underlying48
theorem i_impl_Server : TI P 48 (.agg #[(.slice none 0 0), (.slice none 0 0), (.slice none 0 0)]) 3 72 := TI_of (by kernel_rfl)
abbrev t_s_float32 : TypeId := 52
theorem u_s_float32 : P.underlying 52 = some (.slice 66) := Tryz.underlying52
theorem i_s_float32 : TI P 52 (.slice none 0 0) 1 24 := TI_of (by kernel_rfl)
abbrev t_s_int64 : TypeId := 53
theorem u_s_int64 : P.underlying 53 = some (.slice 2) := Tryz.underlying53
theorem i_s_int64 : TI P 53 (.slice none 0 0) 1 24 := TI_of (by kernel_rfl)
abbrev t_impl_Whole : TypeId := 55
theorem u_impl_Whole : P.underlying 55 = some (.struct #[{ name := "Sign", type := 2, offset := 0, embedded := false, tag := "", pkgPath := "", byteOffset := 0 }, { name := "Limbs", type := 53, offset := 1, embedded := false, tag := "", pkgPath := "", byteOffset := 8 }]) := Tryz.underlying55
theorem i_impl_Whole : TI P 55 (.agg #[(.int .i64 0), (.slice none 0 0)]) 2 32 := TI_of (by kernel_rfl)
abbrev t_impl_Dyadic : TypeId := 57
theorem u_impl_Dyadic : P.underlying 57 = some (.struct #[{ name := "Whole", type := 55, offset := 0, embedded := false, tag := "", pkgPath := "", byteOffset := 0 }, { name := "Exponent", type := 2, offset := 2, embedded := false, tag := "", pkgPath := "", byteOffset := 32 }]) := Tryz.underlying57
theorem i_impl_Dyadic : TI P 57 (.agg #[(.int .i64 0), (.slice none 0 0), (.int .i64 0)]) 3 40 := TI_of (by kernel_rfl)
abbrev t_float32 : TypeId := 66
theorem u_float32 : P.underlying 66 = some (.float .f32) := Tryz.underlying66
theorem i_float32 : TI P 66 (.float .f32 0) 1 4 := TI_of (by kernel_rfl)
abbrev t_impl_Pair : TypeId := 68
theorem u_impl_Pair : P.underlying 68 = some (.struct #[{ name := "High", type := 66, offset := 0, embedded := false, tag := "", pkgPath := "", byteOffset := 0 }, { name := "Low", type := 66, offset := 1, embedded := false, tag := "", pkgPath := "", byteOffset := 4 }]) := Tryz.underlying68
theorem i_impl_Pair : TI P 68 (.agg #[(.float .f32 0), (.float .f32 0)]) 2 8 := TI_of (by kernel_rfl)
abbrev t_s_uint8 : TypeId := 72
theorem u_s_uint8 : P.underlying 72 = some (.slice 5) := Tryz.underlying72
theorem i_s_uint8 : TI P 72 (.slice none 0 0) 1 24 := TI_of (by kernel_rfl)
abbrev t_impl_Kept : TypeId := 96
theorem u_impl_Kept : P.underlying 96 = some (.struct #[{ name := "Key", type := 9, offset := 0, embedded := false, tag := "", pkgPath := "", byteOffset := 0 }, { name := "Output", type := 9, offset := 1, embedded := false, tag := "", pkgPath := "", byteOffset := 16 }]) := Tryz.underlying96
theorem i_impl_Kept : TI P 96 (.agg #[(.string ⟨#[]⟩), (.string ⟨#[]⟩)]) 2 32 := TI_of (by kernel_rfl)
abbrev t_s_impl_num : TypeId := 102
theorem u_s_impl_num : P.underlying 102 = some (.slice 105) := Tryz.underlying102
theorem i_s_impl_num : TI P 102 (.slice none 0 0) 1 24 := TI_of (by kernel_rfl)
abbrev t_p_impl_integer : TypeId := 103
theorem u_p_impl_integer : P.underlying 103 = some (.pointer 158) := Tryz.underlying103
theorem i_p_impl_integer : TI P 103 (.pointer none) 1 8 := TI_of (by kernel_rfl)
abbrev t_impl_num : TypeId := 105
theorem u_impl_num : P.underlying 105 = some (.struct #[{ name := "m", type := 103, offset := 0, embedded := false, tag := "", pkgPath := "loop.example/g01172/impl", byteOffset := 0 }, { name := "e", type := 3, offset := 1, embedded := false, tag := "", pkgPath := "loop.example/g01172/impl", byteOffset := 8 }]) := Tryz.underlying105
theorem i_impl_num : TI P 105 (.agg #[(.pointer none), (.int .i64 0)]) 2 16 := TI_of (by kernel_rfl)
abbrev t_float64 : TypeId := 117
theorem u_float64 : P.underlying 117 = some (.float .f64) := Tryz.underlying117
theorem i_float64 : TI P 117 (.float .f64 0) 1 8 := TI_of (by kernel_rfl)
abbrev t_s_impl_Pair : TypeId := 119
theorem u_s_impl_Pair : P.underlying 119 = some (.slice 68) := Tryz.underlying119
theorem i_s_impl_Pair : TI P 119 (.slice none 0 0) 1 24 := TI_of (by kernel_rfl)
abbrev t_p_spec_l01Source : TypeId := 129
theorem u_p_spec_l01Source : P.underlying 129 = some (.pointer 180) := Tryz.underlying129
theorem i_p_spec_l01Source : TI P 129 (.pointer none) 1 8 := TI_of (by kernel_rfl)
abbrev t_laws_Kept : TypeId := 138
theorem u_laws_Kept : P.underlying 138 = some (.struct #[{ name := "Key", type := 9, offset := 0, embedded := false, tag := "", pkgPath := "", byteOffset := 0 }, { name := "Output", type := 9, offset := 1, embedded := false, tag := "", pkgPath := "", byteOffset := 16 }]) := Tryz.underlying138
theorem i_laws_Kept : TI P 138 (.agg #[(.string ⟨#[]⟩), (.string ⟨#[]⟩)]) 2 32 := TI_of (by kernel_rfl)
abbrev t_s_impl_Dyadic : TypeId := 145
theorem u_s_impl_Dyadic : P.underlying 145 = some (.slice 57) := Tryz.underlying145
theorem i_s_impl_Dyadic : TI P 145 (.slice none 0 0) 1 24 := TI_of (by kernel_rfl)
abbrev t_uint : TypeId := 154
theorem u_uint : P.underlying 154 = some (.int .u64) := Tryz.underlying154
theorem i_uint : TI P 154 (.int .u64 0) 1 8 := TI_of (by kernel_rfl)
abbrev t_s_uint32 : TypeId := 156
theorem u_s_uint32 : P.underlying 156 = some (.slice 202) := Tryz.underlying156
theorem i_s_uint32 : TI P 156 (.slice none 0 0) 1 24 := TI_of (by kernel_rfl)
abbrev t_impl_integer : TypeId := 158
theorem u_impl_integer : P.underlying 158 = some (.struct #[{ name := "neg", type := 4, offset := 0, embedded := false, tag := "", pkgPath := "loop.example/g01172/impl", byteOffset := 0 }, { name := "mag", type := 156, offset := 1, embedded := false, tag := "", pkgPath := "loop.example/g01172/impl", byteOffset := 8 }]) := Tryz.underlying158
theorem i_impl_integer : TI P 158 (.agg #[(.bool false), (.slice none 0 0)]) 2 32 := TI_of (by kernel_rfl)
abbrev t_p_impl_num : TypeId := 160
theorem u_p_impl_num : P.underlying 160 = some (.pointer 105) := Tryz.underlying160
theorem i_p_impl_num : TI P 160 (.pointer none) 1 8 := TI_of (by kernel_rfl)
abbrev t_p_impl_Pair : TypeId := 175
theorem u_p_impl_Pair : P.underlying 175 = some (.pointer 68) := Tryz.underlying175
theorem i_p_impl_Pair : TI P 175 (.pointer none) 1 8 := TI_of (by kernel_rfl)
abbrev t_uint64 : TypeId := 178
theorem u_uint64 : P.underlying 178 = some (.int .u64) := Tryz.underlying178
theorem i_uint64 : TI P 178 (.int .u64 0) 1 8 := TI_of (by kernel_rfl)
abbrev t_spec_l01Source : TypeId := 180
theorem u_spec_l01Source : P.underlying 180 = some (.struct #[{ name := "code", type := 72, offset := 0, embedded := false, tag := "", pkgPath := "loop.example/g01172/spec", byteOffset := 0 }, { name := "at", type := 3, offset := 1, embedded := false, tag := "", pkgPath := "loop.example/g01172/spec", byteOffset := 24 }, { name := "hash", type := 178, offset := 2, embedded := false, tag := "", pkgPath := "loop.example/g01172/spec", byteOffset := 32 }]) := Tryz.underlying180
theorem i_spec_l01Source : TI P 180 (.agg #[(.slice none 0 0), (.int .i64 0), (.int .u64 0)]) 3 40 := TI_of (by kernel_rfl)
abbrev t_p_strings_Builder : TypeId := 184
theorem u_p_strings_Builder : P.underlying 184 = some (.pointer 186) := Tryz.underlying184
theorem i_p_strings_Builder : TI P 184 (.pointer none) 1 8 := TI_of (by kernel_rfl)
abbrev t_uint32 : TypeId := 202
theorem u_uint32 : P.underlying 202 = some (.int .u32) := Tryz.underlying202
theorem i_uint32 : TI P 202 (.int .u32 0) 1 4 := TI_of (by kernel_rfl)
abbrev t_p_uint8 : TypeId := 226
theorem u_p_uint8 : P.underlying 226 = some (.pointer 5) := Tryz.underlying226
theorem i_p_uint8 : TI P 226 (.pointer none) 1 8 := TI_of (by kernel_rfl)
abbrev t_p_strconv_NumError : TypeId := 283
theorem u_p_strconv_NumError : P.underlying 283 = some (.pointer 293) := Tryz.underlying283
theorem i_p_strconv_NumError : TI P 283 (.pointer none) 1 8 := TI_of (by kernel_rfl)
abbrev t_p_errors_errorString : TypeId := 304
theorem u_p_errors_errorString : P.underlying 304 = some (.pointer 306) := Tryz.underlying304
theorem i_p_errors_errorString : TI P 304 (.pointer none) 1 8 := TI_of (by kernel_rfl)
abbrev t_errors_errorString : TypeId := 306
theorem u_errors_errorString : P.underlying 306 = some (.struct #[{ name := "s", type := 9, offset := 0, embedded := false, tag := "", pkgPath := "errors", byteOffset := 0 }]) := Tryz.underlying306
theorem i_errors_errorString : TI P 306 (.agg #[(.string ⟨#[]⟩)]) 1 16 := TI_of (by kernel_rfl)
abbrev t_error : TypeId := 189
theorem u_error : ∃ ms, P.underlying 189 = some (.interface ms) := ⟨_, Tryz.underlying189⟩
@[simp] theorem l_s_string {w : World} {K : Value → Prop} {ty : TypeId} (a : Option Addr) (n c : Nat) : bl0 P .len #[22] ty [.slice a n c] w K = K (.int .i64 n) := bl0_len u_s_string
@[simp] theorem d_laws_Program_0 {w : World} {K : Value → Prop} (a : Addr) : fda P 24 (.pointer (some a)) 0 w K = K (.pointer (some (a.add 0))) := fda_off (s := 1) u_laws_Program rfl i_s_string (by decide)
@[simp] theorem d_impl_Program_0 {w : World} {K : Value → Prop} (a : Addr) : fda P 27 (.pointer (some a)) 0 w K = K (.pointer (some (a.add 0))) := fda_off (s := 1) u_impl_Program rfl i_s_string (by decide)
@[simp] theorem l_s_laws_Program {w : World} {K : Value → Prop} {ty : TypeId} (a : Option Addr) (n c : Nat) : bl0 P .len #[39] ty [.slice a n c] w K = K (.int .i64 n) := bl0_len u_s_laws_Program
@[simp] theorem l_s_laws_Kept {w : World} {K : Value → Prop} {ty : TypeId} (a : Option Addr) (n c : Nat) : bl0 P .len #[40] ty [.slice a n c] w K = K (.int .i64 n) := bl0_len u_s_laws_Kept
@[simp] theorem d_laws_Server_0 {w : World} {K : Value → Prop} (a : Addr) : fda P 42 (.pointer (some a)) 0 w K = K (.pointer (some (a.add 0))) := fda_off (s := 1) u_laws_Server rfl i_s_string (by decide)
@[simp] theorem d_laws_Server_1 {w : World} {K : Value → Prop} (a : Addr) : fda P 42 (.pointer (some a)) 1 w K = K (.pointer (some (a.add 1))) := fda_off (s := 1) u_laws_Server rfl i_s_laws_Program (by decide)
@[simp] theorem d_laws_Server_2 {w : World} {K : Value → Prop} (a : Addr) : fda P 42 (.pointer (some a)) 2 w K = K (.pointer (some (a.add 2))) := fda_off (s := 1) u_laws_Server rfl i_s_laws_Kept (by decide)
@[simp] theorem l_s_impl_Program {w : World} {K : Value → Prop} {ty : TypeId} (a : Option Addr) (n c : Nat) : bl0 P .len #[45] ty [.slice a n c] w K = K (.int .i64 n) := bl0_len u_s_impl_Program
@[simp] theorem l_s_impl_Kept {w : World} {K : Value → Prop} {ty : TypeId} (a : Option Addr) (n c : Nat) : bl0 P .len #[46] ty [.slice a n c] w K = K (.int .i64 n) := bl0_len u_s_impl_Kept
@[simp] theorem d_impl_Server_0 {w : World} {K : Value → Prop} (a : Addr) : fda P 48 (.pointer (some a)) 0 w K = K (.pointer (some (a.add 0))) := fda_off (s := 1) u_impl_Server rfl i_s_string (by decide)
@[simp] theorem d_impl_Server_1 {w : World} {K : Value → Prop} (a : Addr) : fda P 48 (.pointer (some a)) 1 w K = K (.pointer (some (a.add 1))) := fda_off (s := 1) u_impl_Server rfl i_s_impl_Program (by decide)
@[simp] theorem d_impl_Server_2 {w : World} {K : Value → Prop} (a : Addr) : fda P 48 (.pointer (some a)) 2 w K = K (.pointer (some (a.add 2))) := fda_off (s := 1) u_impl_Server rfl i_s_impl_Kept (by decide)
@[simp] theorem l_s_float32 {w : World} {K : Value → Prop} {ty : TypeId} (a : Option Addr) (n c : Nat) : bl0 P .len #[52] ty [.slice a n c] w K = K (.int .i64 n) := bl0_len u_s_float32
@[simp] theorem l_s_int64 {w : World} {K : Value → Prop} {ty : TypeId} (a : Option Addr) (n c : Nat) : bl0 P .len #[53] ty [.slice a n c] w K = K (.int .i64 n) := bl0_len u_s_int64
@[simp] theorem d_impl_Whole_0 {w : World} {K : Value → Prop} (a : Addr) : fda P 55 (.pointer (some a)) 0 w K = K (.pointer (some (a.add 0))) := fda_off (s := 1) u_impl_Whole rfl i_int64 (by decide)
@[simp] theorem d_impl_Whole_1 {w : World} {K : Value → Prop} (a : Addr) : fda P 55 (.pointer (some a)) 1 w K = K (.pointer (some (a.add 1))) := fda_off (s := 1) u_impl_Whole rfl i_s_int64 (by decide)
@[simp] theorem d_impl_Dyadic_0 {w : World} {K : Value → Prop} (a : Addr) : fda P 57 (.pointer (some a)) 0 w K = K (.pointer (some (a.add 0))) := fda_off (s := 2) u_impl_Dyadic rfl i_impl_Whole (by decide)
@[simp] theorem d_impl_Dyadic_1 {w : World} {K : Value → Prop} (a : Addr) : fda P 57 (.pointer (some a)) 1 w K = K (.pointer (some (a.add 2))) := fda_off (s := 1) u_impl_Dyadic rfl i_int64 (by decide)
@[simp] theorem d_impl_Pair_0 {w : World} {K : Value → Prop} (a : Addr) : fda P 68 (.pointer (some a)) 0 w K = K (.pointer (some (a.add 0))) := fda_off (s := 1) u_impl_Pair rfl i_float32 (by decide)
@[simp] theorem d_impl_Pair_1 {w : World} {K : Value → Prop} (a : Addr) : fda P 68 (.pointer (some a)) 1 w K = K (.pointer (some (a.add 1))) := fda_off (s := 1) u_impl_Pair rfl i_float32 (by decide)
@[simp] theorem l_s_uint8 {w : World} {K : Value → Prop} {ty : TypeId} (a : Option Addr) (n c : Nat) : bl0 P .len #[72] ty [.slice a n c] w K = K (.int .i64 n) := bl0_len u_s_uint8
@[simp] theorem d_impl_Kept_0 {w : World} {K : Value → Prop} (a : Addr) : fda P 96 (.pointer (some a)) 0 w K = K (.pointer (some (a.add 0))) := fda_off (s := 1) u_impl_Kept rfl i_string (by decide)
@[simp] theorem d_impl_Kept_1 {w : World} {K : Value → Prop} (a : Addr) : fda P 96 (.pointer (some a)) 1 w K = K (.pointer (some (a.add 1))) := fda_off (s := 1) u_impl_Kept rfl i_string (by decide)
@[simp] theorem l_s_impl_num {w : World} {K : Value → Prop} {ty : TypeId} (a : Option Addr) (n c : Nat) : bl0 P .len #[102] ty [.slice a n c] w K = K (.int .i64 n) := bl0_len u_s_impl_num
@[simp] theorem d_impl_num_0 {w : World} {K : Value → Prop} (a : Addr) : fda P 105 (.pointer (some a)) 0 w K = K (.pointer (some (a.add 0))) := fda_off (s := 1) u_impl_num rfl i_p_impl_integer (by decide)
@[simp] theorem d_impl_num_1 {w : World} {K : Value → Prop} (a : Addr) : fda P 105 (.pointer (some a)) 1 w K = K (.pointer (some (a.add 1))) := fda_off (s := 1) u_impl_num rfl i_int (by decide)
@[simp] theorem l_s_impl_Pair {w : World} {K : Value → Prop} {ty : TypeId} (a : Option Addr) (n c : Nat) : bl0 P .len #[119] ty [.slice a n c] w K = K (.int .i64 n) := bl0_len u_s_impl_Pair
@[simp] theorem d_laws_Kept_0 {w : World} {K : Value → Prop} (a : Addr) : fda P 138 (.pointer (some a)) 0 w K = K (.pointer (some (a.add 0))) := fda_off (s := 1) u_laws_Kept rfl i_string (by decide)
@[simp] theorem d_laws_Kept_1 {w : World} {K : Value → Prop} (a : Addr) : fda P 138 (.pointer (some a)) 1 w K = K (.pointer (some (a.add 1))) := fda_off (s := 1) u_laws_Kept rfl i_string (by decide)
@[simp] theorem l_s_impl_Dyadic {w : World} {K : Value → Prop} {ty : TypeId} (a : Option Addr) (n c : Nat) : bl0 P .len #[145] ty [.slice a n c] w K = K (.int .i64 n) := bl0_len u_s_impl_Dyadic
@[simp] theorem l_s_uint32 {w : World} {K : Value → Prop} {ty : TypeId} (a : Option Addr) (n c : Nat) : bl0 P .len #[156] ty [.slice a n c] w K = K (.int .i64 n) := bl0_len u_s_uint32
@[simp] theorem d_impl_integer_0 {w : World} {K : Value → Prop} (a : Addr) : fda P 158 (.pointer (some a)) 0 w K = K (.pointer (some (a.add 0))) := fda_off (s := 1) u_impl_integer rfl i_bool (by decide)
@[simp] theorem d_impl_integer_1 {w : World} {K : Value → Prop} (a : Addr) : fda P 158 (.pointer (some a)) 1 w K = K (.pointer (some (a.add 1))) := fda_off (s := 1) u_impl_integer rfl i_s_uint32 (by decide)
@[simp] theorem d_spec_l01Source_0 {w : World} {K : Value → Prop} (a : Addr) : fda P 180 (.pointer (some a)) 0 w K = K (.pointer (some (a.add 0))) := fda_off (s := 1) u_spec_l01Source rfl i_s_uint8 (by decide)
@[simp] theorem d_spec_l01Source_1 {w : World} {K : Value → Prop} (a : Addr) : fda P 180 (.pointer (some a)) 1 w K = K (.pointer (some (a.add 1))) := fda_off (s := 1) u_spec_l01Source rfl i_int (by decide)
@[simp] theorem d_spec_l01Source_2 {w : World} {K : Value → Prop} (a : Addr) : fda P 180 (.pointer (some a)) 2 w K = K (.pointer (some (a.add 2))) := fda_off (s := 1) u_spec_l01Source rfl i_uint64 (by decide)
@[simp] theorem d_errors_errorString_0 {w : World} {K : Value → Prop} (a : Addr) : fda P 306 (.pointer (some a)) 0 w K = K (.pointer (some (a.add 0))) := fda_off (s := 1) u_errors_errorString rfl i_string (by decide)
end Go.Proofs.YtjompmflommadaaGreatDoor

/- Written by a program (gen.py): what is left to show of each function's call. -/
set_option linter.unusedVariables false
set_option maxRecDepth 20000
namespace Go.Proofs.YtjompmflommadaaGreatDoor
open Go Go.Vc

/-- impl.atPlace -/
def D_impl_atPlace (a0 : Value) (w : World) (K : Value → World → Prop) : Prop :=
  bin P .lss 2 false true a0 (.int .i64 0) w fun x4_1 =>
  cnd x4_1
    (una P .neg a0 w fun x6_2 =>
    cnv P 2 202 x6_2 w fun x7_3 =>
    bin P .or 202 false true x7_3 (.int .u32 2147483648) w fun x8_4 =>
    call P f_math_Float32frombits [x8_4] w fun x9_5 w6 =>
    K x9_5 w6)
    (cnv P 2 202 a0 w fun x11_7 =>
    call P f_math_Float32frombits [x11_7] w fun x12_8 w9 =>
    K x12_8 w9)
def P_impl_atPlace : Plan := (.seq (.reg [.op (0, 0, false)]) (.seq (.seq (.reg [.op (0, 0, false), .op (1, 0, false)]) (.cond (.seq (.reg [.op (0, 0, false), .op (1, 0, false), .op (2, 0, false), .op (3, 0, false), .op (4, 2, false), .op (5, 0, false)]) .leaf) .leaf)) (.seq (.reg [.op (0, 0, false), .op (1, 0, false), .op (2, 2, false), .op (3, 0, false)]) .leaf)))
theorem I_impl_atPlace {a0 : Value} {w : World} {K : Value → World → Prop} (h : D_impl_atPlace a0 w K) : call P f_impl_atPlace [a0] w K :=
  call_of_vc mixed Tryz.func263 (c := codeOf Tryz.f263) (by kernel_rfl) (by kernel_rfl) (p := P_impl_atPlace) (by kernel_rfl) (by rw [Tryz.ntmps263]; simp) (by
    have e : D_impl_atPlace a0 w K = vc P P_impl_atPlace (codeOf Tryz.f263) (env0 [a0]) w (retX P Tryz.f263.results.toList K) := by kernel_rfl
    exact e ▸ h)

/-- impl.infinite -/
def D_impl_infinite (a0 : Value) (w : World) (K : Value → World → Prop) : Prop :=
  call P f_math_Inf [a0] w fun x4_1 w2 =>
  rcnv P 117 66 x4_1 w2 fun x5_3 =>
  K x5_3 w2
def P_impl_infinite : Plan := (.seq (.reg [.op (0, 0, false)]) (.seq (.reg [.op (0, 0, false), .op (1, 2, false), .op (2, 1, false), .op (3, 0, false)]) .leaf))
theorem I_impl_infinite {a0 : Value} {w : World} {K : Value → World → Prop} (h : D_impl_infinite a0 w K) : call P f_impl_infinite [a0] w K :=
  call_of_vc mixed Tryz.func264 (c := codeOf Tryz.f264) (by kernel_rfl) (by kernel_rfl) (p := P_impl_infinite) (by kernel_rfl) (by rw [Tryz.ntmps264]; simp) (by
    have e : D_impl_infinite a0 w K = vc P P_impl_infinite (codeOf Tryz.f264) (env0 [a0]) w (retX P Tryz.f264.results.toList K) := by kernel_rfl
    exact e ▸ h)

end Go.Proofs.YtjompmflommadaaGreatDoor

/- Written by a program (gen.py): what is left to show of each function's call. -/
set_option linter.unusedVariables false
set_option maxRecDepth 20000
namespace Go.Proofs.YtjompmflommadaaGreatDoor
open Go Go.Vc

end Go.Proofs.YtjompmflommadaaGreatDoor

/- Written by a program (gen.py): what is left to show of each function's call. -/
set_option linter.unusedVariables false
set_option maxRecDepth 20000
namespace Go.Proofs.YtjompmflommadaaGreatDoor
open Go Go.Vc

/-- spec.l01In -/
def D_spec_l01In (a0 a1 a2 : Value) (w : World) (K : Value → World → Prop) : Prop :=
  bin P .geq 2 false false a0 a1 w fun x9_1 =>
  ∃ J2 : Value → World → Prop, (∀ (x13_3 : Value) (junk5 : Env) (w4 : World), J2 x13_3 w4 →
    pick x9_1 x13_3 (.bool false) fun x14_6 =>
    K x14_6 w4) ∧
    grd x9_1 true
      (bin P .leq 2 false false a0 a2 w fun x13_7 =>
      J2 x13_7 w)
      (J2 undef w)
def P_spec_l01In : Plan := (.seq (.reg [.op (0, 0, false)]) (.seq (.reg [.op (0, 0, false), .op (1, 0, false), .op (2, 0, false), .op (3, 0, false), .grp 3 true [(4, 0, false), (5, 0, false), (6, 0, false)] [13] 14336, .op (7, 0, false), .op (8, 0, false)]) .leaf))
theorem I_spec_l01In {a0 a1 a2 : Value} {w : World} {K : Value → World → Prop} (h : D_spec_l01In a0 a1 a2 w K) : call P f_spec_l01In [a0, a1, a2] w K :=
  call_of_vc mixed Tryz.func117 (c := codeOf Tryz.f117) (by kernel_rfl) (by kernel_rfl) (p := P_spec_l01In) (by kernel_rfl) (by rw [Tryz.ntmps117]; simp) (by
    have e : D_spec_l01In a0 a1 a2 w K = vc P P_spec_l01In (codeOf Tryz.f117) (env0 [a0, a1, a2]) w (retX P Tryz.f117.results.toList K) := by kernel_rfl
    exact e ▸ h)

/-- spec.l01Turned -/
def D_spec_l01Turned (a0 : Value) (w : World) (K : Value → World → Prop) : Prop :=
  rbin P .mul 66 false true a0 (.float .f32 3212836864) w fun x4_1 =>
  K x4_1 w
def P_spec_l01Turned : Plan := (.seq (.reg [.op (0, 0, false)]) (.seq (.reg [.op (0, 0, false), .op (1, 1, false), .op (2, 0, false)]) .leaf))
theorem I_spec_l01Turned {a0 : Value} {w : World} {K : Value → World → Prop} (h : D_spec_l01Turned a0 w K) : call P f_spec_l01Turned [a0] w K :=
  call_of_vc mixed Tryz.func193 (c := codeOf Tryz.f193) (by kernel_rfl) (by kernel_rfl) (p := P_spec_l01Turned) (by kernel_rfl) (by rw [Tryz.ntmps193]; simp) (by
    have e : D_spec_l01Turned a0 w K = vc P P_spec_l01Turned (codeOf Tryz.f193) (env0 [a0]) w (retX P Tryz.f193.results.toList K) := by kernel_rfl
    exact e ▸ h)

/-- spec.l01Twos -/
def D_spec_l01Twos (a0 a1 : Value) (w : World) (K : Value → World → Prop) : Prop :=
  ∃ I1 : Nat → Value → Value → World → Prop, (∃ m22, I1 m22 a0 a1 w) ∧ ∀ (m4 : Nat) (x0_5 : Value) (x1_6 : Value) (junk2 : Env) (w3 : World), I1 m4 x0_5 x1_6 w3 →
    bin P .gtr 2 false true x1_6 (.int .i64 0) w3 fun x6_7 =>
    cnd x6_7
      (rbin P .mul 117 false true x0_5 (.float .f64 4611686018427387904) w3 fun x10_8 =>
      bin P .sub 2 false true x1_6 (.int .i64 1) w3 fun x8_9 =>
      ∃ m10, m10 < m4 ∧ I1 m10 x10_8 x8_9 w3)
      (∃ I11 : Nat → Value → Value → World → Prop, (∃ m21, I11 m21 x0_5 x1_6 w3) ∧ ∀ (m14 : Nat) (x0_15 : Value) (x1_16 : Value) (junk12 : Env) (w13 : World), I11 m14 x0_15 x1_16 w13 →
        bin P .lss 2 false true x1_16 (.int .i64 0) w13 fun x12_17 =>
        cnd x12_17
          (rbin P .quo 117 false true x0_15 (.float .f64 4611686018427387904) w13 fun x16_18 =>
          bin P .add 2 false true x1_16 (.int .i64 1) w13 fun x14_19 =>
          ∃ m20, m20 < m14 ∧ I11 m20 x16_18 x14_19 w13)
          (K x0_15 w13))
def P_spec_l01Twos : Plan := (.seq (.reg [.op (0, 0, false)]) (.seq (.blk (.loop [0, 1] 2019 (.seq (.seq (.reg [.op (0, 0, false), .op (1, 0, false)]) (.cond .leaf .leaf)) (.seq (.blk (.reg [.op (0, 0, false), .op (1, 1, false), .op (2, 0, false)])) (.reg [.op (0, 0, false), .op (1, 0, false), .op (2, 0, false)]))))) (.seq (.blk (.loop [0, 1] 129027 (.seq (.seq (.reg [.op (0, 0, false), .op (1, 0, false)]) (.cond .leaf .leaf)) (.seq (.blk (.reg [.op (0, 0, false), .op (1, 1, false), .op (2, 0, false)])) (.reg [.op (0, 0, false), .op (1, 0, false), .op (2, 0, false)]))))) (.seq (.reg [.op (0, 0, false), .op (1, 0, false)]) .leaf))))
theorem I_spec_l01Twos {a0 a1 : Value} {w : World} {K : Value → World → Prop} (h : D_spec_l01Twos a0 a1 w K) : call P f_spec_l01Twos [a0, a1] w K :=
  call_of_vc mixed Tryz.func212 (c := codeOf Tryz.f212) (by kernel_rfl) (by kernel_rfl) (p := P_spec_l01Twos) (by kernel_rfl) (by rw [Tryz.ntmps212]; simp) (by
    have e : D_spec_l01Twos a0 a1 w K = vc P P_spec_l01Twos (codeOf Tryz.f212) (env0 [a0, a1]) w (retX P Tryz.f212.results.toList K) := by kernel_rfl
    exact e ▸ h)

/-- spec.l01At -/
def D_spec_l01At (a0 : Value) (w : World) (K : Value → World → Prop) : Prop :=
  bin P .lss 2 false true a0 (.int .i64 0) w fun x6_1 =>
  cnd x6_1
    (una P .neg a0 w fun x8_2 =>
    call P f_spec_l01At [x8_2] w fun x9_3 w4 =>
    una P .neg x9_3 w4 fun x10_5 =>
    K x10_5 w4)
    (bin P .shr 2 false true a0 (.int .u64 23) w fun x12_6 =>
    bin P .and 2 false true a0 (.int .i64 8388607) w fun x14_7 =>
    bin P .eql 2 false true x12_6 (.int .i64 255) w fun x17_8 =>
    cnd x17_8
      (call P f_spec_l01Huge [] w fun x18_9 w10 =>
      K x18_9 w10)
      (bin P .eql 2 false true x12_6 (.int .i64 0) w fun x21_11 =>
      cnd x21_11
        (cnv P 2 117 x14_7 w fun x23_12 =>
        call P f_spec_l01Twos [x23_12, (.int .i64 (-149))] w fun x24_13 w14 =>
        rcnv P 117 66 x24_13 w14 fun x25_15 =>
        K x25_15 w14)
        (bin P .add 2 false true x14_7 (.int .i64 8388608) w fun x27_16 =>
        cnv P 2 117 x27_16 w fun x28_17 =>
        bin P .sub 2 false true x12_6 (.int .i64 150) w fun x30_18 =>
        call P f_spec_l01Twos [x28_17, x30_18] w fun x31_19 w20 =>
        rcnv P 117 66 x31_19 w20 fun x32_21 =>
        K x32_21 w20)))
def P_spec_l01At : Plan := (.seq (.reg [.op (0, 0, false)]) (.seq (.seq (.reg [.op (0, 0, false), .op (1, 0, false)]) (.cond (.seq (.reg [.op (0, 0, false), .op (1, 0, false), .op (2, 2, false), .op (3, 0, false), .op (4, 0, false)]) .leaf) .leaf)) (.seq (.reg [.op (0, 0, false), .op (1, 0, false), .op (2, 0, false), .op (3, 0, false), .op (4, 0, false), .op (5, 0, false)]) (.seq (.blk (.seq (.reg [.op (0, 0, false), .op (1, 0, false), .op (2, 0, false)]) (.cond (.seq (.reg [.op (0, 2, false), .op (1, 0, false)]) .leaf) (.seq (.reg [.op (0, 0, false), .op (1, 0, false), .op (2, 0, false)]) (.cond (.seq (.reg [.op (0, 0, false), .op (1, 0, false), .op (2, 2, false), .op (3, 1, false), .op (4, 0, false)]) .leaf) .leaf))))) (.seq (.reg [.op (0, 0, false), .op (1, 0, false), .op (2, 0, false), .op (3, 0, false), .op (4, 0, false), .op (5, 2, false), .op (6, 1, false), .op (7, 0, false)]) .leaf)))))
theorem I_spec_l01At {a0 : Value} {w : World} {K : Value → World → Prop} (h : D_spec_l01At a0 w K) : call P f_spec_l01At [a0] w K :=
  call_of_vc mixed Tryz.func242 (c := codeOf Tryz.f242) (by kernel_rfl) (by kernel_rfl) (p := P_spec_l01At) (by kernel_rfl) (by rw [Tryz.ntmps242]; simp) (by
    have e : D_spec_l01At a0 w K = vc P P_spec_l01At (codeOf Tryz.f242) (env0 [a0]) w (retX P Tryz.f242.results.toList K) := by kernel_rfl
    exact e ▸ h)

/-- spec.l01Own -/
def D_spec_l01Own (a0 : Value) (w : World) (K : Value → World → Prop) : Prop :=
  bsl P 53 0 [] w fun x3_1 w2 =>
  bl2 P .append #[53, 53] 53 [x3_1, a0] w2 fun x5_3 w4 =>
  K x5_3 w4
def P_spec_l01Own : Plan := (.seq (.reg [.op (0, 0, false)]) (.seq (.reg [.op (0, 2, false), .op (1, 0, false), .op (2, 2, false), .op (3, 0, false)]) .leaf))
theorem I_spec_l01Own {a0 : Value} {w : World} {K : Value → World → Prop} (h : D_spec_l01Own a0 w K) : call P f_spec_l01Own [a0] w K :=
  call_of_vc mixed Tryz.func251 (c := codeOf Tryz.f251) (by kernel_rfl) (by kernel_rfl) (p := P_spec_l01Own) (by kernel_rfl) (by rw [Tryz.ntmps251]; simp) (by
    have e : D_spec_l01Own a0 w K = vc P P_spec_l01Own (codeOf Tryz.f251) (env0 [a0]) w (retX P Tryz.f251.results.toList K) := by kernel_rfl
    exact e ▸ h)

/-- spec.l01Huge -/
def D_spec_l01Huge (w : World) (K : Value → World → Prop) : Prop :=
  rbin P .mul 66 false true (.float .f32 2137108966) (.float .f32 1092616192) w fun x3_1 =>
  K x3_1 w
def P_spec_l01Huge : Plan := (.seq (.reg [.op (0, 0, false)]) (.seq (.reg [.op (0, 0, false)]) (.seq (.reg [.op (0, 0, false), .op (1, 1, false), .op (2, 0, false)]) .leaf)))
theorem I_spec_l01Huge {w : World} {K : Value → World → Prop} (h : D_spec_l01Huge  w K) : call P f_spec_l01Huge [] w K :=
  call_of_vc mixed Tryz.func270 (c := codeOf Tryz.f270) (by kernel_rfl) (by kernel_rfl) (p := P_spec_l01Huge) (by kernel_rfl) (by rw [Tryz.ntmps270]; simp) (by
    have e : D_spec_l01Huge  w K = vc P P_spec_l01Huge (codeOf Tryz.f270) (env0 []) w (retX P Tryz.f270.results.toList K) := by kernel_rfl
    exact e ▸ h)

end Go.Proofs.YtjompmflommadaaGreatDoor

/- Written by a program (gen.py): what is left to show of each function's call. -/
set_option linter.unusedVariables false
set_option maxRecDepth 20000
namespace Go.Proofs.YtjompmflommadaaGreatDoor
open Go Go.Vc

/-- laws.eqProgram -/
def D_laws_eqProgram (a0 a1 : Value) (w : World) (K : Value → World → Prop) : Prop :=
  bx P 27 a0 w fun x2_1 w2 =>
  bx P 27 a1 w2 fun x3_3 w4 =>
  fda P 27 x2_1 0 w4 fun x5_5 =>
  ld P 22 x5_5 w4 fun x6_6 =>
  fda P 27 x3_3 0 w4 fun x7_7 =>
  ld P 22 x7_7 w4 fun x8_8 =>
  call P f_laws_eqStringS [x6_6, x8_8] w4 fun x9_9 w10 =>
  una P .not x9_9 w10 fun x10_11 =>
  cnd x10_11
    (K (.bool false) w10)
    (K (.bool true) w10)
def P_laws_eqProgram : Plan := (.seq (.reg [.op (0, 2, false), .op (1, 2, false), .op (2, 0, false)]) (.seq (.seq (.reg [.op (0, 0, false), .op (1, 0, false), .op (2, 0, false), .op (3, 0, false), .op (4, 2, false), .op (5, 0, false)]) (.cond (.seq (.reg [.op (0, 0, false)]) .leaf) .leaf)) (.seq (.reg [.op (0, 0, false)]) .leaf)))
theorem I_laws_eqProgram {a0 a1 : Value} {w : World} {K : Value → World → Prop} (h : D_laws_eqProgram a0 a1 w K) : call P f_laws_eqProgram [a0, a1] w K :=
  call_of_vc mixed Tryz.func16 (c := codeOf Tryz.f16) (by kernel_rfl) (by kernel_rfl) (p := P_laws_eqProgram) (by kernel_rfl) (by rw [Tryz.ntmps16]; simp) (by
    have e : D_laws_eqProgram a0 a1 w K = vc P P_laws_eqProgram (codeOf Tryz.f16) (env0 [a0, a1]) w (retX P Tryz.f16.results.toList K) := by kernel_rfl
    exact e ▸ h)

/-- laws.markProgram -/
def D_laws_markProgram (a0 a1 : Value) (w : World) (K : Value → World → Prop) : Prop :=
  bx P 27 a0 w fun x2_1 w2 =>
  fda P 27 x2_1 0 w2 fun x5_3 =>
  ld P 22 x5_3 w2 fun x6_4 =>
  call P f_laws_markStringS [x6_4, a1] w2 fun x8_5 w6 =>
  K x8_5 w6
def P_laws_markProgram : Plan := (.seq (.reg [.op (0, 2, false), .op (1, 0, false)]) (.seq (.reg [.op (0, 0, false), .op (1, 0, false), .op (2, 0, false), .op (3, 2, false), .op (4, 0, false)]) (.seq (.reg [.op (0, 0, false), .op (1, 0, false)]) .leaf)))
theorem I_laws_markProgram {a0 a1 : Value} {w : World} {K : Value → World → Prop} (h : D_laws_markProgram a0 a1 w K) : call P f_laws_markProgram [a0, a1] w K :=
  call_of_vc mixed Tryz.func25 (c := codeOf Tryz.f25) (by kernel_rfl) (by kernel_rfl) (p := P_laws_markProgram) (by kernel_rfl) (by rw [Tryz.ntmps25]; simp) (by
    have e : D_laws_markProgram a0 a1 w K = vc P P_laws_markProgram (codeOf Tryz.f25) (env0 [a0, a1]) w (retX P Tryz.f25.results.toList K) := by kernel_rfl
    exact e ▸ h)

/-- laws.heldProgram -/
def D_laws_heldProgram (a0 a1 : Value) (w : World) (K : Value → World → Prop) : Prop :=
  bx P 27 a0 w fun x2_1 w2 =>
  fda P 27 x2_1 0 w2 fun x5_3 =>
  ld P 22 x5_3 w2 fun x6_4 =>
  call P f_laws_heldStringS [x6_4, a1] w2 fun x8_5 w6 =>
  bin P .lss 3 false true x8_5 (.int .i64 0) w6 fun x10_7 =>
  cnd x10_7
    (K (.int .i64 (-1)) w6)
    (K x8_5 w6)
def P_laws_heldProgram : Plan := (.seq (.reg [.op (0, 2, false), .op (1, 0, false)]) (.seq (.reg [.op (0, 0, false), .op (1, 0, false), .op (2, 0, false), .op (3, 2, false), .op (4, 0, false)]) (.seq (.seq (.reg [.op (0, 0, false), .op (1, 0, false)]) (.cond (.seq (.reg [.op (0, 0, false)]) .leaf) .leaf)) (.seq (.reg [.op (0, 0, false), .op (1, 0, false)]) .leaf))))
theorem I_laws_heldProgram {a0 a1 : Value} {w : World} {K : Value → World → Prop} (h : D_laws_heldProgram a0 a1 w K) : call P f_laws_heldProgram [a0, a1] w K :=
  call_of_vc mixed Tryz.func26 (c := codeOf Tryz.f26) (by kernel_rfl) (by kernel_rfl) (p := P_laws_heldProgram) (by kernel_rfl) (by rw [Tryz.ntmps26]; simp) (by
    have e : D_laws_heldProgram a0 a1 w K = vc P P_laws_heldProgram (codeOf Tryz.f26) (env0 [a0, a1]) w (retX P Tryz.f26.results.toList K) := by kernel_rfl
    exact e ▸ h)

/-- laws.eqStringS -/
def D_laws_eqStringS (a0 a1 : Value) (w : World) (K : Value → World → Prop) : Prop :=
  bl0 P .len #[22] 3 [a0] w fun x7_1 =>
  bl0 P .len #[22] 3 [a1] w fun x9_2 =>
  bin P .neq 3 false false x7_1 x9_2 w fun x10_3 =>
  cnd x10_3
    (K (.bool false) w)
    (∃ I4 : Nat → Value → World → Prop, (∃ m18, I4 m18 (.int .i64 0) w) ∧ ∀ (m7 : Nat) (x5_8 : Value) (junk5 : Env) (w6 : World), I4 m7 x5_8 w6 →
      bl0 P .len #[22] 3 [a0] w6 fun x13_9 =>
      bin P .lss 3 false false x5_8 x13_9 w6 fun x14_10 =>
      cnd x14_10
        (ixa P 22 a0 x5_8 w6 fun x19_11 =>
        ld P 9 x19_11 w6 fun x20_12 =>
        ixa P 22 a1 x5_8 w6 fun x23_13 =>
        ld P 9 x23_13 w6 fun x24_14 =>
        bin P .neq 9 false false x20_12 x24_14 w6 fun x25_15 =>
        cnd x25_15
          (K (.bool false) w6)
          (bin P .add 3 false true x5_8 (.int .i64 1) w6 fun x16_16 =>
          ∃ m17, m17 < m7 ∧ I4 m17 x16_16 w6))
        (K (.bool true) w6))
def P_laws_eqStringS : Plan := (.seq (.reg [.op (0, 0, false)]) (.seq (.seq (.reg [.op (0, 0, false), .op (1, 0, false), .op (2, 0, false), .op (3, 0, false), .op (4, 0, false)]) (.cond (.seq (.reg [.op (0, 0, false)]) .leaf) .leaf)) (.seq (.seq (.reg [.op (0, 0, false)]) (.blk (.loop [5] 67106864 (.seq (.seq (.reg [.op (0, 0, false), .op (1, 0, false), .op (2, 0, false), .op (3, 0, false)]) (.cond .leaf .leaf)) (.seq (.blk (.seq (.reg [.op (0, 0, false), .op (1, 0, false), .op (2, 0, false), .op (3, 0, false), .op (4, 0, false), .op (5, 0, false), .op (6, 0, false), .op (7, 0, false), .op (8, 0, false)]) (.cond (.seq (.reg [.op (0, 0, false)]) .leaf) .leaf))) (.reg [.op (0, 0, false), .op (1, 0, false), .op (2, 0, false)])))))) (.seq (.reg [.op (0, 0, false)]) .leaf))))
theorem I_laws_eqStringS {a0 a1 : Value} {w : World} {K : Value → World → Prop} (h : D_laws_eqStringS a0 a1 w K) : call P f_laws_eqStringS [a0, a1] w K :=
  call_of_vc mixed Tryz.func55 (c := codeOf Tryz.f55) (by kernel_rfl) (by kernel_rfl) (p := P_laws_eqStringS) (by kernel_rfl) (by rw [Tryz.ntmps55]; simp) (by
    have e : D_laws_eqStringS a0 a1 w K = vc P P_laws_eqStringS (codeOf Tryz.f55) (env0 [a0, a1]) w (retX P Tryz.f55.results.toList K) := by kernel_rfl
    exact e ▸ h)

/-- laws.markStringS -/
def D_laws_markStringS (a0 a1 : Value) (w : World) (K : Value → World → Prop) : Prop :=
  ∃ I1 : Nat → Value → Value → World → Prop, (∃ m17, I1 m17 a1 (.int .i64 0) w) ∧ ∀ (m4 : Nat) (x1_5 : Value) (x5_6 : Value) (junk2 : Env) (w3 : World), I1 m4 x1_5 x5_6 w3 →
    bl0 P .len #[22] 3 [a0] w3 fun x8_7 =>
    bin P .lss 3 false false x5_6 x8_7 w3 fun x9_8 =>
    cnd x9_8
      (call P f_laws_markText [x1_5] w3 fun x15_9 w10 =>
      ixa P 22 a0 x5_6 w10 fun x16_11 =>
      sto P 9 x16_11 x15_9 w10 fun w13 =>
      bin P .add 3 false true x1_5 (.int .i64 1) w13 fun x18_14 =>
      bin P .add 3 false true x5_6 (.int .i64 1) w13 fun x11_15 =>
      ∃ m16, m16 < m4 ∧ I1 m16 x18_14 x11_15 w13)
      (K x1_5 w3)
def P_laws_markStringS : Plan := (.seq (.reg [.op (0, 0, false)]) (.seq (.seq (.reg [.op (0, 0, false)]) (.blk (.loop [1, 5] 524258 (.seq (.seq (.reg [.op (0, 0, false), .op (1, 0, false), .op (2, 0, false), .op (3, 0, false)]) (.cond .leaf .leaf)) (.seq (.blk (.seq (.reg [.op (0, 0, false), .op (1, 0, false), .op (2, 0, false), .op (3, 2, false), .op (4, 0, false), .op (5, 2, false)]) (.reg [.op (0, 0, false), .op (1, 0, false), .op (2, 0, false)]))) (.reg [.op (0, 0, false), .op (1, 0, false), .op (2, 0, false)])))))) (.seq (.reg [.op (0, 0, false), .op (1, 0, false)]) .leaf)))
theorem I_laws_markStringS {a0 a1 : Value} {w : World} {K : Value → World → Prop} (h : D_laws_markStringS a0 a1 w K) : call P f_laws_markStringS [a0, a1] w K :=
  call_of_vc mixed Tryz.func63 (c := codeOf Tryz.f63) (by kernel_rfl) (by kernel_rfl) (p := P_laws_markStringS) (by kernel_rfl) (by rw [Tryz.ntmps63]; simp) (by
    have e : D_laws_markStringS a0 a1 w K = vc P P_laws_markStringS (codeOf Tryz.f63) (env0 [a0, a1]) w (retX P Tryz.f63.results.toList K) := by kernel_rfl
    exact e ▸ h)

/-- laws.heldStringS -/
def D_laws_heldStringS (a0 a1 : Value) (w : World) (K : Value → World → Prop) : Prop :=
  ∃ I1 : Nat → Value → Value → World → Prop, (∃ m17, I1 m17 a1 (.int .i64 0) w) ∧ ∀ (m4 : Nat) (x1_5 : Value) (x5_6 : Value) (junk2 : Env) (w3 : World), I1 m4 x1_5 x5_6 w3 →
    bl0 P .len #[22] 3 [a0] w3 fun x8_7 =>
    bin P .lss 3 false false x5_6 x8_7 w3 fun x9_8 =>
    cnd x9_8
      (ixa P 22 a0 x5_6 w3 fun x14_9 =>
      ld P 9 x14_9 w3 fun x15_10 =>
      call P f_laws_markText [x1_5] w3 fun x17_11 w12 =>
      Ext w3 w12 ∧ bin P .neq 9 false false x15_10 x17_11 w12 fun x18_13 =>
      cnd x18_13
        (K (.int .i64 (-1)) w12)
        (bin P .add 3 false true x1_5 (.int .i64 1) w12 fun x20_14 =>
        bin P .add 3 false true x5_6 (.int .i64 1) w12 fun x11_15 =>
        ∃ m16, m16 < m4 ∧ I1 m16 x20_14 x11_15 w12))
      (K x1_5 w3)
def P_laws_heldStringS : Plan := (.seq (.reg [.op (0, 0, false)]) (.seq (.seq (.reg [.op (0, 0, false)]) (.blk (.loop [1, 5] 2097138 (.seq (.seq (.reg [.op (0, 0, false), .op (1, 0, false), .op (2, 0, false), .op (3, 0, false)]) (.cond .leaf .leaf)) (.seq (.blk (.seq (.seq (.reg [.op (0, 0, false), .op (1, 0, false), .op (2, 0, false), .op (3, 0, false), .op (4, 0, false), .op (5, 2, true), .op (6, 0, false)]) (.cond (.seq (.reg [.op (0, 0, false)]) .leaf) .leaf)) (.reg [.op (0, 0, false), .op (1, 0, false), .op (2, 0, false)]))) (.reg [.op (0, 0, false), .op (1, 0, false), .op (2, 0, false)])))))) (.seq (.reg [.op (0, 0, false), .op (1, 0, false)]) .leaf)))
theorem I_laws_heldStringS {a0 a1 : Value} {w : World} {K : Value → World → Prop} (h : D_laws_heldStringS a0 a1 w K) : call P f_laws_heldStringS [a0, a1] w K :=
  call_of_vc mixed Tryz.func64 (c := codeOf Tryz.f64) (by kernel_rfl) (by kernel_rfl) (p := P_laws_heldStringS) (by kernel_rfl) (by rw [Tryz.ntmps64]; simp) (by
    have e : D_laws_heldStringS a0 a1 w K = vc P P_laws_heldStringS (codeOf Tryz.f64) (env0 [a0, a1]) w (retX P Tryz.f64.results.toList K) := by kernel_rfl
    exact e ▸ h)

/-- laws.markText -/
def D_laws_markText (a0 : Value) (w : World) (K : Value → World → Prop) : Prop :=
  bin P .leq 3 false true a0 (.int .i64 0) w fun x5_1 =>
  cnd x5_1
    (K (.string ⟨#[109, 48]⟩) w)
    (∃ I2 : Nat → Value → Value → World → Prop, (∃ m20, I2 m20 a0 (.string ⟨#[]⟩) w) ∧ ∀ (m5 : Nat) (x0_6 : Value) (x3_7 : Value) (junk3 : Env) (w4 : World), I2 m5 x0_6 x3_7 w4 →
      bin P .gtr 3 false true x0_6 (.int .i64 0) w4 fun x7_8 =>
      cnd x7_8
        (bin P .rem 3 false true x0_6 (.int .i64 10) w4 fun x9_9 =>
        bin P .add 3 true false (.int .i64 48) x9_9 w4 fun x10_10 =>
        cnv P 3 5 x10_10 w4 fun x11_11 =>
        bsl P 72 1 [(0, x11_11)] w4 fun x12_12 w13 =>
        cnv2 P 72 9 x12_12 w13 fun x13_14 w15 =>
        bin P .add 9 false false x13_14 x3_7 w15 fun x15_16 =>
        bin P .quo 3 false true x0_6 (.int .i64 10) w15 fun x17_17 =>
        ∃ m18, m18 < m5 ∧ I2 m18 x17_17 x15_16 w15)
        (bin P .add 9 true false (.string ⟨#[109]⟩) x3_7 w4 fun x19_19 =>
        K x19_19 w4))
def P_laws_markText : Plan := (.seq (.reg [.op (0, 0, false)]) (.seq (.seq (.reg [.op (0, 0, false), .op (1, 0, false)]) (.cond (.seq (.reg [.op (0, 0, false)]) .leaf) .leaf)) (.seq (.reg [.op (0, 0, false)]) (.seq (.blk (.loop [0, 3] 262089 (.seq (.seq (.reg [.op (0, 0, false), .op (1, 0, false)]) (.cond .leaf .leaf)) (.blk (.seq (.reg [.op (0, 0, false), .op (1, 0, false), .op (2, 0, false), .op (3, 0, false), .op (4, 2, false), .op (5, 2, false), .op (6, 0, false), .op (7, 0, false), .op (8, 0, false)]) (.reg [.op (0, 0, false), .op (1, 0, false), .op (2, 0, false)])))))) (.seq (.reg [.op (0, 0, false), .op (1, 0, false), .op (2, 0, false)]) .leaf)))))
theorem I_laws_markText {a0 : Value} {w : World} {K : Value → World → Prop} (h : D_laws_markText a0 w K) : call P f_laws_markText [a0] w K :=
  call_of_vc mixed Tryz.func108 (c := codeOf Tryz.f108) (by kernel_rfl) (by kernel_rfl) (p := P_laws_markText) (by kernel_rfl) (by rw [Tryz.ntmps108]; simp) (by
    have e : D_laws_markText a0 w K = vc P P_laws_markText (codeOf Tryz.f108) (env0 [a0]) w (retX P Tryz.f108.results.toList K) := by kernel_rfl
    exact e ▸ h)

end Go.Proofs.YtjompmflommadaaGreatDoor

/- Written by a program (gen.py): what is left to show of each function's call. -/
set_option linter.unusedVariables false
set_option maxRecDepth 20000
namespace Go.Proofs.YtjompmflommadaaGreatDoor
open Go Go.Vc

/-- strings.Split -/
def D_strings_Split (a0 a1 : Value) (w : World) (K : Value → World → Prop) : Prop :=
  call P f_strings_genSplit [a0, a1, (.int .i64 0), (.int .i64 (-1))] w fun x7_1 w2 =>
  K x7_1 w2
def P_strings_Split : Plan := (.seq (.reg [.op (0, 0, false)]) (.seq (.reg [.op (0, 0, false), .op (1, 0, false), .op (2, 2, false), .op (3, 0, false)]) .leaf))
theorem I_strings_Split {a0 a1 : Value} {w : World} {K : Value → World → Prop} (h : D_strings_Split a0 a1 w K) : call P f_strings_Split [a0, a1] w K :=
  call_of_vc mixed Tryz.func62 (c := codeOf Tryz.f62) (by kernel_rfl) (by kernel_rfl) (p := P_strings_Split) (by kernel_rfl) (by rw [Tryz.ntmps62]; simp) (by
    have e : D_strings_Split a0 a1 w K = vc P P_strings_Split (codeOf Tryz.f62) (env0 [a0, a1]) w (retX P Tryz.f62.results.toList K) := by kernel_rfl
    exact e ▸ h)

/-- strings.genSplit -/
def D_strings_genSplit (a0 a1 a2 a3 : Value) (w : World) (K : Value → World → Prop) : Prop :=
  bin P .eql 3 false true a3 (.int .i64 0) w fun x13_1 =>
  cnd x13_1
    (K (.slice none 0 0) w)
    (bin P .eql 9 false true a1 (.string ⟨#[]⟩) w fun x15_2 =>
    cnd x15_2
      (call P f_strings_explode [a0, a3] w fun x18_3 w4 =>
      K x18_3 w4)
      (∃ J5 : Value → World → Prop, (∀ (x3_8 : Value) (junk6 : Env) (w7 : World), J5 x3_8 w7 →
        bl0 P .len #[9] 3 [a0] w7 fun x27_9 =>
        bin P .add 3 false true x27_9 (.int .i64 1) w7 fun x28_10 =>
        bl0 P .min #[3, 3] 3 [x3_8, x28_10] w7 fun x29_11 =>
        mks P 22 x29_11 x29_11 w7 fun x31_12 w13 =>
        bin P .sub 3 false true x29_11 (.int .i64 1) w13 fun x33_14 =>
        ∃ J15 : Value → Value → World → Prop, (∀ (x0_18 : Value) (x10_19 : Value) (junk16 : Env) (w17 : World), J15 x0_18 x10_19 w17 →
          ixa P 22 x31_12 x10_19 w17 fun x61_20 =>
          sto P 9 x61_20 x0_18 w17 fun w22 =>
          bin P .add 3 false true x10_19 (.int .i64 1) w22 fun x64_23 =>
          sli P 22 x31_12 none (some x64_23) none w22 fun x65_24 =>
          K x65_24 w22) ∧
          (∃ I25 : Nat → Value → Value → World → Prop, (∃ m45, I25 m45 a0 (.int .i64 0) w13) ∧ ∀ (m28 : Nat) (x0_29 : Value) (x10_30 : Value) (junk26 : Env) (w27 : World), I25 m28 x0_29 x10_30 w27 →
            bin P .lss 3 false false x10_30 x33_14 w27 fun x36_31 =>
            cnd x36_31
              (call P f_strings_Index [x0_29, a1] w27 fun x39_32 w33 =>
              bin P .lss 3 false true x39_32 (.int .i64 0) w33 fun x41_34 =>
              cnd x41_34
                (J15 x0_29 x10_30 w33)
                (bin P .add 3 false false x39_32 a2 w33 fun x47_35 =>
                sli P 9 x0_29 none (some x47_35) none w33 fun x48_36 =>
                ixa P 22 x31_12 x10_30 w33 fun x49_37 =>
                sto P 9 x49_37 x48_36 w33 fun w39 =>
                bl0 P .len #[9] 3 [a1] w39 fun x53_40 =>
                bin P .add 3 false false x39_32 x53_40 w39 fun x54_41 =>
                sli P 9 x0_29 (some x54_41) none none w39 fun x55_42 =>
                bin P .add 3 false true x10_30 (.int .i64 1) w39 fun x57_43 =>
                ∃ m44, m44 < m28 ∧ I25 m44 x55_42 x57_43 w39))
              (J15 x0_29 x10_30 w27))) ∧
        (bin P .lss 3 false true a3 (.int .i64 0) w fun x20_46 =>
        cnd x20_46
          (call P f_strings_Count [a0, a1] w fun x23_47 w48 =>
          bin P .add 3 false true x23_47 (.int .i64 1) w48 fun x24_49 =>
          J5 x24_49 w48)
          (J5 a3 w))))
def P_strings_genSplit : Plan := (.seq (.reg [.op (0, 0, false)]) (.seq (.seq (.reg [.op (0, 0, false), .op (1, 0, false)]) (.cond (.seq (.reg [.op (0, 0, false)]) .leaf) .leaf)) (.seq (.seq (.reg [.op (0, 0, false), .op (1, 0, false)]) (.cond (.seq (.reg [.op (0, 0, false), .op (1, 0, false), .op (2, 2, false), .op (3, 0, false)]) .leaf) .leaf)) (.cut [3] 33030152 (.seq (.reg [.op (0, 0, false), .op (1, 0, false)]) (.cond (.reg [.op (0, 0, false), .op (1, 0, false), .op (2, 2, false), .op (3, 0, false), .op (4, 0, false)]) .leaf)) (.seq (.reg [.op (0, 0, false), .op (1, 0, false), .op (2, 0, false), .op (3, 0, false), .op (4, 0, false), .op (5, 0, false)]) (.seq (.reg [.op (0, 0, false), .op (1, 2, false), .op (2, 0, false)]) (.seq (.reg [.op (0, 0, false), .op (1, 0, false), .op (2, 0, false)]) (.seq (.reg [.op (0, 0, false)]) (.cut [0, 10] 288230358971845633 (.blk (.loop [0, 10] 288230358971845633 (.seq (.seq (.reg [.op (0, 0, false), .op (1, 0, false), .op (2, 0, false)]) (.cond .leaf .leaf)) (.blk (.seq (.reg [.op (0, 0, false), .op (1, 0, false), .op (2, 2, false), .op (3, 0, false)]) (.seq (.seq (.reg [.op (0, 0, false), .op (1, 0, false)]) (.cond .leaf .leaf)) (.seq (.reg [.op (0, 0, false), .op (1, 0, false), .op (2, 0, false), .op (3, 0, false), .op (4, 0, false), .op (5, 0, false), .op (6, 0, false), .op (7, 0, false), .op (8, 2, false)]) (.seq (.reg [.op (0, 0, false), .op (1, 0, false), .op (2, 0, false), .op (3, 0, false), .op (4, 0, false), .op (5, 0, false), .op (6, 0, false)]) (.reg [.op (0, 0, false), .op (1, 0, false), .op (2, 0, false)]))))))))) (.seq (.reg [.op (0, 0, false), .op (1, 0, false), .op (2, 0, false), .op (3, 0, false), .op (4, 2, false)]) (.seq (.reg [.op (0, 0, false), .op (1, 0, false), .op (2, 0, false), .op (3, 0, false), .op (4, 0, false)]) .leaf)))))))))))
theorem I_strings_genSplit {a0 a1 a2 a3 : Value} {w : World} {K : Value → World → Prop} (h : D_strings_genSplit a0 a1 a2 a3 w K) : call P f_strings_genSplit [a0, a1, a2, a3] w K :=
  call_of_vc mixed Tryz.func107 (c := codeOf Tryz.f107) (by kernel_rfl) (by kernel_rfl) (p := P_strings_genSplit) (by kernel_rfl) (by rw [Tryz.ntmps107]; simp) (by
    have e : D_strings_genSplit a0 a1 a2 a3 w K = vc P P_strings_genSplit (codeOf Tryz.f107) (env0 [a0, a1, a2, a3]) w (retX P Tryz.f107.results.toList K) := by kernel_rfl
    exact e ▸ h)

/-- strings.explode -/
def D_strings_explode (a0 a1 : Value) (w : World) (K : Value → World → Prop) : Prop :=
  call P f_unicode_utf8_RuneCountInString [a0] w fun x11_1 w2 =>
  ∃ J3 : Value → World → Prop, (∀ (x1_6 : Value) (junk4 : Env) (w5 : World), J3 x1_6 w5 →
    mks P 22 x1_6 x1_6 w5 fun x21_7 w8 =>
    ∃ I9 : Nat → Value → Value → World → Prop, (∃ m33, I9 m33 a0 (.int .i64 0) w8) ∧ ∀ (m12 : Nat) (x0_13 : Value) (x7_14 : Value) (junk10 : Env) (w11 : World), I9 m12 x0_13 x7_14 w11 →
      bin P .sub 3 false true x1_6 (.int .i64 1) w11 fun x24_15 =>
      bin P .lss 3 false false x7_14 x24_15 w11 fun x25_16 =>
      cnd x25_16
        (call P f_unicode_utf8_DecodeRuneInString [x0_13] w11 fun x30_17 w18 =>
        xtr P x30_17 0 w18 fun x31_19 =>
        xtr P x30_17 1 w18 fun x32_20 =>
        sli P 9 x0_13 none (some x32_20) none w18 fun x37_21 =>
        ixa P 22 x21_7 x7_14 w18 fun x38_22 =>
        sto P 9 x38_22 x37_21 w18 fun w24 =>
        sli P 9 x0_13 (some x32_20) none none w24 fun x41_25 =>
        bin P .add 3 false true x7_14 (.int .i64 1) w24 fun x27_26 =>
        ∃ m27, m27 < m12 ∧ I9 m27 x41_25 x27_26 w24)
        (bin P .gtr 3 false true x1_6 (.int .i64 0) w11 fun x43_28 =>
        cnd x43_28
          (bin P .sub 3 false true x1_6 (.int .i64 1) w11 fun x46_29 =>
          ixa P 22 x21_7 x46_29 w11 fun x48_30 =>
          sto P 9 x48_30 x0_13 w11 fun w32 =>
          K x21_7 w32)
          (K x21_7 w11))) ∧
    (bin P .lss 3 false true a1 (.int .i64 0) w2 fun x13_34 =>
    ∃ J35 : Value → World → Prop, (∀ (x17_36 : Value) (junk38 : Env) (w37 : World), J35 x17_36 w37 →
      pick x13_34 (.bool true) x17_36 fun x18_39 =>
      cnd x18_39
        (J3 x11_1 w37)
        (J3 a1 w37)) ∧
      grd x13_34 false
        (bin P .gtr 3 false false a1 x11_1 w2 fun x17_40 =>
        J35 x17_40 w2)
        (J35 undef w2))
def P_strings_explode : Plan := (.seq (.reg [.op (0, 0, false)]) (.seq (.reg [.op (0, 0, false), .op (1, 2, false), .op (2, 0, false)]) (.cut [1] 1044482 (.seq (.reg [.op (0, 0, false), .op (1, 0, false), .op (2, 0, false), .grp 2 false [(3, 0, false), (4, 0, false), (5, 0, false)] [17] 229376, .op (6, 0, false)]) (.cond (.reg [.op (0, 0, false), .op (1, 0, false)]) .leaf)) (.seq (.reg [.op (0, 0, false), .op (1, 2, false), .op (2, 0, false)]) (.seq (.seq (.reg [.op (0, 0, false)]) (.blk (.loop [0, 7] 4398042317697 (.seq (.seq (.reg [.op (0, 0, false), .op (1, 0, false), .op (2, 0, false), .op (3, 0, false)]) (.cond .leaf .leaf)) (.seq (.blk (.seq (.reg [.op (0, 0, false), .op (1, 2, false), .op (2, 0, false), .op (3, 0, false), .op (4, 0, false), .op (5, 0, false), .op (6, 0, false)]) (.seq (.reg [.op (0, 0, false), .op (1, 0, false), .op (2, 0, false), .op (3, 0, false), .op (4, 0, false), .op (5, 0, false), .op (6, 2, false)]) (.reg [.op (0, 0, false), .op (1, 0, false), .op (2, 0, false), .op (3, 0, false)])))) (.reg [.op (0, 0, false), .op (1, 0, false), .op (2, 0, false)])))))) (.seq (.seq (.reg [.op (0, 0, false), .op (1, 0, false)]) (.cond (.reg [.op (0, 0, false), .op (1, 0, false), .op (2, 0, false), .op (3, 0, false), .op (4, 0, false), .op (5, 2, false)]) .leaf)) (.seq (.reg [.op (0, 0, false), .op (1, 0, false)]) .leaf)))))))
theorem I_strings_explode {a0 a1 : Value} {w : World} {K : Value → World → Prop} (h : D_strings_explode a0 a1 w K) : call P f_strings_explode [a0, a1] w K :=
  call_of_vc mixed Tryz.func160 (c := codeOf Tryz.f160) (by kernel_rfl) (by kernel_rfl) (p := P_strings_explode) (by kernel_rfl) (by rw [Tryz.ntmps160]; simp) (by
    have e : D_strings_explode a0 a1 w K = vc P P_strings_explode (codeOf Tryz.f160) (env0 [a0, a1]) w (retX P Tryz.f160.results.toList K) := by kernel_rfl
    exact e ▸ h)

/-- strings.Count -/
def D_strings_Count (a0 a1 : Value) (w : World) (K : Value → World → Prop) : Prop :=
  bl0 P .len #[9] 3 [a1] w fun x8_1 =>
  bin P .eql 3 false true x8_1 (.int .i64 0) w fun x9_2 =>
  cnd x9_2
    (call P f_unicode_utf8_RuneCountInString [a0] w fun x11_3 w4 =>
    bin P .add 3 false true x11_3 (.int .i64 1) w4 fun x12_5 =>
    K x12_5 w4)
    (bl0 P .len #[9] 3 [a1] w fun x14_6 =>
    bin P .eql 3 false true x14_6 (.int .i64 1) w fun x15_7 =>
    cnd x15_7
      (idx P 9 a1 (.int .i64 0) w fun x18_8 =>
      call P f_internal_bytealg_CountString [a0, x18_8] w fun x19_9 w10 =>
      K x19_9 w10)
      (∃ I11 : Nat → Value → Value → World → Prop, (∃ m25, I11 m25 a0 (.int .i64 0) w) ∧ ∀ (m14 : Nat) (x0_15 : Value) (x5_16 : Value) (junk12 : Env) (w13 : World), I11 m14 x0_15 x5_16 w13 →
        call P f_strings_Index [x0_15, a1] w13 fun x22_17 w18 =>
        bin P .eql 3 false true x22_17 (.int .i64 (-1)) w18 fun x24_19 =>
        cnd x24_19
          (K x5_16 w18)
          (bin P .add 3 false true x5_16 (.int .i64 1) w18 fun x27_20 =>
          bl0 P .len #[9] 3 [a1] w18 fun x31_21 =>
          bin P .add 3 false false x22_17 x31_21 w18 fun x32_22 =>
          sli P 9 x0_15 (some x32_22) none none w18 fun x33_23 =>
          ∃ m24, m24 < m14 ∧ I11 m24 x33_23 x27_20 w18)))
def P_strings_Count : Plan := (.seq (.reg [.op (0, 0, false)]) (.seq (.seq (.reg [.op (0, 0, false), .op (1, 0, false), .op (2, 0, false)]) (.cond (.seq (.reg [.op (0, 0, false), .op (1, 2, false), .op (2, 0, false), .op (3, 0, false)]) .leaf) .leaf)) (.seq (.seq (.reg [.op (0, 0, false), .op (1, 0, false), .op (2, 0, false)]) (.cond (.seq (.reg [.op (0, 0, false), .op (1, 0, false), .op (2, 0, false), .op (3, 2, false), .op (4, 0, false)]) .leaf) .leaf)) (.seq (.reg [.op (0, 0, false)]) (.blk (.loop [0, 5] 17178820721 (.blk (.seq (.reg [.op (0, 0, false), .op (1, 0, false), .op (2, 2, false), .op (3, 0, false)]) (.seq (.seq (.reg [.op (0, 0, false), .op (1, 0, false)]) (.cond (.seq (.reg [.op (0, 0, false), .op (1, 0, false)]) .leaf) .leaf)) (.seq (.reg [.op (0, 0, false), .op (1, 0, false), .op (2, 0, false)]) (.reg [.op (0, 0, false), .op (1, 0, false), .op (2, 0, false), .op (3, 0, false), .op (4, 0, false), .op (5, 0, false), .op (6, 0, false)])))))))))))
theorem I_strings_Count {a0 a1 : Value} {w : World} {K : Value → World → Prop} (h : D_strings_Count a0 a1 w K) : call P f_strings_Count [a0, a1] w K :=
  call_of_vc mixed Tryz.func161 (c := codeOf Tryz.f161) (by kernel_rfl) (by kernel_rfl) (p := P_strings_Count) (by kernel_rfl) (by rw [Tryz.ntmps161]; simp) (by
    have e : D_strings_Count a0 a1 w K = vc P P_strings_Count (codeOf Tryz.f161) (env0 [a0, a1]) w (retX P Tryz.f161.results.toList K) := by kernel_rfl
    exact e ▸ h)

/-- strings.Index -/
def D_strings_Index (a0 a1 : Value) (w : World) (K : Value → World → Prop) : Prop :=
  call P f_internal_stringslite_Index [a0, a1] w fun x7_1 w2 =>
  K x7_1 w2
def P_strings_Index : Plan := (.seq (.reg [.op (0, 0, false)]) (.seq (.reg [.op (0, 0, false), .op (1, 0, false), .op (2, 2, false), .op (3, 0, false)]) .leaf))
theorem I_strings_Index {a0 a1 : Value} {w : World} {K : Value → World → Prop} (h : D_strings_Index a0 a1 w K) : call P f_strings_Index [a0, a1] w K :=
  call_of_vc mixed Tryz.func162 (c := codeOf Tryz.f162) (by kernel_rfl) (by kernel_rfl) (p := P_strings_Index) (by kernel_rfl) (by rw [Tryz.ntmps162]; simp) (by
    have e : D_strings_Index a0 a1 w K = vc P P_strings_Index (codeOf Tryz.f162) (env0 [a0, a1]) w (retX P Tryz.f162.results.toList K) := by kernel_rfl
    exact e ▸ h)

/-- unicode/utf8.DecodeRuneInString -/
def D_unicode_utf8_DecodeRuneInString (a0 : Value) (w : World) (K : Value → World → Prop) : Prop :=
  bin P .neq 9 false true a0 (.string ⟨#[]⟩) w fun x5_1 =>
  ∃ J2 : Value → World → Prop, (∀ (x9_3 : Value) (junk5 : Env) (w4 : World), J2 x9_3 w4 →
    pick x5_1 x9_3 (.bool false) fun x10_6 =>
    cnd x10_6
      (idx P 9 a0 (.int .i64 0) w4 fun x12_7 =>
      cnv P 5 21 x12_7 w4 fun x13_8 =>
      K (.tuple #[x13_8, (.int .i64 1)]) w4)
      (call P f_unicode_utf8_decodeRuneInStringSlow [a0] w4 fun x16_9 w10 =>
      xtr P x16_9 0 w10 fun x17_11 =>
      xtr P x16_9 1 w10 fun x18_12 =>
      K (.tuple #[x17_11, x18_12]) w10)) ∧
    grd x5_1 true
      (idx P 9 a0 (.int .i64 0) w fun x8_13 =>
      bin P .lss 5 false true x8_13 (.int .u8 128) w fun x9_14 =>
      J2 x9_14 w)
      (J2 undef w)
def P_unicode_utf8_DecodeRuneInString : Plan := (.seq (.reg [.op (0, 0, false), .op (1, 0, false)]) (.seq (.seq (.reg [.op (0, 0, false), .op (1, 0, false), .op (2, 0, false), .grp 2 true [(3, 0, false), (4, 0, false), (5, 0, false)] [9] 896, .op (6, 0, false)]) (.cond (.seq (.reg [.op (0, 0, false), .op (1, 0, false), .op (2, 0, false), .op (3, 0, false), .op (4, 0, false)]) .leaf) (.reg [.op (0, 0, false), .op (1, 2, false), .op (2, 0, false), .op (3, 0, false), .op (4, 0, false), .op (5, 0, false), .op (6, 0, false)]))) .leaf))
theorem I_unicode_utf8_DecodeRuneInString {a0 : Value} {w : World} {K : Value → World → Prop} (h : D_unicode_utf8_DecodeRuneInString a0 w K) : call P f_unicode_utf8_DecodeRuneInString [a0] w K :=
  call_of_vc mixed Tryz.func209 (c := codeOf Tryz.f209) (by kernel_rfl) (by kernel_rfl) (p := P_unicode_utf8_DecodeRuneInString) (by kernel_rfl) (by rw [Tryz.ntmps209]; simp) (by
    have e : D_unicode_utf8_DecodeRuneInString a0 w K = vc P P_unicode_utf8_DecodeRuneInString (codeOf Tryz.f209) (env0 [a0]) w (retX P Tryz.f209.results.toList K) := by kernel_rfl
    exact e ▸ h)

/-- internal/stringslite.Index -/
def D_internal_stringslite_Index (a0 a1 : Value) (w : World) (K : Value → World → Prop) : Prop :=
  bl0 P .len #[9] 3 [a1] w fun x15_1 =>
  bin P .eql 3 false true x15_1 (.int .i64 0) w fun x18_2 =>
  ∃ J3 : Value → World → Prop, (∀ (x22_4 : Value) (junk6 : Env) (w5 : World), J3 x22_4 w5 →
    pick x18_2 (.bool true) x22_4 fun x23_7 =>
    cnd x23_7
      (K (.int .i64 0) w5)
      (bin P .eql 3 false true x15_1 (.int .i64 1) w5 fun x26_8 =>
      cnd x26_8
        (idx P 9 a1 (.int .i64 0) w5 fun x29_9 =>
        call P f_internal_stringslite_IndexByte [a0, x29_9] w5 fun x30_10 w11 =>
        K x30_10 w11)
        (bl0 P .len #[9] 3 [a0] w5 fun x34_12 =>
        bin P .geq 3 false false x15_1 x34_12 w5 fun x35_13 =>
        cnd x35_13
          (K (.int .i64 (-1)) w5)
          (ld P 3 (.pointer (some ⟨1, 0, none⟩)) w5 fun x38_14 =>
          bin P .leq 3 false false x15_1 x38_14 w5 fun x39_15 =>
          ∃ J16 : Value → World → Prop, (∀ (x43_17 : Value) (junk19 : Env) (w18 : World), J16 x43_17 w18 →
            pick x39_15 x43_17 (.bool false) fun x44_20 =>
            cnd x44_20
              (call P f_internal_bytealg_IndexString [a0, a1] w18 fun x47_21 w22 =>
              K x47_21 w22)
              (idx P 9 a1 (.int .i64 0) w18 fun x49_23 =>
              idx P 9 a1 (.int .i64 1) w18 fun x51_24 =>
              bl0 P .len #[9] 3 [a0] w18 fun x53_25 =>
              bin P .sub 3 false false x53_25 x15_1 w18 fun x55_26 =>
              bin P .add 3 false true x55_26 (.int .i64 1) w18 fun x56_27 =>
              ∃ I28 : Nat → Value → Value → World → Prop, (∃ m98, I28 m98 (.int .i64 0) (.int .i64 0) w18) ∧ ∀ (m31 : Nat) (x8_32 : Value) (x10_33 : Value) (junk29 : Env) (w30 : World), I28 m31 x8_32 x10_33 w30 →
                bin P .lss 3 false false x8_32 x56_27 w30 fun x59_34 =>
                cnd x59_34
                  (∃ J35 : Value → World → Prop, (∀ (x8_38 : Value) (junk36 : Env) (w37 : World), J35 x8_38 w37 →
                    bin P .add 3 false true x8_38 (.int .i64 1) w37 fun x80_39 =>
                    idx P 9 a0 x80_39 w37 fun x81_40 =>
                    bin P .eql 5 false false x81_40 x51_24 w37 fun x83_41 =>
                    ∃ J42 : Value → World → Prop, (∀ (x92_43 : Value) (junk45 : Env) (w44 : World), J42 x92_43 w44 →
                      pick x83_41 x92_43 (.bool false) fun x93_46 =>
                      cnd x93_46
                        (K x8_38 w44)
                        (bin P .add 3 false true x8_38 (.int .i64 1) w44 fun x96_47 =>
                        bin P .add 3 false true x10_33 (.int .i64 1) w44 fun x98_48 =>
                        ld P 3 (.pointer (some ⟨1, 0, none⟩)) w44 fun x100_49 =>
                        bin P .leq 3 false false x15_1 x100_49 w44 fun x101_50 =>
                        ∃ J51 : Value → World → Prop, (∀ (x106_52 : Value) (junk54 : Env) (w53 : World), J51 x106_52 w53 →
                          pick x101_50 x106_52 (.bool false) fun x107_55 =>
                          cnd x107_55
                            (sli P 9 a0 (some x96_47) none none w53 fun x110_56 =>
                            call P f_internal_bytealg_IndexString [x110_56, a1] w53 fun x112_57 w58 =>
                            bin P .geq 3 false true x112_57 (.int .i64 0) w58 fun x114_59 =>
                            cnd x114_59
                              (bin P .add 3 false false x112_57 x96_47 w58 fun x117_60 =>
                              K x117_60 w58)
                              (K (.int .i64 (-1)) w58))
                            (ld P 3 (.pointer (some ⟨1, 0, none⟩)) w53 fun x119_61 =>
                            bin P .gtr 3 false false x15_1 x119_61 w53 fun x120_62 =>
                            ∃ J63 : Value → World → Prop, (∀ (x126_64 : Value) (junk66 : Env) (w65 : World), J63 x126_64 w65 →
                              pick x120_62 x126_64 (.bool false) fun x127_67 =>
                              ∃ J68 : Value → World → Prop, (∀ (x131_69 : Value) (junk71 : Env) (w70 : World), J68 x131_69 w70 →
                              pick x127_67 x131_69 (.bool false) fun x132_72 =>
                                cnd x132_72
                                  (sli P 9 a0 (some x96_47) none none w70 fun x135_73 =>
                                  call P f_internal_bytealg_IndexRabinKarp_string [x135_73, a1] w70 fun x137_74 w75 =>
                                  bin P .lss 3 false true x137_74 (.int .i64 0) w75 fun x139_76 =>
                                  cnd x139_76
                                    (K (.int .i64 (-1)) w75)
                                    (bin P .add 3 false false x96_47 x137_74 w75 fun x142_77 =>
                                    K x142_77 w75))
                                  (∃ m78, m78 < m31 ∧ I28 m78 x96_47 x98_48 w70)) ∧
                              grd x127_67 true
                                (bin P .lss 3 false false x96_47 x56_27 w65 fun x131_79 =>
                                  J68 x131_79 w65)
                                (J68 undef w65)) ∧
                              grd x120_62 true
                                (bin P .shr 3 false true x96_47 (.int .u64 4) w53 fun x124_80 =>
                                bin P .add 3 true false (.int .i64 4) x124_80 w53 fun x125_81 =>
                                bin P .geq 3 false false x98_48 x125_81 w53 fun x126_82 =>
                                J63 x126_82 w53)
                                (J63 undef w53))) ∧
                          grd x101_50 true
                            (call P f_internal_bytealg_Cutover [x96_47] w44 fun x105_83 w84 =>
                            bin P .gtr 3 false false x98_48 x105_83 w84 fun x106_85 =>
                            J51 x106_85 w84)
                            (J51 undef w44))) ∧
                      grd x83_41 true
                        (bin P .add 3 false false x8_38 x15_1 w37 fun x89_86 =>
                        sli P 9 a0 (some x8_38) (some x89_86) none w37 fun x90_87 =>
                        bin P .eql 9 false false x90_87 a1 w37 fun x92_88 =>
                        J42 x92_88 w37)
                        (J42 undef w37)) ∧
                    (idx P 9 a0 x8_32 w30 fun x62_89 =>
                    bin P .neq 5 false false x62_89 x49_23 w30 fun x64_90 =>
                    cnd x64_90
                      (bin P .add 3 false true x8_32 (.int .i64 1) w30 fun x67_91 =>
                      sli P 9 a0 (some x67_91) (some x56_27) none w30 fun x69_92 =>
                      call P f_internal_stringslite_IndexByte [x69_92, x49_23] w30 fun x71_93 w94 =>
                      bin P .lss 3 false true x71_93 (.int .i64 0) w94 fun x73_95 =>
                      cnd x73_95
                        (K (.int .i64 (-1)) w94)
                        (bin P .add 3 false true x71_93 (.int .i64 1) w94 fun x76_96 =>
                        bin P .add 3 false false x8_32 x76_96 w94 fun x77_97 =>
                        J35 x77_97 w94))
                      (J35 x8_32 w30)))
                  (K (.int .i64 (-1)) w30))) ∧
            grd x39_15 true
              (bl0 P .len #[9] 3 [a0] w5 fun x42_99 =>
              bin P .leq 3 false true x42_99 (.int .i64 64) w5 fun x43_100 =>
              J16 x43_100 w5)
              (J16 undef w5))))) ∧
    grd x18_2 false
      (bin P .eql 9 false false a1 a0 w fun x22_101 =>
      J3 x22_101 w)
      (J3 undef w)
def P_internal_stringslite_Index : Plan := (.seq (.reg [.op (0, 0, false)]) (.seq (.reg [.op (0, 0, false), .op (1, 0, false), .op (2, 0, false)]) (.seq (.blk (.seq (.reg [.op (0, 0, false), .op (1, 0, false), .op (2, 0, false), .grp 2 false [(3, 0, false), (4, 0, false), (5, 0, false)] [22] 7340032, .op (6, 0, false), .op (7, 0, false)]) (.cond (.seq (.reg [.op (0, 0, false)]) .leaf) (.seq (.reg [.op (0, 0, false), .op (1, 0, false), .op (2, 0, false)]) (.cond (.seq (.reg [.op (0, 0, false), .op (1, 0, false), .op (2, 0, false), .op (3, 2, false), .op (4, 0, false)]) .leaf) (.seq (.reg [.op (0, 0, false), .op (1, 0, false), .op (2, 0, false), .op (3, 0, false), .op (4, 0, false)]) (.cond (.seq (.reg [.op (0, 0, false)]) .leaf) (.seq (.reg [.op (0, 0, false), .op (1, 0, false), .op (2, 0, false), .op (3, 0, false), .grp 3 true [(4, 0, false), (5, 0, false), (6, 0, false)] [43] 15393162788864, .op (7, 0, false), .op (8, 0, false)]) (.cond (.seq (.reg [.op (0, 0, false), .op (1, 0, false), .op (2, 2, false), .op (3, 0, false)]) .leaf) .leaf))))))))) (.seq (.reg [.op (0, 0, false), .op (1, 0, false), .op (2, 0, false)]) (.seq (.reg [.op (0, 0, false), .op (1, 0, false), .op (2, 0, false)]) (.seq (.reg [.op (0, 0, false)]) (.seq (.reg [.op (0, 0, false), .op (1, 0, false), .op (2, 0, false), .op (3, 0, false), .op (4, 0, false), .op (5, 0, false)]) (.seq (.reg [.op (0, 0, false)]) (.seq (.blk (.loop [8, 10] 11150372599265311570767858992208992677149968 (.seq (.seq (.reg [.op (0, 0, false), .op (1, 0, false), .op (2, 0, false)]) (.cond .leaf .leaf)) (.blk (.cut [8] 302230301982152686831888 (.seq (.reg [.op (0, 0, false), .op (1, 0, false), .op (2, 0, false), .op (3, 0, false), .op (4, 0, false)]) (.cond (.seq (.reg [.op (0, 0, false), .op (1, 0, false), .op (2, 0, false), .op (3, 0, false), .op (4, 0, false), .op (5, 0, false), .op (6, 2, false), .op (7, 0, false)]) (.seq (.seq (.reg [.op (0, 0, false), .op (1, 0, false)]) (.cond (.seq (.reg [.op (0, 0, false)]) .leaf) .leaf)) (.reg [.op (0, 0, false), .op (1, 0, false), .op (2, 0, false), .op (3, 0, false), .op (4, 0, false)]))) .leaf)) (.seq (.seq (.reg [.op (0, 0, false), .op (1, 0, false), .op (2, 0, false), .op (3, 0, false), .op (4, 0, false), .op (5, 0, false), .op (6, 0, false), .grp 6 true [(7, 0, false), (8, 0, false), (9, 0, false), (10, 0, false), (11, 0, false), (12, 0, false), (13, 0, false), (14, 0, false)] [92] 9864834688055374065602396160, .op (15, 0, false)]) (.cond (.seq (.reg [.op (0, 0, false), .op (1, 0, false)]) .leaf) .leaf)) (.seq (.reg [.op (0, 0, false), .op (1, 0, false), .op (2, 0, false)]) (.seq (.reg [.op (0, 0, false), .op (1, 0, false), .op (2, 0, false)]) (.seq (.reg [.op (0, 0, false), .op (1, 0, false), .op (2, 0, false), .op (3, 0, false), .grp 3 true [(4, 0, false), (5, 0, false), (6, 2, false), (7, 0, false)] [106] 152118072027387528179604384645120, .op (8, 0, false)]) (.cond (.seq (.reg [.op (0, 0, false), .op (1, 0, false), .op (2, 0, false), .op (3, 0, false), .op (4, 2, false), .op (5, 0, false)]) (.seq (.seq (.reg [.op (0, 0, false), .op (1, 0, false)]) (.cond (.seq (.reg [.op (0, 0, false), .op (1, 0, false), .op (2, 0, false), .op (3, 0, false)]) .leaf) .leaf)) (.seq (.reg [.op (0, 0, false)]) .leaf))) (.seq (.reg [.op (0, 0, false), .op (1, 0, false), .op (2, 0, false), .op (3, 0, false), .grp 3 true [(4, 0, false), (5, 0, false), (6, 0, false), (7, 0, false), (8, 0, false)] [126] 164824271477329568240072075474762727424, .op (9, 0, false), .op (10, 0, false), .grp 10 true [(11, 0, false), (12, 0, false), (13, 0, false)] [131] 4763953136893138488487244504044754960384, .op (14, 0, false)]) (.cond (.seq (.reg [.op (0, 0, false), .op (1, 0, false), .op (2, 0, false), .op (3, 0, false), .op (4, 2, false), .op (5, 0, false)]) (.seq (.seq (.reg [.op (0, 0, false), .op (1, 0, false)]) (.cond (.seq (.reg [.op (0, 0, false)]) .leaf) .leaf)) (.seq (.reg [.op (0, 0, false), .op (1, 0, false), .op (2, 0, false), .op (3, 0, false)]) .leaf))) .leaf)))))))))))) (.seq (.reg [.op (0, 0, false)]) .leaf))))))))))
theorem I_internal_stringslite_Index {a0 a1 : Value} {w : World} {K : Value → World → Prop} (h : D_internal_stringslite_Index a0 a1 w K) : call P f_internal_stringslite_Index [a0, a1] w K :=
  call_of_vc mixed Tryz.func211 (c := codeOf Tryz.f211) (by kernel_rfl) (by kernel_rfl) (p := P_internal_stringslite_Index) (by kernel_rfl) (by rw [Tryz.ntmps211]; simp) (by
    have e : D_internal_stringslite_Index a0 a1 w K = vc P P_internal_stringslite_Index (codeOf Tryz.f211) (env0 [a0, a1]) w (retX P Tryz.f211.results.toList K) := by kernel_rfl
    exact e ▸ h)

/-- strings.Cut -/
def D_strings_Cut (a0 a1 : Value) (w : World) (K : Value → World → Prop) : Prop :=
  call P f_internal_stringslite_Cut [a0, a1] w fun x9_1 w2 =>
  xtr P x9_1 0 w2 fun x10_3 =>
  xtr P x9_1 1 w2 fun x11_4 =>
  xtr P x9_1 2 w2 fun x12_5 =>
  K (.tuple #[x10_3, x11_4, x12_5]) w2
def P_strings_Cut : Plan := (.seq (.reg [.op (0, 0, false), .op (1, 0, false), .op (2, 0, false)]) (.seq (.reg [.op (0, 0, false), .op (1, 0, false), .op (2, 2, false), .op (3, 0, false), .op (4, 0, false), .op (5, 0, false), .op (6, 0, false), .op (7, 0, false), .op (8, 0, false)]) .leaf))
theorem I_strings_Cut {a0 a1 : Value} {w : World} {K : Value → World → Prop} (h : D_strings_Cut a0 a1 w K) : call P f_strings_Cut [a0, a1] w K :=
  call_of_vc mixed Tryz.func222 (c := codeOf Tryz.f222) (by kernel_rfl) (by kernel_rfl) (p := P_strings_Cut) (by kernel_rfl) (by rw [Tryz.ntmps222]; simp) (by
    have e : D_strings_Cut a0 a1 w K = vc P P_strings_Cut (codeOf Tryz.f222) (env0 [a0, a1]) w (retX P Tryz.f222.results.toList K) := by kernel_rfl
    exact e ▸ h)

/-- strconv.ParseInt -/
def D_strconv_ParseInt (a0 a1 a2 : Value) (w : World) (K : Value → World → Prop) : Prop :=
  call P f_internal_strconv_ParseInt [a0, a1, a2] w fun x13_1 w2 =>
  xtr P x13_1 0 w2 fun x14_3 =>
  xtr P x13_1 1 w2 fun x15_4 =>
  bin P .neq 189 false true x15_4 .nilIface w2 fun x17_5 =>
  cnd x17_5
    (call P f_strconv_toError [(.string ⟨#[80, 97, 114, 115, 101, 73, 110, 116]⟩), a0, a1, a2, x15_4] w2 fun x23_6 w7 =>
    K (.tuple #[x14_3, x23_6]) w7)
    (K (.tuple #[x14_3, .nilIface]) w2)
def P_strconv_ParseInt : Plan := (.seq (.reg [.op (0, 0, false), .op (1, 0, false)]) (.seq (.reg [.op (0, 0, false), .op (1, 0, false), .op (2, 0, false), .op (3, 2, false), .op (4, 0, false), .op (5, 0, false), .op (6, 0, false), .op (7, 0, false), .op (8, 0, false)]) (.seq (.seq (.reg [.op (0, 0, false), .op (1, 0, false)]) (.cond (.seq (.reg [.op (0, 0, false), .op (1, 0, false), .op (2, 0, false), .op (3, 0, false), .op (4, 0, false), .op (5, 2, false), .op (6, 0, false), .op (7, 0, false)]) .leaf) .leaf)) (.seq (.reg [.op (0, 0, false), .op (1, 0, false), .op (2, 0, false)]) .leaf))))
theorem I_strconv_ParseInt {a0 a1 a2 : Value} {w : World} {K : Value → World → Prop} (h : D_strconv_ParseInt a0 a1 a2 w K) : call P f_strconv_ParseInt [a0, a1, a2] w K :=
  call_of_vc mixed Tryz.func225 (c := codeOf Tryz.f225) (by kernel_rfl) (by kernel_rfl) (p := P_strconv_ParseInt) (by kernel_rfl) (by rw [Tryz.ntmps225]; simp) (by
    have e : D_strconv_ParseInt a0 a1 a2 w K = vc P P_strconv_ParseInt (codeOf Tryz.f225) (env0 [a0, a1, a2]) w (retX P Tryz.f225.results.toList K) := by kernel_rfl
    exact e ▸ h)

/-- slices.Clone[[]uint32,uint32] -/
def D_slices_Clone_uint32_uint32 (a0 : Value) (w : World) (K : Value → World → Prop) : Prop :=
  bin P .eql 156 false true a0 (.slice none 0 0) w fun x4_1 =>
  cnd x4_1
    (K (.slice none 0 0) w)
    (bsl P 156 0 [] w fun x5_2 w3 =>
    bl2 P .append #[156, 156] 156 [x5_2, a0] w3 fun x7_4 w5 =>
    K x7_4 w5)
def P_slices_Clone_uint32_uint32 : Plan := (.seq (.reg [.op (0, 0, false)]) (.seq (.seq (.reg [.op (0, 0, false), .op (1, 0, false)]) (.cond (.seq (.reg [.op (0, 0, false)]) .leaf) .leaf)) (.seq (.reg [.op (0, 2, false), .op (1, 0, false), .op (2, 2, false), .op (3, 0, false)]) .leaf)))
theorem I_slices_Clone_uint32_uint32 {a0 : Value} {w : World} {K : Value → World → Prop} (h : D_slices_Clone_uint32_uint32 a0 w K) : call P f_slices_Clone_uint32_uint32 [a0] w K :=
  call_of_vc mixed Tryz.func230 (c := codeOf Tryz.f230) (by kernel_rfl) (by kernel_rfl) (p := P_slices_Clone_uint32_uint32) (by kernel_rfl) (by rw [Tryz.ntmps230]; simp) (by
    have e : D_slices_Clone_uint32_uint32 a0 w K = vc P P_slices_Clone_uint32_uint32 (codeOf Tryz.f230) (env0 [a0]) w (retX P Tryz.f230.results.toList K) := by kernel_rfl
    exact e ▸ h)

/-- unicode/utf8.decodeRuneInStringSlow -/
def D_unicode_utf8_decodeRuneInStringSlow (a0 : Value) (w : World) (K : Value → World → Prop) : Prop :=
  bl0 P .len #[9] 3 [a0] w fun x14_1 =>
  bin P .lss 3 false true x14_1 (.int .i64 1) w fun x16_2 =>
  cnd x16_2
    (K (.tuple #[(.int .i32 65533), (.int .i64 0)]) w)
    (idx P 9 a0 (.int .i64 0) w fun x18_3 =>
    ixa P 274 (.pointer (some ⟨2, 0, none⟩)) x18_3 w fun x20_4 =>
    ld P 5 x20_4 w fun x21_5 =>
    bin P .geq 5 false true x21_5 (.int .u8 240) w fun x23_6 =>
    cnd x23_6
      (cnv P 5 21 x21_5 w fun x25_7 =>
      bin P .shl 21 false true x25_7 (.int .u64 31) w fun x26_8 =>
      bin P .shr 21 false true x26_8 (.int .u64 31) w fun x27_9 =>
      idx P 9 a0 (.int .i64 0) w fun x29_10 =>
      cnv P 5 21 x29_10 w fun x30_11 =>
      bin P .andNot 21 false false x30_11 x27_9 w fun x32_12 =>
      bin P .and 21 true false (.int .i32 65533) x27_9 w fun x34_13 =>
      bin P .or 21 false false x32_12 x34_13 w fun x35_14 =>
      K (.tuple #[x35_14, (.int .i64 1)]) w)
      (bin P .and 5 false true x21_5 (.int .u8 7) w fun x37_15 =>
      cnv P 5 3 x37_15 w fun x38_16 =>
      bin P .shr 5 false true x21_5 (.int .u64 4) w fun x40_17 =>
      ixa P 277 (.pointer (some ⟨3, 0, none⟩)) x40_17 w fun x41_18 =>
      ld P 276 x41_18 w fun x42_19 =>
      alc P 276 w fun x9_20 w21 =>
      sto P 276 x9_20 x42_19 w21 fun w23 =>
      bin P .lss 3 false false x14_1 x38_16 w23 fun x45_24 =>
      cnd x45_24
        (K (.tuple #[(.int .i32 65533), (.int .i64 1)]) w23)
        (idx P 9 a0 (.int .i64 1) w23 fun x47_25 =>
        fda P 276 x9_20 0 w23 fun x49_26 =>
        ld P 5 x49_26 w23 fun x50_27 =>
        bin P .lss 5 false false x47_25 x50_27 w23 fun x51_28 =>
        ∃ J29 : Value → World → Prop, (∀ (x56_30 : Value) (junk32 : Env) (w31 : World), J29 x56_30 w31 →
          pick x51_28 (.bool true) x56_30 fun x57_33 =>
          cnd x57_33
            (K (.tuple #[(.int .i32 65533), (.int .i64 1)]) w31)
            (bin P .leq 3 false true x38_16 (.int .i64 2) w31 fun x59_34 =>
            cnd x59_34
              (bin P .and 5 false true x18_3 (.int .u8 31) w31 fun x61_35 =>
              cnv P 5 21 x61_35 w31 fun x62_36 =>
              bin P .shl 21 false true x62_36 (.int .u64 6) w31 fun x63_37 =>
              bin P .and 5 false true x47_25 (.int .u8 63) w31 fun x65_38 =>
              cnv P 5 21 x65_38 w31 fun x66_39 =>
              bin P .or 21 false false x63_37 x66_39 w31 fun x67_40 =>
              K (.tuple #[x67_40, (.int .i64 2)]) w31)
              (idx P 9 a0 (.int .i64 2) w31 fun x69_41 =>
              bin P .lss 5 false true x69_41 (.int .u8 128) w31 fun x71_42 =>
              ∃ J43 : Value → World → Prop, (∀ (x74_44 : Value) (junk46 : Env) (w45 : World), J43 x74_44 w45 →
                pick x71_42 (.bool true) x74_44 fun x75_47 =>
                cnd x75_47
                  (K (.tuple #[(.int .i32 65533), (.int .i64 1)]) w45)
                  (bin P .leq 3 false true x38_16 (.int .i64 3) w45 fun x77_48 =>
                  cnd x77_48
                    (bin P .and 5 false true x18_3 (.int .u8 15) w45 fun x79_49 =>
                    cnv P 5 21 x79_49 w45 fun x80_50 =>
                    bin P .shl 21 false true x80_50 (.int .u64 12) w45 fun x81_51 =>
                    bin P .and 5 false true x47_25 (.int .u8 63) w45 fun x83_52 =>
                    cnv P 5 21 x83_52 w45 fun x84_53 =>
                    bin P .shl 21 false true x84_53 (.int .u64 6) w45 fun x85_54 =>
                    bin P .or 21 false false x81_51 x85_54 w45 fun x86_55 =>
                    bin P .and 5 false true x69_41 (.int .u8 63) w45 fun x88_56 =>
                    cnv P 5 21 x88_56 w45 fun x89_57 =>
                    bin P .or 21 false false x86_55 x89_57 w45 fun x90_58 =>
                    K (.tuple #[x90_58, (.int .i64 3)]) w45)
                    (idx P 9 a0 (.int .i64 3) w45 fun x92_59 =>
                    bin P .lss 5 false true x92_59 (.int .u8 128) w45 fun x94_60 =>
                    ∃ J61 : Value → World → Prop, (∀ (x97_62 : Value) (junk64 : Env) (w63 : World), J61 x97_62 w63 →
                      pick x94_60 (.bool true) x97_62 fun x98_65 =>
                      cnd x98_65
                        (K (.tuple #[(.int .i32 65533), (.int .i64 1)]) w63)
                        (bin P .and 5 false true x18_3 (.int .u8 7) w63 fun x100_66 =>
                        cnv P 5 21 x100_66 w63 fun x101_67 =>
                        bin P .shl 21 false true x101_67 (.int .u64 18) w63 fun x102_68 =>
                        bin P .and 5 false true x47_25 (.int .u8 63) w63 fun x104_69 =>
                        cnv P 5 21 x104_69 w63 fun x105_70 =>
                        bin P .shl 21 false true x105_70 (.int .u64 12) w63 fun x106_71 =>
                        bin P .or 21 false false x102_68 x106_71 w63 fun x107_72 =>
                        bin P .and 5 false true x69_41 (.int .u8 63) w63 fun x109_73 =>
                        cnv P 5 21 x109_73 w63 fun x110_74 =>
                        bin P .shl 21 false true x110_74 (.int .u64 6) w63 fun x111_75 =>
                        bin P .or 21 false false x107_72 x111_75 w63 fun x112_76 =>
                        bin P .and 5 false true x92_59 (.int .u8 63) w63 fun x114_77 =>
                        cnv P 5 21 x114_77 w63 fun x115_78 =>
                        bin P .or 21 false false x112_76 x115_78 w63 fun x116_79 =>
                        K (.tuple #[x116_79, (.int .i64 4)]) w63)) ∧
                      grd x94_60 false
                        (bin P .lss 5 true false (.int .u8 191) x92_59 w45 fun x97_80 =>
                        J61 x97_80 w45)
                        (J61 undef w45)))) ∧
                grd x71_42 false
                  (bin P .lss 5 true false (.int .u8 191) x69_41 w31 fun x74_81 =>
                  J43 x74_81 w31)
                  (J43 undef w31)))) ∧
          grd x51_28 false
            (fda P 276 x9_20 1 w23 fun x53_82 =>
            ld P 5 x53_82 w23 fun x54_83 =>
            bin P .lss 5 false false x54_83 x47_25 w23 fun x56_84 =>
            J29 x56_84 w23)
            (J29 undef w23))))
def P_unicode_utf8_decodeRuneInStringSlow : Plan := (.seq (.reg [.op (0, 0, false), .op (1, 0, false)]) (.seq (.reg [.op (0, 0, false), .op (1, 0, false), .op (2, 0, false)]) (.seq (.seq (.reg [.op (0, 0, false), .op (1, 0, false)]) (.cond (.seq (.reg [.op (0, 0, false), .op (1, 0, false)]) .leaf) .leaf)) (.seq (.reg [.op (0, 0, false), .op (1, 0, false), .op (2, 0, false)]) (.seq (.reg [.op (0, 0, false), .op (1, 0, false), .op (2, 0, false), .op (3, 0, false)]) (.seq (.seq (.reg [.op (0, 0, false), .op (1, 0, false)]) (.cond (.seq (.reg [.op (0, 0, false), .op (1, 0, false), .op (2, 0, false), .op (3, 0, false), .op (4, 0, false)]) (.seq (.reg [.op (0, 0, false), .op (1, 0, false), .op (2, 0, false), .op (3, 0, false), .op (4, 0, false), .op (5, 0, false), .op (6, 0, false), .op (7, 0, false), .op (8, 0, false), .op (9, 0, false)]) .leaf)) .leaf)) (.seq (.reg [.op (0, 0, false), .op (1, 0, false), .op (2, 0, false), .op (3, 0, false)]) (.seq (.reg [.op (0, 0, false), .op (1, 0, false), .op (2, 0, false), .op (3, 0, false), .op (4, 2, false), .op (5, 2, false)]) (.seq (.seq (.reg [.op (0, 0, false), .op (1, 0, false), .op (2, 0, false)]) (.cond (.seq (.reg [.op (0, 0, false), .op (1, 0, false)]) .leaf) .leaf)) (.seq (.reg [.op (0, 0, false), .op (1, 0, false), .op (2, 0, false)]) (.seq (.seq (.reg [.op (0, 0, false), .op (1, 0, false), .op (2, 0, false), .op (3, 0, false), .op (4, 0, false), .grp 4 false [(5, 0, false), (6, 0, false), (7, 0, false), (8, 0, false)] [56] 135107988821114880, .op (9, 0, false)]) (.cond (.seq (.reg [.op (0, 0, false), .op (1, 0, false)]) .leaf) .leaf)) (.seq (.seq (.reg [.op (0, 0, false), .op (1, 0, false)]) (.cond (.seq (.reg [.op (0, 0, false), .op (1, 0, false), .op (2, 0, false), .op (3, 0, false), .op (4, 0, false), .op (5, 0, false), .op (6, 0, false), .op (7, 0, false), .op (8, 0, false), .op (9, 0, false)]) .leaf) .leaf)) (.seq (.reg [.op (0, 0, false), .op (1, 0, false), .op (2, 0, false)]) (.seq (.seq (.reg [.op (0, 0, false), .op (1, 0, false), .op (2, 0, false), .grp 2 false [(3, 0, false), (4, 0, false)] [74] 28334198897217871282176, .op (5, 0, false)]) (.cond (.seq (.reg [.op (0, 0, false), .op (1, 0, false)]) .leaf) .leaf)) (.seq (.seq (.reg [.op (0, 0, false), .op (1, 0, false)]) (.cond (.seq (.reg [.op (0, 0, false), .op (1, 0, false), .op (2, 0, false), .op (3, 0, false), .op (4, 0, false), .op (5, 0, false), .op (6, 0, false), .op (7, 0, false), .op (8, 0, false), .op (9, 0, false), .op (10, 0, false), .op (11, 0, false), .op (12, 0, false), .op (13, 0, false), .op (14, 0, false)]) .leaf) .leaf)) (.seq (.reg [.op (0, 0, false), .op (1, 0, false), .op (2, 0, false)]) (.seq (.seq (.reg [.op (0, 0, false), .op (1, 0, false), .op (2, 0, false), .grp 2 false [(3, 0, false), (4, 0, false)] [97] 237684487542793012780631851008, .op (5, 0, false)]) (.cond (.seq (.reg [.op (0, 0, false), .op (1, 0, false)]) .leaf) .leaf)) (.seq (.reg [.op (0, 0, false), .op (1, 0, false), .op (2, 0, false), .op (3, 0, false), .op (4, 0, false), .op (5, 0, false), .op (6, 0, false), .op (7, 0, false), .op (8, 0, false), .op (9, 0, false), .op (10, 0, false), .op (11, 0, false), .op (12, 0, false), .op (13, 0, false), .op (14, 0, false), .op (15, 0, false), .op (16, 0, false), .op (17, 0, false), .op (18, 0, false), .op (19, 0, false)]) .leaf))))))))))))))))))
theorem I_unicode_utf8_decodeRuneInStringSlow {a0 : Value} {w : World} {K : Value → World → Prop} (h : D_unicode_utf8_decodeRuneInStringSlow a0 w K) : call P f_unicode_utf8_decodeRuneInStringSlow [a0] w K :=
  call_of_vc mixed Tryz.func246 (c := codeOf Tryz.f246) (by kernel_rfl) (by kernel_rfl) (p := P_unicode_utf8_decodeRuneInStringSlow) (by kernel_rfl) (by rw [Tryz.ntmps246]; simp) (by
    have e : D_unicode_utf8_decodeRuneInStringSlow a0 w K = vc P P_unicode_utf8_decodeRuneInStringSlow (codeOf Tryz.f246) (env0 [a0]) w (retX P Tryz.f246.results.toList K) := by kernel_rfl
    exact e ▸ h)

/-- internal/stringslite.IndexByte -/
def D_internal_stringslite_IndexByte (a0 a1 : Value) (w : World) (K : Value → World → Prop) : Prop :=
  call P f_internal_bytealg_IndexByteString [a0, a1] w fun x7_1 w2 =>
  K x7_1 w2
def P_internal_stringslite_IndexByte : Plan := (.seq (.reg [.op (0, 0, false)]) (.seq (.reg [.op (0, 0, false), .op (1, 0, false), .op (2, 2, false), .op (3, 0, false)]) .leaf))
theorem I_internal_stringslite_IndexByte {a0 a1 : Value} {w : World} {K : Value → World → Prop} (h : D_internal_stringslite_IndexByte a0 a1 w K) : call P f_internal_stringslite_IndexByte [a0, a1] w K :=
  call_of_vc mixed Tryz.func247 (c := codeOf Tryz.f247) (by kernel_rfl) (by kernel_rfl) (p := P_internal_stringslite_IndexByte) (by kernel_rfl) (by rw [Tryz.ntmps247]; simp) (by
    have e : D_internal_stringslite_IndexByte a0 a1 w K = vc P P_internal_stringslite_IndexByte (codeOf Tryz.f247) (env0 [a0, a1]) w (retX P Tryz.f247.results.toList K) := by kernel_rfl
    exact e ▸ h)

/-- internal/bytealg.Cutover -/
def D_internal_bytealg_Cutover (a0 : Value) (w : World) (K : Value → World → Prop) : Prop :=
  bin P .add 3 false true a0 (.int .i64 16) w fun x4_1 =>
  bin P .quo 3 false true x4_1 (.int .i64 8) w fun x5_2 =>
  K x5_2 w
def P_internal_bytealg_Cutover : Plan := (.seq (.reg [.op (0, 0, false)]) (.seq (.reg [.op (0, 0, false), .op (1, 0, false), .op (2, 0, false), .op (3, 0, false)]) .leaf))
theorem I_internal_bytealg_Cutover {a0 : Value} {w : World} {K : Value → World → Prop} (h : D_internal_bytealg_Cutover a0 w K) : call P f_internal_bytealg_Cutover [a0] w K :=
  call_of_vc mixed Tryz.func249 (c := codeOf Tryz.f249) (by kernel_rfl) (by kernel_rfl) (p := P_internal_bytealg_Cutover) (by kernel_rfl) (by rw [Tryz.ntmps249]; simp) (by
    have e : D_internal_bytealg_Cutover a0 w K = vc P P_internal_bytealg_Cutover (codeOf Tryz.f249) (env0 [a0]) w (retX P Tryz.f249.results.toList K) := by kernel_rfl
    exact e ▸ h)

/-- internal/bytealg.IndexRabinKarp[string] -/
def D_internal_bytealg_IndexRabinKarp_string (a0 a1 : Value) (w : World) (K : Value → World → Prop) : Prop :=
  call P f_internal_bytealg_hashStr_string [a1] w fun x13_1 w2 =>
  xtr P x13_1 0 w2 fun x14_3 =>
  xtr P x13_1 1 w2 fun x15_4 =>
  bl0 P .len #[9] 3 [a1] w2 fun x17_5 =>
  ∃ I6 : Nat → Value → Value → World → Prop, (∃ m57, I6 m57 (.int .u32 0) (.int .i64 0) w2) ∧ ∀ (m9 : Nat) (x8_10 : Value) (x9_11 : Value) (junk7 : Env) (w8 : World), I6 m9 x8_10 x9_11 w8 →
    bin P .lss 3 false false x9_11 x17_5 w8 fun x20_12 =>
    cnd x20_12
      (bin P .mul 202 false true x8_10 (.int .u32 16777619) w8 fun x24_13 =>
      idx P 9 a0 x9_11 w8 fun x27_14 =>
      cnv P 5 202 x27_14 w8 fun x28_15 =>
      bin P .add 202 false false x24_13 x28_15 w8 fun x29_16 =>
      bin P .add 3 false true x9_11 (.int .i64 1) w8 fun x22_17 =>
      ∃ m18, m18 < m9 ∧ I6 m18 x29_16 x22_17 w8)
      (bin P .eql 202 false false x8_10 x14_3 w8 fun x32_19 =>
      ∃ J20 : Value → World → Prop, (∀ (x38_21 : Value) (junk23 : Env) (w22 : World), J20 x38_21 w22 →
        pick x32_19 x38_21 (.bool false) fun x39_24 =>
        cnd x39_24
          (K (.int .i64 0) w22)
          (∃ I25 : Nat → Value → Value → World → Prop, (∃ m54, I25 m54 x8_10 x17_5 w22) ∧ ∀ (m28 : Nat) (x8_29 : Value) (x10_30 : Value) (junk26 : Env) (w27 : World), I25 m28 x8_29 x10_30 w27 →
            bl0 P .len #[9] 3 [a0] w27 fun x43_31 =>
            bin P .lss 3 false false x10_30 x43_31 w27 fun x44_32 =>
            cnd x44_32
              (bin P .mul 202 false true x8_29 (.int .u32 16777619) w27 fun x46_33 =>
              idx P 9 a0 x10_30 w27 fun x50_34 =>
              cnv P 5 202 x50_34 w27 fun x51_35 =>
              bin P .add 202 false false x46_33 x51_35 w27 fun x52_36 =>
              bin P .sub 3 false false x10_30 x17_5 w27 fun x58_37 =>
              idx P 9 a0 x58_37 w27 fun x59_38 =>
              cnv P 5 202 x59_38 w27 fun x60_39 =>
              bin P .mul 202 false false x15_4 x60_39 w27 fun x61_40 =>
              bin P .sub 202 false false x52_36 x61_40 w27 fun x62_41 =>
              bin P .add 3 false true x10_30 (.int .i64 1) w27 fun x64_42 =>
              bin P .eql 202 false false x62_41 x14_3 w27 fun x67_43 =>
              ∃ J44 : Value → World → Prop, (∀ (x76_45 : Value) (junk47 : Env) (w46 : World), J44 x76_45 w46 →
                pick x67_43 x76_45 (.bool false) fun x77_48 =>
                cnd x77_48
                  (bin P .sub 3 false false x64_42 x17_5 w46 fun x80_49 =>
                  K x80_49 w46)
                  (∃ m50, m50 < m28 ∧ I25 m50 x62_41 x64_42 w46)) ∧
                grd x67_43 true
                  (bin P .sub 3 false false x64_42 x17_5 w27 fun x72_51 =>
                  sli P 9 a0 (some x72_51) (some x64_42) none w27 fun x74_52 =>
                  bin P .eql 9 false false x74_52 a1 w27 fun x76_53 =>
                  J44 x76_53 w27)
                  (J44 undef w27))
              (K (.int .i64 (-1)) w27))) ∧
        grd x32_19 true
          (sli P 9 a0 none (some x17_5) none w8 fun x36_55 =>
          bin P .eql 9 false false x36_55 a1 w8 fun x38_56 =>
          J20 x38_56 w8)
          (J20 undef w8))
def P_internal_bytealg_IndexRabinKarp_string : Plan := (.seq (.reg [.op (0, 0, false)]) (.seq (.reg [.op (0, 0, false), .op (1, 2, false), .op (2, 0, false), .op (3, 0, false), .op (4, 0, false), .op (5, 0, false), .op (6, 0, false)]) (.seq (.reg [.op (0, 0, false), .op (1, 0, false), .op (2, 0, false)]) (.seq (.reg [.op (0, 0, false)]) (.seq (.seq (.reg [.op (0, 0, false)]) (.blk (.loop [8, 9] 1073480448 (.seq (.seq (.reg [.op (0, 0, false), .op (1, 0, false), .op (2, 0, false)]) (.cond .leaf .leaf)) (.seq (.blk (.reg [.op (0, 0, false), .op (1, 0, false), .op (2, 0, false), .op (3, 0, false), .op (4, 0, false), .op (5, 0, false), .op (6, 0, false), .op (7, 0, false)])) (.reg [.op (0, 0, false), .op (1, 0, false), .op (2, 0, false)])))))) (.seq (.seq (.reg [.op (0, 0, false), .op (1, 0, false), .op (2, 0, false), .op (3, 0, false), .grp 3 true [(4, 0, false), (5, 0, false), (6, 0, false), (7, 0, false), (8, 0, false)] [38] 532575944704, .op (9, 0, false)]) (.cond (.seq (.reg [.op (0, 0, false)]) .leaf) .leaf)) (.seq (.seq (.reg [.op (0, 0, false), .op (1, 0, false)]) (.blk (.loop [8, 10] 2417851639227059326158096 (.seq (.seq (.reg [.op (0, 0, false), .op (1, 0, false), .op (2, 0, false), .op (3, 0, false)]) (.cond .leaf .leaf)) (.blk (.seq (.reg [.op (0, 0, false), .op (1, 0, false), .op (2, 0, false)]) (.seq (.reg [.op (0, 0, false), .op (1, 0, false), .op (2, 0, false), .op (3, 0, false), .op (4, 0, false), .op (5, 0, false), .op (6, 0, false)]) (.seq (.reg [.op (0, 0, false), .op (1, 0, false), .op (2, 0, false), .op (3, 0, false), .op (4, 0, false), .op (5, 0, false), .op (6, 0, false), .op (7, 0, false), .op (8, 0, false), .op (9, 0, false), .op (10, 0, false)]) (.seq (.reg [.op (0, 0, false), .op (1, 0, false), .op (2, 0, false)]) (.seq (.reg [.op (0, 0, false), .op (1, 0, false), .op (2, 0, false), .op (3, 0, false), .grp 3 true [(4, 0, false), (5, 0, false), (6, 0, false), (7, 0, false), (8, 0, false), (9, 0, false), (10, 0, false), (11, 0, false)] [76] 150525431641469941186560, .op (12, 0, false)]) (.cond (.seq (.reg [.op (0, 0, false), .op (1, 0, false), .op (2, 0, false), .op (3, 0, false)]) .leaf) .leaf))))))))))) (.seq (.reg [.op (0, 0, false)]) .leaf))))))))
theorem I_internal_bytealg_IndexRabinKarp_string {a0 a1 : Value} {w : World} {K : Value → World → Prop} (h : D_internal_bytealg_IndexRabinKarp_string a0 a1 w K) : call P f_internal_bytealg_IndexRabinKarp_string [a0, a1] w K :=
  call_of_vc mixed Tryz.func250 (c := codeOf Tryz.f250) (by kernel_rfl) (by kernel_rfl) (p := P_internal_bytealg_IndexRabinKarp_string) (by kernel_rfl) (by rw [Tryz.ntmps250]; simp) (by
    have e : D_internal_bytealg_IndexRabinKarp_string a0 a1 w K = vc P P_internal_bytealg_IndexRabinKarp_string (codeOf Tryz.f250) (env0 [a0, a1]) w (retX P Tryz.f250.results.toList K) := by kernel_rfl
    exact e ▸ h)

/-- internal/stringslite.Cut -/
def D_internal_stringslite_Cut (a0 a1 : Value) (w : World) (K : Value → World → Prop) : Prop :=
  call P f_internal_stringslite_Index [a0, a1] w fun x10_1 w2 =>
  bin P .geq 3 false true x10_1 (.int .i64 0) w2 fun x12_3 =>
  cnd x12_3
    (sli P 9 a0 none (some x10_1) none w2 fun x15_4 =>
    bl0 P .len #[9] 3 [a1] w2 fun x19_5 =>
    bin P .add 3 false false x10_1 x19_5 w2 fun x20_6 =>
    sli P 9 a0 (some x20_6) none none w2 fun x21_7 =>
    K (.tuple #[x15_4, x21_7, (.bool true)]) w2)
    (K (.tuple #[a0, (.string ⟨#[]⟩), (.bool false)]) w2)
def P_internal_stringslite_Cut : Plan := (.seq (.reg [.op (0, 0, false), .op (1, 0, false), .op (2, 0, false)]) (.seq (.seq (.reg [.op (0, 0, false), .op (1, 0, false), .op (2, 2, false), .op (3, 0, false)]) (.seq (.reg [.op (0, 0, false), .op (1, 0, false)]) (.cond (.seq (.reg [.op (0, 0, false), .op (1, 0, false), .op (2, 0, false), .op (3, 0, false), .op (4, 0, false), .op (5, 0, false), .op (6, 0, false), .op (7, 0, false), .op (8, 0, false), .op (9, 0, false), .op (10, 0, false), .op (11, 0, false)]) .leaf) .leaf))) (.seq (.reg [.op (0, 0, false), .op (1, 0, false), .op (2, 0, false), .op (3, 0, false)]) .leaf)))
theorem I_internal_stringslite_Cut {a0 a1 : Value} {w : World} {K : Value → World → Prop} (h : D_internal_stringslite_Cut a0 a1 w K) : call P f_internal_stringslite_Cut [a0, a1] w K :=
  call_of_vc mixed Tryz.func255 (c := codeOf Tryz.f255) (by kernel_rfl) (by kernel_rfl) (p := P_internal_stringslite_Cut) (by kernel_rfl) (by rw [Tryz.ntmps255]; simp) (by
    have e : D_internal_stringslite_Cut a0 a1 w K = vc P P_internal_stringslite_Cut (codeOf Tryz.f255) (env0 [a0, a1]) w (retX P Tryz.f255.results.toList K) := by kernel_rfl
    exact e ▸ h)

/-- internal/strconv.ParseInt -/
def D_internal_strconv_ParseInt (a0 a1 a2 : Value) (w : World) (K : Value → World → Prop) : Prop :=
  bin P .eql 9 false true a0 (.string ⟨#[]⟩) w fun x13_1 =>
  cnd x13_1
    (mki P 280 (.int .i64 2) w fun x14_2 =>
    K (.tuple #[(.int .i64 0), x14_2]) w)
    (∃ J3 : Value → Value → World → Prop, (∀ (x0_6 : Value) (x8_7 : Value) (junk4 : Env) (w5 : World), J3 x0_6 x8_7 w5 →
      call P f_internal_strconv_ParseUint [x0_6, a1, a2] w5 fun x29_8 w9 =>
      xtr P x29_8 0 w9 fun x30_10 =>
      xtr P x29_8 1 w9 fun x31_11 =>
      bin P .neq 189 false true x31_11 .nilIface w9 fun x33_12 =>
      ∃ J13 : Value → World → Prop, (∀ (x37_14 : Value) (junk16 : Env) (w15 : World), J13 x37_14 w15 →
        pick x33_12 x37_14 (.bool false) fun x38_17 =>
        cnd x38_17
          (K (.tuple #[(.int .i64 0), x31_11]) w15)
          (∃ J18 : Value → World → Prop, (∀ (x2_21 : Value) (junk19 : Env) (w20 : World), J18 x2_21 w20 →
            bin P .sub 3 false true x2_21 (.int .i64 1) w20 fun x43_22 =>
            cnv P 3 154 x43_22 w20 fun x44_23 =>
            bin P .shl 178 true false (.int .u64 1) x44_23 w20 fun x45_24 =>
            una P .not x8_7 w20 fun x47_25 =>
            ∃ J26 : Value → World → Prop, (∀ (x51_27 : Value) (junk29 : Env) (w28 : World), J26 x51_27 w28 →
              pick x47_25 x51_27 (.bool false) fun x52_30 =>
              cnd x52_30
                (bin P .sub 178 false true x45_24 (.int .u64 1) w28 fun x54_31 =>
                cnv P 178 2 x54_31 w28 fun x55_32 =>
                mki P 280 (.int .i64 1) w28 fun x56_33 =>
                K (.tuple #[x55_32, x56_33]) w28)
                (∃ J34 : Value → World → Prop, (∀ (x61_35 : Value) (junk37 : Env) (w36 : World), J34 x61_35 w36 →
                  pick x8_7 x61_35 (.bool false) fun x62_38 =>
                  cnd x62_38
                    (cnv P 178 2 x45_24 w36 fun x64_39 =>
                    una P .neg x64_39 w36 fun x65_40 =>
                    mki P 280 (.int .i64 1) w36 fun x66_41 =>
                    K (.tuple #[x65_40, x66_41]) w36)
                    (cnv P 178 2 x30_10 w36 fun x68_42 =>
                    cnd x8_7
                      (una P .neg x68_42 w36 fun x71_43 =>
                      K (.tuple #[x71_43, .nilIface]) w36)
                      (K (.tuple #[x68_42, .nilIface]) w36))) ∧
                  grd x8_7 true
                    (bin P .gtr 178 false false x30_10 x45_24 w28 fun x61_44 =>
                    J34 x61_44 w28)
                    (J34 undef w28))) ∧
              grd x47_25 true
                (bin P .geq 178 false false x30_10 x45_24 w20 fun x51_45 =>
                J26 x51_45 w20)
                (J26 undef w20)) ∧
            (bin P .eql 3 false true a2 (.int .i64 0) w15 fun x41_46 =>
            cnd x41_46
              (J18 (.int .i64 64) w15)
              (J18 a2 w15)))) ∧
        grd x33_12 true
          (mki P 280 (.int .i64 1) w9 fun x36_47 =>
          bin P .neq 189 false false x31_11 x36_47 w9 fun x37_48 =>
          J13 x37_48 w9)
          (J13 undef w9)) ∧
      (idx P 9 a0 (.int .i64 0) w fun x16_49 =>
      bin P .eql 5 false true x16_49 (.int .u8 43) w fun x18_50 =>
      cnd x18_50
        (sli P 9 a0 (some (.int .i64 1)) none none w fun x20_51 =>
        J3 x20_51 (.bool false) w)
        (bin P .eql 5 false true x16_49 (.int .u8 45) w fun x22_52 =>
        cnd x22_52
          (sli P 9 a0 (some (.int .i64 1)) none none w fun x24_53 =>
          J3 x24_53 (.bool true) w)
          (J3 a0 (.bool false) w))))
def P_internal_strconv_ParseInt : Plan := (.seq (.reg [.op (0, 0, false), .op (1, 0, false)]) (.seq (.seq (.reg [.op (0, 0, false), .op (1, 0, false)]) (.cond (.seq (.reg [.op (0, 0, false), .op (1, 0, false), .op (2, 0, false)]) .leaf) .leaf)) (.seq (.reg [.op (0, 0, false)]) (.cut [0, 8] 33521921 (.seq (.reg [.op (0, 0, false), .op (1, 0, false)]) (.blk (.seq (.reg [.op (0, 0, false), .op (1, 0, false)]) (.cond (.reg [.op (0, 0, false), .op (1, 0, false), .op (2, 0, false)]) (.seq (.reg [.op (0, 0, false), .op (1, 0, false)]) (.cond (.seq (.reg [.op (0, 0, false), .op (1, 0, false), .op (2, 0, false)]) (.reg [.op (0, 0, false)])) .leaf)))))) (.seq (.reg [.op (0, 0, false)]) (.seq (.reg [.op (0, 0, false), .op (1, 0, false), .op (2, 0, false), .op (3, 2, false), .op (4, 0, false), .op (5, 0, false), .op (6, 0, false), .op (7, 0, false), .op (8, 0, false)]) (.seq (.seq (.reg [.op (0, 0, false), .op (1, 0, false), .op (2, 0, false), .grp 2 true [(3, 0, false), (4, 0, false), (5, 0, false)] [37] 240518168576, .op (6, 0, false)]) (.cond (.seq (.reg [.op (0, 0, false), .op (1, 0, false), .op (2, 0, false)]) .leaf) .leaf)) (.cut [2] 3298534883332 (.seq (.reg [.op (0, 0, false), .op (1, 0, false)]) (.cond (.reg [.op (0, 0, false)]) .leaf)) (.seq (.reg [.op (0, 0, false), .op (1, 0, false), .op (2, 0, false), .op (3, 0, false), .op (4, 0, false)]) (.seq (.seq (.reg [.op (0, 0, false), .op (1, 0, false), .op (2, 0, false), .grp 2 true [(3, 0, false), (4, 0, false), (5, 0, false)] [51] 3940649673949184, .op (6, 0, false)]) (.cond (.seq (.reg [.op (0, 0, false), .op (1, 0, false), .op (2, 0, false), .op (3, 0, false), .op (4, 0, false), .op (5, 0, false)]) .leaf) .leaf)) (.seq (.seq (.reg [.op (0, 0, false), .op (1, 0, false), .grp 1 true [(2, 0, false), (3, 0, false), (4, 0, false)] [61] 4035225266123964416, .op (5, 0, false)]) (.cond (.seq (.reg [.op (0, 0, false), .op (1, 0, false), .op (2, 0, false), .op (3, 0, false), .op (4, 0, false), .op (5, 0, false)]) .leaf) .leaf)) (.seq (.reg [.op (0, 0, false), .op (1, 0, false), .op (2, 0, false)]) (.seq (.seq (.reg [.op (0, 0, false)]) (.cond (.reg [.op (0, 0, false), .op (1, 0, false), .op (2, 0, false)]) .leaf)) (.seq (.reg [.op (0, 0, false), .op (1, 0, false), .op (2, 0, false)]) .leaf))))))))))))))
theorem I_internal_strconv_ParseInt {a0 a1 a2 : Value} {w : World} {K : Value → World → Prop} (h : D_internal_strconv_ParseInt a0 a1 a2 w K) : call P f_internal_strconv_ParseInt [a0, a1, a2] w K :=
  call_of_vc mixed Tryz.func258 (c := codeOf Tryz.f258) (by kernel_rfl) (by kernel_rfl) (p := P_internal_strconv_ParseInt) (by kernel_rfl) (by rw [Tryz.ntmps258]; simp) (by
    have e : D_internal_strconv_ParseInt a0 a1 a2 w K = vc P P_internal_strconv_ParseInt (codeOf Tryz.f258) (env0 [a0, a1, a2]) w (retX P Tryz.f258.results.toList K) := by kernel_rfl
    exact e ▸ h)

/-- strconv.toError -/
def D_strconv_toError (a0 a1 a2 a3 a4 : Value) (w : World) (K : Value → World → Prop) : Prop :=
  mki P 280 (.int .i64 2) w fun x13_1 =>
  bin P .eql 189 false false a4 x13_1 w fun x14_2 =>
  cnd x14_2
    (call P f_strconv_syntaxError [a0, a1] w fun x17_3 w4 =>
    mki P 283 x17_3 w4 fun x18_5 =>
    K x18_5 w4)
    (mki P 280 (.int .i64 1) w fun x20_6 =>
    bin P .eql 189 false false a4 x20_6 w fun x21_7 =>
    cnd x21_7
      (call P f_strconv_rangeError [a0, a1] w fun x24_8 w9 =>
      mki P 283 x24_8 w9 fun x25_10 =>
      K x25_10 w9)
      (mki P 280 (.int .i64 3) w fun x27_11 =>
      bin P .eql 189 false false a4 x27_11 w fun x28_12 =>
      cnd x28_12
        (call P f_strconv_baseError [a0, a1, a2] w fun x32_13 w14 =>
        mki P 283 x32_13 w14 fun x33_15 =>
        K x33_15 w14)
        (mki P 280 (.int .i64 4) w fun x35_16 =>
        bin P .eql 189 false false a4 x35_16 w fun x36_17 =>
        cnd x36_17
          (call P f_strconv_bitSizeError [a0, a1, a3] w fun x40_18 w19 =>
          mki P 283 x40_18 w19 fun x41_20 =>
          K x41_20 w19)
          (K a4 w))))
def P_strconv_toError : Plan := (.seq (.reg [.op (0, 0, false)]) (.seq (.seq (.reg [.op (0, 0, false)]) (.blk (.seq (.reg [.op (0, 0, false), .op (1, 0, false), .op (2, 0, false)]) (.cond (.seq (.reg [.op (0, 0, false), .op (1, 0, false), .op (2, 2, false), .op (3, 0, false), .op (4, 0, false)]) .leaf) (.seq (.reg [.op (0, 0, false), .op (1, 0, false), .op (2, 0, false)]) (.cond (.seq (.reg [.op (0, 0, false), .op (1, 0, false), .op (2, 2, false), .op (3, 0, false), .op (4, 0, false)]) .leaf) (.seq (.reg [.op (0, 0, false), .op (1, 0, false), .op (2, 0, false)]) (.cond (.seq (.reg [.op (0, 0, false), .op (1, 0, false), .op (2, 0, false), .op (3, 2, false), .op (4, 0, false), .op (5, 0, false)]) .leaf) (.seq (.reg [.op (0, 0, false), .op (1, 0, false), .op (2, 0, false)]) (.cond (.seq (.reg [.op (0, 0, false), .op (1, 0, false), .op (2, 0, false), .op (3, 2, false), .op (4, 0, false), .op (5, 0, false)]) .leaf) .leaf)))))))))) (.seq (.reg [.op (0, 0, false), .op (1, 0, false)]) .leaf)))
theorem I_strconv_toError {a0 a1 a2 a3 a4 : Value} {w : World} {K : Value → World → Prop} (h : D_strconv_toError a0 a1 a2 a3 a4 w K) : call P f_strconv_toError [a0, a1, a2, a3, a4] w K :=
  call_of_vc mixed Tryz.func259 (c := codeOf Tryz.f259) (by kernel_rfl) (by kernel_rfl) (p := P_strconv_toError) (by kernel_rfl) (by rw [Tryz.ntmps259]; simp) (by
    have e : D_strconv_toError a0 a1 a2 a3 a4 w K = vc P P_strconv_toError (codeOf Tryz.f259) (env0 [a0, a1, a2, a3, a4]) w (retX P Tryz.f259.results.toList K) := by kernel_rfl
    exact e ▸ h)

/-- internal/bytealg.hashStr[string] -/
def D_internal_bytealg_hashStr_string (a0 : Value) (w : World) (K : Value → World → Prop) : Prop :=
  ∃ I1 : Nat → Value → Value → World → Prop, (∃ m34, I1 m34 (.int .u32 0) (.int .i64 0) w) ∧ ∀ (m4 : Nat) (x4_5 : Value) (x5_6 : Value) (junk2 : Env) (w3 : World), I1 m4 x4_5 x5_6 w3 →
    bl0 P .len #[9] 3 [a0] w3 fun x11_7 =>
    bin P .lss 3 false false x5_6 x11_7 w3 fun x12_8 =>
    cnd x12_8
      (bin P .mul 202 false true x4_5 (.int .u32 16777619) w3 fun x16_9 =>
      idx P 9 a0 x5_6 w3 fun x19_10 =>
      cnv P 5 202 x19_10 w3 fun x20_11 =>
      bin P .add 202 false false x16_9 x20_11 w3 fun x21_12 =>
      bin P .add 3 false true x5_6 (.int .i64 1) w3 fun x14_13 =>
      ∃ m14, m14 < m4 ∧ I1 m14 x21_12 x14_13 w3)
      (bl0 P .len #[9] 3 [a0] w3 fun x23_15 =>
      ∃ I16 : Nat → Value → Value → Value → World → Prop, (∃ m33, I16 m33 (.int .u32 1) (.int .u32 16777619) x23_15 w3) ∧ ∀ (m19 : Nat) (x6_20 : Value) (x7_21 : Value) (x8_22 : Value) (junk17 : Env) (w18 : World), I16 m19 x6_20 x7_21 x8_22 w18 →
        bin P .gtr 3 false true x8_22 (.int .i64 0) w18 fun x25_23 =>
        cnd x25_23
          (bin P .and 3 false true x8_22 (.int .i64 1) w18 fun x29_24 =>
          bin P .neq 3 false true x29_24 (.int .i64 0) w18 fun x30_25 =>
          cnd x30_25
            (bin P .mul 202 false false x6_20 x7_21 w18 fun x33_26 =>
            bin P .mul 202 false false x7_21 x7_21 w18 fun x36_27 =>
            bin P .shr 3 false true x8_22 (.int .u64 1) w18 fun x27_28 =>
            ∃ m29, m29 < m19 ∧ I16 m29 x33_26 x36_27 x27_28 w18)
            (bin P .mul 202 false false x7_21 x7_21 w18 fun x36_30 =>
            bin P .shr 3 false true x8_22 (.int .u64 1) w18 fun x27_31 =>
            ∃ m32, m32 < m19 ∧ I16 m32 x6_20 x36_30 x27_31 w18))
          (K (.tuple #[x4_5, x6_20]) w18))
def P_internal_bytealg_hashStr_string : Plan := (.seq (.reg [.op (0, 0, false), .op (1, 0, false)]) (.seq (.reg [.op (0, 0, false)]) (.seq (.seq (.reg [.op (0, 0, false)]) (.blk (.loop [4, 5] 4193840 (.seq (.seq (.reg [.op (0, 0, false), .op (1, 0, false), .op (2, 0, false), .op (3, 0, false)]) (.cond .leaf .leaf)) (.seq (.blk (.reg [.op (0, 0, false), .op (1, 0, false), .op (2, 0, false), .op (3, 0, false), .op (4, 0, false), .op (5, 0, false), .op (6, 0, false), .op (7, 0, false)])) (.reg [.op (0, 0, false), .op (1, 0, false), .op (2, 0, false)])))))) (.seq (.reg [.op (0, 0, false), .op (1, 0, false)]) (.seq (.seq (.reg [.op (0, 0, false), .op (1, 0, false), .op (2, 0, false)]) (.blk (.loop [6, 7, 8] 137422176704 (.seq (.seq (.reg [.op (0, 0, false), .op (1, 0, false)]) (.cond .leaf .leaf)) (.seq (.blk (.seq (.seq (.reg [.op (0, 0, false), .op (1, 0, false), .op (2, 0, false)]) (.cond (.reg [.op (0, 0, false), .op (1, 0, false), .op (2, 0, false), .op (3, 0, false)]) .leaf)) (.reg [.op (0, 0, false), .op (1, 0, false), .op (2, 0, false), .op (3, 0, false)]))) (.reg [.op (0, 0, false), .op (1, 0, false), .op (2, 0, false)])))))) (.seq (.reg [.op (0, 0, false), .op (1, 0, false), .op (2, 0, false), .op (3, 0, false)]) .leaf))))))
theorem I_internal_bytealg_hashStr_string {a0 : Value} {w : World} {K : Value → World → Prop} (h : D_internal_bytealg_hashStr_string a0 w K) : call P f_internal_bytealg_hashStr_string [a0] w K :=
  call_of_vc mixed Tryz.func274 (c := codeOf Tryz.f274) (by kernel_rfl) (by kernel_rfl) (p := P_internal_bytealg_hashStr_string) (by kernel_rfl) (by rw [Tryz.ntmps274]; simp) (by
    have e : D_internal_bytealg_hashStr_string a0 w K = vc P P_internal_bytealg_hashStr_string (codeOf Tryz.f274) (env0 [a0]) w (retX P Tryz.f274.results.toList K) := by kernel_rfl
    exact e ▸ h)

/-- internal/strconv.ParseUint -/
def D_internal_strconv_ParseUint (a0 a1 a2 : Value) (w : World) (K : Value → World → Prop) : Prop :=
  bin P .eql 9 false true a0 (.string ⟨#[]⟩) w fun x19_1 =>
  cnd x19_1
    (mki P 280 (.int .i64 2) w fun x20_2 =>
    K (.tuple #[(.int .u64 0), x20_2]) w)
    (bin P .eql 3 false true a1 (.int .i64 0) w fun x22_3 =>
    ∃ J4 : Value → Value → World → Prop, (∀ (x0_7 : Value) (x1_8 : Value) (junk5 : Env) (w6 : World), J4 x0_7 x1_8 w6 →
      ∃ J9 : Value → World → Prop, (∀ (x2_12 : Value) (junk10 : Env) (w11 : World), J9 x2_12 w11 →
        ∃ J13 : Value → World → Prop, (∀ (x10_16 : Value) (junk14 : Env) (w15 : World), J13 x10_16 w15 →
          cnv P 3 154 x2_12 w15 fun x95_17 =>
          bin P .shl 178 true false (.int .u64 1) x95_17 w15 fun x96_18 =>
          bin P .sub 178 false true x96_18 (.int .u64 1) w15 fun x97_19 =>
          cnv2 P 9 72 x0_7 w15 fun x99_20 w21 =>
          bl0 P .len #[72] 3 [x99_20] w21 fun x100_22 =>
          ∃ I23 : Nat → Value → Value → Value → World → Prop, (∃ m98, I23 m98 (.bool false) (.int .u64 0) (.int .i64 0) w21) ∧ ∀ (m26 : Nat) (x12_27 : Value) (x13_28 : Value) (x101_29 : Value) (junk24 : Env) (w25 : World), I23 m26 x12_27 x13_28 x101_29 w25 →
            bin P .lss 3 false false x101_29 x100_22 w25 fun x102_30 =>
            cnd x102_30
              (ixa P 72 x99_20 x101_29 w25 fun x103_31 =>
              ld P 5 x103_31 w25 fun x104_32 =>
              ∃ J33 : Value → Value → World → Prop, (∀ (x12_36 : Value) (x16_37 : Value) (junk34 : Env) (w35 : World), J33 x12_36 x16_37 w35 →
                cnv P 3 5 x1_8 w35 fun x136_38 =>
                bin P .geq 5 false false x16_37 x136_38 w35 fun x137_39 =>
                cnd x137_39
                  (mki P 280 (.int .i64 2) w35 fun x138_40 =>
                  K (.tuple #[(.int .u64 0), x138_40]) w35)
                  (bin P .geq 178 false false x13_28 x10_16 w35 fun x141_41 =>
                  cnd x141_41
                    (mki P 280 (.int .i64 1) w35 fun x143_42 =>
                    K (.tuple #[x97_19, x143_42]) w35)
                    (cnv P 3 178 x1_8 w35 fun x146_43 =>
                    bin P .mul 178 false false x13_28 x146_43 w35 fun x147_44 =>
                    cnv P 5 178 x16_37 w35 fun x150_45 =>
                    bin P .add 178 false false x147_44 x150_45 w35 fun x151_46 =>
                    bin P .lss 178 false false x151_46 x147_44 w35 fun x154_47 =>
                    ∃ J48 : Value → World → Prop, (∀ (x158_49 : Value) (junk51 : Env) (w50 : World), J48 x158_49 w50 →
                      pick x154_47 (.bool true) x158_49 fun x159_52 =>
                      cnd x159_52
                        (mki P 280 (.int .i64 1) w50 fun x161_53 =>
                        K (.tuple #[x97_19, x161_53]) w50)
                        (bin P .add 3 false true x101_29 (.int .i64 1) w50 fun x163_54 =>
                        ∃ m55, m55 < m26 ∧ I23 m55 x12_36 x151_46 x163_54 w50)) ∧
                      grd x154_47 false
                        (bin P .gtr 178 false false x151_46 x97_19 w35 fun x158_56 =>
                        J48 x158_56 w35)
                        (J48 undef w35)))) ∧
                (bin P .eql 5 false true x104_32 (.int .u8 95) w25 fun x108_57 =>
                ∃ J58 : Value → World → Prop, (∀ (x110_59 : Value) (junk61 : Env) (w60 : World), J58 x110_59 w60 →
                  pick x108_57 x110_59 (.bool false) fun x111_62 =>
                  cnd x111_62
                    (bin P .add 3 false true x101_29 (.int .i64 1) w60 fun x163_63 =>
                    ∃ m64, m64 < m26 ∧ I23 m64 (.bool true) x13_28 x163_63 w60)
                    (bin P .leq 5 true false (.int .u8 48) x104_32 w60 fun x114_65 =>
                    ∃ J66 : Value → World → Prop, (∀ (x117_67 : Value) (junk69 : Env) (w68 : World), J66 x117_67 w68 →
                      pick x114_65 x117_67 (.bool false) fun x118_70 =>
                      cnd x118_70
                        (bin P .sub 5 false true x104_32 (.int .u8 48) w68 fun x120_71 =>
                        J33 x12_27 x120_71 w68)
                        (call P f_internal_strconv_lower [x104_32] w68 fun x123_72 w73 =>
                        bin P .leq 5 true false (.int .u8 97) x123_72 w73 fun x124_74 =>
                        ∃ J75 : Value → World → Prop, (∀ (x128_76 : Value) (junk78 : Env) (w77 : World), J75 x128_76 w77 →
                          pick x124_74 x128_76 (.bool false) fun x129_79 =>
                          cnd x129_79
                            (call P f_internal_strconv_lower [x104_32] w77 fun x131_80 w81 =>
                            bin P .sub 5 false true x131_80 (.int .u8 97) w81 fun x132_82 =>
                            bin P .add 5 false true x132_82 (.int .u8 10) w81 fun x133_83 =>
                            J33 x12_27 x133_83 w81)
                            (mki P 280 (.int .i64 2) w77 fun x105_84 =>
                            K (.tuple #[(.int .u64 0), x105_84]) w77)) ∧
                          grd x124_74 true
                            (call P f_internal_strconv_lower [x104_32] w73 fun x127_85 w86 =>
                            bin P .leq 5 false true x127_85 (.int .u8 122) w86 fun x128_87 =>
                            J75 x128_87 w86)
                            (J75 undef w73))) ∧
                      grd x114_65 true
                        (bin P .leq 5 false true x104_32 (.int .u8 57) w60 fun x117_88 =>
                        J66 x117_88 w60)
                        (J66 undef w60))) ∧
                  grd x108_57 true
                    (J58 x22_3 w25)
                    (J58 undef w25)))
              (∃ J89 : Value → World → Prop, (∀ (x168_90 : Value) (junk92 : Env) (w91 : World), J89 x168_90 w91 →
                pick x12_27 x168_90 (.bool false) fun x169_93 =>
                cnd x169_93
                  (mki P 280 (.int .i64 2) w91 fun x170_94 =>
                  K (.tuple #[(.int .u64 0), x170_94]) w91)
                  (K (.tuple #[x13_28, .nilIface]) w91)) ∧
                grd x12_27 true
                  (call P f_internal_strconv_underscoreOK [a0] w25 fun x167_95 w96 =>
                  una P .not x167_95 w96 fun x168_97 =>
                  J89 x168_97 w96)
                  (J89 undef w25))) ∧
          (bin P .eql 3 false true x1_8 (.int .i64 10) w11 fun x91_99 =>
          cnd x91_99
            (J13 (.int .u64 1844674407370955162) w11)
            (bin P .eql 3 false true x1_8 (.int .i64 16) w11 fun x93_100 =>
            cnd x93_100
              (J13 (.int .u64 1152921504606846976) w11)
              (cnv P 3 178 x1_8 w11 fun x87_101 =>
              bin P .quo 178 true false (.int .u64 18446744073709551615) x87_101 w11 fun x88_102 =>
              bin P .add 178 false true x88_102 (.int .u64 1) w11 fun x89_103 =>
              J13 x89_103 w11)))) ∧
        (bin P .eql 3 false true a2 (.int .i64 0) w6 fun x77_104 =>
        cnd x77_104
          (J9 (.int .i64 64) w6)
          (bin P .lss 3 false true a2 (.int .i64 0) w6 fun x79_105 =>
          ∃ J106 : Value → World → Prop, (∀ (x82_107 : Value) (junk109 : Env) (w108 : World), J106 x82_107 w108 →
            pick x79_105 (.bool true) x82_107 fun x83_110 =>
            cnd x83_110
              (mki P 280 (.int .i64 4) w108 fun x84_111 =>
              K (.tuple #[(.int .u64 0), x84_111]) w108)
              (J9 a2 w108)) ∧
            grd x79_105 false
              (bin P .gtr 3 false true a2 (.int .i64 64) w6 fun x82_112 =>
              J106 x82_112 w6)
              (J106 undef w6)))) ∧
      (bin P .leq 3 true false (.int .i64 2) a1 w fun x27_113 =>
      ∃ J114 : Value → World → Prop, (∀ (x30_115 : Value) (junk117 : Env) (w116 : World), J114 x30_115 w116 →
        pick x27_113 x30_115 (.bool false) fun x31_118 =>
        cnd x31_118
          (J4 a0 a1 w116)
          (bin P .eql 3 false true a1 (.int .i64 0) w116 fun x34_119 =>
          cnd x34_119
            (idx P 9 a0 (.int .i64 0) w116 fun x36_120 =>
            bin P .eql 5 false true x36_120 (.int .u8 48) w116 fun x37_121 =>
            cnd x37_121
              (bl0 P .len #[9] 3 [a0] w116 fun x42_122 =>
              bin P .geq 3 false true x42_122 (.int .i64 3) w116 fun x43_123 =>
              ∃ J124 : Value → World → Prop, (∀ (x48_125 : Value) (junk127 : Env) (w126 : World), J124 x48_125 w126 →
                pick x43_123 x48_125 (.bool false) fun x49_128 =>
                cnd x49_128
                  (sli P 9 a0 (some (.int .i64 2)) none none w126 fun x51_129 =>
                  J4 x51_129 (.int .i64 2) w126)
                  (bl0 P .len #[9] 3 [a0] w126 fun x54_130 =>
                  bin P .geq 3 false true x54_130 (.int .i64 3) w126 fun x55_131 =>
                  ∃ J132 : Value → World → Prop, (∀ (x60_133 : Value) (junk135 : Env) (w134 : World), J132 x60_133 w134 →
                    pick x55_131 x60_133 (.bool false) fun x61_136 =>
                    cnd x61_136
                      (sli P 9 a0 (some (.int .i64 2)) none none w134 fun x63_137 =>
                      J4 x63_137 (.int .i64 8) w134)
                      (bl0 P .len #[9] 3 [a0] w134 fun x66_138 =>
                      bin P .geq 3 false true x66_138 (.int .i64 3) w134 fun x67_139 =>
                      ∃ J140 : Value → World → Prop, (∀ (x72_141 : Value) (junk143 : Env) (w142 : World), J140 x72_141 w142 →
                        pick x67_139 x72_141 (.bool false) fun x73_144 =>
                        cnd x73_144
                          (sli P 9 a0 (some (.int .i64 2)) none none w142 fun x75_145 =>
                          J4 x75_145 (.int .i64 16) w142)
                          (sli P 9 a0 (some (.int .i64 1)) none none w142 fun x39_146 =>
                          J4 x39_146 (.int .i64 8) w142)) ∧
                        grd x67_139 true
                          (idx P 9 a0 (.int .i64 1) w134 fun x70_147 =>
                          call P f_internal_strconv_lower [x70_147] w134 fun x71_148 w149 =>
                          bin P .eql 5 false true x71_148 (.int .u8 120) w149 fun x72_150 =>
                          J140 x72_150 w149)
                          (J140 undef w134))) ∧
                    grd x55_131 true
                      (idx P 9 a0 (.int .i64 1) w126 fun x58_151 =>
                      call P f_internal_strconv_lower [x58_151] w126 fun x59_152 w153 =>
                      bin P .eql 5 false true x59_152 (.int .u8 111) w153 fun x60_154 =>
                      J132 x60_154 w153)
                      (J132 undef w126))) ∧
                grd x43_123 true
                  (idx P 9 a0 (.int .i64 1) w116 fun x46_155 =>
                  call P f_internal_strconv_lower [x46_155] w116 fun x47_156 w157 =>
                  bin P .eql 5 false true x47_156 (.int .u8 98) w157 fun x48_158 =>
                  J124 x48_158 w157)
                  (J124 undef w116))
              (J4 a0 (.int .i64 10) w116))
            (mki P 280 (.int .i64 3) w116 fun x24_159 =>
            K (.tuple #[(.int .u64 0), x24_159]) w116))) ∧
        grd x27_113 true
          (bin P .leq 3 false true a1 (.int .i64 36) w fun x30_160 =>
          J114 x30_160 w)
          (J114 undef w)))
def P_internal_strconv_ParseUint : Plan := (.seq (.reg [.op (0, 0, false), .op (1, 0, false)]) (.seq (.seq (.reg [.op (0, 0, false), .op (1, 0, false)]) (.cond (.seq (.reg [.op (0, 0, false), .op (1, 0, false), .op (2, 0, false)]) .leaf) .leaf)) (.seq (.reg [.op (0, 0, false), .op (1, 0, false), .op (2, 0, false)]) (.seq (.reg [.op (0, 0, false), .op (1, 0, false)]) (.cut [0, 1] 75557863725914306642115 (.blk (.seq (.reg [.op (0, 0, false), .op (1, 0, false), .op (2, 0, false), .grp 2 true [(3, 0, false), (4, 0, false)] [30] 1610612736, .op (5, 0, false), .op (6, 0, false)]) (.cond .leaf (.seq (.reg [.op (0, 0, false), .op (1, 0, false), .op (2, 0, false)]) (.cond (.seq (.reg [.op (0, 0, false)]) (.seq (.reg [.op (0, 0, false), .op (1, 0, false), .op (2, 0, false)]) (.cond (.blk (.seq (.reg [.op (0, 0, false), .op (1, 0, false), .op (2, 0, false), .op (3, 0, false), .grp 3 true [(4, 0, false), (5, 0, false), (6, 2, false), (7, 0, false)] [48] 527765581332480, .op (8, 0, false), .op (9, 0, false)]) (.cond (.seq (.reg [.op (0, 0, false)]) (.reg [.op (0, 0, false), .op (1, 0, false), .op (2, 0, false)])) (.seq (.reg [.op (0, 0, false), .op (1, 0, false), .op (2, 0, false), .op (3, 0, false), .grp 3 true [(4, 0, false), (5, 0, false), (6, 2, false), (7, 0, false)] [60] 2161727821137838080, .op (8, 0, false), .op (9, 0, false)]) (.cond (.seq (.reg [.op (0, 0, false)]) (.reg [.op (0, 0, false), .op (1, 0, false), .op (2, 0, false)])) (.seq (.reg [.op (0, 0, false), .op (1, 0, false), .op (2, 0, false), .op (3, 0, false), .grp 3 true [(4, 0, false), (5, 0, false), (6, 2, false), (7, 0, false)] [72] 8854437155380584775680, .op (8, 0, false), .op (9, 0, false)]) (.cond (.seq (.reg [.op (0, 0, false)]) (.reg [.op (0, 0, false), .op (1, 0, false), .op (2, 0, false)])) (.seq (.reg [.op (0, 0, false)]) (.reg [.op (0, 0, false), .op (1, 0, false), .op (2, 0, false)]))))))))) .leaf))) (.seq (.reg [.op (0, 0, false), .op (1, 0, false), .op (2, 0, false)]) .leaf)))))) (.cut [2] 38610068363942219267178692 (.seq (.reg [.op (0, 0, false), .op (1, 0, false)]) (.cond (.reg [.op (0, 0, false)]) (.seq (.reg [.op (0, 0, false), .op (1, 0, false), .op (2, 0, false), .grp 2 false [(3, 0, false), (4, 0, false)] [82] 7253554917687775048237056, .op (5, 0, false)]) (.cond (.seq (.reg [.op (0, 0, false), .op (1, 0, false), .op (2, 0, false)]) .leaf) .leaf)))) (.seq (.reg [.op (0, 0, false)]) (.cut [10] 19768355002338416264795390976 (.seq (.reg [.op (0, 0, false)]) (.blk (.seq (.reg [.op (0, 0, false), .op (1, 0, false)]) (.cond (.reg [.op (0, 0, false)]) (.seq (.reg [.op (0, 0, false), .op (1, 0, false)]) (.cond (.reg [.op (0, 0, false)]) (.reg [.op (0, 0, false), .op (1, 0, false), .op (2, 0, false), .op (3, 0, false), .op (4, 0, false)]))))))) (.seq (.reg [.op (0, 0, false), .op (1, 0, false), .op (2, 0, false), .op (3, 0, false), .op (4, 0, false)]) (.seq (.reg [.op (0, 0, false)]) (.seq (.reg [.op (0, 0, false)]) (.seq (.seq (.reg [.op (0, 0, false), .op (1, 2, false), .op (2, 0, false), .op (3, 0, false)]) (.blk (.loop [12, 13, 101] 23384026197294446688723656123004069511501514518720 (.seq (.reg [.op (0, 0, false)]) (.seq (.cond .leaf .leaf) (.seq (.blk (.seq (.reg [.op (0, 0, false), .op (1, 0, false), .op (2, 0, false)]) (.seq (.reg [.op (0, 0, false)]) (.cut [12, 16] 21778071442375242454352634027738663030976 (.blk (.seq (.reg [.op (0, 0, false), .op (1, 0, false), .op (2, 0, false), .grp 2 true [(3, 0, false)] [110] 1298074214633706907132624082305024, .op (4, 0, false), .op (5, 0, false)]) (.cond (.seq (.reg [.op (0, 0, false)]) .leaf) (.seq (.reg [.op (0, 0, false), .op (1, 0, false), .op (2, 0, false), .grp 2 true [(3, 0, false), (4, 0, false)] [117] 249230249209671726169463823802564608, .op (5, 0, false), .op (6, 0, false)]) (.cond (.reg [.op (0, 0, false), .op (1, 0, false), .op (2, 0, false)]) (.seq (.reg [.op (0, 0, false), .op (1, 2, false), .op (2, 0, false), .op (3, 0, false), .grp 3 true [(4, 0, false), (5, 2, false), (6, 0, false)] [128] 595494142111642311060905563005594370048, .op (7, 0, false), .op (8, 0, false)]) (.cond (.reg [.op (0, 0, false), .op (1, 2, false), .op (2, 0, false), .op (3, 0, false), .op (4, 0, false)]) (.seq (.reg [.op (0, 0, false), .op (1, 0, false), .op (2, 0, false)]) .leaf)))))))) (.seq (.seq (.reg [.op (0, 0, false), .op (1, 0, false), .op (2, 0, false), .op (3, 0, false)]) (.cond (.seq (.reg [.op (0, 0, false), .op (1, 0, false), .op (2, 0, false)]) .leaf) .leaf)) (.seq (.seq (.reg [.op (0, 0, false), .op (1, 0, false), .op (2, 0, false)]) (.cond (.seq (.reg [.op (0, 0, false), .op (1, 0, false), .op (2, 0, false), .op (3, 0, false)]) .leaf) .leaf)) (.seq (.reg [.op (0, 0, false), .op (1, 0, false), .op (2, 0, false), .op (3, 0, false), .op (4, 0, false)]) (.seq (.reg [.op (0, 0, false), .op (1, 0, false), .op (2, 0, false), .op (3, 0, false), .op (4, 0, false)]) (.seq (.seq (.reg [.op (0, 0, false), .op (1, 0, false), .op (2, 0, false), .op (3, 0, false), .grp 3 false [(4, 0, false), (5, 0, false), (6, 0, false)] [158] 639406966332270026714112114313373821099470487552, .op (7, 0, false)]) (.cond (.seq (.reg [.op (0, 0, false), .op (1, 0, false), .op (2, 0, false), .op (3, 0, false)]) .leaf) .leaf)) (.reg [.op (0, 0, false), .op (1, 0, false)])))))))))) (.reg [.op (0, 0, false), .op (1, 0, false)]))))))) (.seq (.seq (.reg [.op (0, 0, false), .op (1, 0, false), .grp 1 true [(2, 0, false), (3, 2, false), (4, 0, false)] [168] 654752733524244507355250805056894792805857779253248, .op (5, 0, false)]) (.cond (.seq (.reg [.op (0, 0, false), .op (1, 0, false), .op (2, 0, false)]) .leaf) .leaf)) (.seq (.reg [.op (0, 0, false), .op (1, 0, false), .op (2, 0, false)]) .leaf))))))))))))))
theorem I_internal_strconv_ParseUint {a0 a1 a2 : Value} {w : World} {K : Value → World → Prop} (h : D_internal_strconv_ParseUint a0 a1 a2 w K) : call P f_internal_strconv_ParseUint [a0, a1, a2] w K :=
  call_of_vc mixed Tryz.func275 (c := codeOf Tryz.f275) (by kernel_rfl) (by kernel_rfl) (p := P_internal_strconv_ParseUint) (by kernel_rfl) (by rw [Tryz.ntmps275]; simp) (by
    have e : D_internal_strconv_ParseUint a0 a1 a2 w K = vc P P_internal_strconv_ParseUint (codeOf Tryz.f275) (env0 [a0, a1, a2]) w (retX P Tryz.f275.results.toList K) := by kernel_rfl
    exact e ▸ h)

/-- strconv.syntaxError -/
def D_strconv_syntaxError (a0 a1 : Value) (w : World) (K : Value → World → Prop) : Prop :=
  ld P 189 (.pointer (some ⟨4, 0, none⟩)) w fun x8_1 =>
  call P f_internal_stringslite_Clone [a1] w fun x7_2 w3 =>
  Ext w w3 ∧ bld P 293 [(0, a0), (1, x7_2), (2, x8_1)] w3 fun x9_4 =>
  bx P 293 x9_4 w3 fun x10_5 w6 =>
  K x10_5 w6
def P_strconv_syntaxError : Plan := (.seq (.reg [.op (0, 0, false)]) (.seq (.reg [.op (0, 0, false), .op (1, 0, false), .op (3, 0, false), .op (2, 2, true), .op (4, 0, false), .op (5, 2, false), .op (6, 0, false)]) .leaf))
theorem I_strconv_syntaxError {a0 a1 : Value} {w : World} {K : Value → World → Prop} (h : D_strconv_syntaxError a0 a1 w K) : call P f_strconv_syntaxError [a0, a1] w K :=
  call_of_vc mixed Tryz.func276 (c := codeOf Tryz.f276) (by kernel_rfl) (by kernel_rfl) (p := P_strconv_syntaxError) (by kernel_rfl) (by rw [Tryz.ntmps276]; simp) (by
    have e : D_strconv_syntaxError a0 a1 w K = vc P P_strconv_syntaxError (codeOf Tryz.f276) (env0 [a0, a1]) w (retX P Tryz.f276.results.toList K) := by kernel_rfl
    exact e ▸ h)

/-- strconv.rangeError -/
def D_strconv_rangeError (a0 a1 : Value) (w : World) (K : Value → World → Prop) : Prop :=
  ld P 189 (.pointer (some ⟨5, 0, none⟩)) w fun x8_1 =>
  call P f_internal_stringslite_Clone [a1] w fun x7_2 w3 =>
  Ext w w3 ∧ bld P 293 [(0, a0), (1, x7_2), (2, x8_1)] w3 fun x9_4 =>
  bx P 293 x9_4 w3 fun x10_5 w6 =>
  K x10_5 w6
def P_strconv_rangeError : Plan := (.seq (.reg [.op (0, 0, false)]) (.seq (.reg [.op (0, 0, false), .op (1, 0, false), .op (3, 0, false), .op (2, 2, true), .op (4, 0, false), .op (5, 2, false), .op (6, 0, false)]) .leaf))
theorem I_strconv_rangeError {a0 a1 : Value} {w : World} {K : Value → World → Prop} (h : D_strconv_rangeError a0 a1 w K) : call P f_strconv_rangeError [a0, a1] w K :=
  call_of_vc mixed Tryz.func277 (c := codeOf Tryz.f277) (by kernel_rfl) (by kernel_rfl) (p := P_strconv_rangeError) (by kernel_rfl) (by rw [Tryz.ntmps277]; simp) (by
    have e : D_strconv_rangeError a0 a1 w K = vc P P_strconv_rangeError (codeOf Tryz.f277) (env0 [a0, a1]) w (retX P Tryz.f277.results.toList K) := by kernel_rfl
    exact e ▸ h)

/-- strconv.baseError -/
def D_strconv_baseError (a0 a1 a2 : Value) (w : World) (K : Value → World → Prop) : Prop :=
  call P f_internal_stringslite_Clone [a1] w fun x9_1 w2 =>
  call P f_strconv_Itoa [a2] w2 fun x11_3 w4 =>
  bin P .add 9 true false (.string ⟨#[105, 110, 118, 97, 108, 105, 100, 32, 98, 97, 115, 101, 32]⟩) x11_3 w4 fun x12_5 =>
  call P f_errors_New [x12_5] w4 fun x13_6 w7 =>
  bld P 293 [(0, a0), (1, x9_1), (2, x13_6)] w7 fun x14_8 =>
  bx P 293 x14_8 w7 fun x15_9 w10 =>
  K x15_9 w10
def P_strconv_baseError : Plan := (.seq (.reg [.op (0, 0, false)]) (.seq (.reg [.op (0, 0, false), .op (1, 0, false), .op (2, 2, false), .op (3, 0, false), .op (4, 2, false), .op (5, 0, false), .op (6, 2, false), .op (7, 0, false), .op (8, 2, false), .op (9, 0, false)]) .leaf))
theorem I_strconv_baseError {a0 a1 a2 : Value} {w : World} {K : Value → World → Prop} (h : D_strconv_baseError a0 a1 a2 w K) : call P f_strconv_baseError [a0, a1, a2] w K :=
  call_of_vc mixed Tryz.func278 (c := codeOf Tryz.f278) (by kernel_rfl) (by kernel_rfl) (p := P_strconv_baseError) (by kernel_rfl) (by rw [Tryz.ntmps278]; simp) (by
    have e : D_strconv_baseError a0 a1 a2 w K = vc P P_strconv_baseError (codeOf Tryz.f278) (env0 [a0, a1, a2]) w (retX P Tryz.f278.results.toList K) := by kernel_rfl
    exact e ▸ h)

/-- strconv.bitSizeError -/
def D_strconv_bitSizeError (a0 a1 a2 : Value) (w : World) (K : Value → World → Prop) : Prop :=
  call P f_internal_stringslite_Clone [a1] w fun x9_1 w2 =>
  call P f_strconv_Itoa [a2] w2 fun x11_3 w4 =>
  bin P .add 9 true false (.string ⟨#[105, 110, 118, 97, 108, 105, 100, 32, 98, 105, 116, 32, 115, 105, 122, 101, 32]⟩) x11_3 w4 fun x12_5 =>
  call P f_errors_New [x12_5] w4 fun x13_6 w7 =>
  bld P 293 [(0, a0), (1, x9_1), (2, x13_6)] w7 fun x14_8 =>
  bx P 293 x14_8 w7 fun x15_9 w10 =>
  K x15_9 w10
def P_strconv_bitSizeError : Plan := (.seq (.reg [.op (0, 0, false)]) (.seq (.reg [.op (0, 0, false), .op (1, 0, false), .op (2, 2, false), .op (3, 0, false), .op (4, 2, false), .op (5, 0, false), .op (6, 2, false), .op (7, 0, false), .op (8, 2, false), .op (9, 0, false)]) .leaf))
theorem I_strconv_bitSizeError {a0 a1 a2 : Value} {w : World} {K : Value → World → Prop} (h : D_strconv_bitSizeError a0 a1 a2 w K) : call P f_strconv_bitSizeError [a0, a1, a2] w K :=
  call_of_vc mixed Tryz.func279 (c := codeOf Tryz.f279) (by kernel_rfl) (by kernel_rfl) (p := P_strconv_bitSizeError) (by kernel_rfl) (by rw [Tryz.ntmps279]; simp) (by
    have e : D_strconv_bitSizeError a0 a1 a2 w K = vc P P_strconv_bitSizeError (codeOf Tryz.f279) (env0 [a0, a1, a2]) w (retX P Tryz.f279.results.toList K) := by kernel_rfl
    exact e ▸ h)

/-- cmp.Compare[int] -/
def D_cmp_Compare_int (a0 a1 : Value) (w : World) (K : Value → World → Prop) : Prop :=
  call P f_cmp_isNaN_int [a0] w fun x8_1 w2 =>
  call P f_cmp_isNaN_int [a1] w2 fun x10_3 w4 =>
  cnd x8_1
    (cnd x10_3
      (K (.int .i64 0) w4)
      (K (.int .i64 (-1)) w4))
    (cnd x10_3
      (K (.int .i64 1) w4)
      (bin P .lss 3 false false a0 a1 w4 fun x16_5 =>
      cnd x16_5
        (K (.int .i64 (-1)) w4)
        (bin P .gtr 3 false false a0 a1 w4 fun x19_6 =>
        cnd x19_6
          (K (.int .i64 1) w4)
          (K (.int .i64 0) w4))))
def P_cmp_Compare_int : Plan := (.seq (.reg [.op (0, 0, false)]) (.seq (.reg [.op (0, 0, false), .op (1, 2, false), .op (2, 0, false)]) (.seq (.reg [.op (0, 0, false), .op (1, 2, false), .op (2, 0, false)]) (.seq (.seq (.reg [.op (0, 0, false)]) (.cond (.seq (.seq (.reg [.op (0, 0, false)]) (.cond (.seq (.reg [.op (0, 0, false)]) .leaf) .leaf)) (.seq (.reg [.op (0, 0, false)]) .leaf)) .leaf)) (.seq (.seq (.reg [.op (0, 0, false)]) (.cond (.seq (.reg [.op (0, 0, false)]) .leaf) .leaf)) (.seq (.seq (.reg [.op (0, 0, false), .op (1, 0, false), .op (2, 0, false)]) (.cond (.seq (.reg [.op (0, 0, false)]) .leaf) .leaf)) (.seq (.seq (.reg [.op (0, 0, false), .op (1, 0, false), .op (2, 0, false)]) (.cond (.seq (.reg [.op (0, 0, false)]) .leaf) .leaf)) (.seq (.reg [.op (0, 0, false)]) .leaf))))))))
theorem I_cmp_Compare_int {a0 a1 : Value} {w : World} {K : Value → World → Prop} (h : D_cmp_Compare_int a0 a1 w K) : call P f_cmp_Compare_int [a0, a1] w K :=
  call_of_vc mixed Tryz.func285 (c := codeOf Tryz.f285) (by kernel_rfl) (by kernel_rfl) (p := P_cmp_Compare_int) (by kernel_rfl) (by rw [Tryz.ntmps285]; simp) (by
    have e : D_cmp_Compare_int a0 a1 w K = vc P P_cmp_Compare_int (codeOf Tryz.f285) (env0 [a0, a1]) w (retX P Tryz.f285.results.toList K) := by kernel_rfl
    exact e ▸ h)

/-- cmp.Compare[uint32] -/
def D_cmp_Compare_uint32 (a0 a1 : Value) (w : World) (K : Value → World → Prop) : Prop :=
  call P f_cmp_isNaN_uint32 [a0] w fun x8_1 w2 =>
  call P f_cmp_isNaN_uint32 [a1] w2 fun x10_3 w4 =>
  cnd x8_1
    (cnd x10_3
      (K (.int .i64 0) w4)
      (K (.int .i64 (-1)) w4))
    (cnd x10_3
      (K (.int .i64 1) w4)
      (bin P .lss 202 false false a0 a1 w4 fun x16_5 =>
      cnd x16_5
        (K (.int .i64 (-1)) w4)
        (bin P .gtr 202 false false a0 a1 w4 fun x19_6 =>
        cnd x19_6
          (K (.int .i64 1) w4)
          (K (.int .i64 0) w4))))
def P_cmp_Compare_uint32 : Plan := (.seq (.reg [.op (0, 0, false)]) (.seq (.reg [.op (0, 0, false), .op (1, 2, false), .op (2, 0, false)]) (.seq (.reg [.op (0, 0, false), .op (1, 2, false), .op (2, 0, false)]) (.seq (.seq (.reg [.op (0, 0, false)]) (.cond (.seq (.seq (.reg [.op (0, 0, false)]) (.cond (.seq (.reg [.op (0, 0, false)]) .leaf) .leaf)) (.seq (.reg [.op (0, 0, false)]) .leaf)) .leaf)) (.seq (.seq (.reg [.op (0, 0, false)]) (.cond (.seq (.reg [.op (0, 0, false)]) .leaf) .leaf)) (.seq (.seq (.reg [.op (0, 0, false), .op (1, 0, false), .op (2, 0, false)]) (.cond (.seq (.reg [.op (0, 0, false)]) .leaf) .leaf)) (.seq (.seq (.reg [.op (0, 0, false), .op (1, 0, false), .op (2, 0, false)]) (.cond (.seq (.reg [.op (0, 0, false)]) .leaf) .leaf)) (.seq (.reg [.op (0, 0, false)]) .leaf))))))))
theorem I_cmp_Compare_uint32 {a0 a1 : Value} {w : World} {K : Value → World → Prop} (h : D_cmp_Compare_uint32 a0 a1 w K) : call P f_cmp_Compare_uint32 [a0, a1] w K :=
  call_of_vc mixed Tryz.func286 (c := codeOf Tryz.f286) (by kernel_rfl) (by kernel_rfl) (p := P_cmp_Compare_uint32) (by kernel_rfl) (by rw [Tryz.ntmps286]; simp) (by
    have e : D_cmp_Compare_uint32 a0 a1 w K = vc P P_cmp_Compare_uint32 (codeOf Tryz.f286) (env0 [a0, a1]) w (retX P Tryz.f286.results.toList K) := by kernel_rfl
    exact e ▸ h)

/-- internal/strconv.lower -/
def D_internal_strconv_lower (a0 : Value) (w : World) (K : Value → World → Prop) : Prop :=
  bin P .or 5 false true a0 (.int .u8 32) w fun x4_1 =>
  K x4_1 w
def P_internal_strconv_lower : Plan := (.seq (.reg [.op (0, 0, false)]) (.seq (.reg [.op (0, 0, false), .op (1, 0, false), .op (2, 0, false)]) .leaf))
theorem I_internal_strconv_lower {a0 : Value} {w : World} {K : Value → World → Prop} (h : D_internal_strconv_lower a0 w K) : call P f_internal_strconv_lower [a0] w K :=
  call_of_vc mixed Tryz.func287 (c := codeOf Tryz.f287) (by kernel_rfl) (by kernel_rfl) (p := P_internal_strconv_lower) (by kernel_rfl) (by rw [Tryz.ntmps287]; simp) (by
    have e : D_internal_strconv_lower a0 w K = vc P P_internal_strconv_lower (codeOf Tryz.f287) (env0 [a0]) w (retX P Tryz.f287.results.toList K) := by kernel_rfl
    exact e ▸ h)

/-- internal/strconv.underscoreOK -/
def D_internal_strconv_underscoreOK (a0 : Value) (w : World) (K : Value → World → Prop) : Prop :=
  ∃ J1 : Value → World → Prop, (∀ (x0_4 : Value) (junk2 : Env) (w3 : World), J1 x0_4 w3 →
    ∃ J5 : Value → Value → Value → World → Prop, (∀ (x3_8 : Value) (x4_9 : Value) (x5_10 : Value) (junk6 : Env) (w7 : World), J5 x3_8 x4_9 x5_10 w7 →
      ∃ I11 : Nat → Value → Value → World → Prop, (∃ m70, I11 m70 x3_8 x4_9 w7) ∧ ∀ (m14 : Nat) (x3_15 : Value) (x4_16 : Value) (junk12 : Env) (w13 : World), I11 m14 x3_15 x4_16 w13 →
        bl0 P .len #[9] 3 [x0_4] w13 fun x53_17 =>
        bin P .lss 3 false false x4_16 x53_17 w13 fun x54_18 =>
        cnd x54_18
          (idx P 9 x0_4 x4_16 w13 fun x59_19 =>
          bin P .leq 5 true false (.int .u8 48) x59_19 w13 fun x60_20 =>
          ∃ J21 : Value → World → Prop, (∀ (x65_22 : Value) (junk24 : Env) (w23 : World), J21 x65_22 w23 →
            pick x60_20 x65_22 (.bool false) fun x66_25 =>
            ∃ J26 : Value → World → Prop, (∀ (x69_27 : Value) (junk29 : Env) (w28 : World), J26 x69_27 w28 →
            ∃ J30 : Value → World → Prop, (∀ (x74_31 : Value) (junk33 : Env) (w32 : World), J30 x74_31 w32 →
            ∃ J34 : Value → World → Prop, (∀ (x76_35 : Value) (junk37 : Env) (w36 : World), J34 x76_35 w36 →
            ∃ J38 : Value → World → Prop, (∀ (x81_39 : Value) (junk41 : Env) (w40 : World), J38 x81_39 w40 →
            ∃ J42 : Value → World → Prop, (∀ (x82_43 : Value) (junk45 : Env) (w44 : World), J42 x82_43 w44 →
            pick x66_25 (.bool true) x82_43 fun x83_46 =>
                      cnd x83_46
                        (bin P .add 3 false true x4_16 (.int .i64 1) w44 fun x56_47 =>
                        ∃ m48, m48 < m14 ∧ I11 m48 (.int .i32 48) x56_47 w44)
                        (idx P 9 x0_4 x4_16 w44 fun x86_49 =>
                        bin P .eql 5 false true x86_49 (.int .u8 95) w44 fun x87_50 =>
                        cnd x87_50
                          (bin P .neq 21 false true x3_15 (.int .i32 48) w44 fun x89_51 =>
                          cnd x89_51
                            (K (.bool false) w44)
                            (bin P .add 3 false true x4_16 (.int .i64 1) w44 fun x56_52 =>
                            ∃ m53, m53 < m14 ∧ I11 m53 (.int .i32 95) x56_52 w44))
                          (bin P .eql 21 false true x3_15 (.int .i32 95) w44 fun x91_54 =>
                          cnd x91_54
                            (K (.bool false) w44)
                            (bin P .add 3 false true x4_16 (.int .i64 1) w44 fun x56_55 =>
                            ∃ m56, m56 < m14 ∧ I11 m56 (.int .i32 33) x56_55 w44)))) ∧
            grd x66_25 false
              (pick x76_35 x81_39 (.bool false) fun x82_57 =>
                        J42 x82_57 w40)
              (J42 undef w40)) ∧
            grd x76_35 true
              (idx P 9 x0_4 x4_16 w36 fun x79_58 =>
                      call P f_internal_strconv_lower [x79_58] w36 fun x80_59 w60 =>
                      bin P .leq 5 false true x80_59 (.int .u8 102) w60 fun x81_61 =>
                      J38 x81_61 w60)
              (J38 undef w36)) ∧
            grd x66_25 false
              (pick x69_27 x74_31 (.bool false) fun x75_62 =>
                    J34 x75_62 w32)
              (J34 undef w32)) ∧
            grd x69_27 true
              (idx P 9 x0_4 x4_16 w28 fun x72_63 =>
                  call P f_internal_strconv_lower [x72_63] w28 fun x73_64 w65 =>
                  bin P .leq 5 true false (.int .u8 97) x73_64 w65 fun x74_66 =>
                  J30 x74_66 w65)
              (J30 undef w28)) ∧
            grd x66_25 false
              (J26 x5_10 w23)
              (J26 undef w23)) ∧
            grd x60_20 true
              (idx P 9 x0_4 x4_16 w13 fun x64_67 =>
              bin P .leq 5 false true x64_67 (.int .u8 57) w13 fun x65_68 =>
              J21 x65_68 w13)
              (J21 undef w13))
          (bin P .neq 21 false true x3_15 (.int .i32 95) w13 fun x93_69 =>
          K x93_69 w13)) ∧
      (bl0 P .len #[9] 3 [x0_4] w3 fun x22_71 =>
      bin P .geq 3 false true x22_71 (.int .i64 2) w3 fun x23_72 =>
      ∃ J73 : Value → World → Prop, (∀ (x27_74 : Value) (junk76 : Env) (w75 : World), J73 x27_74 w75 →
        pick x23_72 x27_74 (.bool false) fun x28_77 =>
        ∃ J78 : Value → World → Prop, (∀ (x34_79 : Value) (junk81 : Env) (w80 : World), J78 x34_79 w80 →
        ∃ J82 : Value → World → Prop, (∀ (x38_83 : Value) (junk85 : Env) (w84 : World), J82 x38_83 w84 →
        ∃ J86 : Value → World → Prop, (∀ (x40_87 : Value) (junk89 : Env) (w88 : World), J86 x40_87 w88 →
        ∃ J90 : Value → World → Prop, (∀ (x44_91 : Value) (junk93 : Env) (w92 : World), J90 x44_91 w92 →
        ∃ J94 : Value → World → Prop, (∀ (x45_95 : Value) (junk97 : Env) (w96 : World), J94 x45_95 w96 →
        pick x28_77 x45_95 (.bool false) fun x46_98 =>
                  cnd x46_98
                    (idx P 9 x0_4 (.int .i64 1) w96 fun x48_99 =>
                    call P f_internal_strconv_lower [x48_99] w96 fun x49_100 w101 =>
                    bin P .eql 5 false true x49_100 (.int .u8 120) w101 fun x50_102 =>
                    J5 (.int .i32 48) (.int .i64 2) x50_102 w101)
                    (J5 (.int .i32 94) (.int .i64 0) (.bool false) w96)) ∧
        grd x28_77 true
          (pick x40_87 (.bool true) x44_91 fun x45_103 =>
                    J94 x45_103 w92)
          (J94 undef w92)) ∧
        grd x40_87 false
          (idx P 9 x0_4 (.int .i64 1) w88 fun x42_104 =>
                  call P f_internal_strconv_lower [x42_104] w88 fun x43_105 w106 =>
                  bin P .eql 5 false true x43_105 (.int .u8 120) w106 fun x44_107 =>
                  J90 x44_107 w106)
          (J90 undef w88)) ∧
        grd x28_77 true
          (pick x34_79 (.bool true) x38_83 fun x39_108 =>
                J86 x39_108 w84)
          (J86 undef w84)) ∧
        grd x34_79 false
          (idx P 9 x0_4 (.int .i64 1) w80 fun x36_109 =>
              call P f_internal_strconv_lower [x36_109] w80 fun x37_110 w111 =>
              bin P .eql 5 false true x37_110 (.int .u8 111) w111 fun x38_112 =>
              J82 x38_112 w111)
          (J82 undef w80)) ∧
        grd x28_77 true
          (idx P 9 x0_4 (.int .i64 1) w75 fun x31_113 =>
            call P f_internal_strconv_lower [x31_113] w75 fun x32_114 w115 =>
            bin P .eql 5 false true x32_114 (.int .u8 98) w115 fun x33_116 =>
            J78 x33_116 w115)
          (J78 undef w75)) ∧
        grd x23_72 true
          (idx P 9 x0_4 (.int .i64 0) w3 fun x26_117 =>
          bin P .eql 5 false true x26_117 (.int .u8 48) w3 fun x27_118 =>
          J73 x27_118 w3)
          (J73 undef w3))) ∧
    (bl0 P .len #[9] 3 [a0] w fun x7_119 =>
    bin P .geq 3 false true x7_119 (.int .i64 1) w fun x8_120 =>
    ∃ J121 : Value → World → Prop, (∀ (x13_122 : Value) (junk124 : Env) (w123 : World), J121 x13_122 w123 →
      ∃ J125 : Value → World → Prop, (∀ (x16_126 : Value) (junk128 : Env) (w127 : World), J125 x16_126 w127 →
      ∃ J129 : Value → World → Prop, (∀ (x17_130 : Value) (junk132 : Env) (w131 : World), J129 x17_130 w131 →
      pick x8_120 x17_130 (.bool false) fun x18_133 =>
          cnd x18_133
            (sli P 9 a0 (some (.int .i64 1)) none none w131 fun x20_134 =>
            J1 x20_134 w131)
            (J1 a0 w131)) ∧
      grd x8_120 true
        (pick x13_122 (.bool true) x16_126 fun x17_135 =>
            J129 x17_135 w127)
        (J129 undef w127)) ∧
      grd x13_122 false
        (idx P 9 a0 (.int .i64 0) w123 fun x15_136 =>
          bin P .eql 5 false true x15_136 (.int .u8 43) w123 fun x16_137 =>
          J125 x16_137 w123)
        (J125 undef w123)) ∧
      grd x8_120 true
        (idx P 9 a0 (.int .i64 0) w fun x11_138 =>
        bin P .eql 5 false true x11_138 (.int .u8 45) w fun x12_139 =>
        J121 x12_139 w)
        (J121 undef w))
def P_internal_strconv_underscoreOK : Plan := (.seq (.reg [.op (0, 0, false)]) (.seq (.reg [.op (0, 0, false)]) (.seq (.reg [.op (0, 0, false)]) (.cut [0] 2097089 (.seq (.reg [.op (0, 0, false), .op (1, 0, false), .op (2, 0, false), .op (3, 0, false), .grp 3 true [(4, 0, false), (5, 0, false), (6, 0, false), (7, 0, false)] [13] 15360, .grp 7 false [(8, 0, false), (9, 0, false), (10, 0, false)] [16] 114688, .grp 3 true [(11, 0, false)] [17] 131072, .op (12, 0, false)]) (.cond (.reg [.op (0, 0, false), .op (1, 0, false), .op (2, 0, false)]) .leaf)) (.seq (.reg [.op (0, 0, false)]) (.cut [3, 4, 5] 2251799811588152 (.seq (.reg [.op (0, 0, false), .op (1, 0, false), .op (2, 0, false), .op (3, 0, false), .grp 3 true [(4, 0, false), (5, 0, false), (6, 0, false)] [27] 234881024, .op (7, 0, false), .op (8, 0, false), .grp 8 true [(9, 0, false), (10, 0, false), (11, 2, false), (12, 0, false), (13, 0, false)] [34] 33285996544, .grp 13 false [(14, 0, false), (15, 0, false), (16, 2, false), (17, 0, false)] [38] 515396075520, .grp 8 true [(18, 0, false), (19, 0, false)] [40] 1649267441664, .grp 19 false [(20, 0, false), (21, 0, false), (22, 2, false), (23, 0, false)] [44] 32985348833280, .grp 8 true [(24, 0, false)] [45] 35184372088832, .op (25, 0, false)]) (.cond (.seq (.reg [.op (0, 0, false)]) (.seq (.reg [.op (0, 0, false)]) (.reg [.op (0, 0, false), .op (1, 0, false), .op (2, 2, false), .op (3, 0, false), .op (4, 0, false)]))) .leaf)) (.seq (.blk (.loop [3, 4] 4951760157139269299782811676 (.seq (.seq (.reg [.op (0, 0, false), .op (1, 0, false), .op (2, 0, false), .op (3, 0, false)]) (.cond .leaf .leaf)) (.seq (.blk (.seq (.seq (.reg [.op (0, 0, false), .op (1, 0, false), .op (2, 0, false), .op (3, 0, false), .op (4, 0, false), .grp 4 true [(5, 0, false), (6, 0, false), (7, 0, false), (8, 0, false)] [65] 69175290276410818560, .op (9, 0, false), .op (10, 0, false), .grp 10 false [(11, 0, false), (12, 0, false)] [69] 885443715538058477568, .grp 12 true [(13, 0, false), (14, 0, false), (15, 0, false), (16, 2, false), (17, 0, false)] [74] 36598340242239750406144, .grp 10 false [(18, 0, false), (19, 0, false)] [76] 113336795588871485128704, .grp 19 true [(20, 0, false), (21, 0, false), (22, 0, false), (23, 2, false), (24, 0, false)] [81] 4684587551006688051986432, .grp 10 false [(25, 0, false)] [82] 4835703278458516698824704, .op (26, 0, false)]) (.cond (.seq (.reg [.op (0, 0, false)]) .leaf) .leaf)) (.seq (.seq (.reg [.op (0, 0, false), .op (1, 0, false), .op (2, 0, false), .op (3, 0, false)]) (.cond (.seq (.seq (.reg [.op (0, 0, false), .op (1, 0, false)]) (.cond (.seq (.reg [.op (0, 0, false)]) .leaf) .leaf)) (.seq (.reg [.op (0, 0, false)]) .leaf)) .leaf)) (.seq (.seq (.reg [.op (0, 0, false), .op (1, 0, false)]) (.cond (.seq (.reg [.op (0, 0, false)]) .leaf) .leaf)) (.reg [.op (0, 0, false)]))))) (.reg [.op (0, 0, false), .op (1, 0, false), .op (2, 0, false)]))))) (.seq (.reg [.op (0, 0, false), .op (1, 0, false), .op (2, 0, false)]) .leaf))))))))
theorem I_internal_strconv_underscoreOK {a0 : Value} {w : World} {K : Value → World → Prop} (h : D_internal_strconv_underscoreOK a0 w K) : call P f_internal_strconv_underscoreOK [a0] w K :=
  call_of_vc mixed Tryz.func288 (c := codeOf Tryz.f288) (by kernel_rfl) (by kernel_rfl) (p := P_internal_strconv_underscoreOK) (by kernel_rfl) (by rw [Tryz.ntmps288]; simp) (by
    have e : D_internal_strconv_underscoreOK a0 w K = vc P P_internal_strconv_underscoreOK (codeOf Tryz.f288) (env0 [a0]) w (retX P Tryz.f288.results.toList K) := by kernel_rfl
    exact e ▸ h)

/-- internal/stringslite.Clone -/
def D_internal_stringslite_Clone (a0 : Value) (w : World) (K : Value → World → Prop) : Prop :=
  bl0 P .len #[9] 3 [a0] w fun x5_1 =>
  bin P .eql 3 false true x5_1 (.int .i64 0) w fun x6_2 =>
  cnd x6_2
    (K (.string ⟨#[]⟩) w)
    (bl0 P .len #[9] 3 [a0] w fun x8_3 =>
    mks P 72 x8_3 x8_3 w fun x9_4 w5 =>
    bl2 P .copy #[72, 9] 3 [x9_4, a0] w5 fun x12_6 w7 =>
    ixa P 72 x9_4 (.int .i64 0) w7 fun x14_8 =>
    bl0 P .len #[72] 3 [x9_4] w7 fun x16_9 =>
    bl2 P .unsafeString #[226, 3] 9 [x14_8, x16_9] w7 fun x17_10 w11 =>
    K x17_10 w11)
def P_internal_stringslite_Clone : Plan := (.seq (.reg [.op (0, 0, false)]) (.seq (.seq (.reg [.op (0, 0, false), .op (1, 0, false), .op (2, 0, false)]) (.cond (.seq (.reg [.op (0, 0, false)]) .leaf) .leaf)) (.seq (.reg [.op (0, 0, false), .op (1, 0, false), .op (2, 2, false), .op (3, 0, false)]) (.seq (.reg [.op (0, 0, false), .op (1, 0, false), .op (2, 2, false)]) (.seq (.reg [.op (0, 0, false), .op (1, 0, false), .op (2, 0, false), .op (3, 0, false), .op (4, 2, false), .op (5, 0, false)]) .leaf)))))
theorem I_internal_stringslite_Clone {a0 : Value} {w : World} {K : Value → World → Prop} (h : D_internal_stringslite_Clone a0 w K) : call P f_internal_stringslite_Clone [a0] w K :=
  call_of_vc mixed Tryz.func289 (c := codeOf Tryz.f289) (by kernel_rfl) (by kernel_rfl) (p := P_internal_stringslite_Clone) (by kernel_rfl) (by rw [Tryz.ntmps289]; simp) (by
    have e : D_internal_stringslite_Clone a0 w K = vc P P_internal_stringslite_Clone (codeOf Tryz.f289) (env0 [a0]) w (retX P Tryz.f289.results.toList K) := by kernel_rfl
    exact e ▸ h)

/-- errors.New -/
def D_errors_New (a0 : Value) (w : World) (K : Value → World → Prop) : Prop :=
  bld P 306 [(0, a0)] w fun x4_1 =>
  bx P 306 x4_1 w fun x5_2 w3 =>
  mki P 304 x5_2 w3 fun x6_4 =>
  K x6_4 w3
def P_errors_New : Plan := (.seq (.reg [.op (0, 0, false)]) (.seq (.reg [.op (0, 0, false), .op (1, 0, false), .op (2, 2, false), .op (3, 0, false), .op (4, 0, false)]) .leaf))
theorem I_errors_New {a0 : Value} {w : World} {K : Value → World → Prop} (h : D_errors_New a0 w K) : call P f_errors_New [a0] w K :=
  call_of_vc mixed Tryz.func290 (c := codeOf Tryz.f290) (by kernel_rfl) (by kernel_rfl) (p := P_errors_New) (by kernel_rfl) (by rw [Tryz.ntmps290]; simp) (by
    have e : D_errors_New a0 w K = vc P P_errors_New (codeOf Tryz.f290) (env0 [a0]) w (retX P Tryz.f290.results.toList K) := by kernel_rfl
    exact e ▸ h)

/-- strconv.Itoa -/
def D_strconv_Itoa (a0 : Value) (w : World) (K : Value → World → Prop) : Prop :=
  call P f_internal_strconv_Itoa [a0] w fun x4_1 w2 =>
  K x4_1 w2
def P_strconv_Itoa : Plan := (.seq (.reg [.op (0, 0, false)]) (.seq (.reg [.op (0, 0, false), .op (1, 2, false), .op (2, 0, false)]) .leaf))
theorem I_strconv_Itoa {a0 : Value} {w : World} {K : Value → World → Prop} (h : D_strconv_Itoa a0 w K) : call P f_strconv_Itoa [a0] w K :=
  call_of_vc mixed Tryz.func291 (c := codeOf Tryz.f291) (by kernel_rfl) (by kernel_rfl) (p := P_strconv_Itoa) (by kernel_rfl) (by rw [Tryz.ntmps291]; simp) (by
    have e : D_strconv_Itoa a0 w K = vc P P_strconv_Itoa (codeOf Tryz.f291) (env0 [a0]) w (retX P Tryz.f291.results.toList K) := by kernel_rfl
    exact e ▸ h)

/-- cmp.isNaN[int] -/
def D_cmp_isNaN_int (a0 : Value) (w : World) (K : Value → World → Prop) : Prop :=
  bin P .neq 3 false false a0 a0 w fun x5_1 =>
  K x5_1 w
def P_cmp_isNaN_int : Plan := (.seq (.reg [.op (0, 0, false)]) (.seq (.reg [.op (0, 0, false), .op (1, 0, false), .op (2, 0, false), .op (3, 0, false)]) .leaf))
theorem I_cmp_isNaN_int {a0 : Value} {w : World} {K : Value → World → Prop} (h : D_cmp_isNaN_int a0 w K) : call P f_cmp_isNaN_int [a0] w K :=
  call_of_vc mixed Tryz.func298 (c := codeOf Tryz.f298) (by kernel_rfl) (by kernel_rfl) (p := P_cmp_isNaN_int) (by kernel_rfl) (by rw [Tryz.ntmps298]; simp) (by
    have e : D_cmp_isNaN_int a0 w K = vc P P_cmp_isNaN_int (codeOf Tryz.f298) (env0 [a0]) w (retX P Tryz.f298.results.toList K) := by kernel_rfl
    exact e ▸ h)

/-- cmp.isNaN[uint32] -/
def D_cmp_isNaN_uint32 (a0 : Value) (w : World) (K : Value → World → Prop) : Prop :=
  bin P .neq 202 false false a0 a0 w fun x5_1 =>
  K x5_1 w
def P_cmp_isNaN_uint32 : Plan := (.seq (.reg [.op (0, 0, false)]) (.seq (.reg [.op (0, 0, false), .op (1, 0, false), .op (2, 0, false), .op (3, 0, false)]) .leaf))
theorem I_cmp_isNaN_uint32 {a0 : Value} {w : World} {K : Value → World → Prop} (h : D_cmp_isNaN_uint32 a0 w K) : call P f_cmp_isNaN_uint32 [a0] w K :=
  call_of_vc mixed Tryz.func299 (c := codeOf Tryz.f299) (by kernel_rfl) (by kernel_rfl) (p := P_cmp_isNaN_uint32) (by kernel_rfl) (by rw [Tryz.ntmps299]; simp) (by
    have e : D_cmp_isNaN_uint32 a0 w K = vc P P_cmp_isNaN_uint32 (codeOf Tryz.f299) (env0 [a0]) w (retX P Tryz.f299.results.toList K) := by kernel_rfl
    exact e ▸ h)

/-- internal/strconv.Itoa -/
def D_internal_strconv_Itoa (a0 : Value) (w : World) (K : Value → World → Prop) : Prop :=
  call P f_internal_strconv_FormatInt [a0, (.int .i64 10)] w fun x4_1 w2 =>
  K x4_1 w2
def P_internal_strconv_Itoa : Plan := (.seq (.reg [.op (0, 0, false)]) (.seq (.reg [.op (0, 0, false), .op (1, 2, false), .op (2, 0, false)]) .leaf))
theorem I_internal_strconv_Itoa {a0 : Value} {w : World} {K : Value → World → Prop} (h : D_internal_strconv_Itoa a0 w K) : call P f_internal_strconv_Itoa [a0] w K :=
  call_of_vc mixed Tryz.func300 (c := codeOf Tryz.f300) (by kernel_rfl) (by kernel_rfl) (p := P_internal_strconv_Itoa) (by kernel_rfl) (by rw [Tryz.ntmps300]; simp) (by
    have e : D_internal_strconv_Itoa a0 w K = vc P P_internal_strconv_Itoa (codeOf Tryz.f300) (env0 [a0]) w (retX P Tryz.f300.results.toList K) := by kernel_rfl
    exact e ▸ h)

/-- internal/strconv.FormatInt -/
def D_internal_strconv_FormatInt (a0 a1 : Value) (w : World) (K : Value → World → Prop) : Prop :=
  bin P .eql 3 false true a1 (.int .i64 10) w fun x11_1 =>
  cnd x11_1
    (bin P .leq 2 true false (.int .i64 0) a0 w fun x13_2 =>
    ∃ J3 : Value → World → Prop, (∀ (x16_4 : Value) (junk6 : Env) (w5 : World), J3 x16_4 w5 →
      pick x13_2 x16_4 (.bool false) fun x17_7 =>
      cnd x17_7
        (call P f_internal_strconv_small [a0] w5 fun x19_8 w9 =>
        K x19_8 w9)
        (alc P 309 w5 fun x5_10 w11 =>
        cnv P 2 178 a0 w11 fun x21_12 =>
        ∃ J13 : Value → World → Prop, (∀ (x6_16 : Value) (junk14 : Env) (w15 : World), J13 x6_16 w15 →
          call P f_internal_strconv_numDigits [x6_16] w15 fun x27_17 w18 =>
          bin P .add 3 true false (.int .i64 1) x27_17 w18 fun x29_19 =>
          sli P 309 x5_10 (some (.int .i64 1)) (some x29_19) none w18 fun x30_20 =>
          call P f_internal_strconv_formatBase10 [x30_20, x6_16] w18 fun x32_21 w22 =>
          bin P .lss 2 false true a0 (.int .i64 0) w22 fun x34_23 =>
          cnd x34_23
            (ixa P 309 x5_10 (.int .i64 0) w22 fun x35_24 =>
            sto P 5 x35_24 (.int .u8 45) w22 fun w26 =>
            bin P .add 3 true false (.int .i64 1) x27_17 w26 fun x37_27 =>
            sli P 309 x5_10 none (some x37_27) none w26 fun x38_28 =>
            cnv2 P 72 9 x38_28 w26 fun x39_29 w30 =>
            K x39_29 w30)
            (bin P .add 3 true false (.int .i64 1) x27_17 w22 fun x41_31 =>
            sli P 309 x5_10 (some (.int .i64 1)) (some x41_31) none w22 fun x42_32 =>
            cnv2 P 72 9 x42_32 w22 fun x43_33 w34 =>
            K x43_33 w34)) ∧
          (bin P .lss 2 false true a0 (.int .i64 0) w11 fun x23_35 =>
          cnd x23_35
            (una P .neg x21_12 w11 fun x25_36 =>
            J13 x25_36 w11)
            (J13 x21_12 w11)))) ∧
      grd x13_2 true
        (bin P .lss 2 false true a0 (.int .i64 100) w fun x16_37 =>
        J3 x16_37 w)
        (J3 undef w))
    (cnv P 2 178 a0 w fun x46_38 =>
    bin P .lss 2 false true a0 (.int .i64 0) w fun x49_39 =>
    call P f_internal_strconv_formatBits [(.slice none 0 0), x46_38, a1, x49_39, (.bool false)] w fun x50_40 w41 =>
    xtr P x50_40 0 w41 fun x51_42 =>
    xtr P x50_40 1 w41 fun x52_43 =>
    K x52_43 w41)
def P_internal_strconv_FormatInt : Plan := (.seq (.reg [.op (0, 0, false)]) (.seq (.seq (.reg [.op (0, 0, false), .op (1, 0, false)]) (.cond (.seq (.seq (.reg [.op (0, 0, false), .op (1, 0, false), .op (2, 0, false), .grp 2 true [(3, 0, false), (4, 0, false)] [16] 98304, .op (5, 0, false)]) (.cond (.seq (.reg [.op (0, 0, false), .op (1, 2, false), .op (2, 0, false)]) .leaf) .leaf)) (.seq (.reg [.op (0, 2, false)]) (.seq (.reg [.op (0, 0, false), .op (1, 0, false), .op (2, 0, false)]) (.cut [6] 62914624 (.seq (.reg [.op (0, 0, false), .op (1, 0, false)]) (.cond (.reg [.op (0, 0, false), .op (1, 0, false), .op (2, 0, false)]) .leaf)) (.seq (.reg [.op (0, 0, false), .op (1, 2, false), .op (2, 0, false)]) (.seq (.reg [.op (0, 0, false), .op (1, 0, false), .op (2, 0, false), .op (3, 0, false), .op (4, 2, false)]) (.seq (.seq (.reg [.op (0, 0, false), .op (1, 0, false)]) (.cond (.seq (.reg [.op (0, 0, false), .op (1, 2, false)]) (.seq (.reg [.op (0, 0, false), .op (1, 0, false), .op (2, 0, false), .op (3, 2, false), .op (4, 0, false)]) .leaf)) .leaf)) (.seq (.reg [.op (0, 0, false), .op (1, 0, false), .op (2, 0, false), .op (3, 2, false), .op (4, 0, false)]) .leaf)))))))) .leaf)) (.seq (.reg [.op (0, 0, false), .op (1, 0, false), .op (2, 0, false), .op (3, 0, false), .op (4, 0, false), .op (5, 2, false), .op (6, 0, false), .op (7, 0, false), .op (8, 0, false), .op (9, 0, false), .op (10, 0, false)]) (.seq (.reg [.op (0, 0, false), .op (1, 0, false)]) .leaf))))
theorem I_internal_strconv_FormatInt {a0 a1 : Value} {w : World} {K : Value → World → Prop} (h : D_internal_strconv_FormatInt a0 a1 w K) : call P f_internal_strconv_FormatInt [a0, a1] w K :=
  call_of_vc mixed Tryz.func302 (c := codeOf Tryz.f302) (by kernel_rfl) (by kernel_rfl) (p := P_internal_strconv_FormatInt) (by kernel_rfl) (by rw [Tryz.ntmps302]; simp) (by
    have e : D_internal_strconv_FormatInt a0 a1 w K = vc P P_internal_strconv_FormatInt (codeOf Tryz.f302) (env0 [a0, a1]) w (retX P Tryz.f302.results.toList K) := by kernel_rfl
    exact e ▸ h)

end Go.Proofs.YtjompmflommadaaGreatDoor
