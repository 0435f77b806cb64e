import Derived.Test.YtjompmflommadaaGreatDoorProg
import Derived.Test.YtjompmflommadaaGreatDoorVcH
set_option linter.unusedSimpArgs false
set_option linter.unusedVariables false
/- Written by a program (gen.py): the program's names. -/
namespace Go.Proofs.YtjompmflommadaaGreatDoor
open Go Go.Vc
noncomputable abbrev P : Program := Tryz.prog
theorem mixed : P.follows .mixedOrders = true := by kernel_rfl
def codeOf (f : Func) : Code := match f.body with
  | some c => c
  | none => .skip
abbrev f_laws_FnExactIsProgram : FuncId := 3
abbrev f_laws_FnExactDepthOf : FuncId := 4
abbrev f_laws_FnExactVariablesOf : FuncId := 5
abbrev f_laws_FnExactProgramText : FuncId := 6
abbrev f_laws_FnExactParseProgram : FuncId := 7
abbrev f_laws_FnExactIsServer : FuncId := 8
abbrev f_laws_FnExactRunExact : FuncId := 9
abbrev f_laws_FnExactRunPair : FuncId := 10
abbrev f_laws_FnProgramTexts : FuncId := 11
abbrev f_laws_szProgram : FuncId := 12
abbrev f_spec_IsProgram : FuncId := 13
abbrev f_laws_toProgram : FuncId := 14
abbrev f_impl_IsProgram : FuncId := 15
abbrev f_laws_eqProgram : FuncId := 16
abbrev f_spec_DepthOf : FuncId := 17
abbrev f_impl_DepthOf : FuncId := 18
abbrev f_spec_VariablesOf : FuncId := 19
abbrev f_impl_VariablesOf : FuncId := 20
abbrev f_spec_ProgramText : FuncId := 21
abbrev f_impl_ProgramText : FuncId := 22
abbrev f_spec_ParseProgram : FuncId := 23
abbrev f_impl_ParseProgram : FuncId := 24
abbrev f_laws_markProgram : FuncId := 25
abbrev f_laws_heldProgram : FuncId := 26
abbrev f_laws_szServer : FuncId := 27
abbrev f_spec_IsServer : FuncId := 28
abbrev f_laws_toServer : FuncId := 29
abbrev f_impl_IsServer : FuncId := 30
abbrev f_laws_eqServer : FuncId := 31
abbrev f_spec_RunExact : FuncId := 32
abbrev f_laws_toFloat32S : FuncId := 33
abbrev f_impl_RunExact : FuncId := 34
abbrev f_laws_eqDyadic : FuncId := 35
abbrev f_laws_eqFloat32S : FuncId := 36
abbrev f_laws_markFloat32S : FuncId := 37
abbrev f_laws_markDyadic : FuncId := 38
abbrev f_laws_heldDyadic : FuncId := 39
abbrev f_spec_RunPair : FuncId := 40
abbrev f_impl_RunPair : FuncId := 41
abbrev f_laws_eqPair : FuncId := 42
abbrev f_laws_big : FuncId := 43
abbrev f_spec_DrawProgramText : FuncId := 44
abbrev f_laws_words5 : FuncId := 45
abbrev f_spec_DrawParseProgram : FuncId := 46
abbrev f_spec_DrawVariablesOf : FuncId := 47
abbrev f_spec_DrawRunPair : FuncId := 48
abbrev f_laws_float5 : FuncId := 49
abbrev f_impl_IsPair : FuncId := 50
abbrev f_laws_szStringS : FuncId := 51
abbrev f_spec_l08Is : FuncId := 52
abbrev f_laws_toStringS : FuncId := 53
abbrev f_impl_depthOf : FuncId := 54
abbrev f_laws_eqStringS : FuncId := 55
abbrev f_spec_l08Depth : FuncId := 56
abbrev f_spec_l08Variables : FuncId := 57
abbrev f_impl_needs : FuncId := 58
abbrev f_spec_l08Text : FuncId := 59
abbrev f_impl_programText : FuncId := 60
abbrev f_spec_l06Split : FuncId := 61
abbrev f_strings_Split : FuncId := 62
abbrev f_laws_markStringS : FuncId := 63
abbrev f_laws_heldStringS : FuncId := 64
abbrev f_laws_szProgramS : FuncId := 65
abbrev f_laws_szKeptS : FuncId := 66
abbrev f_spec_l12Is : FuncId := 67
abbrev f_laws_toProgramS : FuncId := 68
abbrev f_laws_toKeptS : FuncId := 69
abbrev f_impl_isName : FuncId := 70
abbrev f_slices_Contains_string_string : FuncId := 71
abbrev f_laws_eqProgramS : FuncId := 72
abbrev f_laws_eqKeptS : FuncId := 73
abbrev f_spec_l08Code : FuncId := 74
abbrev f_spec_l08Exact : FuncId := 75
abbrev f_impl_asked : FuncId := 76
abbrev f_impl_areFinite : FuncId := 77
abbrev f_impl_numOf : FuncId := 78
abbrev f_impl_num_odd : FuncId := 79
abbrev f_impl_run_impl_num : FuncId := 80
abbrev f_impl_RunExact_1 : FuncId := 81
abbrev f_impl_exactOne : FuncId := 82
abbrev f_impl_exactTwo : FuncId := 83
abbrev f_impl_num_dyadic : FuncId := 84
abbrev f_laws_eqWhole : FuncId := 85
abbrev f_laws_sameFloat : FuncId := 86
abbrev f_laws_markWhole : FuncId := 87
abbrev f_laws_heldWhole : FuncId := 88
abbrev f_spec_l08Needs : FuncId := 89
abbrev f_spec_l08Leaf : FuncId := 90
abbrev f_spec_l08PairOne : FuncId := 91
abbrev f_spec_l08PairTwo : FuncId := 92
abbrev f_impl_run_impl_Pair : FuncId := 93
abbrev f_impl_RunPair_1 : FuncId := 94
abbrev f_impl_pairOne : FuncId := 95
abbrev f_impl_pairTwo : FuncId := 96
abbrev f_spec_l08Spoil : FuncId := 97
abbrev f_spec_l01From : FuncId := 98
abbrev f_spec_l08Draw : FuncId := 99
abbrev f_spec_l01Next : FuncId := 100
abbrev f_spec_l01Damage : FuncId := 101
abbrev f_spec_l08Plain : FuncId := 102
abbrev f_impl_form : FuncId := 103
abbrev f_spec_l08Variable : FuncId := 104
abbrev f_impl_variable : FuncId := 105
abbrev f_strings_Join : FuncId := 106
abbrev f_strings_genSplit : FuncId := 107
abbrev f_laws_markText : FuncId := 108
abbrev f_laws_szKept : FuncId := 109
abbrev f_spec_l12Name : FuncId := 110
abbrev f_spec_l12Place : FuncId := 111
abbrev f_spec_l12Key : FuncId := 112
abbrev f_laws_toKept : FuncId := 113
abbrev f_slices_Index_string_string : FuncId := 114
abbrev f_laws_eqKept : FuncId := 115
abbrev f_spec_l01Finite : FuncId := 116
abbrev f_spec_l01In : FuncId := 117
abbrev f_spec_l03Of : FuncId := 118
abbrev f_spec_l08Exactly : FuncId := 119
abbrev f_spec_l03Is : FuncId := 120
abbrev f_spec_l03Make : FuncId := 121
abbrev f_impl_isFinite : FuncId := 122
abbrev f_impl_parts : FuncId := 123
abbrev f_impl_newInt : FuncId := 124
abbrev f_impl_num_sign : FuncId := 125
abbrev f_impl_zero : FuncId := 126
abbrev f_impl_integer_TrailingZeroBits : FuncId := 127
abbrev f_impl_integer_Rsh : FuncId := 128
abbrev f_impl_parseFloat : FuncId := 129
abbrev f_impl_num_neg : FuncId := 130
abbrev f_impl_kept : FuncId := 131
abbrev f_impl_num_mul : FuncId := 132
abbrev f_impl_num_abs : FuncId := 133
abbrev f_impl_num_add : FuncId := 134
abbrev f_impl_num_sub : FuncId := 135
abbrev f_impl_num_cmp : FuncId := 136
abbrev f_impl_fromBig : FuncId := 137
abbrev f_laws_eqInt64S : FuncId := 138
abbrev f_laws_markInt64S : FuncId := 139
abbrev f_laws_heldInt64S : FuncId := 140
abbrev f_spec_l06Float : FuncId := 141
abbrev f_spec_l08Turn : FuncId := 142
abbrev f_spec_l05Value : FuncId := 143
abbrev f_spec_l05Times : FuncId := 144
abbrev f_spec_l05Add : FuncId := 145
abbrev f_spec_l05Over : FuncId := 146
abbrev f_spec_l03Compare : FuncId := 147
abbrev f_impl_opposite : FuncId := 148
abbrev f_impl_limited : FuncId := 149
abbrev f_impl_mulPairs : FuncId := 150
abbrev f_impl_pairValue : FuncId := 151
abbrev f_impl_addPairs : FuncId := 152
abbrev f_impl_divPairs : FuncId := 153
abbrev f_spec_l08Some : FuncId := 154
abbrev f_spec_l01Pick : FuncId := 155
abbrev f_spec_l08Floating : FuncId := 156
abbrev f_strings_Builder_Grow : FuncId := 157
abbrev f_strings_Builder_WriteString : FuncId := 158
abbrev f_strings_Builder_String : FuncId := 159
abbrev f_strings_explode : FuncId := 160
abbrev f_strings_Count : FuncId := 161
abbrev f_strings_Index : FuncId := 162
abbrev f_spec_l01Parts : FuncId := 163
abbrev f_spec_l02Of : FuncId := 164
abbrev f_spec_l03Neg : FuncId := 165
abbrev f_spec_l03Mul : FuncId := 166
abbrev f_spec_l02Abs : FuncId := 167
abbrev f_spec_l03Add : FuncId := 168
abbrev f_spec_l03Sub : FuncId := 169
abbrev f_spec_l02Is : FuncId := 170
abbrev f_spec_l02Twos : FuncId := 171
abbrev f_spec_l02Cut : FuncId := 172
abbrev f_math_Float32bits : FuncId := 173
abbrev f_impl_integer_SetInt64 : FuncId := 174
abbrev f_impl_integer_Sign : FuncId := 175
abbrev f_impl_integer_BitLen : FuncId := 176
abbrev f_impl_integer_Bit : FuncId := 177
abbrev f_impl_integer_put : FuncId := 178
abbrev f_impl_magRight : FuncId := 179
abbrev f_impl_magSub : FuncId := 180
abbrev f_impl_magAdd : FuncId := 181
abbrev f_impl_ParseDyadic : FuncId := 182
abbrev f_impl_RoundDyadic : FuncId := 183
abbrev f_impl_integer_Neg : FuncId := 184
abbrev f_impl_integer_Mul : FuncId := 185
abbrev f_impl_integer_Abs : FuncId := 186
abbrev f_impl_integer_Add : FuncId := 187
abbrev f_impl_num_at : FuncId := 188
abbrev f_impl_integer_And : FuncId := 189
abbrev f_impl_integer_Int64 : FuncId := 190
abbrev f_spec_l03Read : FuncId := 191
abbrev f_spec_l03Round : FuncId := 192
abbrev f_spec_l01Turned : FuncId := 193
abbrev f_spec_l05Product : FuncId := 194
abbrev f_spec_l05Quick : FuncId := 195
abbrev f_spec_l05Is : FuncId := 196
abbrev f_spec_l05Sum : FuncId := 197
abbrev f_impl_shortProduct : FuncId := 198
abbrev f_impl_quick : FuncId := 199
abbrev f_impl_exactSum : FuncId := 200
abbrev f_spec_l03Text : FuncId := 201
abbrev f_spec_l01Pick32 : FuncId := 202
abbrev f_spec_l01Draw : FuncId := 203
abbrev f_spec_l01Count : FuncId := 204
abbrev f_spec_l01Spoil : FuncId := 205
abbrev f_strings_Builder_copyCheck : FuncId := 206
abbrev f_strings_Builder_grow : FuncId := 207
abbrev f_unicode_utf8_RuneCountInString : FuncId := 208
abbrev f_unicode_utf8_DecodeRuneInString : FuncId := 209
abbrev f_internal_bytealg_CountString : FuncId := 210
abbrev f_internal_stringslite_Index : FuncId := 211
abbrev f_spec_l01Twos : FuncId := 212
abbrev f_spec_l01Abs : FuncId := 213
abbrev f_spec_l02Make : FuncId := 214
abbrev f_spec_l02Neg : FuncId := 215
abbrev f_spec_l02Mul : FuncId := 216
abbrev f_spec_l02Add : FuncId := 217
abbrev f_spec_l02Left : FuncId := 218
abbrev f_spec_l02Bit : FuncId := 219
abbrev f_impl_magBits : FuncId := 220
abbrev f_impl_magTrim : FuncId := 221
abbrev f_strings_Cut : FuncId := 222
abbrev f_impl_isNumeral : FuncId := 223
abbrev f_impl_ParseWhole : FuncId := 224
abbrev f_strconv_ParseInt : FuncId := 225
abbrev f_impl_IsDyadic : FuncId := 226
abbrev f_impl_isMode : FuncId := 227
abbrev f_impl_numberOf : FuncId := 228
abbrev f_impl_num_round : FuncId := 229
abbrev f_slices_Clone_uint32_uint32 : FuncId := 230
abbrev f_impl_magMul : FuncId := 231
abbrev f_impl_integer_plus : FuncId := 232
abbrev f_impl_integer_Lsh : FuncId := 233
abbrev f_impl_integer_low : FuncId := 234
abbrev f_spec_l02Read : FuncId := 235
abbrev f_spec_l03Multiple : FuncId := 236
abbrev f_spec_l02Length : FuncId := 237
abbrev f_spec_l03Over : FuncId := 238
abbrev f_spec_l05Near : FuncId := 239
abbrev f_impl_rest : FuncId := 240
abbrev f_spec_l02Text : FuncId := 241
abbrev f_spec_l01At : FuncId := 242
abbrev f_spec_l01Strange : FuncId := 243
abbrev f_internal_abi_NoEscape : FuncId := 244
abbrev f_internal_bytealg_MakeNoZero : FuncId := 245
abbrev f_unicode_utf8_decodeRuneInStringSlow : FuncId := 246
abbrev f_internal_stringslite_IndexByte : FuncId := 247
abbrev f_internal_bytealg_IndexString : FuncId := 248
abbrev f_internal_bytealg_Cutover : FuncId := 249
abbrev f_internal_bytealg_IndexRabinKarp_string : FuncId := 250
abbrev f_spec_l01Own : FuncId := 251
abbrev f_spec_l02Plus : FuncId := 252
abbrev f_spec_l02CompareLimbs : FuncId := 253
abbrev f_spec_l02Minus : FuncId := 254
abbrev f_internal_stringslite_Cut : FuncId := 255
abbrev f_impl_integer_SetString : FuncId := 256
abbrev f_impl_whole : FuncId := 257
abbrev f_internal_strconv_ParseInt : FuncId := 258
abbrev f_strconv_toError : FuncId := 259
abbrev f_impl_IsWhole : FuncId := 260
abbrev f_impl_toBig : FuncId := 261
abbrev f_impl_num_round_1 : FuncId := 262
abbrev f_impl_atPlace : FuncId := 263
abbrev f_impl_infinite : FuncId := 264
abbrev f_impl_integer_Sub : FuncId := 265
abbrev f_impl_integer_Cmp : FuncId := 266
abbrev f_math_Ldexp : FuncId := 267
abbrev f_impl_magCmp : FuncId := 268
abbrev f_impl_magLeft : FuncId := 269
abbrev f_spec_l01Huge : FuncId := 270
abbrev f_impl_plain : FuncId := 271
abbrev f_spec_l02Digits : FuncId := 272
abbrev f_internal_bytealg_IndexByteString : FuncId := 273
abbrev f_internal_bytealg_hashStr_string : FuncId := 274
abbrev f_internal_strconv_ParseUint : FuncId := 275
abbrev f_strconv_syntaxError : FuncId := 276
abbrev f_strconv_rangeError : FuncId := 277
abbrev f_strconv_baseError : FuncId := 278
abbrev f_strconv_bitSizeError : FuncId := 279
abbrev f_impl_integer_Or : FuncId := 280
abbrev f_math_Float32frombits : FuncId := 281
abbrev f_math_Inf : FuncId := 282
abbrev f_math_archLdexp : FuncId := 283
abbrev f_math_ldexp : FuncId := 284
abbrev f_cmp_Compare_int : FuncId := 285
abbrev f_cmp_Compare_uint32 : FuncId := 286
abbrev f_internal_strconv_lower : FuncId := 287
abbrev f_internal_strconv_underscoreOK : FuncId := 288
abbrev f_internal_stringslite_Clone : FuncId := 289
abbrev f_errors_New : FuncId := 290
abbrev f_strconv_Itoa : FuncId := 291
abbrev f_math_Float64frombits : FuncId := 292
abbrev f_math_IsInf : FuncId := 293
abbrev f_math_IsNaN : FuncId := 294
abbrev f_math_normalize : FuncId := 295
abbrev f_math_Float64bits : FuncId := 296
abbrev f_math_Copysign : FuncId := 297
abbrev f_cmp_isNaN_int : FuncId := 298
abbrev f_cmp_isNaN_uint32 : FuncId := 299
abbrev f_internal_strconv_Itoa : FuncId := 300
abbrev f_math_Abs : FuncId := 301
abbrev f_internal_strconv_FormatInt : FuncId := 302
abbrev f_internal_strconv_small : FuncId := 303
abbrev f_internal_strconv_numDigits : FuncId := 304
abbrev f_internal_strconv_formatBase10 : FuncId := 305
abbrev f_internal_strconv_formatBits : FuncId := 306
abbrev f_internal_strconv_log10Pow2 : FuncId := 307
abbrev f_math_bits_Len64 : FuncId := 308
abbrev f_internal_strconv_bool2_int : FuncId := 309
abbrev f_internal_strconv_isPowerOfTwo : FuncId := 310
abbrev f_math_bits_TrailingZeros : FuncId := 311
abbrev f_math_bits_TrailingZeros32 : FuncId := 312
abbrev f_math_bits_TrailingZeros64 : FuncId := 313
abbrev f_internal_abi_Type_Align : FuncId := 326
abbrev f_internal_runtime_maps_unhashableTypeError_Error : FuncId := 327
abbrev f_internal_runtime_maps_unhashableTypeError_RuntimeError : FuncId := 328
abbrev f_impl_integer_String : FuncId := 329
abbrev f_impl_num_high : FuncId := 330
abbrev f_strings_Builder_Reset : FuncId := 331
abbrev f_internal_strconv_Error_Error : FuncId := 332
abbrev f_strconv_NumError_Error : FuncId := 333
abbrev f_errors_errorString_Error : FuncId := 334
abbrev f_internal_abi_Kind_String : FuncId := 335
abbrev f_var_s_door_gosem_cut_vars_holds_initialisers_alone_see_the_manifest_s_row_cutvarsword_look_11_test_files_too : FuncId := 336
abbrev f_var_s_door_internal_strconv_uint64pow10_is_laid_by_its_own_initialiser_plain_data_look_11 : FuncId := 337
abbrev f_var_s_door_math_bits_deBruijn32tab_is_laid_by_its_own_initialiser_plain_data_look_11 : FuncId := 338
abbrev f_var_s_door_math_bits_deBruijn64tab_is_laid_by_its_own_initialiser_plain_data_look_11 : FuncId := 339
abbrev f_var_s_door_strconv_ErrRange_is_laid_by_its_own_call_of_errors_New_on_one_literal_look_11 : FuncId := 340
abbrev f_var_s_door_strconv_ErrSyntax_is_laid_by_its_own_call_of_errors_New_on_one_literal_look_11 : FuncId := 341
abbrev f_var_s_door_the_look_of_gosem_cut_vars_went_over_the_folder_that_the_caller_named_as_the_repository_s_root_look_11 : FuncId := 342
abbrev f_var_s_door_unicode_utf8_acceptRanges_is_laid_by_its_own_initialiser_plain_data_look_11 : FuncId := 343
abbrev f_var_s_door_unicode_utf8_first_is_laid_by_its_text_alone_pinned_1 : FuncId := 344
noncomputable abbrev F_math_Float32bits : Func := Tryz.f173
theorem fun_math_Float32bits : P.funcs[f_math_Float32bits]? = some F_math_Float32bits := Tryz.func173
noncomputable abbrev F_internal_bytealg_CountString : Func := Tryz.f210
theorem fun_internal_bytealg_CountString : P.funcs[f_internal_bytealg_CountString]? = some F_internal_bytealg_CountString := Tryz.func210
noncomputable abbrev F_internal_bytealg_MakeNoZero : Func := Tryz.f245
theorem fun_internal_bytealg_MakeNoZero : P.funcs[f_internal_bytealg_MakeNoZero]? = some F_internal_bytealg_MakeNoZero := Tryz.func245
noncomputable abbrev F_internal_bytealg_IndexString : Func := Tryz.f248
theorem fun_internal_bytealg_IndexString : P.funcs[f_internal_bytealg_IndexString]? = some F_internal_bytealg_IndexString := Tryz.func248
noncomputable abbrev F_internal_bytealg_IndexByteString : Func := Tryz.f273
theorem fun_internal_bytealg_IndexByteString : P.funcs[f_internal_bytealg_IndexByteString]? = some F_internal_bytealg_IndexByteString := Tryz.func273
noncomputable abbrev F_math_Float32frombits : Func := Tryz.f281
theorem fun_math_Float32frombits : P.funcs[f_math_Float32frombits]? = some F_math_Float32frombits := Tryz.func281
noncomputable abbrev F_math_Float64frombits : Func := Tryz.f292
theorem fun_math_Float64frombits : P.funcs[f_math_Float64frombits]? = some F_math_Float64frombits := Tryz.func292
noncomputable abbrev F_math_Float64bits : Func := Tryz.f296
theorem fun_math_Float64bits : P.funcs[f_math_Float64bits]? = some F_math_Float64bits := Tryz.func296
abbrev t_int64 : TypeId := 2
theorem u_int64 : P.underlying 2 = some (.int .i64) := Tryz.underlying2
theorem i_int64 : TI P 2 (.int .i64 0) 1 8 := TI_of (by kernel_rfl)
abbrev t_int : TypeId := 3
theorem u_int : P.underlying 3 = some (.int .i64) := Tryz.underlying3
theorem i_int : TI P 3 (.int .i64 0) 1 8 := TI_of (by kernel_rfl)
abbrev t_bool : TypeId := 4
theorem u_bool : P.underlying 4 = some (.bool) := Tryz.underlying4
theorem i_bool : TI P 4 (.bool false) 1 1 := TI_of (by kernel_rfl)
abbrev t_uint8 : TypeId := 5
theorem u_uint8 : P.underlying 5 = some (.int .u8) := Tryz.underlying5
theorem i_uint8 : TI P 5 (.int .u8 0) 1 1 := TI_of (by kernel_rfl)
abbrev t_string : TypeId := 9
theorem u_string : P.underlying 9 = some (.string) := Tryz.underlying9
theorem i_string : TI P 9 (.string ⟨#[]⟩) 1 16 := TI_of (by kernel_rfl)
abbrev t_uintptr : TypeId := 12
theorem u_uintptr : P.underlying 12 = some (.int .u64) := Tryz.underlying12
theorem i_uintptr : TI P 12 (.int .u64 0) 1 8 := TI_of (by kernel_rfl)
abbrev t_p_runtime_TypeAssertionError : TypeId := 15
theorem u_p_runtime_TypeAssertionError : P.underlying 15 = some (.pointer 322) := Tryz.underlying15
theorem i_p_runtime_TypeAssertionError : TI P 15 (.pointer none) 1 8 := TI_of (by kernel_rfl)
abbrev t_p_runtime_PanicNilError : TypeId := 16
theorem u_p_runtime_PanicNilError : P.underlying 16 = some (.pointer 325) := Tryz.underlying16
theorem i_p_runtime_PanicNilError : TI P 16 (.pointer none) 1 8 := TI_of (by kernel_rfl)
abbrev t_p_abi_Type : TypeId := 17
theorem u_p_abi_Type : P.underlying 17 = some (.pointer 332) := Tryz.underlying17
theorem i_p_abi_Type : TI P 17 (.pointer none) 1 8 := TI_of (by kernel_rfl)
abbrev t_int32 : TypeId := 21
theorem u_int32 : P.underlying 21 = some (.int .i32) := Tryz.underlying21
theorem i_int32 : TI P 21 (.int .i32 0) 1 4 := TI_of (by kernel_rfl)
abbrev t_s_string : TypeId := 22
theorem u_s_string : P.underlying 22 = some (.slice 9) := Tryz.underlying22
theorem i_s_string : TI P 22 (.slice none 0 0) 1 24 := TI_of (by kernel_rfl)
abbrev t_laws_Program : TypeId := 24
theorem u_laws_Program : P.underlying 24 = some (.struct #[{ name := "Words", type := 22, offset := 0, embedded := false, tag := "", pkgPath := "", byteOffset := 0 }]) := Tryz.underlying24
theorem i_laws_Program : TI P 24 (.agg #[(.slice none 0 0)]) 1 24 := TI_of (by kernel_rfl)
abbrev t_impl_Program : TypeId := 27
theorem u_impl_Program : P.underlying 27 = some (.struct #[{ name := "Words", type := 22, offset := 0, embedded := false, tag := "", pkgPath := "", byteOffset := 0 }]) := Tryz.underlying27
theorem i_impl_Program : TI P 27 (.agg #[(.slice none 0 0)]) 1 24 := TI_of (by kernel_rfl)
abbrev t_s_laws_Program : TypeId := 39
theorem u_s_laws_Program : P.underlying 39 = some (.slice 24) := Tryz.underlying39
theorem i_s_laws_Program : TI P 39 (.slice none 0 0) 1 24 := TI_of (by kernel_rfl)
abbrev t_s_laws_Kept : TypeId := 40
theorem u_s_laws_Kept : P.underlying 40 = some (.slice 138) := Tryz.underlying40
theorem i_s_laws_Kept : TI P 40 (.slice none 0 0) 1 24 := TI_of (by kernel_rfl)
abbrev t_laws_Server : TypeId := 42
theorem u_laws_Server : P.underlying 42 = some (.struct #[{ name := "Names", type := 22, offset := 0, embedded := false, tag := "", pkgPath := "", byteOffset := 0 }, { name := "Programs", type := 39, offset := 1, embedded := false, tag := "", pkgPath := "", byteOffset := 24 }, { name := "Results", type := 40, offset := 2, embedded := false, tag := "", pkgPath := "", byteOffset := 48 }]) := Tryz.underlying42
theorem i_laws_Server : TI P 42 (.agg #[(.slice none 0 0), (.slice none 0 0), (.slice none 0 0)]) 3 72 := TI_of (by kernel_rfl)
abbrev t_s_impl_Program : TypeId := 45
theorem u_s_impl_Program : P.underlying 45 = some (.slice 27) := Tryz.underlying45
theorem i_s_impl_Program : TI P 45 (.slice none 0 0) 1 24 := TI_of (by kernel_rfl)
abbrev t_s_impl_Kept : TypeId := 46
theorem u_s_impl_Kept : P.underlying 46 = some (.slice 96) := Tryz.underlying46
theorem i_s_impl_Kept : TI P 46 (.slice none 0 0) 1 24 := TI_of (by kernel_rfl)
abbrev t_impl_Server : TypeId := 48
theorem u_impl_Server : P.underlying 48 = some (.struct #[{ name := "Names", type := 22, offset := 0, embedded := false, tag := "", pkgPath := "", byteOffset := 0 }, { name := "Programs", type := 45, offset := 1, embedded := false, tag := "", pkgPath := "", byteOffset := 24 }, { name := "Results", type := 46, offset := 2, embedded := false, tag := "", pkgPath := "", byteOffset := 48 }]) := Tryz.underlying48
theorem i_impl_Server : TI P 48 (.agg #[(.slice none 0 0), (.slice none 0 0), (.slice none 0 0)]) 3 72 := TI_of (by kernel_rfl)
abbrev t_s_float32 : TypeId := 52
theorem u_s_float32 : P.underlying 52 = some (.slice 66) := Tryz.underlying52
theorem i_s_float32 : TI P 52 (.slice none 0 0) 1 24 := TI_of (by kernel_rfl)
abbrev t_s_int64 : TypeId := 53
theorem u_s_int64 : P.underlying 53 = some (.slice 2) := Tryz.underlying53
theorem i_s_int64 : TI P 53 (.slice none 0 0) 1 24 := TI_of (by kernel_rfl)
abbrev t_impl_Whole : TypeId := 55
theorem u_impl_Whole : P.underlying 55 = some (.struct #[{ name := "Sign", type := 2, offset := 0, embedded := false, tag := "", pkgPath := "", byteOffset := 0 }, { name := "Limbs", type := 53, offset := 1, embedded := false, tag := "", pkgPath := "", byteOffset := 8 }]) := Tryz.underlying55
theorem i_impl_Whole : TI P 55 (.agg #[(.int .i64 0), (.slice none 0 0)]) 2 32 := TI_of (by kernel_rfl)
abbrev t_impl_Dyadic : TypeId := 57
theorem u_impl_Dyadic : P.underlying 57 = some (.struct #[{ name := "Whole", type := 55, offset := 0, embedded := false, tag := "", pkgPath := "", byteOffset := 0 }, { name := "Exponent", type := 2, offset := 2, embedded := false, tag := "", pkgPath := "", byteOffset := 32 }]) := Tryz.underlying57
theorem i_impl_Dyadic : TI P 57 (.agg #[(.int .i64 0), (.slice none 0 0), (.int .i64 0)]) 3 40 := TI_of (by kernel_rfl)
abbrev t_float32 : TypeId := 66
theorem u_float32 : P.underlying 66 = some (.float .f32) := Tryz.underlying66
theorem i_float32 : TI P 66 (.float .f32 0) 1 4 := TI_of (by kernel_rfl)
abbrev t_impl_Pair : TypeId := 68
theorem u_impl_Pair : P.underlying 68 = some (.struct #[{ name := "High", type := 66, offset := 0, embedded := false, tag := "", pkgPath := "", byteOffset := 0 }, { name := "Low", type := 66, offset := 1, embedded := false, tag := "", pkgPath := "", byteOffset := 4 }]) := Tryz.underlying68
theorem i_impl_Pair : TI P 68 (.agg #[(.float .f32 0), (.float .f32 0)]) 2 8 := TI_of (by kernel_rfl)
abbrev t_s_uint8 : TypeId := 72
theorem u_s_uint8 : P.underlying 72 = some (.slice 5) := Tryz.underlying72
theorem i_s_uint8 : TI P 72 (.slice none 0 0) 1 24 := TI_of (by kernel_rfl)
abbrev t_impl_Kept : TypeId := 96
theorem u_impl_Kept : P.underlying 96 = some (.struct #[{ name := "Key", type := 9, offset := 0, embedded := false, tag := "", pkgPath := "", byteOffset := 0 }, { name := "Output", type := 9, offset := 1, embedded := false, tag := "", pkgPath := "", byteOffset := 16 }]) := Tryz.underlying96
theorem i_impl_Kept : TI P 96 (.agg #[(.string ⟨#[]⟩), (.string ⟨#[]⟩)]) 2 32 := TI_of (by kernel_rfl)
abbrev t_s_impl_num : TypeId := 102
theorem u_s_impl_num : P.underlying 102 = some (.slice 105) := Tryz.underlying102
theorem i_s_impl_num : TI P 102 (.slice none 0 0) 1 24 := TI_of (by kernel_rfl)
abbrev t_p_impl_integer : TypeId := 103
theorem u_p_impl_integer : P.underlying 103 = some (.pointer 158) := Tryz.underlying103
theorem i_p_impl_integer : TI P 103 (.pointer none) 1 8 := TI_of (by kernel_rfl)
abbrev t_impl_num : TypeId := 105
theorem u_impl_num : P.underlying 105 = some (.struct #[{ name := "m", type := 103, offset := 0, embedded := false, tag := "", pkgPath := "loop.example/g01172/impl", byteOffset := 0 }, { name := "e", type := 3, offset := 1, embedded := false, tag := "", pkgPath := "loop.example/g01172/impl", byteOffset := 8 }]) := Tryz.underlying105
theorem i_impl_num : TI P 105 (.agg #[(.pointer none), (.int .i64 0)]) 2 16 := TI_of (by kernel_rfl)
abbrev t_float64 : TypeId := 117
theorem u_float64 : P.underlying 117 = some (.float .f64) := Tryz.underlying117
theorem i_float64 : TI P 117 (.float .f64 0) 1 8 := TI_of (by kernel_rfl)
abbrev t_s_impl_Pair : TypeId := 119
theorem u_s_impl_Pair : P.underlying 119 = some (.slice 68) := Tryz.underlying119
theorem i_s_impl_Pair : TI P 119 (.slice none 0 0) 1 24 := TI_of (by kernel_rfl)
abbrev t_p_spec_l01Source : TypeId := 129
theorem u_p_spec_l01Source : P.underlying 129 = some (.pointer 180) := Tryz.underlying129
theorem i_p_spec_l01Source : TI P 129 (.pointer none) 1 8 := TI_of (by kernel_rfl)
abbrev t_laws_Kept : TypeId := 138
theorem u_laws_Kept : P.underlying 138 = some (.struct #[{ name := "Key", type := 9, offset := 0, embedded := false, tag := "", pkgPath := "", byteOffset := 0 }, { name := "Output", type := 9, offset := 1, embedded := false, tag := "", pkgPath := "", byteOffset := 16 }]) := Tryz.underlying138
theorem i_laws_Kept : TI P 138 (.agg #[(.string ⟨#[]⟩), (.string ⟨#[]⟩)]) 2 32 := TI_of (by kernel_rfl)
abbrev t_s_impl_Dyadic : TypeId := 145
theorem u_s_impl_Dyadic : P.underlying 145 = some (.slice 57) := Tryz.underlying145
theorem i_s_impl_Dyadic : TI P 145 (.slice none 0 0) 1 24 := TI_of (by kernel_rfl)
abbrev t_uint : TypeId := 154
theorem u_uint : P.underlying 154 = some (.int .u64) := Tryz.underlying154
theorem i_uint : TI P 154 (.int .u64 0) 1 8 := TI_of (by kernel_rfl)
abbrev t_s_uint32 : TypeId := 156
theorem u_s_uint32 : P.underlying 156 = some (.slice 202) := Tryz.underlying156
theorem i_s_uint32 : TI P 156 (.slice none 0 0) 1 24 := TI_of (by kernel_rfl)
abbrev t_impl_integer : TypeId := 158
theorem u_impl_integer : P.underlying 158 = some (.struct #[{ name := "neg", type := 4, offset := 0, embedded := false, tag := "", pkgPath := "loop.example/g01172/impl", byteOffset := 0 }, { name := "mag", type := 156, offset := 1, embedded := false, tag := "", pkgPath := "loop.example/g01172/impl", byteOffset := 8 }]) := Tryz.underlying158
theorem i_impl_integer : TI P 158 (.agg #[(.bool false), (.slice none 0 0)]) 2 32 := TI_of (by kernel_rfl)
abbrev t_p_impl_num : TypeId := 160
theorem u_p_impl_num : P.underlying 160 = some (.pointer 105) := Tryz.underlying160
theorem i_p_impl_num : TI P 160 (.pointer none) 1 8 := TI_of (by kernel_rfl)
abbrev t_p_impl_Pair : TypeId := 175
theorem u_p_impl_Pair : P.underlying 175 = some (.pointer 68) := Tryz.underlying175
theorem i_p_impl_Pair : TI P 175 (.pointer none) 1 8 := TI_of (by kernel_rfl)
abbrev t_uint64 : TypeId := 178
theorem u_uint64 : P.underlying 178 = some (.int .u64) := Tryz.underlying178
theorem i_uint64 : TI P 178 (.int .u64 0) 1 8 := TI_of (by kernel_rfl)
abbrev t_spec_l01Source : TypeId := 180
theorem u_spec_l01Source : P.underlying 180 = some (.struct #[{ name := "code", type := 72, offset := 0, embedded := false, tag := "", pkgPath := "loop.example/g01172/spec", byteOffset := 0 }, { name := "at", type := 3, offset := 1, embedded := false, tag := "", pkgPath := "loop.example/g01172/spec", byteOffset := 24 }, { name := "hash", type := 178, offset := 2, embedded := false, tag := "", pkgPath := "loop.example/g01172/spec", byteOffset := 32 }]) := Tryz.underlying180
theorem i_spec_l01Source : TI P 180 (.agg #[(.slice none 0 0), (.int .i64 0), (.int .u64 0)]) 3 40 := TI_of (by kernel_rfl)
abbrev t_p_strings_Builder : TypeId := 184
theorem u_p_strings_Builder : P.underlying 184 = some (.pointer 186) := Tryz.underlying184
theorem i_p_strings_Builder : TI P 184 (.pointer none) 1 8 := TI_of (by kernel_rfl)
abbrev t_uint32 : TypeId := 202
theorem u_uint32 : P.underlying 202 = some (.int .u32) := Tryz.underlying202
theorem i_uint32 : TI P 202 (.int .u32 0) 1 4 := TI_of (by kernel_rfl)
abbrev t_p_uint8 : TypeId := 226
theorem u_p_uint8 : P.underlying 226 = some (.pointer 5) := Tryz.underlying226
theorem i_p_uint8 : TI P 226 (.pointer none) 1 8 := TI_of (by kernel_rfl)
abbrev t_p_strconv_NumError : TypeId := 283
theorem u_p_strconv_NumError : P.underlying 283 = some (.pointer 293) := Tryz.underlying283
theorem i_p_strconv_NumError : TI P 283 (.pointer none) 1 8 := TI_of (by kernel_rfl)
abbrev t_p_errors_errorString : TypeId := 304
theorem u_p_errors_errorString : P.underlying 304 = some (.pointer 306) := Tryz.underlying304
theorem i_p_errors_errorString : TI P 304 (.pointer none) 1 8 := TI_of (by kernel_rfl)
abbrev t_errors_errorString : TypeId := 306
theorem u_errors_errorString : P.underlying 306 = some (.struct #[{ name := "s", type := 9, offset := 0, embedded := false, tag := "", pkgPath := "errors", byteOffset := 0 }]) := Tryz.underlying306
theorem i_errors_errorString : TI P 306 (.agg #[(.string ⟨#[]⟩)]) 1 16 := TI_of (by kernel_rfl)
abbrev t_error : TypeId := 189
theorem u_error : ∃ ms, P.underlying 189 = some (.interface ms) := ⟨_, Tryz.underlying189⟩
@[simp] theorem l_s_string {w : World} {K : Value → Prop} {ty : TypeId} (a : Option Addr) (n c : Nat) : bl0 P .len #[22] ty [.slice a n c] w K = K (.int .i64 n) := bl0_len u_s_string
@[simp] theorem d_laws_Program_0 {w : World} {K : Value → Prop} (a : Addr) : fda P 24 (.pointer (some a)) 0 w K = K (.pointer (some (a.add 0))) := fda_off (s := 1) u_laws_Program rfl i_s_string (by decide)
@[simp] theorem d_impl_Program_0 {w : World} {K : Value → Prop} (a : Addr) : fda P 27 (.pointer (some a)) 0 w K = K (.pointer (some (a.add 0))) := fda_off (s := 1) u_impl_Program rfl i_s_string (by decide)
@[simp] theorem l_s_laws_Program {w : World} {K : Value → Prop} {ty : TypeId} (a : Option Addr) (n c : Nat) : bl0 P .len #[39] ty [.slice a n c] w K = K (.int .i64 n) := bl0_len u_s_laws_Program
@[simp] theorem l_s_laws_Kept {w : World} {K : Value → Prop} {ty : TypeId} (a : Option Addr) (n c : Nat) : bl0 P .len #[40] ty [.slice a n c] w K = K (.int .i64 n) := bl0_len u_s_laws_Kept
@[simp] theorem d_laws_Server_0 {w : World} {K : Value → Prop} (a : Addr) : fda P 42 (.pointer (some a)) 0 w K = K (.pointer (some (a.add 0))) := fda_off (s := 1) u_laws_Server rfl i_s_string (by decide)
@[simp] theorem d_laws_Server_1 {w : World} {K : Value → Prop} (a : Addr) : fda P 42 (.pointer (some a)) 1 w K = K (.pointer (some (a.add 1))) := fda_off (s := 1) u_laws_Server rfl i_s_laws_Program (by decide)
@[simp] theorem d_laws_Server_2 {w : World} {K : Value → Prop} (a : Addr) : fda P 42 (.pointer (some a)) 2 w K = K (.pointer (some (a.add 2))) := fda_off (s := 1) u_laws_Server rfl i_s_laws_Kept (by decide)
@[simp] theorem l_s_impl_Program {w : World} {K : Value → Prop} {ty : TypeId} (a : Option Addr) (n c : Nat) : bl0 P .len #[45] ty [.slice a n c] w K = K (.int .i64 n) := bl0_len u_s_impl_Program
@[simp] theorem l_s_impl_Kept {w : World} {K : Value → Prop} {ty : TypeId} (a : Option Addr) (n c : Nat) : bl0 P .len #[46] ty [.slice a n c] w K = K (.int .i64 n) := bl0_len u_s_impl_Kept
@[simp] theorem d_impl_Server_0 {w : World} {K : Value → Prop} (a : Addr) : fda P 48 (.pointer (some a)) 0 w K = K (.pointer (some (a.add 0))) := fda_off (s := 1) u_impl_Server rfl i_s_string (by decide)
@[simp] theorem d_impl_Server_1 {w : World} {K : Value → Prop} (a : Addr) : fda P 48 (.pointer (some a)) 1 w K = K (.pointer (some (a.add 1))) := fda_off (s := 1) u_impl_Server rfl i_s_impl_Program (by decide)
@[simp] theorem d_impl_Server_2 {w : World} {K : Value → Prop} (a : Addr) : fda P 48 (.pointer (some a)) 2 w K = K (.pointer (some (a.add 2))) := fda_off (s := 1) u_impl_Server rfl i_s_impl_Kept (by decide)
@[simp] theorem l_s_float32 {w : World} {K : Value → Prop} {ty : TypeId} (a : Option Addr) (n c : Nat) : bl0 P .len #[52] ty [.slice a n c] w K = K (.int .i64 n) := bl0_len u_s_float32
@[simp] theorem l_s_int64 {w : World} {K : Value → Prop} {ty : TypeId} (a : Option Addr) (n c : Nat) : bl0 P .len #[53] ty [.slice a n c] w K = K (.int .i64 n) := bl0_len u_s_int64
@[simp] theorem d_impl_Whole_0 {w : World} {K : Value → Prop} (a : Addr) : fda P 55 (.pointer (some a)) 0 w K = K (.pointer (some (a.add 0))) := fda_off (s := 1) u_impl_Whole rfl i_int64 (by decide)
@[simp] theorem d_impl_Whole_1 {w : World} {K : Value → Prop} (a : Addr) : fda P 55 (.pointer (some a)) 1 w K = K (.pointer (some (a.add 1))) := fda_off (s := 1) u_impl_Whole rfl i_s_int64 (by decide)
@[simp] theorem d_impl_Dyadic_0 {w : World} {K : Value → Prop} (a : Addr) : fda P 57 (.pointer (some a)) 0 w K = K (.pointer (some (a.add 0))) := fda_off (s := 2) u_impl_Dyadic rfl i_impl_Whole (by decide)
@[simp] theorem d_impl_Dyadic_1 {w : World} {K : Value → Prop} (a : Addr) : fda P 57 (.pointer (some a)) 1 w K = K (.pointer (some (a.add 2))) := fda_off (s := 1) u_impl_Dyadic rfl i_int64 (by decide)
@[simp] theorem d_impl_Pair_0 {w : World} {K : Value → Prop} (a : Addr) : fda P 68 (.pointer (some a)) 0 w K = K (.pointer (some (a.add 0))) := fda_off (s := 1) u_impl_Pair rfl i_float32 (by decide)
@[simp] theorem d_impl_Pair_1 {w : World} {K : Value → Prop} (a : Addr) : fda P 68 (.pointer (some a)) 1 w K = K (.pointer (some (a.add 1))) := fda_off (s := 1) u_impl_Pair rfl i_float32 (by decide)
@[simp] theorem l_s_uint8 {w : World} {K : Value → Prop} {ty : TypeId} (a : Option Addr) (n c : Nat) : bl0 P .len #[72] ty [.slice a n c] w K = K (.int .i64 n) := bl0_len u_s_uint8
@[simp] theorem d_impl_Kept_0 {w : World} {K : Value → Prop} (a : Addr) : fda P 96 (.pointer (some a)) 0 w K = K (.pointer (some (a.add 0))) := fda_off (s := 1) u_impl_Kept rfl i_string (by decide)
@[simp] theorem d_impl_Kept_1 {w : World} {K : Value → Prop} (a : Addr) : fda P 96 (.pointer (some a)) 1 w K = K (.pointer (some (a.add 1))) := fda_off (s := 1) u_impl_Kept rfl i_string (by decide)
@[simp] theorem l_s_impl_num {w : World} {K : Value → Prop} {ty : TypeId} (a : Option Addr) (n c : Nat) : bl0 P .len #[102] ty [.slice a n c] w K = K (.int .i64 n) := bl0_len u_s_impl_num
@[simp] theorem d_impl_num_0 {w : World} {K : Value → Prop} (a : Addr) : fda P 105 (.pointer (some a)) 0 w K = K (.pointer (some (a.add 0))) := fda_off (s := 1) u_impl_num rfl i_p_impl_integer (by decide)
@[simp] theorem d_impl_num_1 {w : World} {K : Value → Prop} (a : Addr) : fda P 105 (.pointer (some a)) 1 w K = K (.pointer (some (a.add 1))) := fda_off (s := 1) u_impl_num rfl i_int (by decide)
@[simp] theorem l_s_impl_Pair {w : World} {K : Value → Prop} {ty : TypeId} (a : Option Addr) (n c : Nat) : bl0 P .len #[119] ty [.slice a n c] w K = K (.int .i64 n) := bl0_len u_s_impl_Pair
@[simp] theorem d_laws_Kept_0 {w : World} {K : Value → Prop} (a : Addr) : fda P 138 (.pointer (some a)) 0 w K = K (.pointer (some (a.add 0))) := fda_off (s := 1) u_laws_Kept rfl i_string (by decide)
@[simp] theorem d_laws_Kept_1 {w : World} {K : Value → Prop} (a : Addr) : fda P 138 (.pointer (some a)) 1 w K = K (.pointer (some (a.add 1))) := fda_off (s := 1) u_laws_Kept rfl i_string (by decide)
@[simp] theorem l_s_impl_Dyadic {w : World} {K : Value → Prop} {ty : TypeId} (a : Option Addr) (n c : Nat) : bl0 P .len #[145] ty [.slice a n c] w K = K (.int .i64 n) := bl0_len u_s_impl_Dyadic
@[simp] theorem l_s_uint32 {w : World} {K : Value → Prop} {ty : TypeId} (a : Option Addr) (n c : Nat) : bl0 P .len #[156] ty [.slice a n c] w K = K (.int .i64 n) := bl0_len u_s_uint32
@[simp] theorem d_impl_integer_0 {w : World} {K : Value → Prop} (a : Addr) : fda P 158 (.pointer (some a)) 0 w K = K (.pointer (some (a.add 0))) := fda_off (s := 1) u_impl_integer rfl i_bool (by decide)
@[simp] theorem d_impl_integer_1 {w : World} {K : Value → Prop} (a : Addr) : fda P 158 (.pointer (some a)) 1 w K = K (.pointer (some (a.add 1))) := fda_off (s := 1) u_impl_integer rfl i_s_uint32 (by decide)
@[simp] theorem d_spec_l01Source_0 {w : World} {K : Value → Prop} (a : Addr) : fda P 180 (.pointer (some a)) 0 w K = K (.pointer (some (a.add 0))) := fda_off (s := 1) u_spec_l01Source rfl i_s_uint8 (by decide)
@[simp] theorem d_spec_l01Source_1 {w : World} {K : Value → Prop} (a : Addr) : fda P 180 (.pointer (some a)) 1 w K = K (.pointer (some (a.add 1))) := fda_off (s := 1) u_spec_l01Source rfl i_int (by decide)
@[simp] theorem d_spec_l01Source_2 {w : World} {K : Value → Prop} (a : Addr) : fda P 180 (.pointer (some a)) 2 w K = K (.pointer (some (a.add 2))) := fda_off (s := 1) u_spec_l01Source rfl i_uint64 (by decide)
@[simp] theorem d_errors_errorString_0 {w : World} {K : Value → Prop} (a : Addr) : fda P 306 (.pointer (some a)) 0 w K = K (.pointer (some (a.add 0))) := fda_off (s := 1) u_errors_errorString rfl i_string (by decide)
end Go.Proofs.YtjompmflommadaaGreatDoor

/- Written by a program (gen.py): what is left to show of each function's call. -/
set_option linter.unusedVariables false
set_option maxRecDepth 20000
namespace Go.Proofs.YtjompmflommadaaGreatDoor
open Go Go.Vc

/-- impl.isFinite -/
def D_impl_isFinite (a0 : Value) (w : World) (K : Value → World → Prop) : Prop :=
  call P f_math_Float32bits [a0] w fun x4_1 w2 =>
  bin P .shr 202 false true x4_1 (.int .u64 23) w2 fun x5_3 =>
  bin P .and 202 false true x5_3 (.int .u32 255) w2 fun x6_4 =>
  bin P .neq 202 false true x6_4 (.int .u32 255) w2 fun x7_5 =>
  K x7_5 w2
def P_impl_isFinite : Plan := (.seq (.reg [.op (0, 0, false)]) (.seq (.reg [.op (0, 0, false), .op (1, 2, false), .op (2, 0, false), .op (3, 0, false), .op (4, 0, false), .op (5, 0, false)]) .leaf))
theorem I_impl_isFinite {a0 : Value} {w : World} {K : Value → World → Prop} (h : D_impl_isFinite a0 w K) : call P f_impl_isFinite [a0] w K :=
  call_of_vc mixed Tryz.func122 (c := codeOf Tryz.f122) (by kernel_rfl) (by kernel_rfl) (p := P_impl_isFinite) (by kernel_rfl) (by rw [Tryz.ntmps122]; simp) (by
    have e : D_impl_isFinite a0 w K = vc P P_impl_isFinite (codeOf Tryz.f122) (env0 [a0]) w (retX P Tryz.f122.results.toList K) := by kernel_rfl
    exact e ▸ h)

/-- impl.parts -/
def D_impl_parts (a0 : Value) (w : World) (K : Value → World → Prop) : Prop :=
  call P f_math_Float32bits [a0] w fun x8_1 w2 =>
  bin P .shr 202 false true x8_1 (.int .u64 23) w2 fun x10_3 =>
  bin P .and 202 false true x10_3 (.int .u32 255) w2 fun x11_4 =>
  cnv P 202 2 x11_4 w2 fun x12_5 =>
  bin P .and 202 false true x8_1 (.int .u32 8388607) w2 fun x14_6 =>
  cnv P 202 2 x14_6 w2 fun x15_7 =>
  ∃ J8 : Value → Value → World → Prop, (∀ (x5_11 : Value) (x6_12 : Value) (junk9 : Env) (w10 : World), J8 x5_11 x6_12 w10 →
  bin P .shr 202 false true x8_1 (.int .u64 31) w10 fun x21_13 =>
  bin P .neq 202 false true x21_13 (.int .u32 0) w10 fun x22_14 =>
  cnd x22_14
  (una P .neg x6_12 w10 fun x24_15 =>
  bin P .sub 2 false true x5_11 (.int .i64 150) w10 fun x27_16 =>
  K (.tuple #[x24_15, x27_16]) w10)
  (bin P .sub 2 false true x5_11 (.int .i64 150) w10 fun x27_17 =>
  K (.tuple #[x6_12, x27_17]) w10)) ∧
  (bin P .gtr 2 false true x12_5 (.int .i64 0) w2 fun x17_18 =>
  cnd x17_18
  (bin P .add 2 false true x15_7 (.int .i64 8388608) w2 fun x19_19 =>
  J8 x12_5 x19_19 w2)
  (J8 (.int .i64 1) x15_7 w2))
def P_impl_parts : Plan := (.seq (.reg [.op (0, 0, false), .op (1, 0, false)]) (.seq (.reg [.op (0, 0, false), .op (1, 2, false), .op (2, 0, false)]) (.seq (.reg [.op (0, 0, false), .op (1, 0, false), .op (2, 0, false), .op (3, 0, false), .op (4, 0, false), .op (5, 0, false), .op (6, 0, false), .op (7, 0, false), .op (8, 0, false)]) (.cut [5, 6] 983136 (.seq (.reg [.op (0, 0, false), .op (1, 0, false)]) (.cond (.reg [.op (0, 0, false), .op (1, 0, false), .op (2, 0, false)]) (.reg [.op (0, 0, false)]))) (.seq (.seq (.reg [.op (0, 0, false), .op (1, 0, false), .op (2, 0, false)]) (.cond (.reg [.op (0, 0, false), .op (1, 0, false), .op (2, 0, false)]) .leaf)) (.seq (.reg [.op (0, 0, false), .op (1, 0, false), .op (2, 0, false), .op (3, 0, false), .op (4, 0, false)]) .leaf))))))
theorem I_impl_parts {a0 : Value} {w : World} {K : Value → World → Prop} (h : D_impl_parts a0 w K) : call P f_impl_parts [a0] w K :=
  call_of_vc mixed Tryz.func123 (c := codeOf Tryz.f123) (by kernel_rfl) (by kernel_rfl) (p := P_impl_parts) (by kernel_rfl) (by rw [Tryz.ntmps123]; simp) (by
    have e : D_impl_parts a0 w K = vc P P_impl_parts (codeOf Tryz.f123) (env0 [a0]) w (retX P Tryz.f123.results.toList K) := by kernel_rfl
    exact e ▸ h)

/-- impl.atPlace -/
def D_impl_atPlace (a0 : Value) (w : World) (K : Value → World → Prop) : Prop :=
  bin P .lss 2 false true a0 (.int .i64 0) w fun x4_1 =>
  cnd x4_1
  (una P .neg a0 w fun x6_2 =>
  cnv P 2 202 x6_2 w fun x7_3 =>
  bin P .or 202 false true x7_3 (.int .u32 2147483648) w fun x8_4 =>
  call P f_math_Float32frombits [x8_4] w fun x9_5 w6 =>
  K x9_5 w6)
  (cnv P 2 202 a0 w fun x11_7 =>
  call P f_math_Float32frombits [x11_7] w fun x12_8 w9 =>
  K x12_8 w9)
def P_impl_atPlace : Plan := (.seq (.reg [.op (0, 0, false)]) (.seq (.seq (.reg [.op (0, 0, false), .op (1, 0, false)]) (.cond (.seq (.reg [.op (0, 0, false), .op (1, 0, false), .op (2, 0, false), .op (3, 0, false), .op (4, 2, false), .op (5, 0, false)]) .leaf) .leaf)) (.seq (.reg [.op (0, 0, false), .op (1, 0, false), .op (2, 2, false), .op (3, 0, false)]) .leaf)))
theorem I_impl_atPlace {a0 : Value} {w : World} {K : Value → World → Prop} (h : D_impl_atPlace a0 w K) : call P f_impl_atPlace [a0] w K :=
  call_of_vc mixed Tryz.func263 (c := codeOf Tryz.f263) (by kernel_rfl) (by kernel_rfl) (p := P_impl_atPlace) (by kernel_rfl) (by rw [Tryz.ntmps263]; simp) (by
    have e : D_impl_atPlace a0 w K = vc P P_impl_atPlace (codeOf Tryz.f263) (env0 [a0]) w (retX P Tryz.f263.results.toList K) := by kernel_rfl
    exact e ▸ h)

/-- impl.infinite -/
def D_impl_infinite (a0 : Value) (w : World) (K : Value → World → Prop) : Prop :=
  call P f_math_Inf [a0] w fun x4_1 w2 =>
  rcnv P 117 66 x4_1 w2 fun x5_3 =>
  K x5_3 w2
def P_impl_infinite : Plan := (.seq (.reg [.op (0, 0, false)]) (.seq (.reg [.op (0, 0, false), .op (1, 2, false), .op (2, 1, false), .op (3, 0, false)]) .leaf))
theorem I_impl_infinite {a0 : Value} {w : World} {K : Value → World → Prop} (h : D_impl_infinite a0 w K) : call P f_impl_infinite [a0] w K :=
  call_of_vc mixed Tryz.func264 (c := codeOf Tryz.f264) (by kernel_rfl) (by kernel_rfl) (p := P_impl_infinite) (by kernel_rfl) (by rw [Tryz.ntmps264]; simp) (by
    have e : D_impl_infinite a0 w K = vc P P_impl_infinite (codeOf Tryz.f264) (env0 [a0]) w (retX P Tryz.f264.results.toList K) := by kernel_rfl
    exact e ▸ h)

end Go.Proofs.YtjompmflommadaaGreatDoor

/- Written by a program (gen.py): what is left to show of each function's call. -/
set_option linter.unusedVariables false
set_option maxRecDepth 20000
namespace Go.Proofs.YtjompmflommadaaGreatDoor
open Go Go.Vc

/-- impl.areFinite -/
def D_impl_areFinite (a0 : Value) (w : World) (K : Value → World → Prop) : Prop :=
  bl0 P .len #[52] 3 [a0] w fun x6_1 =>
  ∃ I2 : Nat → Value → World → Prop, (∃ m15, I2 m15 (.int .i64 0) w) ∧ ∀ (m5 : Nat) (x7_6 : Value) (junk3 : Env) (w4 : World), I2 m5 x7_6 w4 →
  bin P .lss 3 false false x7_6 x6_1 w4 fun x8_7 =>
  cnd x8_7
  (ixa P 52 a0 x7_6 w4 fun x9_8 =>
  ld P 66 x9_8 w4 fun x10_9 =>
  call P f_impl_isFinite [x10_9] w4 fun x12_10 w11 =>
  una P .not x12_10 w11 fun x13_12 =>
  cnd x13_12
  (K (.bool false) w11)
  (bin P .add 3 false true x7_6 (.int .i64 1) w11 fun x14_13 =>
  ∃ m14, m14 < m5 ∧ I2 m14 x14_13 w11))
  (K (.bool true) w4)
def P_impl_areFinite : Plan := (.seq (.reg [.op (0, 0, false)]) (.seq (.seq (.reg [.op (0, 0, false), .op (1, 0, false), .op (2, 0, false)]) (.blk (.loop [7] 32660 (.seq (.reg [.op (0, 0, false)]) (.seq (.cond .leaf .leaf) (.seq (.blk (.seq (.reg [.op (0, 0, false), .op (1, 0, false), .op (2, 0, false)]) (.seq (.reg [.op (0, 0, false), .op (1, 2, false), .op (2, 0, false)]) (.cond (.seq (.reg [.op (0, 0, false)]) .leaf) .leaf)))) (.reg [.op (0, 0, false), .op (1, 0, false)]))))))) (.seq (.reg [.op (0, 0, false)]) .leaf)))
theorem I_impl_areFinite {a0 : Value} {w : World} {K : Value → World → Prop} (h : D_impl_areFinite a0 w K) : call P f_impl_areFinite [a0] w K :=
  call_of_vc mixed Tryz.func77 (c := codeOf Tryz.f77) (by kernel_rfl) (by kernel_rfl) (p := P_impl_areFinite) (by kernel_rfl) (by rw [Tryz.ntmps77]; simp) (by
    have e : D_impl_areFinite a0 w K = vc P P_impl_areFinite (codeOf Tryz.f77) (env0 [a0]) w (retX P Tryz.f77.results.toList K) := by kernel_rfl
    exact e ▸ h)

end Go.Proofs.YtjompmflommadaaGreatDoor

/- Written by a program (gen.py): what is left to show of each function's call. -/
set_option linter.unusedVariables false
set_option maxRecDepth 20000
namespace Go.Proofs.YtjompmflommadaaGreatDoor
open Go Go.Vc

/-- spec.l01Finite -/
def D_spec_l01Finite (a0 : Value) (w : World) (K : Value → World → Prop) : Prop :=
  rbin P .sub 66 false false a0 a0 w fun x5_1 =>
  bin P .eql 66 false true x5_1 (.float .f32 0) w fun x6_2 =>
  K x6_2 w
def P_spec_l01Finite : Plan := (.seq (.reg [.op (0, 0, false)]) (.seq (.reg [.op (0, 0, false), .op (1, 0, false), .op (2, 1, false), .op (3, 0, false), .op (4, 0, false)]) .leaf))
theorem I_spec_l01Finite {a0 : Value} {w : World} {K : Value → World → Prop} (h : D_spec_l01Finite a0 w K) : call P f_spec_l01Finite [a0] w K :=
  call_of_vc mixed Tryz.func116 (c := codeOf Tryz.f116) (by kernel_rfl) (by kernel_rfl) (p := P_spec_l01Finite) (by kernel_rfl) (by rw [Tryz.ntmps116]; simp) (by
    have e : D_spec_l01Finite a0 w K = vc P P_spec_l01Finite (codeOf Tryz.f116) (env0 [a0]) w (retX P Tryz.f116.results.toList K) := by kernel_rfl
    exact e ▸ h)

/-- spec.l01In -/
def D_spec_l01In (a0 a1 a2 : Value) (w : World) (K : Value → World → Prop) : Prop :=
  bin P .geq 2 false false a0 a1 w fun x9_1 =>
  ∃ J2 : Value → World → Prop, (∀ (x13_3 : Value) (junk5 : Env) (w4 : World), J2 x13_3 w4 →
  pick x9_1 x13_3 (.bool false) fun x14_6 =>
  K x14_6 w4) ∧
  grd x9_1 true
  (bin P .leq 2 false false a0 a2 w fun x13_7 =>
  J2 x13_7 w)
  (J2 undef w)
def P_spec_l01In : Plan := (.seq (.reg [.op (0, 0, false)]) (.seq (.reg [.op (0, 0, false), .op (1, 0, false), .op (2, 0, false), .op (3, 0, false), .grp 3 true [(4, 0, false), (5, 0, false), (6, 0, false)] [13] 14336, .op (7, 0, false), .op (8, 0, false)]) .leaf))
theorem I_spec_l01In {a0 a1 a2 : Value} {w : World} {K : Value → World → Prop} (h : D_spec_l01In a0 a1 a2 w K) : call P f_spec_l01In [a0, a1, a2] w K :=
  call_of_vc mixed Tryz.func117 (c := codeOf Tryz.f117) (by kernel_rfl) (by kernel_rfl) (p := P_spec_l01In) (by kernel_rfl) (by rw [Tryz.ntmps117]; simp) (by
    have e : D_spec_l01In a0 a1 a2 w K = vc P P_spec_l01In (codeOf Tryz.f117) (env0 [a0, a1, a2]) w (retX P Tryz.f117.results.toList K) := by kernel_rfl
    exact e ▸ h)

/-- spec.l01Parts -/
def D_spec_l01Parts (a0 : Value) (w : World) (K : Value → World → Prop) : Prop :=
  call P f_spec_l01Abs [a0] w fun x7_1 w2 =>
  rcnv P 66 117 x7_1 w2 fun x8_3 =>
  call P f_spec_l01Twos [x8_3, (.int .i64 149)] w2 fun x9_4 w5 =>
  ∃ I6 : Nat → Value → Value → World → Prop, (∃ m17, I6 m17 (.int .i64 (-149)) x9_4 w5) ∧ ∀ (m9 : Nat) (x4_10 : Value) (x5_11 : Value) (junk7 : Env) (w8 : World), I6 m9 x4_10 x5_11 w8 →
  bin P .geq 117 false true x5_11 (.float .f64 4715268809856909312) w8 fun x11_12 =>
  cnd x11_12
  (rbin P .quo 117 false true x5_11 (.float .f64 4611686018427387904) w8 fun x13_13 =>
  bin P .add 2 false true x4_10 (.int .i64 1) w8 fun x15_14 =>
  ∃ m15, m15 < m9 ∧ I6 m15 x15_14 x13_13 w8)
  (rcnv P 117 2 x5_11 w8 fun x17_16 =>
  K (.tuple #[x17_16, x4_10]) w8)
def P_spec_l01Parts : Plan := (.seq (.reg [.op (0, 0, false), .op (1, 0, false)]) (.seq (.reg [.op (0, 0, false), .op (1, 2, false), .op (2, 1, false), .op (3, 2, false), .op (4, 0, false), .op (5, 0, false)]) (.seq (.blk (.loop [4, 5] 64560 (.seq (.seq (.reg [.op (0, 0, false), .op (1, 0, false)]) (.cond .leaf .leaf)) (.blk (.seq (.reg [.op (0, 0, false), .op (1, 1, false), .op (2, 0, false)]) (.reg [.op (0, 0, false), .op (1, 0, false), .op (2, 0, false)])))))) (.seq (.reg [.op (0, 0, false), .op (1, 1, false), .op (2, 0, false), .op (3, 0, false), .op (4, 0, false)]) .leaf))))
theorem I_spec_l01Parts {a0 : Value} {w : World} {K : Value → World → Prop} (h : D_spec_l01Parts a0 w K) : call P f_spec_l01Parts [a0] w K :=
  call_of_vc mixed Tryz.func163 (c := codeOf Tryz.f163) (by kernel_rfl) (by kernel_rfl) (p := P_spec_l01Parts) (by kernel_rfl) (by rw [Tryz.ntmps163]; simp) (by
    have e : D_spec_l01Parts a0 w K = vc P P_spec_l01Parts (codeOf Tryz.f163) (env0 [a0]) w (retX P Tryz.f163.results.toList K) := by kernel_rfl
    exact e ▸ h)

/-- spec.l01Turned -/
def D_spec_l01Turned (a0 : Value) (w : World) (K : Value → World → Prop) : Prop :=
  rbin P .mul 66 false true a0 (.float .f32 3212836864) w fun x4_1 =>
  K x4_1 w
def P_spec_l01Turned : Plan := (.seq (.reg [.op (0, 0, false)]) (.seq (.reg [.op (0, 0, false), .op (1, 1, false), .op (2, 0, false)]) .leaf))
theorem I_spec_l01Turned {a0 : Value} {w : World} {K : Value → World → Prop} (h : D_spec_l01Turned a0 w K) : call P f_spec_l01Turned [a0] w K :=
  call_of_vc mixed Tryz.func193 (c := codeOf Tryz.f193) (by kernel_rfl) (by kernel_rfl) (p := P_spec_l01Turned) (by kernel_rfl) (by rw [Tryz.ntmps193]; simp) (by
    have e : D_spec_l01Turned a0 w K = vc P P_spec_l01Turned (codeOf Tryz.f193) (env0 [a0]) w (retX P Tryz.f193.results.toList K) := by kernel_rfl
    exact e ▸ h)

/-- spec.l01Twos -/
def D_spec_l01Twos (a0 a1 : Value) (w : World) (K : Value → World → Prop) : Prop :=
  ∃ I1 : Nat → Value → Value → World → Prop, (∃ m22, I1 m22 a0 a1 w) ∧ ∀ (m4 : Nat) (x0_5 : Value) (x1_6 : Value) (junk2 : Env) (w3 : World), I1 m4 x0_5 x1_6 w3 →
  bin P .gtr 2 false true x1_6 (.int .i64 0) w3 fun x6_7 =>
  cnd x6_7
  (rbin P .mul 117 false true x0_5 (.float .f64 4611686018427387904) w3 fun x10_8 =>
  bin P .sub 2 false true x1_6 (.int .i64 1) w3 fun x8_9 =>
  ∃ m10, m10 < m4 ∧ I1 m10 x10_8 x8_9 w3)
  (∃ I11 : Nat → Value → Value → World → Prop, (∃ m21, I11 m21 x0_5 x1_6 w3) ∧ ∀ (m14 : Nat) (x0_15 : Value) (x1_16 : Value) (junk12 : Env) (w13 : World), I11 m14 x0_15 x1_16 w13 →
  bin P .lss 2 false true x1_16 (.int .i64 0) w13 fun x12_17 =>
  cnd x12_17
  (rbin P .quo 117 false true x0_15 (.float .f64 4611686018427387904) w13 fun x16_18 =>
  bin P .add 2 false true x1_16 (.int .i64 1) w13 fun x14_19 =>
  ∃ m20, m20 < m14 ∧ I11 m20 x16_18 x14_19 w13)
  (K x0_15 w13))
def P_spec_l01Twos : Plan := (.seq (.reg [.op (0, 0, false)]) (.seq (.blk (.loop [0, 1] 2019 (.seq (.seq (.reg [.op (0, 0, false), .op (1, 0, false)]) (.cond .leaf .leaf)) (.seq (.blk (.reg [.op (0, 0, false), .op (1, 1, false), .op (2, 0, false)])) (.reg [.op (0, 0, false), .op (1, 0, false), .op (2, 0, false)]))))) (.seq (.blk (.loop [0, 1] 129027 (.seq (.seq (.reg [.op (0, 0, false), .op (1, 0, false)]) (.cond .leaf .leaf)) (.seq (.blk (.reg [.op (0, 0, false), .op (1, 1, false), .op (2, 0, false)])) (.reg [.op (0, 0, false), .op (1, 0, false), .op (2, 0, false)]))))) (.seq (.reg [.op (0, 0, false), .op (1, 0, false)]) .leaf))))
theorem I_spec_l01Twos {a0 a1 : Value} {w : World} {K : Value → World → Prop} (h : D_spec_l01Twos a0 a1 w K) : call P f_spec_l01Twos [a0, a1] w K :=
  call_of_vc mixed Tryz.func212 (c := codeOf Tryz.f212) (by kernel_rfl) (by kernel_rfl) (p := P_spec_l01Twos) (by kernel_rfl) (by rw [Tryz.ntmps212]; simp) (by
    have e : D_spec_l01Twos a0 a1 w K = vc P P_spec_l01Twos (codeOf Tryz.f212) (env0 [a0, a1]) w (retX P Tryz.f212.results.toList K) := by kernel_rfl
    exact e ▸ h)

/-- spec.l01Abs -/
def D_spec_l01Abs (a0 : Value) (w : World) (K : Value → World → Prop) : Prop :=
  bin P .lss 66 false true a0 (.float .f32 0) w fun x4_1 =>
  cnd x4_1
  (una P .neg a0 w fun x6_2 =>
  K x6_2 w)
  (bin P .eql 66 false true a0 (.float .f32 0) w fun x8_3 =>
  cnd x8_3
  (K (.float .f32 0) w)
  (K a0 w))
def P_spec_l01Abs : Plan := (.seq (.reg [.op (0, 0, false)]) (.seq (.seq (.reg [.op (0, 0, false), .op (1, 0, false)]) (.cond (.seq (.reg [.op (0, 0, false), .op (1, 0, false), .op (2, 0, false)]) .leaf) .leaf)) (.seq (.seq (.reg [.op (0, 0, false), .op (1, 0, false)]) (.cond (.seq (.reg [.op (0, 0, false)]) .leaf) .leaf)) (.seq (.reg [.op (0, 0, false), .op (1, 0, false)]) .leaf))))
theorem I_spec_l01Abs {a0 : Value} {w : World} {K : Value → World → Prop} (h : D_spec_l01Abs a0 w K) : call P f_spec_l01Abs [a0] w K :=
  call_of_vc mixed Tryz.func213 (c := codeOf Tryz.f213) (by kernel_rfl) (by kernel_rfl) (p := P_spec_l01Abs) (by kernel_rfl) (by rw [Tryz.ntmps213]; simp) (by
    have e : D_spec_l01Abs a0 w K = vc P P_spec_l01Abs (codeOf Tryz.f213) (env0 [a0]) w (retX P Tryz.f213.results.toList K) := by kernel_rfl
    exact e ▸ h)

/-- spec.l01At -/
def D_spec_l01At (a0 : Value) (w : World) (K : Value → World → Prop) : Prop :=
  bin P .lss 2 false true a0 (.int .i64 0) w fun x6_1 =>
  cnd x6_1
  (una P .neg a0 w fun x8_2 =>
  call P f_spec_l01At [x8_2] w fun x9_3 w4 =>
  una P .neg x9_3 w4 fun x10_5 =>
  K x10_5 w4)
  (bin P .shr 2 false true a0 (.int .u64 23) w fun x12_6 =>
  bin P .and 2 false true a0 (.int .i64 8388607) w fun x14_7 =>
  bin P .eql 2 false true x12_6 (.int .i64 255) w fun x17_8 =>
  cnd x17_8
  (call P f_spec_l01Huge [] w fun x18_9 w10 =>
  K x18_9 w10)
  (bin P .eql 2 false true x12_6 (.int .i64 0) w fun x21_11 =>
  cnd x21_11
  (cnv P 2 117 x14_7 w fun x23_12 =>
  call P f_spec_l01Twos [x23_12, (.int .i64 (-149))] w fun x24_13 w14 =>
  rcnv P 117 66 x24_13 w14 fun x25_15 =>
  K x25_15 w14)
  (bin P .add 2 false true x14_7 (.int .i64 8388608) w fun x27_16 =>
  cnv P 2 117 x27_16 w fun x28_17 =>
  bin P .sub 2 false true x12_6 (.int .i64 150) w fun x30_18 =>
  call P f_spec_l01Twos [x28_17, x30_18] w fun x31_19 w20 =>
  rcnv P 117 66 x31_19 w20 fun x32_21 =>
  K x32_21 w20)))
def P_spec_l01At : Plan := (.seq (.reg [.op (0, 0, false)]) (.seq (.seq (.reg [.op (0, 0, false), .op (1, 0, false)]) (.cond (.seq (.reg [.op (0, 0, false), .op (1, 0, false), .op (2, 2, false), .op (3, 0, false), .op (4, 0, false)]) .leaf) .leaf)) (.seq (.reg [.op (0, 0, false), .op (1, 0, false), .op (2, 0, false), .op (3, 0, false), .op (4, 0, false), .op (5, 0, false)]) (.seq (.blk (.seq (.reg [.op (0, 0, false), .op (1, 0, false), .op (2, 0, false)]) (.cond (.seq (.reg [.op (0, 2, false), .op (1, 0, false)]) .leaf) (.seq (.reg [.op (0, 0, false), .op (1, 0, false), .op (2, 0, false)]) (.cond (.seq (.reg [.op (0, 0, false), .op (1, 0, false), .op (2, 2, false), .op (3, 1, false), .op (4, 0, false)]) .leaf) .leaf))))) (.seq (.reg [.op (0, 0, false), .op (1, 0, false), .op (2, 0, false), .op (3, 0, false), .op (4, 0, false), .op (5, 2, false), .op (6, 1, false), .op (7, 0, false)]) .leaf)))))
theorem I_spec_l01At {a0 : Value} {w : World} {K : Value → World → Prop} (h : D_spec_l01At a0 w K) : call P f_spec_l01At [a0] w K :=
  call_of_vc mixed Tryz.func242 (c := codeOf Tryz.f242) (by kernel_rfl) (by kernel_rfl) (p := P_spec_l01At) (by kernel_rfl) (by rw [Tryz.ntmps242]; simp) (by
    have e : D_spec_l01At a0 w K = vc P P_spec_l01At (codeOf Tryz.f242) (env0 [a0]) w (retX P Tryz.f242.results.toList K) := by kernel_rfl
    exact e ▸ h)

/-- spec.l01Own -/
def D_spec_l01Own (a0 : Value) (w : World) (K : Value → World → Prop) : Prop :=
  bsl P 53 0 [] w fun x3_1 w2 =>
  bl2 P .append #[53, 53] 53 [x3_1, a0] w2 fun x5_3 w4 =>
  K x5_3 w4
def P_spec_l01Own : Plan := (.seq (.reg [.op (0, 0, false)]) (.seq (.reg [.op (0, 2, false), .op (1, 0, false), .op (2, 2, false), .op (3, 0, false)]) .leaf))
theorem I_spec_l01Own {a0 : Value} {w : World} {K : Value → World → Prop} (h : D_spec_l01Own a0 w K) : call P f_spec_l01Own [a0] w K :=
  call_of_vc mixed Tryz.func251 (c := codeOf Tryz.f251) (by kernel_rfl) (by kernel_rfl) (p := P_spec_l01Own) (by kernel_rfl) (by rw [Tryz.ntmps251]; simp) (by
    have e : D_spec_l01Own a0 w K = vc P P_spec_l01Own (codeOf Tryz.f251) (env0 [a0]) w (retX P Tryz.f251.results.toList K) := by kernel_rfl
    exact e ▸ h)

/-- spec.l01Huge -/
def D_spec_l01Huge (w : World) (K : Value → World → Prop) : Prop :=
  rbin P .mul 66 false true (.float .f32 2137108966) (.float .f32 1092616192) w fun x3_1 =>
  K x3_1 w
def P_spec_l01Huge : Plan := (.seq (.reg [.op (0, 0, false)]) (.seq (.reg [.op (0, 0, false)]) (.seq (.reg [.op (0, 0, false), .op (1, 1, false), .op (2, 0, false)]) .leaf)))
theorem I_spec_l01Huge {w : World} {K : Value → World → Prop} (h : D_spec_l01Huge  w K) : call P f_spec_l01Huge [] w K :=
  call_of_vc mixed Tryz.func270 (c := codeOf Tryz.f270) (by kernel_rfl) (by kernel_rfl) (p := P_spec_l01Huge) (by kernel_rfl) (by rw [Tryz.ntmps270]; simp) (by
    have e : D_spec_l01Huge  w K = vc P P_spec_l01Huge (codeOf Tryz.f270) (env0 []) w (retX P Tryz.f270.results.toList K) := by kernel_rfl
    exact e ▸ h)

end Go.Proofs.YtjompmflommadaaGreatDoor

/- Written by a program (gen.py): what is left to show of each function's call. -/
set_option linter.unusedVariables false
set_option maxRecDepth 20000
namespace Go.Proofs.YtjompmflommadaaGreatDoor
open Go Go.Vc

/-- laws.szProgram -/
def D_laws_szProgram (a0 a1 : Value) (w : World) (K : Value → World → Prop) : Prop :=
  bx P 24 a0 w fun x2_1 w2 =>
  fda P 24 x2_1 0 w2 fun x5_3 =>
  ld P 22 x5_3 w2 fun x6_4 =>
  call P f_laws_szStringS [x6_4, a1] w2 fun x8_5 w6 =>
  bin P .lss 3 false true x8_5 (.int .i64 0) w6 fun x10_7 =>
  cnd x10_7
  (K (.int .i64 (-1)) w6)
  (K x8_5 w6)
def P_laws_szProgram : Plan := (.seq (.reg [.op (0, 2, false), .op (1, 0, false)]) (.seq (.reg [.op (0, 0, false), .op (1, 0, false), .op (2, 0, false), .op (3, 2, false), .op (4, 0, false)]) (.seq (.seq (.reg [.op (0, 0, false), .op (1, 0, false)]) (.cond (.seq (.reg [.op (0, 0, false)]) .leaf) .leaf)) (.seq (.reg [.op (0, 0, false), .op (1, 0, false)]) .leaf))))
theorem I_laws_szProgram {a0 a1 : Value} {w : World} {K : Value → World → Prop} (h : D_laws_szProgram a0 a1 w K) : call P f_laws_szProgram [a0, a1] w K :=
  call_of_vc mixed Tryz.func12 (c := codeOf Tryz.f12) (by kernel_rfl) (by kernel_rfl) (p := P_laws_szProgram) (by kernel_rfl) (by rw [Tryz.ntmps12]; simp) (by
    have e : D_laws_szProgram a0 a1 w K = vc P P_laws_szProgram (codeOf Tryz.f12) (env0 [a0, a1]) w (retX P Tryz.f12.results.toList K) := by kernel_rfl
    exact e ▸ h)

/-- laws.toProgram -/
def D_laws_toProgram (a0 : Value) (w : World) (K : Value → World → Prop) : Prop :=
  bx P 24 a0 w fun x1_1 w2 =>
  alc P 27 w2 fun x2_3 w4 =>
  alc P 27 w4 fun x3_5 w6 =>
  fda P 24 x1_1 0 w6 fun x4_7 =>
  ld P 22 x4_7 w6 fun x5_8 =>
  call P f_laws_toStringS [x5_8] w6 fun x6_9 w10 =>
  fda P 27 x3_5 0 w10 fun x7_11 =>
  sto P 22 x7_11 x6_9 w10 fun w13 =>
  ld P 27 x3_5 w13 fun x8_14 =>
  sto P 27 x2_3 x8_14 w13 fun w16 =>
  ldc P 27 x2_3 w16 fun r17 =>
  K r17 w16
def P_laws_toProgram : Plan := (.seq (.reg [.op (0, 2, false), .op (1, 2, false)]) (.seq (.reg [.op (0, 2, false)]) (.seq (.reg [.op (0, 0, false), .op (1, 0, false), .op (2, 2, false), .op (3, 0, false), .op (4, 2, false)]) (.seq (.reg [.op (0, 0, false), .op (1, 2, false)]) .leaf))))
theorem I_laws_toProgram {a0 : Value} {w : World} {K : Value → World → Prop} (h : D_laws_toProgram a0 w K) : call P f_laws_toProgram [a0] w K :=
  call_of_vc mixed Tryz.func14 (c := codeOf Tryz.f14) (by kernel_rfl) (by kernel_rfl) (p := P_laws_toProgram) (by kernel_rfl) (by rw [Tryz.ntmps14]; simp) (by
    have e : D_laws_toProgram a0 w K = vc P P_laws_toProgram (codeOf Tryz.f14) (env0 [a0]) w (retX P Tryz.f14.results.toList K) := by kernel_rfl
    exact e ▸ h)

/-- laws.eqProgram -/
def D_laws_eqProgram (a0 a1 : Value) (w : World) (K : Value → World → Prop) : Prop :=
  bx P 27 a0 w fun x2_1 w2 =>
  bx P 27 a1 w2 fun x3_3 w4 =>
  fda P 27 x2_1 0 w4 fun x5_5 =>
  ld P 22 x5_5 w4 fun x6_6 =>
  fda P 27 x3_3 0 w4 fun x7_7 =>
  ld P 22 x7_7 w4 fun x8_8 =>
  call P f_laws_eqStringS [x6_6, x8_8] w4 fun x9_9 w10 =>
  una P .not x9_9 w10 fun x10_11 =>
  cnd x10_11
  (K (.bool false) w10)
  (K (.bool true) w10)
def P_laws_eqProgram : Plan := (.seq (.reg [.op (0, 2, false), .op (1, 2, false), .op (2, 0, false)]) (.seq (.seq (.reg [.op (0, 0, false), .op (1, 0, false), .op (2, 0, false), .op (3, 0, false), .op (4, 2, false), .op (5, 0, false)]) (.cond (.seq (.reg [.op (0, 0, false)]) .leaf) .leaf)) (.seq (.reg [.op (0, 0, false)]) .leaf)))
theorem I_laws_eqProgram {a0 a1 : Value} {w : World} {K : Value → World → Prop} (h : D_laws_eqProgram a0 a1 w K) : call P f_laws_eqProgram [a0, a1] w K :=
  call_of_vc mixed Tryz.func16 (c := codeOf Tryz.f16) (by kernel_rfl) (by kernel_rfl) (p := P_laws_eqProgram) (by kernel_rfl) (by rw [Tryz.ntmps16]; simp) (by
    have e : D_laws_eqProgram a0 a1 w K = vc P P_laws_eqProgram (codeOf Tryz.f16) (env0 [a0, a1]) w (retX P Tryz.f16.results.toList K) := by kernel_rfl
    exact e ▸ h)

/-- laws.markProgram -/
def D_laws_markProgram (a0 a1 : Value) (w : World) (K : Value → World → Prop) : Prop :=
  bx P 27 a0 w fun x2_1 w2 =>
  fda P 27 x2_1 0 w2 fun x5_3 =>
  ld P 22 x5_3 w2 fun x6_4 =>
  call P f_laws_markStringS [x6_4, a1] w2 fun x8_5 w6 =>
  K x8_5 w6
def P_laws_markProgram : Plan := (.seq (.reg [.op (0, 2, false), .op (1, 0, false)]) (.seq (.reg [.op (0, 0, false), .op (1, 0, false), .op (2, 0, false), .op (3, 2, false), .op (4, 0, false)]) (.seq (.reg [.op (0, 0, false), .op (1, 0, false)]) .leaf)))
theorem I_laws_markProgram {a0 a1 : Value} {w : World} {K : Value → World → Prop} (h : D_laws_markProgram a0 a1 w K) : call P f_laws_markProgram [a0, a1] w K :=
  call_of_vc mixed Tryz.func25 (c := codeOf Tryz.f25) (by kernel_rfl) (by kernel_rfl) (p := P_laws_markProgram) (by kernel_rfl) (by rw [Tryz.ntmps25]; simp) (by
    have e : D_laws_markProgram a0 a1 w K = vc P P_laws_markProgram (codeOf Tryz.f25) (env0 [a0, a1]) w (retX P Tryz.f25.results.toList K) := by kernel_rfl
    exact e ▸ h)

/-- laws.toFloat32S -/
def D_laws_toFloat32S (a0 : Value) (w : World) (K : Value → World → Prop) : Prop :=
  bl0 P .len #[52] 3 [a0] w fun x6_1 =>
  mks P 52 x6_1 x6_1 w fun x7_2 w3 =>
  ∃ I4 : Nat → Value → World → Prop, (∃ m18, I4 m18 (.int .i64 0) w3) ∧ ∀ (m7 : Nat) (x4_8 : Value) (junk5 : Env) (w6 : World), I4 m7 x4_8 w6 →
  bl0 P .len #[52] 3 [a0] w6 fun x10_9 =>
  bin P .lss 3 false false x4_8 x10_9 w6 fun x11_10 =>
  cnd x11_10
  (ixa P 52 a0 x4_8 w6 fun x18_11 =>
  ld P 66 x18_11 w6 fun x19_12 =>
  ixa P 52 x7_2 x4_8 w6 fun x20_13 =>
  sto P 66 x20_13 x19_12 w6 fun w15 =>
  bin P .add 3 false true x4_8 (.int .i64 1) w15 fun x13_16 =>
  ∃ m17, m17 < m7 ∧ I4 m17 x13_16 w15)
  (K x7_2 w6)
def P_laws_toFloat32S : Plan := (.seq (.reg [.op (0, 0, false)]) (.seq (.reg [.op (0, 0, false), .op (1, 0, false), .op (2, 2, false), .op (3, 0, false)]) (.seq (.seq (.reg [.op (0, 0, false)]) (.blk (.loop [4] 2096912 (.seq (.seq (.reg [.op (0, 0, false), .op (1, 0, false), .op (2, 0, false), .op (3, 0, false)]) (.cond .leaf .leaf)) (.seq (.blk (.reg [.op (0, 0, false), .op (1, 0, false), .op (2, 0, false), .op (3, 0, false), .op (4, 0, false), .op (5, 0, false), .op (6, 0, false), .op (7, 2, false)])) (.reg [.op (0, 0, false), .op (1, 0, false), .op (2, 0, false)])))))) (.seq (.reg [.op (0, 0, false), .op (1, 0, false)]) .leaf))))
theorem I_laws_toFloat32S {a0 : Value} {w : World} {K : Value → World → Prop} (h : D_laws_toFloat32S a0 w K) : call P f_laws_toFloat32S [a0] w K :=
  call_of_vc mixed Tryz.func33 (c := codeOf Tryz.f33) (by kernel_rfl) (by kernel_rfl) (p := P_laws_toFloat32S) (by kernel_rfl) (by rw [Tryz.ntmps33]; simp) (by
    have e : D_laws_toFloat32S a0 w K = vc P P_laws_toFloat32S (codeOf Tryz.f33) (env0 [a0]) w (retX P Tryz.f33.results.toList K) := by kernel_rfl
    exact e ▸ h)

/-- laws.eqDyadic -/
def D_laws_eqDyadic (a0 a1 : Value) (w : World) (K : Value → World → Prop) : Prop :=
  bx P 57 a0 w fun x2_1 w2 =>
  bx P 57 a1 w2 fun x3_3 w4 =>
  fda P 57 x2_1 0 w4 fun x5_5 =>
  ld P 55 x5_5 w4 fun x6_6 =>
  fda P 57 x3_3 0 w4 fun x7_7 =>
  ld P 55 x7_7 w4 fun x8_8 =>
  call P f_laws_eqWhole [x6_6, x8_8] w4 fun x9_9 w10 =>
  una P .not x9_9 w10 fun x10_11 =>
  cnd x10_11
  (K (.bool false) w10)
  (fda P 57 x2_1 1 w10 fun x11_12 =>
  ld P 2 x11_12 w10 fun x12_13 =>
  fda P 57 x3_3 1 w10 fun x13_14 =>
  ld P 2 x13_14 w10 fun x14_15 =>
  bin P .neq 2 false false x12_13 x14_15 w10 fun x15_16 =>
  cnd x15_16
  (K (.bool false) w10)
  (K (.bool true) w10))
def P_laws_eqDyadic : Plan := (.seq (.reg [.op (0, 2, false), .op (1, 2, false), .op (2, 0, false)]) (.seq (.seq (.reg [.op (0, 0, false), .op (1, 0, false), .op (2, 0, false), .op (3, 0, false), .op (4, 2, false), .op (5, 0, false)]) (.cond (.seq (.reg [.op (0, 0, false)]) .leaf) .leaf)) (.seq (.seq (.reg [.op (0, 0, false), .op (1, 0, false), .op (2, 0, false), .op (3, 0, false), .op (4, 0, false)]) (.cond (.seq (.reg [.op (0, 0, false)]) .leaf) .leaf)) (.seq (.reg [.op (0, 0, false)]) .leaf))))
theorem I_laws_eqDyadic {a0 a1 : Value} {w : World} {K : Value → World → Prop} (h : D_laws_eqDyadic a0 a1 w K) : call P f_laws_eqDyadic [a0, a1] w K :=
  call_of_vc mixed Tryz.func35 (c := codeOf Tryz.f35) (by kernel_rfl) (by kernel_rfl) (p := P_laws_eqDyadic) (by kernel_rfl) (by rw [Tryz.ntmps35]; simp) (by
    have e : D_laws_eqDyadic a0 a1 w K = vc P P_laws_eqDyadic (codeOf Tryz.f35) (env0 [a0, a1]) w (retX P Tryz.f35.results.toList K) := by kernel_rfl
    exact e ▸ h)

/-- laws.eqFloat32S -/
def D_laws_eqFloat32S (a0 a1 : Value) (w : World) (K : Value → World → Prop) : Prop :=
  bl0 P .len #[52] 3 [a0] w fun x7_1 =>
  bl0 P .len #[52] 3 [a1] w fun x9_2 =>
  bin P .neq 3 false false x7_1 x9_2 w fun x10_3 =>
  cnd x10_3
  (K (.bool false) w)
  (∃ I4 : Nat → Value → World → Prop, (∃ m22, I4 m22 (.int .i64 0) w) ∧ ∀ (m7 : Nat) (x5_8 : Value) (junk5 : Env) (w6 : World), I4 m7 x5_8 w6 →
  bl0 P .len #[52] 3 [a0] w6 fun x13_9 =>
  bin P .lss 3 false false x5_8 x13_9 w6 fun x14_10 =>
  cnd x14_10
  (ixa P 52 a0 x5_8 w6 fun x19_11 =>
  ld P 66 x19_11 w6 fun x20_12 =>
  ixa P 52 a1 x5_8 w6 fun x24_13 =>
  ld P 66 x24_13 w6 fun x25_14 =>
  rcnv P 66 117 x20_12 w6 fun x21_15 =>
  rcnv P 66 117 x25_14 w6 fun x26_16 =>
  call P f_laws_sameFloat [x21_15, x26_16] w6 fun x27_17 w18 =>
  una P .not x27_17 w18 fun x28_19 =>
  cnd x28_19
  (K (.bool false) w18)
  (bin P .add 3 false true x5_8 (.int .i64 1) w18 fun x16_20 =>
  ∃ m21, m21 < m7 ∧ I4 m21 x16_20 w18))
  (K (.bool true) w6))
def P_laws_eqFloat32S : Plan := (.seq (.reg [.op (0, 0, false)]) (.seq (.seq (.reg [.op (0, 0, false), .op (1, 0, false), .op (2, 0, false), .op (3, 0, false), .op (4, 0, false)]) (.cond (.seq (.reg [.op (0, 0, false)]) .leaf) .leaf)) (.seq (.seq (.reg [.op (0, 0, false)]) (.blk (.loop [5] 536868912 (.seq (.seq (.reg [.op (0, 0, false), .op (1, 0, false), .op (2, 0, false), .op (3, 0, false)]) (.cond .leaf .leaf)) (.seq (.blk (.seq (.reg [.op (0, 0, false), .op (1, 0, false), .op (2, 0, false), .op (3, 0, false), .op (5, 0, false), .op (6, 0, false), .op (7, 0, false), .op (8, 0, false), .op (4, 1, false), .op (9, 1, false), .op (10, 2, false), .op (11, 0, false)]) (.cond (.seq (.reg [.op (0, 0, false)]) .leaf) .leaf))) (.reg [.op (0, 0, false), .op (1, 0, false), .op (2, 0, false)])))))) (.seq (.reg [.op (0, 0, false)]) .leaf))))
theorem I_laws_eqFloat32S {a0 a1 : Value} {w : World} {K : Value → World → Prop} (h : D_laws_eqFloat32S a0 a1 w K) : call P f_laws_eqFloat32S [a0, a1] w K :=
  call_of_vc mixed Tryz.func36 (c := codeOf Tryz.f36) (by kernel_rfl) (by kernel_rfl) (p := P_laws_eqFloat32S) (by kernel_rfl) (by rw [Tryz.ntmps36]; simp) (by
    have e : D_laws_eqFloat32S a0 a1 w K = vc P P_laws_eqFloat32S (codeOf Tryz.f36) (env0 [a0, a1]) w (retX P Tryz.f36.results.toList K) := by kernel_rfl
    exact e ▸ h)

/-- laws.markFloat32S -/
def D_laws_markFloat32S (a0 a1 : Value) (w : World) (K : Value → World → Prop) : Prop :=
  ∃ I1 : Nat → Value → Value → World → Prop, (∃ m16, I1 m16 a1 (.int .i64 0) w) ∧ ∀ (m4 : Nat) (x1_5 : Value) (x5_6 : Value) (junk2 : Env) (w3 : World), I1 m4 x1_5 x5_6 w3 →
  bl0 P .len #[52] 3 [a0] w3 fun x8_7 =>
  bin P .lss 3 false false x5_6 x8_7 w3 fun x9_8 =>
  cnd x9_8
  (cnv P 3 66 x1_5 w3 fun x15_9 =>
  ixa P 52 a0 x5_6 w3 fun x16_10 =>
  sto P 66 x16_10 x15_9 w3 fun w12 =>
  bin P .add 3 false true x1_5 (.int .i64 1) w12 fun x18_13 =>
  bin P .add 3 false true x5_6 (.int .i64 1) w12 fun x11_14 =>
  ∃ m15, m15 < m4 ∧ I1 m15 x18_13 x11_14 w12)
  (K x1_5 w3)
def P_laws_markFloat32S : Plan := (.seq (.reg [.op (0, 0, false)]) (.seq (.seq (.reg [.op (0, 0, false)]) (.blk (.loop [1, 5] 524258 (.seq (.seq (.reg [.op (0, 0, false), .op (1, 0, false), .op (2, 0, false), .op (3, 0, false)]) (.cond .leaf .leaf)) (.seq (.blk (.seq (.reg [.op (0, 0, false), .op (1, 0, false), .op (2, 0, false), .op (3, 0, false), .op (4, 0, false), .op (5, 2, false)]) (.reg [.op (0, 0, false), .op (1, 0, false), .op (2, 0, false)]))) (.reg [.op (0, 0, false), .op (1, 0, false), .op (2, 0, false)])))))) (.seq (.reg [.op (0, 0, false), .op (1, 0, false)]) .leaf)))
theorem I_laws_markFloat32S {a0 a1 : Value} {w : World} {K : Value → World → Prop} (h : D_laws_markFloat32S a0 a1 w K) : call P f_laws_markFloat32S [a0, a1] w K :=
  call_of_vc mixed Tryz.func37 (c := codeOf Tryz.f37) (by kernel_rfl) (by kernel_rfl) (p := P_laws_markFloat32S) (by kernel_rfl) (by rw [Tryz.ntmps37]; simp) (by
    have e : D_laws_markFloat32S a0 a1 w K = vc P P_laws_markFloat32S (codeOf Tryz.f37) (env0 [a0, a1]) w (retX P Tryz.f37.results.toList K) := by kernel_rfl
    exact e ▸ h)

/-- laws.markDyadic -/
def D_laws_markDyadic (a0 a1 : Value) (w : World) (K : Value → World → Prop) : Prop :=
  bx P 57 a0 w fun x2_1 w2 =>
  fda P 57 x2_1 0 w2 fun x5_3 =>
  ld P 55 x5_3 w2 fun x6_4 =>
  call P f_laws_markWhole [x6_4, a1] w2 fun x8_5 w6 =>
  K x8_5 w6
def P_laws_markDyadic : Plan := (.seq (.reg [.op (0, 2, false), .op (1, 0, false)]) (.seq (.reg [.op (0, 0, false), .op (1, 0, false), .op (2, 0, false), .op (3, 2, false), .op (4, 0, false)]) (.seq (.reg [.op (0, 0, false), .op (1, 0, false)]) .leaf)))
theorem I_laws_markDyadic {a0 a1 : Value} {w : World} {K : Value → World → Prop} (h : D_laws_markDyadic a0 a1 w K) : call P f_laws_markDyadic [a0, a1] w K :=
  call_of_vc mixed Tryz.func38 (c := codeOf Tryz.f38) (by kernel_rfl) (by kernel_rfl) (p := P_laws_markDyadic) (by kernel_rfl) (by rw [Tryz.ntmps38]; simp) (by
    have e : D_laws_markDyadic a0 a1 w K = vc P P_laws_markDyadic (codeOf Tryz.f38) (env0 [a0, a1]) w (retX P Tryz.f38.results.toList K) := by kernel_rfl
    exact e ▸ h)

/-- laws.heldDyadic -/
def D_laws_heldDyadic (a0 a1 : Value) (w : World) (K : Value → World → Prop) : Prop :=
  bx P 57 a0 w fun x2_1 w2 =>
  fda P 57 x2_1 0 w2 fun x5_3 =>
  ld P 55 x5_3 w2 fun x6_4 =>
  call P f_laws_heldWhole [x6_4, a1] w2 fun x8_5 w6 =>
  bin P .lss 3 false true x8_5 (.int .i64 0) w6 fun x10_7 =>
  cnd x10_7
  (K (.int .i64 (-1)) w6)
  (K x8_5 w6)
def P_laws_heldDyadic : Plan := (.seq (.reg [.op (0, 2, false), .op (1, 0, false)]) (.seq (.reg [.op (0, 0, false), .op (1, 0, false), .op (2, 0, false), .op (3, 2, false), .op (4, 0, false)]) (.seq (.seq (.reg [.op (0, 0, false), .op (1, 0, false)]) (.cond (.seq (.reg [.op (0, 0, false)]) .leaf) .leaf)) (.seq (.reg [.op (0, 0, false), .op (1, 0, false)]) .leaf))))
theorem I_laws_heldDyadic {a0 a1 : Value} {w : World} {K : Value → World → Prop} (h : D_laws_heldDyadic a0 a1 w K) : call P f_laws_heldDyadic [a0, a1] w K :=
  call_of_vc mixed Tryz.func39 (c := codeOf Tryz.f39) (by kernel_rfl) (by kernel_rfl) (p := P_laws_heldDyadic) (by kernel_rfl) (by rw [Tryz.ntmps39]; simp) (by
    have e : D_laws_heldDyadic a0 a1 w K = vc P P_laws_heldDyadic (codeOf Tryz.f39) (env0 [a0, a1]) w (retX P Tryz.f39.results.toList K) := by kernel_rfl
    exact e ▸ h)

/-- laws.szStringS -/
def D_laws_szStringS (a0 a1 : Value) (w : World) (K : Value → World → Prop) : Prop :=
  bl0 P .len #[22] 3 [a0] w fun x8_1 =>
  bin P .sub 3 false false a1 x8_1 w fun x9_2 =>
  bin P .lss 3 false true x9_2 (.int .i64 0) w fun x11_3 =>
  cnd x11_3
  (K (.int .i64 (-1)) w)
  (∃ I4 : Nat → Value → Value → World → Prop, (∃ m19, I4 m19 x9_2 (.int .i64 0) w) ∧ ∀ (m7 : Nat) (x1_8 : Value) (x5_9 : Value) (junk5 : Env) (w6 : World), I4 m7 x1_8 x5_9 w6 →
  bl0 P .len #[22] 3 [a0] w6 fun x14_10 =>
  bin P .lss 3 false false x5_9 x14_10 w6 fun x15_11 =>
  cnd x15_11
  (ixa P 22 a0 x5_9 w6 fun x21_12 =>
  ld P 9 x21_12 w6 fun x22_13 =>
  bl0 P .len #[9] 3 [x22_13] w6 fun x23_14 =>
  bin P .sub 3 false false x1_8 x23_14 w6 fun x24_15 =>
  bin P .lss 3 false true x24_15 (.int .i64 0) w6 fun x26_16 =>
  cnd x26_16
  (K (.int .i64 (-1)) w6)
  (bin P .add 3 false true x5_9 (.int .i64 1) w6 fun x17_17 =>
  ∃ m18, m18 < m7 ∧ I4 m18 x24_15 x17_17 w6))
  (K x1_8 w6))
def P_laws_szStringS : Plan := (.seq (.reg [.op (0, 0, false)]) (.seq (.reg [.op (0, 0, false), .op (1, 0, false), .op (2, 0, false), .op (3, 0, false), .op (4, 0, false)]) (.seq (.seq (.reg [.op (0, 0, false), .op (1, 0, false)]) (.cond (.seq (.reg [.op (0, 0, false)]) .leaf) .leaf)) (.seq (.seq (.reg [.op (0, 0, false)]) (.blk (.loop [1, 5] 134213682 (.seq (.seq (.reg [.op (0, 0, false), .op (1, 0, false), .op (2, 0, false), .op (3, 0, false)]) (.cond .leaf .leaf)) (.seq (.blk (.seq (.reg [.op (0, 0, false), .op (1, 0, false), .op (2, 0, false), .op (3, 0, false), .op (4, 0, false), .op (5, 0, false), .op (6, 0, false), .op (7, 0, false)]) (.seq (.reg [.op (0, 0, false), .op (1, 0, false)]) (.cond (.seq (.reg [.op (0, 0, false)]) .leaf) .leaf)))) (.reg [.op (0, 0, false), .op (1, 0, false), .op (2, 0, false)])))))) (.seq (.reg [.op (0, 0, false), .op (1, 0, false)]) .leaf)))))
theorem I_laws_szStringS {a0 a1 : Value} {w : World} {K : Value → World → Prop} (h : D_laws_szStringS a0 a1 w K) : call P f_laws_szStringS [a0, a1] w K :=
  call_of_vc mixed Tryz.func51 (c := codeOf Tryz.f51) (by kernel_rfl) (by kernel_rfl) (p := P_laws_szStringS) (by kernel_rfl) (by rw [Tryz.ntmps51]; simp) (by
    have e : D_laws_szStringS a0 a1 w K = vc P P_laws_szStringS (codeOf Tryz.f51) (env0 [a0, a1]) w (retX P Tryz.f51.results.toList K) := by kernel_rfl
    exact e ▸ h)

/-- laws.toStringS -/
def D_laws_toStringS (a0 : Value) (w : World) (K : Value → World → Prop) : Prop :=
  bl0 P .len #[22] 3 [a0] w fun x6_1 =>
  mks P 22 x6_1 x6_1 w fun x7_2 w3 =>
  ∃ I4 : Nat → Value → World → Prop, (∃ m18, I4 m18 (.int .i64 0) w3) ∧ ∀ (m7 : Nat) (x4_8 : Value) (junk5 : Env) (w6 : World), I4 m7 x4_8 w6 →
  bl0 P .len #[22] 3 [a0] w6 fun x10_9 =>
  bin P .lss 3 false false x4_8 x10_9 w6 fun x11_10 =>
  cnd x11_10
  (ixa P 22 a0 x4_8 w6 fun x18_11 =>
  ld P 9 x18_11 w6 fun x19_12 =>
  ixa P 22 x7_2 x4_8 w6 fun x20_13 =>
  sto P 9 x20_13 x19_12 w6 fun w15 =>
  bin P .add 3 false true x4_8 (.int .i64 1) w15 fun x13_16 =>
  ∃ m17, m17 < m7 ∧ I4 m17 x13_16 w15)
  (K x7_2 w6)
def P_laws_toStringS : Plan := (.seq (.reg [.op (0, 0, false)]) (.seq (.reg [.op (0, 0, false), .op (1, 0, false), .op (2, 2, false), .op (3, 0, false)]) (.seq (.seq (.reg [.op (0, 0, false)]) (.blk (.loop [4] 2096912 (.seq (.seq (.reg [.op (0, 0, false), .op (1, 0, false), .op (2, 0, false), .op (3, 0, false)]) (.cond .leaf .leaf)) (.seq (.blk (.reg [.op (0, 0, false), .op (1, 0, false), .op (2, 0, false), .op (3, 0, false), .op (4, 0, false), .op (5, 0, false), .op (6, 0, false), .op (7, 2, false)])) (.reg [.op (0, 0, false), .op (1, 0, false), .op (2, 0, false)])))))) (.seq (.reg [.op (0, 0, false), .op (1, 0, false)]) .leaf))))
theorem I_laws_toStringS {a0 : Value} {w : World} {K : Value → World → Prop} (h : D_laws_toStringS a0 w K) : call P f_laws_toStringS [a0] w K :=
  call_of_vc mixed Tryz.func53 (c := codeOf Tryz.f53) (by kernel_rfl) (by kernel_rfl) (p := P_laws_toStringS) (by kernel_rfl) (by rw [Tryz.ntmps53]; simp) (by
    have e : D_laws_toStringS a0 w K = vc P P_laws_toStringS (codeOf Tryz.f53) (env0 [a0]) w (retX P Tryz.f53.results.toList K) := by kernel_rfl
    exact e ▸ h)

/-- laws.eqStringS -/
def D_laws_eqStringS (a0 a1 : Value) (w : World) (K : Value → World → Prop) : Prop :=
  bl0 P .len #[22] 3 [a0] w fun x7_1 =>
  bl0 P .len #[22] 3 [a1] w fun x9_2 =>
  bin P .neq 3 false false x7_1 x9_2 w fun x10_3 =>
  cnd x10_3
  (K (.bool false) w)
  (∃ I4 : Nat → Value → World → Prop, (∃ m18, I4 m18 (.int .i64 0) w) ∧ ∀ (m7 : Nat) (x5_8 : Value) (junk5 : Env) (w6 : World), I4 m7 x5_8 w6 →
  bl0 P .len #[22] 3 [a0] w6 fun x13_9 =>
  bin P .lss 3 false false x5_8 x13_9 w6 fun x14_10 =>
  cnd x14_10
  (ixa P 22 a0 x5_8 w6 fun x19_11 =>
  ld P 9 x19_11 w6 fun x20_12 =>
  ixa P 22 a1 x5_8 w6 fun x23_13 =>
  ld P 9 x23_13 w6 fun x24_14 =>
  bin P .neq 9 false false x20_12 x24_14 w6 fun x25_15 =>
  cnd x25_15
  (K (.bool false) w6)
  (bin P .add 3 false true x5_8 (.int .i64 1) w6 fun x16_16 =>
  ∃ m17, m17 < m7 ∧ I4 m17 x16_16 w6))
  (K (.bool true) w6))
def P_laws_eqStringS : Plan := (.seq (.reg [.op (0, 0, false)]) (.seq (.seq (.reg [.op (0, 0, false), .op (1, 0, false), .op (2, 0, false), .op (3, 0, false), .op (4, 0, false)]) (.cond (.seq (.reg [.op (0, 0, false)]) .leaf) .leaf)) (.seq (.seq (.reg [.op (0, 0, false)]) (.blk (.loop [5] 67106864 (.seq (.seq (.reg [.op (0, 0, false), .op (1, 0, false), .op (2, 0, false), .op (3, 0, false)]) (.cond .leaf .leaf)) (.seq (.blk (.seq (.reg [.op (0, 0, false), .op (1, 0, false), .op (2, 0, false), .op (3, 0, false), .op (4, 0, false), .op (5, 0, false), .op (6, 0, false), .op (7, 0, false), .op (8, 0, false)]) (.cond (.seq (.reg [.op (0, 0, false)]) .leaf) .leaf))) (.reg [.op (0, 0, false), .op (1, 0, false), .op (2, 0, false)])))))) (.seq (.reg [.op (0, 0, false)]) .leaf))))
theorem I_laws_eqStringS {a0 a1 : Value} {w : World} {K : Value → World → Prop} (h : D_laws_eqStringS a0 a1 w K) : call P f_laws_eqStringS [a0, a1] w K :=
  call_of_vc mixed Tryz.func55 (c := codeOf Tryz.f55) (by kernel_rfl) (by kernel_rfl) (p := P_laws_eqStringS) (by kernel_rfl) (by rw [Tryz.ntmps55]; simp) (by
    have e : D_laws_eqStringS a0 a1 w K = vc P P_laws_eqStringS (codeOf Tryz.f55) (env0 [a0, a1]) w (retX P Tryz.f55.results.toList K) := by kernel_rfl
    exact e ▸ h)

/-- laws.markStringS -/
def D_laws_markStringS (a0 a1 : Value) (w : World) (K : Value → World → Prop) : Prop :=
  ∃ I1 : Nat → Value → Value → World → Prop, (∃ m17, I1 m17 a1 (.int .i64 0) w) ∧ ∀ (m4 : Nat) (x1_5 : Value) (x5_6 : Value) (junk2 : Env) (w3 : World), I1 m4 x1_5 x5_6 w3 →
  bl0 P .len #[22] 3 [a0] w3 fun x8_7 =>
  bin P .lss 3 false false x5_6 x8_7 w3 fun x9_8 =>
  cnd x9_8
  (call P f_laws_markText [x1_5] w3 fun x15_9 w10 =>
  ixa P 22 a0 x5_6 w10 fun x16_11 =>
  sto P 9 x16_11 x15_9 w10 fun w13 =>
  bin P .add 3 false true x1_5 (.int .i64 1) w13 fun x18_14 =>
  bin P .add 3 false true x5_6 (.int .i64 1) w13 fun x11_15 =>
  ∃ m16, m16 < m4 ∧ I1 m16 x18_14 x11_15 w13)
  (K x1_5 w3)
def P_laws_markStringS : Plan := (.seq (.reg [.op (0, 0, false)]) (.seq (.seq (.reg [.op (0, 0, false)]) (.blk (.loop [1, 5] 524258 (.seq (.seq (.reg [.op (0, 0, false), .op (1, 0, false), .op (2, 0, false), .op (3, 0, false)]) (.cond .leaf .leaf)) (.seq (.blk (.seq (.reg [.op (0, 0, false), .op (1, 0, false), .op (2, 0, false), .op (3, 2, false), .op (4, 0, false), .op (5, 2, false)]) (.reg [.op (0, 0, false), .op (1, 0, false), .op (2, 0, false)]))) (.reg [.op (0, 0, false), .op (1, 0, false), .op (2, 0, false)])))))) (.seq (.reg [.op (0, 0, false), .op (1, 0, false)]) .leaf)))
theorem I_laws_markStringS {a0 a1 : Value} {w : World} {K : Value → World → Prop} (h : D_laws_markStringS a0 a1 w K) : call P f_laws_markStringS [a0, a1] w K :=
  call_of_vc mixed Tryz.func63 (c := codeOf Tryz.f63) (by kernel_rfl) (by kernel_rfl) (p := P_laws_markStringS) (by kernel_rfl) (by rw [Tryz.ntmps63]; simp) (by
    have e : D_laws_markStringS a0 a1 w K = vc P P_laws_markStringS (codeOf Tryz.f63) (env0 [a0, a1]) w (retX P Tryz.f63.results.toList K) := by kernel_rfl
    exact e ▸ h)

/-- laws.eqWhole -/
def D_laws_eqWhole (a0 a1 : Value) (w : World) (K : Value → World → Prop) : Prop :=
  bx P 55 a0 w fun x2_1 w2 =>
  bx P 55 a1 w2 fun x3_3 w4 =>
  fda P 55 x2_1 0 w4 fun x5_5 =>
  ld P 2 x5_5 w4 fun x6_6 =>
  fda P 55 x3_3 0 w4 fun x7_7 =>
  ld P 2 x7_7 w4 fun x8_8 =>
  bin P .neq 2 false false x6_6 x8_8 w4 fun x9_9 =>
  cnd x9_9
  (K (.bool false) w4)
  (fda P 55 x2_1 1 w4 fun x10_10 =>
  ld P 53 x10_10 w4 fun x11_11 =>
  fda P 55 x3_3 1 w4 fun x12_12 =>
  ld P 53 x12_12 w4 fun x13_13 =>
  call P f_laws_eqInt64S [x11_11, x13_13] w4 fun x14_14 w15 =>
  una P .not x14_14 w15 fun x15_16 =>
  cnd x15_16
  (K (.bool false) w15)
  (K (.bool true) w15))
def P_laws_eqWhole : Plan := (.seq (.reg [.op (0, 2, false), .op (1, 2, false), .op (2, 0, false)]) (.seq (.seq (.reg [.op (0, 0, false), .op (1, 0, false), .op (2, 0, false), .op (3, 0, false), .op (4, 0, false)]) (.cond (.seq (.reg [.op (0, 0, false)]) .leaf) .leaf)) (.seq (.seq (.reg [.op (0, 0, false), .op (1, 0, false), .op (2, 0, false), .op (3, 0, false), .op (4, 2, false), .op (5, 0, false)]) (.cond (.seq (.reg [.op (0, 0, false)]) .leaf) .leaf)) (.seq (.reg [.op (0, 0, false)]) .leaf))))
theorem I_laws_eqWhole {a0 a1 : Value} {w : World} {K : Value → World → Prop} (h : D_laws_eqWhole a0 a1 w K) : call P f_laws_eqWhole [a0, a1] w K :=
  call_of_vc mixed Tryz.func85 (c := codeOf Tryz.f85) (by kernel_rfl) (by kernel_rfl) (p := P_laws_eqWhole) (by kernel_rfl) (by rw [Tryz.ntmps85]; simp) (by
    have e : D_laws_eqWhole a0 a1 w K = vc P P_laws_eqWhole (codeOf Tryz.f85) (env0 [a0, a1]) w (retX P Tryz.f85.results.toList K) := by kernel_rfl
    exact e ▸ h)

/-- laws.sameFloat -/
def D_laws_sameFloat (a0 a1 : Value) (w : World) (K : Value → World → Prop) : Prop :=
  bin P .neq 117 false false a0 a0 w fun x7_1 =>
  ∃ J2 : Value → World → Prop, (∀ (x11_3 : Value) (junk5 : Env) (w4 : World), J2 x11_3 w4 →
  pick x7_1 (.bool true) x11_3 fun x12_6 =>
  cnd x12_6
  (bin P .neq 117 false false a0 a0 w4 fun x15_7 =>
  ∃ J8 : Value → World → Prop, (∀ (x19_9 : Value) (junk11 : Env) (w10 : World), J8 x19_9 w10 →
  pick x15_7 x19_9 (.bool false) fun x20_12 =>
  K x20_12 w10) ∧
  grd x15_7 true
  (bin P .neq 117 false false a1 a1 w4 fun x19_13 =>
  J8 x19_13 w4)
  (J8 undef w4))
  (bin P .eql 117 false true a0 (.float .f64 0) w4 fun x22_14 =>
  ∃ J15 : Value → World → Prop, (∀ (x25_16 : Value) (junk18 : Env) (w17 : World), J15 x25_16 w17 →
  pick x22_14 x25_16 (.bool false) fun x26_19 =>
  cnd x26_19
  (rbin P .quo 117 true false (.float .f64 4607182418800017408) a0 w17 fun x28_20 =>
  bin P .gtr 117 false true x28_20 (.float .f64 0) w17 fun x29_21 =>
  rbin P .quo 117 true false (.float .f64 4607182418800017408) a1 w17 fun x31_22 =>
  bin P .gtr 117 false true x31_22 (.float .f64 0) w17 fun x32_23 =>
  bin P .eql 4 false false x29_21 x32_23 w17 fun x33_24 =>
  K x33_24 w17)
  (bin P .eql 117 false false a0 a1 w17 fun x36_25 =>
  K x36_25 w17)) ∧
  grd x22_14 true
  (bin P .eql 117 false true a1 (.float .f64 0) w4 fun x25_26 =>
  J15 x25_26 w4)
  (J15 undef w4))) ∧
  grd x7_1 false
  (bin P .neq 117 false false a1 a1 w fun x11_27 =>
  J2 x11_27 w)
  (J2 undef w)
def P_laws_sameFloat : Plan := (.seq (.reg [.op (0, 0, false)]) (.seq (.seq (.reg [.op (0, 0, false), .op (1, 0, false), .op (2, 0, false), .op (3, 0, false), .grp 3 false [(4, 0, false), (5, 0, false), (6, 0, false)] [11] 3584, .op (7, 0, false)]) (.cond (.seq (.reg [.op (0, 0, false), .op (1, 0, false), .op (2, 0, false), .op (3, 0, false), .grp 3 true [(4, 0, false), (5, 0, false), (6, 0, false)] [19] 917504, .op (7, 0, false), .op (8, 0, false)]) .leaf) .leaf)) (.seq (.seq (.reg [.op (0, 0, false), .op (1, 0, false), .op (2, 0, false), .grp 2 true [(3, 0, false), (4, 0, false)] [25] 50331648, .op (5, 0, false)]) (.cond (.seq (.reg [.op (0, 0, false), .op (1, 1, false), .op (2, 0, false), .op (3, 0, false), .op (4, 1, false), .op (5, 0, false), .op (6, 0, false), .op (7, 0, false)]) .leaf) .leaf)) (.seq (.reg [.op (0, 0, false), .op (1, 0, false), .op (2, 0, false), .op (3, 0, false)]) .leaf))))
theorem I_laws_sameFloat {a0 a1 : Value} {w : World} {K : Value → World → Prop} (h : D_laws_sameFloat a0 a1 w K) : call P f_laws_sameFloat [a0, a1] w K :=
  call_of_vc mixed Tryz.func86 (c := codeOf Tryz.f86) (by kernel_rfl) (by kernel_rfl) (p := P_laws_sameFloat) (by kernel_rfl) (by rw [Tryz.ntmps86]; simp) (by
    have e : D_laws_sameFloat a0 a1 w K = vc P P_laws_sameFloat (codeOf Tryz.f86) (env0 [a0, a1]) w (retX P Tryz.f86.results.toList K) := by kernel_rfl
    exact e ▸ h)

/-- laws.markWhole -/
def D_laws_markWhole (a0 a1 : Value) (w : World) (K : Value → World → Prop) : Prop :=
  bx P 55 a0 w fun x2_1 w2 =>
  fda P 55 x2_1 1 w2 fun x5_3 =>
  ld P 53 x5_3 w2 fun x6_4 =>
  call P f_laws_markInt64S [x6_4, a1] w2 fun x8_5 w6 =>
  K x8_5 w6
def P_laws_markWhole : Plan := (.seq (.reg [.op (0, 2, false), .op (1, 0, false)]) (.seq (.reg [.op (0, 0, false), .op (1, 0, false), .op (2, 0, false), .op (3, 2, false), .op (4, 0, false)]) (.seq (.reg [.op (0, 0, false), .op (1, 0, false)]) .leaf)))
theorem I_laws_markWhole {a0 a1 : Value} {w : World} {K : Value → World → Prop} (h : D_laws_markWhole a0 a1 w K) : call P f_laws_markWhole [a0, a1] w K :=
  call_of_vc mixed Tryz.func87 (c := codeOf Tryz.f87) (by kernel_rfl) (by kernel_rfl) (p := P_laws_markWhole) (by kernel_rfl) (by rw [Tryz.ntmps87]; simp) (by
    have e : D_laws_markWhole a0 a1 w K = vc P P_laws_markWhole (codeOf Tryz.f87) (env0 [a0, a1]) w (retX P Tryz.f87.results.toList K) := by kernel_rfl
    exact e ▸ h)

/-- laws.heldWhole -/
def D_laws_heldWhole (a0 a1 : Value) (w : World) (K : Value → World → Prop) : Prop :=
  bx P 55 a0 w fun x2_1 w2 =>
  fda P 55 x2_1 1 w2 fun x5_3 =>
  ld P 53 x5_3 w2 fun x6_4 =>
  call P f_laws_heldInt64S [x6_4, a1] w2 fun x8_5 w6 =>
  bin P .lss 3 false true x8_5 (.int .i64 0) w6 fun x10_7 =>
  cnd x10_7
  (K (.int .i64 (-1)) w6)
  (K x8_5 w6)
def P_laws_heldWhole : Plan := (.seq (.reg [.op (0, 2, false), .op (1, 0, false)]) (.seq (.reg [.op (0, 0, false), .op (1, 0, false), .op (2, 0, false), .op (3, 2, false), .op (4, 0, false)]) (.seq (.seq (.reg [.op (0, 0, false), .op (1, 0, false)]) (.cond (.seq (.reg [.op (0, 0, false)]) .leaf) .leaf)) (.seq (.reg [.op (0, 0, false), .op (1, 0, false)]) .leaf))))
theorem I_laws_heldWhole {a0 a1 : Value} {w : World} {K : Value → World → Prop} (h : D_laws_heldWhole a0 a1 w K) : call P f_laws_heldWhole [a0, a1] w K :=
  call_of_vc mixed Tryz.func88 (c := codeOf Tryz.f88) (by kernel_rfl) (by kernel_rfl) (p := P_laws_heldWhole) (by kernel_rfl) (by rw [Tryz.ntmps88]; simp) (by
    have e : D_laws_heldWhole a0 a1 w K = vc P P_laws_heldWhole (codeOf Tryz.f88) (env0 [a0, a1]) w (retX P Tryz.f88.results.toList K) := by kernel_rfl
    exact e ▸ h)

/-- laws.markText -/
def D_laws_markText (a0 : Value) (w : World) (K : Value → World → Prop) : Prop :=
  bin P .leq 3 false true a0 (.int .i64 0) w fun x5_1 =>
  cnd x5_1
  (K (.string ⟨#[109, 48]⟩) w)
  (∃ I2 : Nat → Value → Value → World → Prop, (∃ m20, I2 m20 a0 (.string ⟨#[]⟩) w) ∧ ∀ (m5 : Nat) (x0_6 : Value) (x3_7 : Value) (junk3 : Env) (w4 : World), I2 m5 x0_6 x3_7 w4 →
  bin P .gtr 3 false true x0_6 (.int .i64 0) w4 fun x7_8 =>
  cnd x7_8
  (bin P .rem 3 false true x0_6 (.int .i64 10) w4 fun x9_9 =>
  bin P .add 3 true false (.int .i64 48) x9_9 w4 fun x10_10 =>
  cnv P 3 5 x10_10 w4 fun x11_11 =>
  bsl P 72 1 [(0, x11_11)] w4 fun x12_12 w13 =>
  cnv2 P 72 9 x12_12 w13 fun x13_14 w15 =>
  bin P .add 9 false false x13_14 x3_7 w15 fun x15_16 =>
  bin P .quo 3 false true x0_6 (.int .i64 10) w15 fun x17_17 =>
  ∃ m18, m18 < m5 ∧ I2 m18 x17_17 x15_16 w15)
  (bin P .add 9 true false (.string ⟨#[109]⟩) x3_7 w4 fun x19_19 =>
  K x19_19 w4))
def P_laws_markText : Plan := (.seq (.reg [.op (0, 0, false)]) (.seq (.seq (.reg [.op (0, 0, false), .op (1, 0, false)]) (.cond (.seq (.reg [.op (0, 0, false)]) .leaf) .leaf)) (.seq (.reg [.op (0, 0, false)]) (.seq (.blk (.loop [0, 3] 262089 (.seq (.seq (.reg [.op (0, 0, false), .op (1, 0, false)]) (.cond .leaf .leaf)) (.blk (.seq (.reg [.op (0, 0, false), .op (1, 0, false), .op (2, 0, false), .op (3, 0, false), .op (4, 2, false), .op (5, 2, false), .op (6, 0, false), .op (7, 0, false), .op (8, 0, false)]) (.reg [.op (0, 0, false), .op (1, 0, false), .op (2, 0, false)])))))) (.seq (.reg [.op (0, 0, false), .op (1, 0, false), .op (2, 0, false)]) .leaf)))))
theorem I_laws_markText {a0 : Value} {w : World} {K : Value → World → Prop} (h : D_laws_markText a0 w K) : call P f_laws_markText [a0] w K :=
  call_of_vc mixed Tryz.func108 (c := codeOf Tryz.f108) (by kernel_rfl) (by kernel_rfl) (p := P_laws_markText) (by kernel_rfl) (by rw [Tryz.ntmps108]; simp) (by
    have e : D_laws_markText a0 w K = vc P P_laws_markText (codeOf Tryz.f108) (env0 [a0]) w (retX P Tryz.f108.results.toList K) := by kernel_rfl
    exact e ▸ h)

/-- laws.eqInt64S -/
def D_laws_eqInt64S (a0 a1 : Value) (w : World) (K : Value → World → Prop) : Prop :=
  bl0 P .len #[53] 3 [a0] w fun x7_1 =>
  bl0 P .len #[53] 3 [a1] w fun x9_2 =>
  bin P .neq 3 false false x7_1 x9_2 w fun x10_3 =>
  cnd x10_3
  (K (.bool false) w)
  (∃ I4 : Nat → Value → World → Prop, (∃ m18, I4 m18 (.int .i64 0) w) ∧ ∀ (m7 : Nat) (x5_8 : Value) (junk5 : Env) (w6 : World), I4 m7 x5_8 w6 →
  bl0 P .len #[53] 3 [a0] w6 fun x13_9 =>
  bin P .lss 3 false false x5_8 x13_9 w6 fun x14_10 =>
  cnd x14_10
  (ixa P 53 a0 x5_8 w6 fun x19_11 =>
  ld P 2 x19_11 w6 fun x20_12 =>
  ixa P 53 a1 x5_8 w6 fun x23_13 =>
  ld P 2 x23_13 w6 fun x24_14 =>
  bin P .neq 2 false false x20_12 x24_14 w6 fun x25_15 =>
  cnd x25_15
  (K (.bool false) w6)
  (bin P .add 3 false true x5_8 (.int .i64 1) w6 fun x16_16 =>
  ∃ m17, m17 < m7 ∧ I4 m17 x16_16 w6))
  (K (.bool true) w6))
def P_laws_eqInt64S : Plan := (.seq (.reg [.op (0, 0, false)]) (.seq (.seq (.reg [.op (0, 0, false), .op (1, 0, false), .op (2, 0, false), .op (3, 0, false), .op (4, 0, false)]) (.cond (.seq (.reg [.op (0, 0, false)]) .leaf) .leaf)) (.seq (.seq (.reg [.op (0, 0, false)]) (.blk (.loop [5] 67106864 (.seq (.seq (.reg [.op (0, 0, false), .op (1, 0, false), .op (2, 0, false), .op (3, 0, false)]) (.cond .leaf .leaf)) (.seq (.blk (.seq (.reg [.op (0, 0, false), .op (1, 0, false), .op (2, 0, false), .op (3, 0, false), .op (4, 0, false), .op (5, 0, false), .op (6, 0, false), .op (7, 0, false), .op (8, 0, false)]) (.cond (.seq (.reg [.op (0, 0, false)]) .leaf) .leaf))) (.reg [.op (0, 0, false), .op (1, 0, false), .op (2, 0, false)])))))) (.seq (.reg [.op (0, 0, false)]) .leaf))))
theorem I_laws_eqInt64S {a0 a1 : Value} {w : World} {K : Value → World → Prop} (h : D_laws_eqInt64S a0 a1 w K) : call P f_laws_eqInt64S [a0, a1] w K :=
  call_of_vc mixed Tryz.func138 (c := codeOf Tryz.f138) (by kernel_rfl) (by kernel_rfl) (p := P_laws_eqInt64S) (by kernel_rfl) (by rw [Tryz.ntmps138]; simp) (by
    have e : D_laws_eqInt64S a0 a1 w K = vc P P_laws_eqInt64S (codeOf Tryz.f138) (env0 [a0, a1]) w (retX P Tryz.f138.results.toList K) := by kernel_rfl
    exact e ▸ h)

/-- laws.markInt64S -/
def D_laws_markInt64S (a0 a1 : Value) (w : World) (K : Value → World → Prop) : Prop :=
  ∃ I1 : Nat → Value → Value → World → Prop, (∃ m15, I1 m15 a1 (.int .i64 0) w) ∧ ∀ (m4 : Nat) (x1_5 : Value) (x5_6 : Value) (junk2 : Env) (w3 : World), I1 m4 x1_5 x5_6 w3 →
  bl0 P .len #[53] 3 [a0] w3 fun x8_7 =>
  bin P .lss 3 false false x5_6 x8_7 w3 fun x9_8 =>
  cnd x9_8
  (ixa P 53 a0 x5_6 w3 fun x15_9 =>
  sto P 2 x15_9 x1_5 w3 fun w11 =>
  bin P .add 3 false true x1_5 (.int .i64 1) w11 fun x17_12 =>
  bin P .add 3 false true x5_6 (.int .i64 1) w11 fun x11_13 =>
  ∃ m14, m14 < m4 ∧ I1 m14 x17_12 x11_13 w11)
  (K x1_5 w3)
def P_laws_markInt64S : Plan := (.seq (.reg [.op (0, 0, false)]) (.seq (.seq (.reg [.op (0, 0, false)]) (.blk (.loop [1, 5] 262114 (.seq (.seq (.reg [.op (0, 0, false), .op (1, 0, false), .op (2, 0, false), .op (3, 0, false)]) (.cond .leaf .leaf)) (.seq (.blk (.seq (.reg [.op (0, 0, false), .op (1, 0, false), .op (2, 0, false), .op (3, 0, false), .op (4, 2, false)]) (.reg [.op (0, 0, false), .op (1, 0, false), .op (2, 0, false)]))) (.reg [.op (0, 0, false), .op (1, 0, false), .op (2, 0, false)])))))) (.seq (.reg [.op (0, 0, false), .op (1, 0, false)]) .leaf)))
theorem I_laws_markInt64S {a0 a1 : Value} {w : World} {K : Value → World → Prop} (h : D_laws_markInt64S a0 a1 w K) : call P f_laws_markInt64S [a0, a1] w K :=
  call_of_vc mixed Tryz.func139 (c := codeOf Tryz.f139) (by kernel_rfl) (by kernel_rfl) (p := P_laws_markInt64S) (by kernel_rfl) (by rw [Tryz.ntmps139]; simp) (by
    have e : D_laws_markInt64S a0 a1 w K = vc P P_laws_markInt64S (codeOf Tryz.f139) (env0 [a0, a1]) w (retX P Tryz.f139.results.toList K) := by kernel_rfl
    exact e ▸ h)

/-- laws.heldInt64S -/
def D_laws_heldInt64S (a0 a1 : Value) (w : World) (K : Value → World → Prop) : Prop :=
  ∃ I1 : Nat → Value → Value → World → Prop, (∃ m15, I1 m15 a1 (.int .i64 0) w) ∧ ∀ (m4 : Nat) (x1_5 : Value) (x5_6 : Value) (junk2 : Env) (w3 : World), I1 m4 x1_5 x5_6 w3 →
  bl0 P .len #[53] 3 [a0] w3 fun x8_7 =>
  bin P .lss 3 false false x5_6 x8_7 w3 fun x9_8 =>
  cnd x9_8
  (ixa P 53 a0 x5_6 w3 fun x14_9 =>
  ld P 2 x14_9 w3 fun x15_10 =>
  bin P .neq 2 false false x15_10 x1_5 w3 fun x17_11 =>
  cnd x17_11
  (K (.int .i64 (-1)) w3)
  (bin P .add 3 false true x1_5 (.int .i64 1) w3 fun x19_12 =>
  bin P .add 3 false true x5_6 (.int .i64 1) w3 fun x11_13 =>
  ∃ m14, m14 < m4 ∧ I1 m14 x19_12 x11_13 w3))
  (K x1_5 w3)
def P_laws_heldInt64S : Plan := (.seq (.reg [.op (0, 0, false)]) (.seq (.seq (.reg [.op (0, 0, false)]) (.blk (.loop [1, 5] 1048562 (.seq (.seq (.reg [.op (0, 0, false), .op (1, 0, false), .op (2, 0, false), .op (3, 0, false)]) (.cond .leaf .leaf)) (.seq (.blk (.seq (.seq (.reg [.op (0, 0, false), .op (1, 0, false), .op (2, 0, false), .op (3, 0, false), .op (4, 0, false), .op (5, 0, false)]) (.cond (.seq (.reg [.op (0, 0, false)]) .leaf) .leaf)) (.reg [.op (0, 0, false), .op (1, 0, false), .op (2, 0, false)]))) (.reg [.op (0, 0, false), .op (1, 0, false), .op (2, 0, false)])))))) (.seq (.reg [.op (0, 0, false), .op (1, 0, false)]) .leaf)))
theorem I_laws_heldInt64S {a0 a1 : Value} {w : World} {K : Value → World → Prop} (h : D_laws_heldInt64S a0 a1 w K) : call P f_laws_heldInt64S [a0, a1] w K :=
  call_of_vc mixed Tryz.func140 (c := codeOf Tryz.f140) (by kernel_rfl) (by kernel_rfl) (p := P_laws_heldInt64S) (by kernel_rfl) (by rw [Tryz.ntmps140]; simp) (by
    have e : D_laws_heldInt64S a0 a1 w K = vc P P_laws_heldInt64S (codeOf Tryz.f140) (env0 [a0, a1]) w (retX P Tryz.f140.results.toList K) := by kernel_rfl
    exact e ▸ h)

end Go.Proofs.YtjompmflommadaaGreatDoor

/- Written by a program (gen.py): what is left to show of each function's call. -/
set_option linter.unusedVariables false
set_option maxRecDepth 20000
namespace Go.Proofs.YtjompmflommadaaGreatDoor
open Go Go.Vc

/-- internal/stringslite.Index -/
def D_internal_stringslite_Index (a0 a1 : Value) (w : World) (K : Value → World → Prop) : Prop :=
  bl0 P .len #[9] 3 [a1] w fun x15_1 =>
  bin P .eql 3 false true x15_1 (.int .i64 0) w fun x18_2 =>
  ∃ J3 : Value → World → Prop, (∀ (x22_4 : Value) (junk6 : Env) (w5 : World), J3 x22_4 w5 →
  pick x18_2 (.bool true) x22_4 fun x23_7 =>
  cnd x23_7
  (K (.int .i64 0) w5)
  (bin P .eql 3 false true x15_1 (.int .i64 1) w5 fun x26_8 =>
  cnd x26_8
  (idx P 9 a1 (.int .i64 0) w5 fun x29_9 =>
  call P f_internal_stringslite_IndexByte [a0, x29_9] w5 fun x30_10 w11 =>
  K x30_10 w11)
  (bl0 P .len #[9] 3 [a0] w5 fun x34_12 =>
  bin P .geq 3 false false x15_1 x34_12 w5 fun x35_13 =>
  cnd x35_13
  (K (.int .i64 (-1)) w5)
  (ld P 3 (.pointer (some ⟨1, 0, none⟩)) w5 fun x38_14 =>
  bin P .leq 3 false false x15_1 x38_14 w5 fun x39_15 =>
  ∃ J16 : Value → World → Prop, (∀ (x43_17 : Value) (junk19 : Env) (w18 : World), J16 x43_17 w18 →
  pick x39_15 x43_17 (.bool false) fun x44_20 =>
  cnd x44_20
  (call P f_internal_bytealg_IndexString [a0, a1] w18 fun x47_21 w22 =>
  K x47_21 w22)
  (idx P 9 a1 (.int .i64 0) w18 fun x49_23 =>
  idx P 9 a1 (.int .i64 1) w18 fun x51_24 =>
  bl0 P .len #[9] 3 [a0] w18 fun x53_25 =>
  bin P .sub 3 false false x53_25 x15_1 w18 fun x55_26 =>
  bin P .add 3 false true x55_26 (.int .i64 1) w18 fun x56_27 =>
  ∃ I28 : Nat → Value → Value → World → Prop, (∃ m98, I28 m98 (.int .i64 0) (.int .i64 0) w18) ∧ ∀ (m31 : Nat) (x8_32 : Value) (x10_33 : Value) (junk29 : Env) (w30 : World), I28 m31 x8_32 x10_33 w30 →
  bin P .lss 3 false false x8_32 x56_27 w30 fun x59_34 =>
  cnd x59_34
  (∃ J35 : Value → World → Prop, (∀ (x8_38 : Value) (junk36 : Env) (w37 : World), J35 x8_38 w37 →
  bin P .add 3 false true x8_38 (.int .i64 1) w37 fun x80_39 =>
  idx P 9 a0 x80_39 w37 fun x81_40 =>
  bin P .eql 5 false false x81_40 x51_24 w37 fun x83_41 =>
  ∃ J42 : Value → World → Prop, (∀ (x92_43 : Value) (junk45 : Env) (w44 : World), J42 x92_43 w44 →
  pick x83_41 x92_43 (.bool false) fun x93_46 =>
  cnd x93_46
  (K x8_38 w44)
  (bin P .add 3 false true x8_38 (.int .i64 1) w44 fun x96_47 =>
  bin P .add 3 false true x10_33 (.int .i64 1) w44 fun x98_48 =>
  ld P 3 (.pointer (some ⟨1, 0, none⟩)) w44 fun x100_49 =>
  bin P .leq 3 false false x15_1 x100_49 w44 fun x101_50 =>
  ∃ J51 : Value → World → Prop, (∀ (x106_52 : Value) (junk54 : Env) (w53 : World), J51 x106_52 w53 →
  pick x101_50 x106_52 (.bool false) fun x107_55 =>
  cnd x107_55
  (sli P 9 a0 (some x96_47) none none w53 fun x110_56 =>
  call P f_internal_bytealg_IndexString [x110_56, a1] w53 fun x112_57 w58 =>
  bin P .geq 3 false true x112_57 (.int .i64 0) w58 fun x114_59 =>
  cnd x114_59
  (bin P .add 3 false false x112_57 x96_47 w58 fun x117_60 =>
  K x117_60 w58)
  (K (.int .i64 (-1)) w58))
  (ld P 3 (.pointer (some ⟨1, 0, none⟩)) w53 fun x119_61 =>
  bin P .gtr 3 false false x15_1 x119_61 w53 fun x120_62 =>
  ∃ J63 : Value → World → Prop, (∀ (x126_64 : Value) (junk66 : Env) (w65 : World), J63 x126_64 w65 →
  pick x120_62 x126_64 (.bool false) fun x127_67 =>
  ∃ J68 : Value → World → Prop, (∀ (x131_69 : Value) (junk71 : Env) (w70 : World), J68 x131_69 w70 →
  pick x127_67 x131_69 (.bool false) fun x132_72 =>
  cnd x132_72
  (sli P 9 a0 (some x96_47) none none w70 fun x135_73 =>
  call P f_internal_bytealg_IndexRabinKarp_string [x135_73, a1] w70 fun x137_74 w75 =>
  bin P .lss 3 false true x137_74 (.int .i64 0) w75 fun x139_76 =>
  cnd x139_76
  (K (.int .i64 (-1)) w75)
  (bin P .add 3 false false x96_47 x137_74 w75 fun x142_77 =>
  K x142_77 w75))
  (∃ m78, m78 < m31 ∧ I28 m78 x96_47 x98_48 w70)) ∧
  grd x127_67 true
  (bin P .lss 3 false false x96_47 x56_27 w65 fun x131_79 =>
  J68 x131_79 w65)
  (J68 undef w65)) ∧
  grd x120_62 true
  (bin P .shr 3 false true x96_47 (.int .u64 4) w53 fun x124_80 =>
  bin P .add 3 true false (.int .i64 4) x124_80 w53 fun x125_81 =>
  bin P .geq 3 false false x98_48 x125_81 w53 fun x126_82 =>
  J63 x126_82 w53)
  (J63 undef w53))) ∧
  grd x101_50 true
  (call P f_internal_bytealg_Cutover [x96_47] w44 fun x105_83 w84 =>
  bin P .gtr 3 false false x98_48 x105_83 w84 fun x106_85 =>
  J51 x106_85 w84)
  (J51 undef w44))) ∧
  grd x83_41 true
  (bin P .add 3 false false x8_38 x15_1 w37 fun x89_86 =>
  sli P 9 a0 (some x8_38) (some x89_86) none w37 fun x90_87 =>
  bin P .eql 9 false false x90_87 a1 w37 fun x92_88 =>
  J42 x92_88 w37)
  (J42 undef w37)) ∧
  (idx P 9 a0 x8_32 w30 fun x62_89 =>
  bin P .neq 5 false false x62_89 x49_23 w30 fun x64_90 =>
  cnd x64_90
  (bin P .add 3 false true x8_32 (.int .i64 1) w30 fun x67_91 =>
  sli P 9 a0 (some x67_91) (some x56_27) none w30 fun x69_92 =>
  call P f_internal_stringslite_IndexByte [x69_92, x49_23] w30 fun x71_93 w94 =>
  bin P .lss 3 false true x71_93 (.int .i64 0) w94 fun x73_95 =>
  cnd x73_95
  (K (.int .i64 (-1)) w94)
  (bin P .add 3 false true x71_93 (.int .i64 1) w94 fun x76_96 =>
  bin P .add 3 false false x8_32 x76_96 w94 fun x77_97 =>
  J35 x77_97 w94))
  (J35 x8_32 w30)))
  (K (.int .i64 (-1)) w30))) ∧
  grd x39_15 true
  (bl0 P .len #[9] 3 [a0] w5 fun x42_99 =>
  bin P .leq 3 false true x42_99 (.int .i64 64) w5 fun x43_100 =>
  J16 x43_100 w5)
  (J16 undef w5))))) ∧
  grd x18_2 false
  (bin P .eql 9 false false a1 a0 w fun x22_101 =>
  J3 x22_101 w)
  (J3 undef w)
def P_internal_stringslite_Index : Plan := (.seq (.reg [.op (0, 0, false)]) (.seq (.reg [.op (0, 0, false), .op (1, 0, false), .op (2, 0, false)]) (.seq (.blk (.seq (.reg [.op (0, 0, false), .op (1, 0, false), .op (2, 0, false), .grp 2 false [(3, 0, false), (4, 0, false), (5, 0, false)] [22] 7340032, .op (6, 0, false), .op (7, 0, false)]) (.cond (.seq (.reg [.op (0, 0, false)]) .leaf) (.seq (.reg [.op (0, 0, false), .op (1, 0, false), .op (2, 0, false)]) (.cond (.seq (.reg [.op (0, 0, false), .op (1, 0, false), .op (2, 0, false), .op (3, 2, false), .op (4, 0, false)]) .leaf) (.seq (.reg [.op (0, 0, false), .op (1, 0, false), .op (2, 0, false), .op (3, 0, false), .op (4, 0, false)]) (.cond (.seq (.reg [.op (0, 0, false)]) .leaf) (.seq (.reg [.op (0, 0, false), .op (1, 0, false), .op (2, 0, false), .op (3, 0, false), .grp 3 true [(4, 0, false), (5, 0, false), (6, 0, false)] [43] 15393162788864, .op (7, 0, false), .op (8, 0, false)]) (.cond (.seq (.reg [.op (0, 0, false), .op (1, 0, false), .op (2, 2, false), .op (3, 0, false)]) .leaf) .leaf))))))))) (.seq (.reg [.op (0, 0, false), .op (1, 0, false), .op (2, 0, false)]) (.seq (.reg [.op (0, 0, false), .op (1, 0, false), .op (2, 0, false)]) (.seq (.reg [.op (0, 0, false)]) (.seq (.reg [.op (0, 0, false), .op (1, 0, false), .op (2, 0, false), .op (3, 0, false), .op (4, 0, false), .op (5, 0, false)]) (.seq (.reg [.op (0, 0, false)]) (.seq (.blk (.loop [8, 10] 11150372599265311570767858992208992677149968 (.seq (.seq (.reg [.op (0, 0, false), .op (1, 0, false), .op (2, 0, false)]) (.cond .leaf .leaf)) (.blk (.cut [8] 302230301982152686831888 (.seq (.reg [.op (0, 0, false), .op (1, 0, false), .op (2, 0, false), .op (3, 0, false), .op (4, 0, false)]) (.cond (.seq (.reg [.op (0, 0, false), .op (1, 0, false), .op (2, 0, false), .op (3, 0, false), .op (4, 0, false), .op (5, 0, false), .op (6, 2, false), .op (7, 0, false)]) (.seq (.seq (.reg [.op (0, 0, false), .op (1, 0, false)]) (.cond (.seq (.reg [.op (0, 0, false)]) .leaf) .leaf)) (.reg [.op (0, 0, false), .op (1, 0, false), .op (2, 0, false), .op (3, 0, false), .op (4, 0, false)]))) .leaf)) (.seq (.seq (.reg [.op (0, 0, false), .op (1, 0, false), .op (2, 0, false), .op (3, 0, false), .op (4, 0, false), .op (5, 0, false), .op (6, 0, false), .grp 6 true [(7, 0, false), (8, 0, false), (9, 0, false), (10, 0, false), (11, 0, false), (12, 0, false), (13, 0, false), (14, 0, false)] [92] 9864834688055374065602396160, .op (15, 0, false)]) (.cond (.seq (.reg [.op (0, 0, false), .op (1, 0, false)]) .leaf) .leaf)) (.seq (.reg [.op (0, 0, false), .op (1, 0, false), .op (2, 0, false)]) (.seq (.reg [.op (0, 0, false), .op (1, 0, false), .op (2, 0, false)]) (.seq (.reg [.op (0, 0, false), .op (1, 0, false), .op (2, 0, false), .op (3, 0, false), .grp 3 true [(4, 0, false), (5, 0, false), (6, 2, false), (7, 0, false)] [106] 152118072027387528179604384645120, .op (8, 0, false)]) (.cond (.seq (.reg [.op (0, 0, false), .op (1, 0, false), .op (2, 0, false), .op (3, 0, false), .op (4, 2, false), .op (5, 0, false)]) (.seq (.seq (.reg [.op (0, 0, false), .op (1, 0, false)]) (.cond (.seq (.reg [.op (0, 0, false), .op (1, 0, false), .op (2, 0, false), .op (3, 0, false)]) .leaf) .leaf)) (.seq (.reg [.op (0, 0, false)]) .leaf))) (.seq (.reg [.op (0, 0, false), .op (1, 0, false), .op (2, 0, false), .op (3, 0, false), .grp 3 true [(4, 0, false), (5, 0, false), (6, 0, false), (7, 0, false), (8, 0, false)] [126] 164824271477329568240072075474762727424, .op (9, 0, false), .op (10, 0, false), .grp 10 true [(11, 0, false), (12, 0, false), (13, 0, false)] [131] 4763953136893138488487244504044754960384, .op (14, 0, false)]) (.cond (.seq (.reg [.op (0, 0, false), .op (1, 0, false), .op (2, 0, false), .op (3, 0, false), .op (4, 2, false), .op (5, 0, false)]) (.seq (.seq (.reg [.op (0, 0, false), .op (1, 0, false)]) (.cond (.seq (.reg [.op (0, 0, false)]) .leaf) .leaf)) (.seq (.reg [.op (0, 0, false), .op (1, 0, false), .op (2, 0, false), .op (3, 0, false)]) .leaf))) .leaf)))))))))))) (.seq (.reg [.op (0, 0, false)]) .leaf))))))))))
theorem I_internal_stringslite_Index {a0 a1 : Value} {w : World} {K : Value → World → Prop} (h : D_internal_stringslite_Index a0 a1 w K) : call P f_internal_stringslite_Index [a0, a1] w K :=
  call_of_vc mixed Tryz.func211 (c := codeOf Tryz.f211) (by kernel_rfl) (by kernel_rfl) (p := P_internal_stringslite_Index) (by kernel_rfl) (by rw [Tryz.ntmps211]; simp) (by
    have e : D_internal_stringslite_Index a0 a1 w K = vc P P_internal_stringslite_Index (codeOf Tryz.f211) (env0 [a0, a1]) w (retX P Tryz.f211.results.toList K) := by kernel_rfl
    exact e ▸ h)

/-- strings.Cut -/
def D_strings_Cut (a0 a1 : Value) (w : World) (K : Value → World → Prop) : Prop :=
  call P f_internal_stringslite_Cut [a0, a1] w fun x9_1 w2 =>
  xtr P x9_1 0 w2 fun x10_3 =>
  xtr P x9_1 1 w2 fun x11_4 =>
  xtr P x9_1 2 w2 fun x12_5 =>
  K (.tuple #[x10_3, x11_4, x12_5]) w2
def P_strings_Cut : Plan := (.seq (.reg [.op (0, 0, false), .op (1, 0, false), .op (2, 0, false)]) (.seq (.reg [.op (0, 0, false), .op (1, 0, false), .op (2, 2, false), .op (3, 0, false), .op (4, 0, false), .op (5, 0, false), .op (6, 0, false), .op (7, 0, false), .op (8, 0, false)]) .leaf))
theorem I_strings_Cut {a0 a1 : Value} {w : World} {K : Value → World → Prop} (h : D_strings_Cut a0 a1 w K) : call P f_strings_Cut [a0, a1] w K :=
  call_of_vc mixed Tryz.func222 (c := codeOf Tryz.f222) (by kernel_rfl) (by kernel_rfl) (p := P_strings_Cut) (by kernel_rfl) (by rw [Tryz.ntmps222]; simp) (by
    have e : D_strings_Cut a0 a1 w K = vc P P_strings_Cut (codeOf Tryz.f222) (env0 [a0, a1]) w (retX P Tryz.f222.results.toList K) := by kernel_rfl
    exact e ▸ h)

/-- strconv.ParseInt -/
def D_strconv_ParseInt (a0 a1 a2 : Value) (w : World) (K : Value → World → Prop) : Prop :=
  call P f_internal_strconv_ParseInt [a0, a1, a2] w fun x13_1 w2 =>
  xtr P x13_1 0 w2 fun x14_3 =>
  xtr P x13_1 1 w2 fun x15_4 =>
  bin P .neq 189 false true x15_4 .nilIface w2 fun x17_5 =>
  cnd x17_5
  (call P f_strconv_toError [(.string ⟨#[80, 97, 114, 115, 101, 73, 110, 116]⟩), a0, a1, a2, x15_4] w2 fun x23_6 w7 =>
  K (.tuple #[x14_3, x23_6]) w7)
  (K (.tuple #[x14_3, .nilIface]) w2)
def P_strconv_ParseInt : Plan := (.seq (.reg [.op (0, 0, false), .op (1, 0, false)]) (.seq (.reg [.op (0, 0, false), .op (1, 0, false), .op (2, 0, false), .op (3, 2, false), .op (4, 0, false), .op (5, 0, false), .op (6, 0, false), .op (7, 0, false), .op (8, 0, false)]) (.seq (.seq (.reg [.op (0, 0, false), .op (1, 0, false)]) (.cond (.seq (.reg [.op (0, 0, false), .op (1, 0, false), .op (2, 0, false), .op (3, 0, false), .op (4, 0, false), .op (5, 2, false), .op (6, 0, false), .op (7, 0, false)]) .leaf) .leaf)) (.seq (.reg [.op (0, 0, false), .op (1, 0, false), .op (2, 0, false)]) .leaf))))
theorem I_strconv_ParseInt {a0 a1 a2 : Value} {w : World} {K : Value → World → Prop} (h : D_strconv_ParseInt a0 a1 a2 w K) : call P f_strconv_ParseInt [a0, a1, a2] w K :=
  call_of_vc mixed Tryz.func225 (c := codeOf Tryz.f225) (by kernel_rfl) (by kernel_rfl) (p := P_strconv_ParseInt) (by kernel_rfl) (by rw [Tryz.ntmps225]; simp) (by
    have e : D_strconv_ParseInt a0 a1 a2 w K = vc P P_strconv_ParseInt (codeOf Tryz.f225) (env0 [a0, a1, a2]) w (retX P Tryz.f225.results.toList K) := by kernel_rfl
    exact e ▸ h)

/-- slices.Clone[[]uint32,uint32] -/
def D_slices_Clone_uint32_uint32 (a0 : Value) (w : World) (K : Value → World → Prop) : Prop :=
  bin P .eql 156 false true a0 (.slice none 0 0) w fun x4_1 =>
  cnd x4_1
  (K (.slice none 0 0) w)
  (bsl P 156 0 [] w fun x5_2 w3 =>
  bl2 P .append #[156, 156] 156 [x5_2, a0] w3 fun x7_4 w5 =>
  K x7_4 w5)
def P_slices_Clone_uint32_uint32 : Plan := (.seq (.reg [.op (0, 0, false)]) (.seq (.seq (.reg [.op (0, 0, false), .op (1, 0, false)]) (.cond (.seq (.reg [.op (0, 0, false)]) .leaf) .leaf)) (.seq (.reg [.op (0, 2, false), .op (1, 0, false), .op (2, 2, false), .op (3, 0, false)]) .leaf)))
theorem I_slices_Clone_uint32_uint32 {a0 : Value} {w : World} {K : Value → World → Prop} (h : D_slices_Clone_uint32_uint32 a0 w K) : call P f_slices_Clone_uint32_uint32 [a0] w K :=
  call_of_vc mixed Tryz.func230 (c := codeOf Tryz.f230) (by kernel_rfl) (by kernel_rfl) (p := P_slices_Clone_uint32_uint32) (by kernel_rfl) (by rw [Tryz.ntmps230]; simp) (by
    have e : D_slices_Clone_uint32_uint32 a0 w K = vc P P_slices_Clone_uint32_uint32 (codeOf Tryz.f230) (env0 [a0]) w (retX P Tryz.f230.results.toList K) := by kernel_rfl
    exact e ▸ h)

/-- internal/stringslite.IndexByte -/
def D_internal_stringslite_IndexByte (a0 a1 : Value) (w : World) (K : Value → World → Prop) : Prop :=
  call P f_internal_bytealg_IndexByteString [a0, a1] w fun x7_1 w2 =>
  K x7_1 w2
def P_internal_stringslite_IndexByte : Plan := (.seq (.reg [.op (0, 0, false)]) (.seq (.reg [.op (0, 0, false), .op (1, 0, false), .op (2, 2, false), .op (3, 0, false)]) .leaf))
theorem I_internal_stringslite_IndexByte {a0 a1 : Value} {w : World} {K : Value → World → Prop} (h : D_internal_stringslite_IndexByte a0 a1 w K) : call P f_internal_stringslite_IndexByte [a0, a1] w K :=
  call_of_vc mixed Tryz.func247 (c := codeOf Tryz.f247) (by kernel_rfl) (by kernel_rfl) (p := P_internal_stringslite_IndexByte) (by kernel_rfl) (by rw [Tryz.ntmps247]; simp) (by
    have e : D_internal_stringslite_IndexByte a0 a1 w K = vc P P_internal_stringslite_IndexByte (codeOf Tryz.f247) (env0 [a0, a1]) w (retX P Tryz.f247.results.toList K) := by kernel_rfl
    exact e ▸ h)

/-- internal/stringslite.Cut -/
def D_internal_stringslite_Cut (a0 a1 : Value) (w : World) (K : Value → World → Prop) : Prop :=
  call P f_internal_stringslite_Index [a0, a1] w fun x10_1 w2 =>
  bin P .geq 3 false true x10_1 (.int .i64 0) w2 fun x12_3 =>
  cnd x12_3
  (sli P 9 a0 none (some x10_1) none w2 fun x15_4 =>
  bl0 P .len #[9] 3 [a1] w2 fun x19_5 =>
  bin P .add 3 false false x10_1 x19_5 w2 fun x20_6 =>
  sli P 9 a0 (some x20_6) none none w2 fun x21_7 =>
  K (.tuple #[x15_4, x21_7, (.bool true)]) w2)
  (K (.tuple #[a0, (.string ⟨#[]⟩), (.bool false)]) w2)
def P_internal_stringslite_Cut : Plan := (.seq (.reg [.op (0, 0, false), .op (1, 0, false), .op (2, 0, false)]) (.seq (.seq (.reg [.op (0, 0, false), .op (1, 0, false), .op (2, 2, false), .op (3, 0, false)]) (.seq (.reg [.op (0, 0, false), .op (1, 0, false)]) (.cond (.seq (.reg [.op (0, 0, false), .op (1, 0, false), .op (2, 0, false), .op (3, 0, false), .op (4, 0, false), .op (5, 0, false), .op (6, 0, false), .op (7, 0, false), .op (8, 0, false), .op (9, 0, false), .op (10, 0, false), .op (11, 0, false)]) .leaf) .leaf))) (.seq (.reg [.op (0, 0, false), .op (1, 0, false), .op (2, 0, false), .op (3, 0, false)]) .leaf)))
theorem I_internal_stringslite_Cut {a0 a1 : Value} {w : World} {K : Value → World → Prop} (h : D_internal_stringslite_Cut a0 a1 w K) : call P f_internal_stringslite_Cut [a0, a1] w K :=
  call_of_vc mixed Tryz.func255 (c := codeOf Tryz.f255) (by kernel_rfl) (by kernel_rfl) (p := P_internal_stringslite_Cut) (by kernel_rfl) (by rw [Tryz.ntmps255]; simp) (by
    have e : D_internal_stringslite_Cut a0 a1 w K = vc P P_internal_stringslite_Cut (codeOf Tryz.f255) (env0 [a0, a1]) w (retX P Tryz.f255.results.toList K) := by kernel_rfl
    exact e ▸ h)

/-- internal/strconv.ParseInt -/
def D_internal_strconv_ParseInt (a0 a1 a2 : Value) (w : World) (K : Value → World → Prop) : Prop :=
  bin P .eql 9 false true a0 (.string ⟨#[]⟩) w fun x13_1 =>
  cnd x13_1
  (mki P 280 (.int .i64 2) w fun x14_2 =>
  K (.tuple #[(.int .i64 0), x14_2]) w)
  (∃ J3 : Value → Value → World → Prop, (∀ (x0_6 : Value) (x8_7 : Value) (junk4 : Env) (w5 : World), J3 x0_6 x8_7 w5 →
  call P f_internal_strconv_ParseUint [x0_6, a1, a2] w5 fun x29_8 w9 =>
  xtr P x29_8 0 w9 fun x30_10 =>
  xtr P x29_8 1 w9 fun x31_11 =>
  bin P .neq 189 false true x31_11 .nilIface w9 fun x33_12 =>
  ∃ J13 : Value → World → Prop, (∀ (x37_14 : Value) (junk16 : Env) (w15 : World), J13 x37_14 w15 →
  pick x33_12 x37_14 (.bool false) fun x38_17 =>
  cnd x38_17
  (K (.tuple #[(.int .i64 0), x31_11]) w15)
  (∃ J18 : Value → World → Prop, (∀ (x2_21 : Value) (junk19 : Env) (w20 : World), J18 x2_21 w20 →
  bin P .sub 3 false true x2_21 (.int .i64 1) w20 fun x43_22 =>
  cnv P 3 154 x43_22 w20 fun x44_23 =>
  bin P .shl 178 true false (.int .u64 1) x44_23 w20 fun x45_24 =>
  una P .not x8_7 w20 fun x47_25 =>
  ∃ J26 : Value → World → Prop, (∀ (x51_27 : Value) (junk29 : Env) (w28 : World), J26 x51_27 w28 →
  pick x47_25 x51_27 (.bool false) fun x52_30 =>
  cnd x52_30
  (bin P .sub 178 false true x45_24 (.int .u64 1) w28 fun x54_31 =>
  cnv P 178 2 x54_31 w28 fun x55_32 =>
  mki P 280 (.int .i64 1) w28 fun x56_33 =>
  K (.tuple #[x55_32, x56_33]) w28)
  (∃ J34 : Value → World → Prop, (∀ (x61_35 : Value) (junk37 : Env) (w36 : World), J34 x61_35 w36 →
  pick x8_7 x61_35 (.bool false) fun x62_38 =>
  cnd x62_38
  (cnv P 178 2 x45_24 w36 fun x64_39 =>
  una P .neg x64_39 w36 fun x65_40 =>
  mki P 280 (.int .i64 1) w36 fun x66_41 =>
  K (.tuple #[x65_40, x66_41]) w36)
  (cnv P 178 2 x30_10 w36 fun x68_42 =>
  cnd x8_7
  (una P .neg x68_42 w36 fun x71_43 =>
  K (.tuple #[x71_43, .nilIface]) w36)
  (K (.tuple #[x68_42, .nilIface]) w36))) ∧
  grd x8_7 true
  (bin P .gtr 178 false false x30_10 x45_24 w28 fun x61_44 =>
  J34 x61_44 w28)
  (J34 undef w28))) ∧
  grd x47_25 true
  (bin P .geq 178 false false x30_10 x45_24 w20 fun x51_45 =>
  J26 x51_45 w20)
  (J26 undef w20)) ∧
  (bin P .eql 3 false true a2 (.int .i64 0) w15 fun x41_46 =>
  cnd x41_46
  (J18 (.int .i64 64) w15)
  (J18 a2 w15)))) ∧
  grd x33_12 true
  (mki P 280 (.int .i64 1) w9 fun x36_47 =>
  bin P .neq 189 false false x31_11 x36_47 w9 fun x37_48 =>
  J13 x37_48 w9)
  (J13 undef w9)) ∧
  (idx P 9 a0 (.int .i64 0) w fun x16_49 =>
  bin P .eql 5 false true x16_49 (.int .u8 43) w fun x18_50 =>
  cnd x18_50
  (sli P 9 a0 (some (.int .i64 1)) none none w fun x20_51 =>
  J3 x20_51 (.bool false) w)
  (bin P .eql 5 false true x16_49 (.int .u8 45) w fun x22_52 =>
  cnd x22_52
  (sli P 9 a0 (some (.int .i64 1)) none none w fun x24_53 =>
  J3 x24_53 (.bool true) w)
  (J3 a0 (.bool false) w))))
def P_internal_strconv_ParseInt : Plan := (.seq (.reg [.op (0, 0, false), .op (1, 0, false)]) (.seq (.seq (.reg [.op (0, 0, false), .op (1, 0, false)]) (.cond (.seq (.reg [.op (0, 0, false), .op (1, 0, false), .op (2, 0, false)]) .leaf) .leaf)) (.seq (.reg [.op (0, 0, false)]) (.cut [0, 8] 33521921 (.seq (.reg [.op (0, 0, false), .op (1, 0, false)]) (.blk (.seq (.reg [.op (0, 0, false), .op (1, 0, false)]) (.cond (.reg [.op (0, 0, false), .op (1, 0, false), .op (2, 0, false)]) (.seq (.reg [.op (0, 0, false), .op (1, 0, false)]) (.cond (.seq (.reg [.op (0, 0, false), .op (1, 0, false), .op (2, 0, false)]) (.reg [.op (0, 0, false)])) .leaf)))))) (.seq (.reg [.op (0, 0, false)]) (.seq (.reg [.op (0, 0, false), .op (1, 0, false), .op (2, 0, false), .op (3, 2, false), .op (4, 0, false), .op (5, 0, false), .op (6, 0, false), .op (7, 0, false), .op (8, 0, false)]) (.seq (.seq (.reg [.op (0, 0, false), .op (1, 0, false), .op (2, 0, false), .grp 2 true [(3, 0, false), (4, 0, false), (5, 0, false)] [37] 240518168576, .op (6, 0, false)]) (.cond (.seq (.reg [.op (0, 0, false), .op (1, 0, false), .op (2, 0, false)]) .leaf) .leaf)) (.cut [2] 3298534883332 (.seq (.reg [.op (0, 0, false), .op (1, 0, false)]) (.cond (.reg [.op (0, 0, false)]) .leaf)) (.seq (.reg [.op (0, 0, false), .op (1, 0, false), .op (2, 0, false), .op (3, 0, false), .op (4, 0, false)]) (.seq (.seq (.reg [.op (0, 0, false), .op (1, 0, false), .op (2, 0, false), .grp 2 true [(3, 0, false), (4, 0, false), (5, 0, false)] [51] 3940649673949184, .op (6, 0, false)]) (.cond (.seq (.reg [.op (0, 0, false), .op (1, 0, false), .op (2, 0, false), .op (3, 0, false), .op (4, 0, false), .op (5, 0, false)]) .leaf) .leaf)) (.seq (.seq (.reg [.op (0, 0, false), .op (1, 0, false), .grp 1 true [(2, 0, false), (3, 0, false), (4, 0, false)] [61] 4035225266123964416, .op (5, 0, false)]) (.cond (.seq (.reg [.op (0, 0, false), .op (1, 0, false), .op (2, 0, false), .op (3, 0, false), .op (4, 0, false), .op (5, 0, false)]) .leaf) .leaf)) (.seq (.reg [.op (0, 0, false), .op (1, 0, false), .op (2, 0, false)]) (.seq (.seq (.reg [.op (0, 0, false)]) (.cond (.reg [.op (0, 0, false), .op (1, 0, false), .op (2, 0, false)]) .leaf)) (.seq (.reg [.op (0, 0, false), .op (1, 0, false), .op (2, 0, false)]) .leaf))))))))))))))
theorem I_internal_strconv_ParseInt {a0 a1 a2 : Value} {w : World} {K : Value → World → Prop} (h : D_internal_strconv_ParseInt a0 a1 a2 w K) : call P f_internal_strconv_ParseInt [a0, a1, a2] w K :=
  call_of_vc mixed Tryz.func258 (c := codeOf Tryz.f258) (by kernel_rfl) (by kernel_rfl) (p := P_internal_strconv_ParseInt) (by kernel_rfl) (by rw [Tryz.ntmps258]; simp) (by
    have e : D_internal_strconv_ParseInt a0 a1 a2 w K = vc P P_internal_strconv_ParseInt (codeOf Tryz.f258) (env0 [a0, a1, a2]) w (retX P Tryz.f258.results.toList K) := by kernel_rfl
    exact e ▸ h)

/-- internal/strconv.ParseUint -/
def D_internal_strconv_ParseUint (a0 a1 a2 : Value) (w : World) (K : Value → World → Prop) : Prop :=
  bin P .eql 9 false true a0 (.string ⟨#[]⟩) w fun x19_1 =>
  cnd x19_1
  (mki P 280 (.int .i64 2) w fun x20_2 =>
  K (.tuple #[(.int .u64 0), x20_2]) w)
  (bin P .eql 3 false true a1 (.int .i64 0) w fun x22_3 =>
  ∃ J4 : Value → Value → World → Prop, (∀ (x0_7 : Value) (x1_8 : Value) (junk5 : Env) (w6 : World), J4 x0_7 x1_8 w6 →
  ∃ J9 : Value → World → Prop, (∀ (x2_12 : Value) (junk10 : Env) (w11 : World), J9 x2_12 w11 →
  ∃ J13 : Value → World → Prop, (∀ (x10_16 : Value) (junk14 : Env) (w15 : World), J13 x10_16 w15 →
  cnv P 3 154 x2_12 w15 fun x95_17 =>
  bin P .shl 178 true false (.int .u64 1) x95_17 w15 fun x96_18 =>
  bin P .sub 178 false true x96_18 (.int .u64 1) w15 fun x97_19 =>
  cnv2 P 9 72 x0_7 w15 fun x99_20 w21 =>
  bl0 P .len #[72] 3 [x99_20] w21 fun x100_22 =>
  ∃ I23 : Nat → Value → Value → Value → World → Prop, (∃ m98, I23 m98 (.bool false) (.int .u64 0) (.int .i64 0) w21) ∧ ∀ (m26 : Nat) (x12_27 : Value) (x13_28 : Value) (x101_29 : Value) (junk24 : Env) (w25 : World), I23 m26 x12_27 x13_28 x101_29 w25 →
  bin P .lss 3 false false x101_29 x100_22 w25 fun x102_30 =>
  cnd x102_30
  (ixa P 72 x99_20 x101_29 w25 fun x103_31 =>
  ld P 5 x103_31 w25 fun x104_32 =>
  ∃ J33 : Value → Value → World → Prop, (∀ (x12_36 : Value) (x16_37 : Value) (junk34 : Env) (w35 : World), J33 x12_36 x16_37 w35 →
  cnv P 3 5 x1_8 w35 fun x136_38 =>
  bin P .geq 5 false false x16_37 x136_38 w35 fun x137_39 =>
  cnd x137_39
  (mki P 280 (.int .i64 2) w35 fun x138_40 =>
  K (.tuple #[(.int .u64 0), x138_40]) w35)
  (bin P .geq 178 false false x13_28 x10_16 w35 fun x141_41 =>
  cnd x141_41
  (mki P 280 (.int .i64 1) w35 fun x143_42 =>
  K (.tuple #[x97_19, x143_42]) w35)
  (cnv P 3 178 x1_8 w35 fun x146_43 =>
  bin P .mul 178 false false x13_28 x146_43 w35 fun x147_44 =>
  cnv P 5 178 x16_37 w35 fun x150_45 =>
  bin P .add 178 false false x147_44 x150_45 w35 fun x151_46 =>
  bin P .lss 178 false false x151_46 x147_44 w35 fun x154_47 =>
  ∃ J48 : Value → World → Prop, (∀ (x158_49 : Value) (junk51 : Env) (w50 : World), J48 x158_49 w50 →
  pick x154_47 (.bool true) x158_49 fun x159_52 =>
  cnd x159_52
  (mki P 280 (.int .i64 1) w50 fun x161_53 =>
  K (.tuple #[x97_19, x161_53]) w50)
  (bin P .add 3 false true x101_29 (.int .i64 1) w50 fun x163_54 =>
  ∃ m55, m55 < m26 ∧ I23 m55 x12_36 x151_46 x163_54 w50)) ∧
  grd x154_47 false
  (bin P .gtr 178 false false x151_46 x97_19 w35 fun x158_56 =>
  J48 x158_56 w35)
  (J48 undef w35)))) ∧
  (bin P .eql 5 false true x104_32 (.int .u8 95) w25 fun x108_57 =>
  ∃ J58 : Value → World → Prop, (∀ (x110_59 : Value) (junk61 : Env) (w60 : World), J58 x110_59 w60 →
  pick x108_57 x110_59 (.bool false) fun x111_62 =>
  cnd x111_62
  (bin P .add 3 false true x101_29 (.int .i64 1) w60 fun x163_63 =>
  ∃ m64, m64 < m26 ∧ I23 m64 (.bool true) x13_28 x163_63 w60)
  (bin P .leq 5 true false (.int .u8 48) x104_32 w60 fun x114_65 =>
  ∃ J66 : Value → World → Prop, (∀ (x117_67 : Value) (junk69 : Env) (w68 : World), J66 x117_67 w68 →
  pick x114_65 x117_67 (.bool false) fun x118_70 =>
  cnd x118_70
  (bin P .sub 5 false true x104_32 (.int .u8 48) w68 fun x120_71 =>
  J33 x12_27 x120_71 w68)
  (call P f_internal_strconv_lower [x104_32] w68 fun x123_72 w73 =>
  bin P .leq 5 true false (.int .u8 97) x123_72 w73 fun x124_74 =>
  ∃ J75 : Value → World → Prop, (∀ (x128_76 : Value) (junk78 : Env) (w77 : World), J75 x128_76 w77 →
  pick x124_74 x128_76 (.bool false) fun x129_79 =>
  cnd x129_79
  (call P f_internal_strconv_lower [x104_32] w77 fun x131_80 w81 =>
  bin P .sub 5 false true x131_80 (.int .u8 97) w81 fun x132_82 =>
  bin P .add 5 false true x132_82 (.int .u8 10) w81 fun x133_83 =>
  J33 x12_27 x133_83 w81)
  (mki P 280 (.int .i64 2) w77 fun x105_84 =>
  K (.tuple #[(.int .u64 0), x105_84]) w77)) ∧
  grd x124_74 true
  (call P f_internal_strconv_lower [x104_32] w73 fun x127_85 w86 =>
  bin P .leq 5 false true x127_85 (.int .u8 122) w86 fun x128_87 =>
  J75 x128_87 w86)
  (J75 undef w73))) ∧
  grd x114_65 true
  (bin P .leq 5 false true x104_32 (.int .u8 57) w60 fun x117_88 =>
  J66 x117_88 w60)
  (J66 undef w60))) ∧
  grd x108_57 true
  (J58 x22_3 w25)
  (J58 undef w25)))
  (∃ J89 : Value → World → Prop, (∀ (x168_90 : Value) (junk92 : Env) (w91 : World), J89 x168_90 w91 →
  pick x12_27 x168_90 (.bool false) fun x169_93 =>
  cnd x169_93
  (mki P 280 (.int .i64 2) w91 fun x170_94 =>
  K (.tuple #[(.int .u64 0), x170_94]) w91)
  (K (.tuple #[x13_28, .nilIface]) w91)) ∧
  grd x12_27 true
  (call P f_internal_strconv_underscoreOK [a0] w25 fun x167_95 w96 =>
  una P .not x167_95 w96 fun x168_97 =>
  J89 x168_97 w96)
  (J89 undef w25))) ∧
  (bin P .eql 3 false true x1_8 (.int .i64 10) w11 fun x91_99 =>
  cnd x91_99
  (J13 (.int .u64 1844674407370955162) w11)
  (bin P .eql 3 false true x1_8 (.int .i64 16) w11 fun x93_100 =>
  cnd x93_100
  (J13 (.int .u64 1152921504606846976) w11)
  (cnv P 3 178 x1_8 w11 fun x87_101 =>
  bin P .quo 178 true false (.int .u64 18446744073709551615) x87_101 w11 fun x88_102 =>
  bin P .add 178 false true x88_102 (.int .u64 1) w11 fun x89_103 =>
  J13 x89_103 w11)))) ∧
  (bin P .eql 3 false true a2 (.int .i64 0) w6 fun x77_104 =>
  cnd x77_104
  (J9 (.int .i64 64) w6)
  (bin P .lss 3 false true a2 (.int .i64 0) w6 fun x79_105 =>
  ∃ J106 : Value → World → Prop, (∀ (x82_107 : Value) (junk109 : Env) (w108 : World), J106 x82_107 w108 →
  pick x79_105 (.bool true) x82_107 fun x83_110 =>
  cnd x83_110
  (mki P 280 (.int .i64 4) w108 fun x84_111 =>
  K (.tuple #[(.int .u64 0), x84_111]) w108)
  (J9 a2 w108)) ∧
  grd x79_105 false
  (bin P .gtr 3 false true a2 (.int .i64 64) w6 fun x82_112 =>
  J106 x82_112 w6)
  (J106 undef w6)))) ∧
  (bin P .leq 3 true false (.int .i64 2) a1 w fun x27_113 =>
  ∃ J114 : Value → World → Prop, (∀ (x30_115 : Value) (junk117 : Env) (w116 : World), J114 x30_115 w116 →
  pick x27_113 x30_115 (.bool false) fun x31_118 =>
  cnd x31_118
  (J4 a0 a1 w116)
  (bin P .eql 3 false true a1 (.int .i64 0) w116 fun x34_119 =>
  cnd x34_119
  (idx P 9 a0 (.int .i64 0) w116 fun x36_120 =>
  bin P .eql 5 false true x36_120 (.int .u8 48) w116 fun x37_121 =>
  cnd x37_121
  (bl0 P .len #[9] 3 [a0] w116 fun x42_122 =>
  bin P .geq 3 false true x42_122 (.int .i64 3) w116 fun x43_123 =>
  ∃ J124 : Value → World → Prop, (∀ (x48_125 : Value) (junk127 : Env) (w126 : World), J124 x48_125 w126 →
  pick x43_123 x48_125 (.bool false) fun x49_128 =>
  cnd x49_128
  (sli P 9 a0 (some (.int .i64 2)) none none w126 fun x51_129 =>
  J4 x51_129 (.int .i64 2) w126)
  (bl0 P .len #[9] 3 [a0] w126 fun x54_130 =>
  bin P .geq 3 false true x54_130 (.int .i64 3) w126 fun x55_131 =>
  ∃ J132 : Value → World → Prop, (∀ (x60_133 : Value) (junk135 : Env) (w134 : World), J132 x60_133 w134 →
  pick x55_131 x60_133 (.bool false) fun x61_136 =>
  cnd x61_136
  (sli P 9 a0 (some (.int .i64 2)) none none w134 fun x63_137 =>
  J4 x63_137 (.int .i64 8) w134)
  (bl0 P .len #[9] 3 [a0] w134 fun x66_138 =>
  bin P .geq 3 false true x66_138 (.int .i64 3) w134 fun x67_139 =>
  ∃ J140 : Value → World → Prop, (∀ (x72_141 : Value) (junk143 : Env) (w142 : World), J140 x72_141 w142 →
  pick x67_139 x72_141 (.bool false) fun x73_144 =>
  cnd x73_144
  (sli P 9 a0 (some (.int .i64 2)) none none w142 fun x75_145 =>
  J4 x75_145 (.int .i64 16) w142)
  (sli P 9 a0 (some (.int .i64 1)) none none w142 fun x39_146 =>
  J4 x39_146 (.int .i64 8) w142)) ∧
  grd x67_139 true
  (idx P 9 a0 (.int .i64 1) w134 fun x70_147 =>
  call P f_internal_strconv_lower [x70_147] w134 fun x71_148 w149 =>
  bin P .eql 5 false true x71_148 (.int .u8 120) w149 fun x72_150 =>
  J140 x72_150 w149)
  (J140 undef w134))) ∧
  grd x55_131 true
  (idx P 9 a0 (.int .i64 1) w126 fun x58_151 =>
  call P f_internal_strconv_lower [x58_151] w126 fun x59_152 w153 =>
  bin P .eql 5 false true x59_152 (.int .u8 111) w153 fun x60_154 =>
  J132 x60_154 w153)
  (J132 undef w126))) ∧
  grd x43_123 true
  (idx P 9 a0 (.int .i64 1) w116 fun x46_155 =>
  call P f_internal_strconv_lower [x46_155] w116 fun x47_156 w157 =>
  bin P .eql 5 false true x47_156 (.int .u8 98) w157 fun x48_158 =>
  J124 x48_158 w157)
  (J124 undef w116))
  (J4 a0 (.int .i64 10) w116))
  (mki P 280 (.int .i64 3) w116 fun x24_159 =>
  K (.tuple #[(.int .u64 0), x24_159]) w116))) ∧
  grd x27_113 true
  (bin P .leq 3 false true a1 (.int .i64 36) w fun x30_160 =>
  J114 x30_160 w)
  (J114 undef w)))
def P_internal_strconv_ParseUint : Plan := (.seq (.reg [.op (0, 0, false), .op (1, 0, false)]) (.seq (.seq (.reg [.op (0, 0, false), .op (1, 0, false)]) (.cond (.seq (.reg [.op (0, 0, false), .op (1, 0, false), .op (2, 0, false)]) .leaf) .leaf)) (.seq (.reg [.op (0, 0, false), .op (1, 0, false), .op (2, 0, false)]) (.seq (.reg [.op (0, 0, false), .op (1, 0, false)]) (.cut [0, 1] 75557863725914306642115 (.blk (.seq (.reg [.op (0, 0, false), .op (1, 0, false), .op (2, 0, false), .grp 2 true [(3, 0, false), (4, 0, false)] [30] 1610612736, .op (5, 0, false), .op (6, 0, false)]) (.cond .leaf (.seq (.reg [.op (0, 0, false), .op (1, 0, false), .op (2, 0, false)]) (.cond (.seq (.reg [.op (0, 0, false)]) (.seq (.reg [.op (0, 0, false), .op (1, 0, false), .op (2, 0, false)]) (.cond (.blk (.seq (.reg [.op (0, 0, false), .op (1, 0, false), .op (2, 0, false), .op (3, 0, false), .grp 3 true [(4, 0, false), (5, 0, false), (6, 2, false), (7, 0, false)] [48] 527765581332480, .op (8, 0, false), .op (9, 0, false)]) (.cond (.seq (.reg [.op (0, 0, false)]) (.reg [.op (0, 0, false), .op (1, 0, false), .op (2, 0, false)])) (.seq (.reg [.op (0, 0, false), .op (1, 0, false), .op (2, 0, false), .op (3, 0, false), .grp 3 true [(4, 0, false), (5, 0, false), (6, 2, false), (7, 0, false)] [60] 2161727821137838080, .op (8, 0, false), .op (9, 0, false)]) (.cond (.seq (.reg [.op (0, 0, false)]) (.reg [.op (0, 0, false), .op (1, 0, false), .op (2, 0, false)])) (.seq (.reg [.op (0, 0, false), .op (1, 0, false), .op (2, 0, false), .op (3, 0, false), .grp 3 true [(4, 0, false), (5, 0, false), (6, 2, false), (7, 0, false)] [72] 8854437155380584775680, .op (8, 0, false), .op (9, 0, false)]) (.cond (.seq (.reg [.op (0, 0, false)]) (.reg [.op (0, 0, false), .op (1, 0, false), .op (2, 0, false)])) (.seq (.reg [.op (0, 0, false)]) (.reg [.op (0, 0, false), .op (1, 0, false), .op (2, 0, false)]))))))))) .leaf))) (.seq (.reg [.op (0, 0, false), .op (1, 0, false), .op (2, 0, false)]) .leaf)))))) (.cut [2] 38610068363942219267178692 (.seq (.reg [.op (0, 0, false), .op (1, 0, false)]) (.cond (.reg [.op (0, 0, false)]) (.seq (.reg [.op (0, 0, false), .op (1, 0, false), .op (2, 0, false), .grp 2 false [(3, 0, false), (4, 0, false)] [82] 7253554917687775048237056, .op (5, 0, false)]) (.cond (.seq (.reg [.op (0, 0, false), .op (1, 0, false), .op (2, 0, false)]) .leaf) .leaf)))) (.seq (.reg [.op (0, 0, false)]) (.cut [10] 19768355002338416264795390976 (.seq (.reg [.op (0, 0, false)]) (.blk (.seq (.reg [.op (0, 0, false), .op (1, 0, false)]) (.cond (.reg [.op (0, 0, false)]) (.seq (.reg [.op (0, 0, false), .op (1, 0, false)]) (.cond (.reg [.op (0, 0, false)]) (.reg [.op (0, 0, false), .op (1, 0, false), .op (2, 0, false), .op (3, 0, false), .op (4, 0, false)]))))))) (.seq (.reg [.op (0, 0, false), .op (1, 0, false), .op (2, 0, false), .op (3, 0, false), .op (4, 0, false)]) (.seq (.reg [.op (0, 0, false)]) (.seq (.reg [.op (0, 0, false)]) (.seq (.seq (.reg [.op (0, 0, false), .op (1, 2, false), .op (2, 0, false), .op (3, 0, false)]) (.blk (.loop [12, 13, 101] 23384026197294446688723656123004069511501514518720 (.seq (.reg [.op (0, 0, false)]) (.seq (.cond .leaf .leaf) (.seq (.blk (.seq (.reg [.op (0, 0, false), .op (1, 0, false), .op (2, 0, false)]) (.seq (.reg [.op (0, 0, false)]) (.cut [12, 16] 21778071442375242454352634027738663030976 (.blk (.seq (.reg [.op (0, 0, false), .op (1, 0, false), .op (2, 0, false), .grp 2 true [(3, 0, false)] [110] 1298074214633706907132624082305024, .op (4, 0, false), .op (5, 0, false)]) (.cond (.seq (.reg [.op (0, 0, false)]) .leaf) (.seq (.reg [.op (0, 0, false), .op (1, 0, false), .op (2, 0, false), .grp 2 true [(3, 0, false), (4, 0, false)] [117] 249230249209671726169463823802564608, .op (5, 0, false), .op (6, 0, false)]) (.cond (.reg [.op (0, 0, false), .op (1, 0, false), .op (2, 0, false)]) (.seq (.reg [.op (0, 0, false), .op (1, 2, false), .op (2, 0, false), .op (3, 0, false), .grp 3 true [(4, 0, false), (5, 2, false), (6, 0, false)] [128] 595494142111642311060905563005594370048, .op (7, 0, false), .op (8, 0, false)]) (.cond (.reg [.op (0, 0, false), .op (1, 2, false), .op (2, 0, false), .op (3, 0, false), .op (4, 0, false)]) (.seq (.reg [.op (0, 0, false), .op (1, 0, false), .op (2, 0, false)]) .leaf)))))))) (.seq (.seq (.reg [.op (0, 0, false), .op (1, 0, false), .op (2, 0, false), .op (3, 0, false)]) (.cond (.seq (.reg [.op (0, 0, false), .op (1, 0, false), .op (2, 0, false)]) .leaf) .leaf)) (.seq (.seq (.reg [.op (0, 0, false), .op (1, 0, false), .op (2, 0, false)]) (.cond (.seq (.reg [.op (0, 0, false), .op (1, 0, false), .op (2, 0, false), .op (3, 0, false)]) .leaf) .leaf)) (.seq (.reg [.op (0, 0, false), .op (1, 0, false), .op (2, 0, false), .op (3, 0, false), .op (4, 0, false)]) (.seq (.reg [.op (0, 0, false), .op (1, 0, false), .op (2, 0, false), .op (3, 0, false), .op (4, 0, false)]) (.seq (.seq (.reg [.op (0, 0, false), .op (1, 0, false), .op (2, 0, false), .op (3, 0, false), .grp 3 false [(4, 0, false), (5, 0, false), (6, 0, false)] [158] 639406966332270026714112114313373821099470487552, .op (7, 0, false)]) (.cond (.seq (.reg [.op (0, 0, false), .op (1, 0, false), .op (2, 0, false), .op (3, 0, false)]) .leaf) .leaf)) (.reg [.op (0, 0, false), .op (1, 0, false)])))))))))) (.reg [.op (0, 0, false), .op (1, 0, false)]))))))) (.seq (.seq (.reg [.op (0, 0, false), .op (1, 0, false), .grp 1 true [(2, 0, false), (3, 2, false), (4, 0, false)] [168] 654752733524244507355250805056894792805857779253248, .op (5, 0, false)]) (.cond (.seq (.reg [.op (0, 0, false), .op (1, 0, false), .op (2, 0, false)]) .leaf) .leaf)) (.seq (.reg [.op (0, 0, false), .op (1, 0, false), .op (2, 0, false)]) .leaf))))))))))))))
theorem I_internal_strconv_ParseUint {a0 a1 a2 : Value} {w : World} {K : Value → World → Prop} (h : D_internal_strconv_ParseUint a0 a1 a2 w K) : call P f_internal_strconv_ParseUint [a0, a1, a2] w K :=
  call_of_vc mixed Tryz.func275 (c := codeOf Tryz.f275) (by kernel_rfl) (by kernel_rfl) (p := P_internal_strconv_ParseUint) (by kernel_rfl) (by rw [Tryz.ntmps275]; simp) (by
    have e : D_internal_strconv_ParseUint a0 a1 a2 w K = vc P P_internal_strconv_ParseUint (codeOf Tryz.f275) (env0 [a0, a1, a2]) w (retX P Tryz.f275.results.toList K) := by kernel_rfl
    exact e ▸ h)

/-- cmp.Compare[int] -/
def D_cmp_Compare_int (a0 a1 : Value) (w : World) (K : Value → World → Prop) : Prop :=
  call P f_cmp_isNaN_int [a0] w fun x8_1 w2 =>
  call P f_cmp_isNaN_int [a1] w2 fun x10_3 w4 =>
  cnd x8_1
  (cnd x10_3
  (K (.int .i64 0) w4)
  (K (.int .i64 (-1)) w4))
  (cnd x10_3
  (K (.int .i64 1) w4)
  (bin P .lss 3 false false a0 a1 w4 fun x16_5 =>
  cnd x16_5
  (K (.int .i64 (-1)) w4)
  (bin P .gtr 3 false false a0 a1 w4 fun x19_6 =>
  cnd x19_6
  (K (.int .i64 1) w4)
  (K (.int .i64 0) w4))))
def P_cmp_Compare_int : Plan := (.seq (.reg [.op (0, 0, false)]) (.seq (.reg [.op (0, 0, false), .op (1, 2, false), .op (2, 0, false)]) (.seq (.reg [.op (0, 0, false), .op (1, 2, false), .op (2, 0, false)]) (.seq (.seq (.reg [.op (0, 0, false)]) (.cond (.seq (.seq (.reg [.op (0, 0, false)]) (.cond (.seq (.reg [.op (0, 0, false)]) .leaf) .leaf)) (.seq (.reg [.op (0, 0, false)]) .leaf)) .leaf)) (.seq (.seq (.reg [.op (0, 0, false)]) (.cond (.seq (.reg [.op (0, 0, false)]) .leaf) .leaf)) (.seq (.seq (.reg [.op (0, 0, false), .op (1, 0, false), .op (2, 0, false)]) (.cond (.seq (.reg [.op (0, 0, false)]) .leaf) .leaf)) (.seq (.seq (.reg [.op (0, 0, false), .op (1, 0, false), .op (2, 0, false)]) (.cond (.seq (.reg [.op (0, 0, false)]) .leaf) .leaf)) (.seq (.reg [.op (0, 0, false)]) .leaf))))))))
theorem I_cmp_Compare_int {a0 a1 : Value} {w : World} {K : Value → World → Prop} (h : D_cmp_Compare_int a0 a1 w K) : call P f_cmp_Compare_int [a0, a1] w K :=
  call_of_vc mixed Tryz.func285 (c := codeOf Tryz.f285) (by kernel_rfl) (by kernel_rfl) (p := P_cmp_Compare_int) (by kernel_rfl) (by rw [Tryz.ntmps285]; simp) (by
    have e : D_cmp_Compare_int a0 a1 w K = vc P P_cmp_Compare_int (codeOf Tryz.f285) (env0 [a0, a1]) w (retX P Tryz.f285.results.toList K) := by kernel_rfl
    exact e ▸ h)

/-- cmp.Compare[uint32] -/
def D_cmp_Compare_uint32 (a0 a1 : Value) (w : World) (K : Value → World → Prop) : Prop :=
  call P f_cmp_isNaN_uint32 [a0] w fun x8_1 w2 =>
  call P f_cmp_isNaN_uint32 [a1] w2 fun x10_3 w4 =>
  cnd x8_1
  (cnd x10_3
  (K (.int .i64 0) w4)
  (K (.int .i64 (-1)) w4))
  (cnd x10_3
  (K (.int .i64 1) w4)
  (bin P .lss 202 false false a0 a1 w4 fun x16_5 =>
  cnd x16_5
  (K (.int .i64 (-1)) w4)
  (bin P .gtr 202 false false a0 a1 w4 fun x19_6 =>
  cnd x19_6
  (K (.int .i64 1) w4)
  (K (.int .i64 0) w4))))
def P_cmp_Compare_uint32 : Plan := (.seq (.reg [.op (0, 0, false)]) (.seq (.reg [.op (0, 0, false), .op (1, 2, false), .op (2, 0, false)]) (.seq (.reg [.op (0, 0, false), .op (1, 2, false), .op (2, 0, false)]) (.seq (.seq (.reg [.op (0, 0, false)]) (.cond (.seq (.seq (.reg [.op (0, 0, false)]) (.cond (.seq (.reg [.op (0, 0, false)]) .leaf) .leaf)) (.seq (.reg [.op (0, 0, false)]) .leaf)) .leaf)) (.seq (.seq (.reg [.op (0, 0, false)]) (.cond (.seq (.reg [.op (0, 0, false)]) .leaf) .leaf)) (.seq (.seq (.reg [.op (0, 0, false), .op (1, 0, false), .op (2, 0, false)]) (.cond (.seq (.reg [.op (0, 0, false)]) .leaf) .leaf)) (.seq (.seq (.reg [.op (0, 0, false), .op (1, 0, false), .op (2, 0, false)]) (.cond (.seq (.reg [.op (0, 0, false)]) .leaf) .leaf)) (.seq (.reg [.op (0, 0, false)]) .leaf))))))))
theorem I_cmp_Compare_uint32 {a0 a1 : Value} {w : World} {K : Value → World → Prop} (h : D_cmp_Compare_uint32 a0 a1 w K) : call P f_cmp_Compare_uint32 [a0, a1] w K :=
  call_of_vc mixed Tryz.func286 (c := codeOf Tryz.f286) (by kernel_rfl) (by kernel_rfl) (p := P_cmp_Compare_uint32) (by kernel_rfl) (by rw [Tryz.ntmps286]; simp) (by
    have e : D_cmp_Compare_uint32 a0 a1 w K = vc P P_cmp_Compare_uint32 (codeOf Tryz.f286) (env0 [a0, a1]) w (retX P Tryz.f286.results.toList K) := by kernel_rfl
    exact e ▸ h)

/-- cmp.isNaN[int] -/
def D_cmp_isNaN_int (a0 : Value) (w : World) (K : Value → World → Prop) : Prop :=
  bin P .neq 3 false false a0 a0 w fun x5_1 =>
  K x5_1 w
def P_cmp_isNaN_int : Plan := (.seq (.reg [.op (0, 0, false)]) (.seq (.reg [.op (0, 0, false), .op (1, 0, false), .op (2, 0, false), .op (3, 0, false)]) .leaf))
theorem I_cmp_isNaN_int {a0 : Value} {w : World} {K : Value → World → Prop} (h : D_cmp_isNaN_int a0 w K) : call P f_cmp_isNaN_int [a0] w K :=
  call_of_vc mixed Tryz.func298 (c := codeOf Tryz.f298) (by kernel_rfl) (by kernel_rfl) (p := P_cmp_isNaN_int) (by kernel_rfl) (by rw [Tryz.ntmps298]; simp) (by
    have e : D_cmp_isNaN_int a0 w K = vc P P_cmp_isNaN_int (codeOf Tryz.f298) (env0 [a0]) w (retX P Tryz.f298.results.toList K) := by kernel_rfl
    exact e ▸ h)

/-- cmp.isNaN[uint32] -/
def D_cmp_isNaN_uint32 (a0 : Value) (w : World) (K : Value → World → Prop) : Prop :=
  bin P .neq 202 false false a0 a0 w fun x5_1 =>
  K x5_1 w
def P_cmp_isNaN_uint32 : Plan := (.seq (.reg [.op (0, 0, false)]) (.seq (.reg [.op (0, 0, false), .op (1, 0, false), .op (2, 0, false), .op (3, 0, false)]) .leaf))
theorem I_cmp_isNaN_uint32 {a0 : Value} {w : World} {K : Value → World → Prop} (h : D_cmp_isNaN_uint32 a0 w K) : call P f_cmp_isNaN_uint32 [a0] w K :=
  call_of_vc mixed Tryz.func299 (c := codeOf Tryz.f299) (by kernel_rfl) (by kernel_rfl) (p := P_cmp_isNaN_uint32) (by kernel_rfl) (by rw [Tryz.ntmps299]; simp) (by
    have e : D_cmp_isNaN_uint32 a0 w K = vc P P_cmp_isNaN_uint32 (codeOf Tryz.f299) (env0 [a0]) w (retX P Tryz.f299.results.toList K) := by kernel_rfl
    exact e ▸ h)

end Go.Proofs.YtjompmflommadaaGreatDoor

/- Written by a program (gen.py): what is left to show of each function's call. -/
set_option linter.unusedVariables false
set_option maxRecDepth 20000
namespace Go.Proofs.YtjompmflommadaaGreatDoor
open Go Go.Vc

/-- impl.newInt -/
def D_impl_newInt (a0 : Value) (w : World) (K : Value → World → Prop) : Prop :=
  alc P 158 w fun x3_1 w2 =>
  call P f_impl_integer_SetInt64 [x3_1, a0] w2 fun x5_3 w4 =>
  K x5_3 w4
def P_impl_newInt : Plan := (.seq (.reg [.op (0, 0, false)]) (.seq (.reg [.op (0, 2, false), .op (1, 0, false), .op (2, 2, false), .op (3, 0, false)]) .leaf))
theorem I_impl_newInt {a0 : Value} {w : World} {K : Value → World → Prop} (h : D_impl_newInt a0 w K) : call P f_impl_newInt [a0] w K :=
  call_of_vc mixed Tryz.func124 (c := codeOf Tryz.f124) (by kernel_rfl) (by kernel_rfl) (p := P_impl_newInt) (by kernel_rfl) (by rw [Tryz.ntmps124]; simp) (by
    have e : D_impl_newInt a0 w K = vc P P_impl_newInt (codeOf Tryz.f124) (env0 [a0]) w (retX P Tryz.f124.results.toList K) := by kernel_rfl
    exact e ▸ h)

/-- (*impl.integer).TrailingZeroBits -/
def D_impl_integer_TrailingZeroBits (a0 : Value) (w : World) (K : Value → World → Prop) : Prop :=
  ∃ I1 : Nat → Value → World → Prop, (∃ m20, I1 m20 (.int .i64 0) w) ∧ ∀ (m4 : Nat) (x3_5 : Value) (junk2 : Env) (w3 : World), I1 m4 x3_5 w3 →
  call P f_impl_integer_BitLen [a0] w3 fun x6_6 w7 =>
  bin P .lss 3 false false x3_5 x6_6 w7 fun x7_8 =>
  ∃ J9 : Value → World → Prop, (∀ (x12_10 : Value) (junk12 : Env) (w11 : World), J9 x12_10 w11 →
  pick x7_8 x12_10 (.bool false) fun x13_13 =>
  cnd x13_13
  (bin P .add 3 false true x3_5 (.int .i64 1) w11 fun x15_14 =>
  ∃ m15, m15 < m4 ∧ I1 m15 x15_14 w11)
  (cnv P 3 154 x3_5 w11 fun x17_16 =>
  K x17_16 w11)) ∧
  grd x7_8 true
  (call P f_impl_integer_Bit [a0, x3_5] w7 fun x11_17 w18 =>
  bin P .eql 154 false true x11_17 (.int .u64 0) w18 fun x12_19 =>
  J9 x12_19 w18)
  (J9 undef w7)
def P_impl_integer_TrailingZeroBits : Plan := (.seq (.reg [.op (0, 0, false)]) (.seq (.reg [.op (0, 0, false)]) (.seq (.blk (.loop [3] 65528 (.seq (.seq (.reg [.op (0, 0, false), .op (1, 0, false), .op (2, 2, false), .op (3, 0, false), .op (4, 0, false), .grp 4 true [(5, 0, false), (6, 0, false), (7, 2, false), (8, 0, false)] [12] 7680, .op (9, 0, false)]) (.cond .leaf .leaf)) (.blk (.reg [.op (0, 0, false), .op (1, 0, false), .op (2, 0, false)]))))) (.seq (.reg [.op (0, 0, false), .op (1, 0, false), .op (2, 0, false)]) .leaf))))
theorem I_impl_integer_TrailingZeroBits {a0 : Value} {w : World} {K : Value → World → Prop} (h : D_impl_integer_TrailingZeroBits a0 w K) : call P f_impl_integer_TrailingZeroBits [a0] w K :=
  call_of_vc mixed Tryz.func127 (c := codeOf Tryz.f127) (by kernel_rfl) (by kernel_rfl) (p := P_impl_integer_TrailingZeroBits) (by kernel_rfl) (by rw [Tryz.ntmps127]; simp) (by
    have e : D_impl_integer_TrailingZeroBits a0 w K = vc P P_impl_integer_TrailingZeroBits (codeOf Tryz.f127) (env0 [a0]) w (retX P Tryz.f127.results.toList K) := by kernel_rfl
    exact e ▸ h)

/-- (*impl.integer).Rsh -/
def D_impl_integer_Rsh (a0 a1 a2 : Value) (w : World) (K : Value → World → Prop) : Prop :=
  nch a1 fun x9_1 =>
  fda P 158 x9_1 0 w fun x10_2 =>
  ld P 4 x10_2 w fun x11_3 =>
  una P .not x11_3 w fun x12_4 =>
  cnd x12_4
  (nch a1 fun x15_5 =>
  fda P 158 x15_5 1 w fun x16_6 =>
  ld P 156 x16_6 w fun x17_7 =>
  call P f_impl_magRight [x17_7, a2] w fun x19_8 w9 =>
  call P f_impl_integer_put [a0, (.bool false), x19_8] w9 fun x20_10 w11 =>
  K x20_10 w11)
  (nch a1 fun x22_12 =>
  fda P 158 x22_12 1 w fun x23_13 =>
  ld P 156 x23_13 w fun x24_14 =>
  bsl P 156 1 [(0, (.int .u32 1))] w fun x25_15 w16 =>
  call P f_impl_magSub [x24_14, x25_15] w16 fun x26_17 w18 =>
  call P f_impl_magRight [x26_17, a2] w18 fun x30_19 w20 =>
  bsl P 156 1 [(0, (.int .u32 1))] w20 fun x31_21 w22 =>
  call P f_impl_magAdd [x30_19, x31_21] w22 fun x32_23 w24 =>
  call P f_impl_integer_put [a0, (.bool true), x32_23] w24 fun x33_25 w26 =>
  K x33_25 w26)
def P_impl_integer_Rsh : Plan := (.seq (.reg [.op (0, 0, false)]) (.seq (.seq (.reg [.op (0, 0, false), .op (1, 0, false), .op (2, 0, false), .op (3, 0, false), .op (4, 0, false)]) (.cond (.seq (.reg [.op (0, 0, false), .op (1, 0, false), .op (2, 0, false), .op (3, 0, false), .op (4, 0, false), .op (5, 0, false), .op (6, 2, false), .op (7, 2, false), .op (8, 0, false)]) .leaf) .leaf)) (.seq (.reg [.op (0, 0, false), .op (1, 0, false), .op (2, 0, false), .op (3, 0, false), .op (4, 2, false), .op (5, 2, false), .op (6, 0, false)]) (.seq (.reg [.op (0, 0, false), .op (1, 0, false), .op (2, 0, false), .op (3, 2, false), .op (4, 2, false), .op (5, 2, false), .op (6, 2, false), .op (7, 0, false)]) .leaf))))
theorem I_impl_integer_Rsh {a0 a1 a2 : Value} {w : World} {K : Value → World → Prop} (h : D_impl_integer_Rsh a0 a1 a2 w K) : call P f_impl_integer_Rsh [a0, a1, a2] w K :=
  call_of_vc mixed Tryz.func128 (c := codeOf Tryz.f128) (by kernel_rfl) (by kernel_rfl) (p := P_impl_integer_Rsh) (by kernel_rfl) (by rw [Tryz.ntmps128]; simp) (by
    have e : D_impl_integer_Rsh a0 a1 a2 w K = vc P P_impl_integer_Rsh (codeOf Tryz.f128) (env0 [a0, a1, a2]) w (retX P Tryz.f128.results.toList K) := by kernel_rfl
    exact e ▸ h)

/-- impl.fromBig -/
def D_impl_fromBig (a0 : Value) (w : World) (K : Value → World → Prop) : Prop :=
  alc P 55 w fun x2_1 w2 =>
  call P f_impl_integer_BitLen [a0] w2 fun x8_3 w4 =>
  bin P .gtr 3 false true x8_3 (.int .i64 2400) w4 fun x9_5 =>
  cnd x9_5
  (bld P 55 [] w4 fun x10_6 =>
  sto P 55 x2_1 x10_6 w4 fun w8 =>
  ldc P 55 x2_1 w8 fun r9 =>
  K (.tuple #[r9, (.bool false)]) w8)
  (call P f_impl_integer_Sign [a0] w4 fun x12_10 w11 =>
  bld P 55 [(0, x12_10)] w11 fun x13_12 =>
  alc P 55 w11 fun x4_13 w14 =>
  sto P 55 x4_13 x13_12 w14 fun w16 =>
  alc P 158 w16 fun x14_17 w18 =>
  call P f_impl_integer_Abs [x14_17, a0] w18 fun x16_19 w20 =>
  call P f_impl_newInt [(.int .i64 16777215)] w20 fun x17_21 w22 =>
  ∃ I23 : Nat → World → Prop, (∃ m52, I23 m52 w22) ∧ ∀ (m26 : Nat) (junk24 : Env) (w25 : World), I23 m26 w25 →
  call P f_impl_integer_Sign [x16_19] w25 fun x19_27 w28 =>
  bin P .gtr 3 false true x19_27 (.int .i64 0) w28 fun x20_29 =>
  cnd x20_29
  (fda P 55 x4_13 1 w28 fun x21_30 =>
  ld P 53 x21_30 w28 fun x22_31 =>
  alc P 158 w28 fun x23_32 w33 =>
  Ext w28 w33 ∧ call P f_impl_integer_And [x23_32, x16_19, x17_21] w33 fun x26_34 w35 =>
  (fda P 55 x4_13 1 w35 fun z => z = x21_30) ∧ (ld P 53 x21_30 w35 fun z => z = x22_31) ∧ call P f_impl_integer_Int64 [x26_34] w35 fun x27_36 w37 =>
  Ext w35 w37 ∧ bsl P 53 1 [(0, x27_36)] w37 fun x28_38 w39 =>
  Ext w37 w39 ∧ bl2 P .append #[53, 53] 53 [x22_31, x28_38] w39 fun x29_40 w41 =>
  fda P 55 x4_13 1 w41 fun x30_42 =>
  sto P 53 x30_42 x29_40 w41 fun w44 =>
  call P f_impl_integer_Rsh [x16_19, x16_19, (.int .u64 24)] w44 fun x33_45 w46 =>
  ∃ m47, m47 < m26 ∧ I23 m47 w46)
  (ld P 55 x4_13 w28 fun x34_48 =>
  sto P 55 x2_1 x34_48 w28 fun w50 =>
  ldc P 55 x2_1 w50 fun r51 =>
  K (.tuple #[r51, (.bool true)]) w50))
def P_impl_fromBig : Plan := (.seq (.reg [.op (0, 2, false), .op (1, 0, false)]) (.seq (.seq (.reg [.op (0, 0, false), .op (1, 2, false), .op (2, 0, false)]) (.cond (.seq (.reg [.op (0, 0, false), .op (1, 2, false), .op (2, 0, false)]) .leaf) .leaf)) (.seq (.reg [.op (0, 0, false), .op (1, 2, false), .op (2, 0, false), .op (3, 2, false), .op (4, 2, false)]) (.seq (.reg [.op (0, 2, false), .op (1, 0, false), .op (2, 2, false), .op (3, 0, false)]) (.seq (.reg [.op (0, 2, false), .op (1, 0, false)]) (.seq (.blk (.loop [] 17179607040 (.seq (.seq (.reg [.op (0, 0, false), .op (1, 2, false), .op (2, 0, false)]) (.cond .leaf .leaf)) (.blk (.seq (.reg [.op (0, 0, false), .op (1, 0, false), .op (3, 0, false), .op (4, 0, false), .op (2, 2, true), .op (5, 5, false), .op (6, 2, true), .op (7, 2, true), .op (8, 2, false), .op (9, 0, false), .op (10, 2, false)]) (.reg [.op (0, 0, false), .op (1, 0, false), .op (2, 2, false)])))))) (.seq (.reg [.op (0, 0, false), .op (1, 2, false), .op (2, 0, false)]) .leaf)))))))
theorem I_impl_fromBig {a0 : Value} {w : World} {K : Value → World → Prop} (h : D_impl_fromBig a0 w K) : call P f_impl_fromBig [a0] w K :=
  call_of_vc mixed Tryz.func137 (c := codeOf Tryz.f137) (by kernel_rfl) (by kernel_rfl) (p := P_impl_fromBig) (by kernel_rfl) (by rw [Tryz.ntmps137]; simp) (by
    have e : D_impl_fromBig a0 w K = vc P P_impl_fromBig (codeOf Tryz.f137) (env0 [a0]) w (retX P Tryz.f137.results.toList K) := by kernel_rfl
    exact e ▸ h)

/-- (*impl.integer).SetInt64 -/
def D_impl_integer_SetInt64 (a0 a1 : Value) (w : World) (K : Value → World → Prop) : Prop :=
  cnv P 2 178 a1 w fun x7_1 =>
  ∃ J2 : Value → World → Prop, (∀ (x5_5 : Value) (junk3 : Env) (w4 : World), J2 x5_5 w4 →
  bin P .lss 2 false true a1 (.int .i64 0) w4 fun x14_6 =>
  cnv P 178 202 x5_5 w4 fun x16_7 =>
  bin P .shr 178 false true x5_5 (.int .u64 32) w4 fun x18_8 =>
  cnv P 178 202 x18_8 w4 fun x19_9 =>
  bsl P 156 2 [(0, x16_7), (1, x19_9)] w4 fun x20_10 w11 =>
  call P f_impl_integer_put [a0, x14_6, x20_10] w11 fun x21_12 w13 =>
  K x21_12 w13) ∧
  (bin P .lss 2 false true a1 (.int .i64 0) w fun x9_14 =>
  cnd x9_14
  (una P .neg x7_1 w fun x11_15 =>
  J2 x11_15 w)
  (J2 x7_1 w))
def P_impl_integer_SetInt64 : Plan := (.seq (.reg [.op (0, 0, false)]) (.seq (.reg [.op (0, 0, false), .op (1, 0, false), .op (2, 0, false)]) (.cut [5] 3872 (.seq (.reg [.op (0, 0, false), .op (1, 0, false)]) (.cond (.reg [.op (0, 0, false), .op (1, 0, false), .op (2, 0, false)]) .leaf)) (.seq (.reg [.op (0, 0, false), .op (1, 0, false), .op (2, 0, false), .op (3, 0, false), .op (4, 0, false), .op (5, 0, false), .op (6, 0, false), .op (7, 0, false), .op (8, 2, false), .op (9, 2, false), .op (10, 0, false)]) .leaf))))
theorem I_impl_integer_SetInt64 {a0 a1 : Value} {w : World} {K : Value → World → Prop} (h : D_impl_integer_SetInt64 a0 a1 w K) : call P f_impl_integer_SetInt64 [a0, a1] w K :=
  call_of_vc mixed Tryz.func174 (c := codeOf Tryz.f174) (by kernel_rfl) (by kernel_rfl) (p := P_impl_integer_SetInt64) (by kernel_rfl) (by rw [Tryz.ntmps174]; simp) (by
    have e : D_impl_integer_SetInt64 a0 a1 w K = vc P P_impl_integer_SetInt64 (codeOf Tryz.f174) (env0 [a0, a1]) w (retX P Tryz.f174.results.toList K) := by kernel_rfl
    exact e ▸ h)

/-- (*impl.integer).Sign -/
def D_impl_integer_Sign (a0 : Value) (w : World) (K : Value → World → Prop) : Prop :=
  nch a0 fun x5_1 =>
  fda P 158 x5_1 0 w fun x6_2 =>
  ld P 4 x6_2 w fun x7_3 =>
  cnd x7_3
  (K (.int .i64 (-1)) w)
  (nch a0 fun x10_4 =>
  fda P 158 x10_4 1 w fun x11_5 =>
  ld P 156 x11_5 w fun x12_6 =>
  bl0 P .len #[156] 3 [x12_6] w fun x13_7 =>
  bin P .gtr 3 false true x13_7 (.int .i64 0) w fun x14_8 =>
  cnd x14_8
  (K (.int .i64 1) w)
  (K (.int .i64 0) w))
def P_impl_integer_Sign : Plan := (.seq (.reg [.op (0, 0, false)]) (.seq (.blk (.seq (.reg [.op (0, 0, false), .op (1, 0, false), .op (2, 0, false), .op (3, 0, false), .op (4, 0, false)]) (.cond (.seq (.reg [.op (0, 0, false)]) .leaf) (.seq (.reg [.op (0, 0, false), .op (1, 0, false), .op (2, 0, false), .op (3, 0, false), .op (4, 0, false), .op (5, 0, false), .op (6, 0, false)]) (.cond (.seq (.reg [.op (0, 0, false)]) .leaf) .leaf))))) (.seq (.reg [.op (0, 0, false)]) .leaf)))
theorem I_impl_integer_Sign {a0 : Value} {w : World} {K : Value → World → Prop} (h : D_impl_integer_Sign a0 w K) : call P f_impl_integer_Sign [a0] w K :=
  call_of_vc mixed Tryz.func175 (c := codeOf Tryz.f175) (by kernel_rfl) (by kernel_rfl) (p := P_impl_integer_Sign) (by kernel_rfl) (by rw [Tryz.ntmps175]; simp) (by
    have e : D_impl_integer_Sign a0 w K = vc P P_impl_integer_Sign (codeOf Tryz.f175) (env0 [a0]) w (retX P Tryz.f175.results.toList K) := by kernel_rfl
    exact e ▸ h)

/-- (*impl.integer).BitLen -/
def D_impl_integer_BitLen (a0 : Value) (w : World) (K : Value → World → Prop) : Prop :=
  nch a0 fun x4_1 =>
  fda P 158 x4_1 1 w fun x5_2 =>
  ld P 156 x5_2 w fun x6_3 =>
  call P f_impl_magBits [x6_3] w fun x7_4 w5 =>
  K x7_4 w5
def P_impl_integer_BitLen : Plan := (.seq (.reg [.op (0, 0, false)]) (.seq (.reg [.op (0, 0, false), .op (1, 0, false), .op (2, 0, false), .op (3, 0, false), .op (4, 2, false), .op (5, 0, false)]) .leaf))
theorem I_impl_integer_BitLen {a0 : Value} {w : World} {K : Value → World → Prop} (h : D_impl_integer_BitLen a0 w K) : call P f_impl_integer_BitLen [a0] w K :=
  call_of_vc mixed Tryz.func176 (c := codeOf Tryz.f176) (by kernel_rfl) (by kernel_rfl) (p := P_impl_integer_BitLen) (by kernel_rfl) (by rw [Tryz.ntmps176]; simp) (by
    have e : D_impl_integer_BitLen a0 w K = vc P P_impl_integer_BitLen (codeOf Tryz.f176) (env0 [a0]) w (retX P Tryz.f176.results.toList K) := by kernel_rfl
    exact e ▸ h)

/-- (*impl.integer).Bit -/
def D_impl_integer_Bit (a0 a1 : Value) (w : World) (K : Value → World → Prop) : Prop :=
  bin P .quo 3 false true a1 (.int .i64 32) w fun x6_1 =>
  nch a0 fun x8_2 =>
  fda P 158 x8_2 1 w fun x9_3 =>
  ld P 156 x9_3 w fun x10_4 =>
  bl0 P .len #[156] 3 [x10_4] w fun x11_5 =>
  bin P .geq 3 false false x6_1 x11_5 w fun x12_6 =>
  cnd x12_6
  (K (.int .u64 0) w)
  (nch a0 fun x14_7 =>
  fda P 158 x14_7 1 w fun x15_8 =>
  ld P 156 x15_8 w fun x16_9 =>
  bin P .quo 3 false true a1 (.int .i64 32) w fun x18_10 =>
  ixa P 156 x16_9 x18_10 w fun x19_11 =>
  ld P 202 x19_11 w fun x20_12 =>
  bin P .rem 3 false true a1 (.int .i64 32) w fun x22_13 =>
  bin P .shr 202 false false x20_12 x22_13 w fun x23_14 =>
  bin P .and 202 false true x23_14 (.int .u32 1) w fun x24_15 =>
  cnv P 202 154 x24_15 w fun x25_16 =>
  K x25_16 w)
def P_impl_integer_Bit : Plan := (.seq (.reg [.op (0, 0, false)]) (.seq (.seq (.reg [.op (0, 0, false), .op (1, 0, false), .op (2, 0, false), .op (3, 0, false), .op (4, 0, false), .op (5, 0, false), .op (6, 0, false), .op (7, 0, false)]) (.cond (.seq (.reg [.op (0, 0, false)]) .leaf) .leaf)) (.seq (.reg [.op (0, 0, false), .op (1, 0, false), .op (2, 0, false), .op (3, 0, false), .op (4, 0, false), .op (5, 0, false), .op (6, 0, false), .op (7, 0, false), .op (8, 0, false), .op (9, 0, false), .op (10, 0, false), .op (11, 0, false), .op (12, 0, false), .op (13, 0, false)]) .leaf)))
theorem I_impl_integer_Bit {a0 a1 : Value} {w : World} {K : Value → World → Prop} (h : D_impl_integer_Bit a0 a1 w K) : call P f_impl_integer_Bit [a0, a1] w K :=
  call_of_vc mixed Tryz.func177 (c := codeOf Tryz.f177) (by kernel_rfl) (by kernel_rfl) (p := P_impl_integer_Bit) (by kernel_rfl) (by rw [Tryz.ntmps177]; simp) (by
    have e : D_impl_integer_Bit a0 a1 w K = vc P P_impl_integer_Bit (codeOf Tryz.f177) (env0 [a0, a1]) w (retX P Tryz.f177.results.toList K) := by kernel_rfl
    exact e ▸ h)

/-- (*impl.integer).put -/
def D_impl_integer_put (a0 a1 a2 : Value) (w : World) (K : Value → World → Prop) : Prop :=
  call P f_impl_magTrim [a2] w fun x9_1 w2 =>
  nch a0 fun x10_3 =>
  fda P 158 x10_3 1 w2 fun x11_4 =>
  sto P 156 x11_4 x9_1 w2 fun w6 =>
  ∃ J7 : Value → World → Prop, (∀ (x20_8 : Value) (junk10 : Env) (w9 : World), J7 x20_8 w9 →
  pick a1 x20_8 (.bool false) fun x21_11 =>
  nch a0 fun x22_12 =>
  fda P 158 x22_12 0 w9 fun x23_13 =>
  sto P 4 x23_13 x21_11 w9 fun w15 =>
  K a0 w15) ∧
  grd a1 true
  (nch a0 fun x16_16 =>
  fda P 158 x16_16 1 w6 fun x17_17 =>
  ld P 156 x17_17 w6 fun x18_18 =>
  bl0 P .len #[156] 3 [x18_18] w6 fun x19_19 =>
  bin P .gtr 3 false true x19_19 (.int .i64 0) w6 fun x20_20 =>
  J7 x20_20 w6)
  (J7 undef w6)
def P_impl_integer_put : Plan := (.seq (.reg [.op (0, 0, false)]) (.seq (.reg [.op (0, 0, false), .op (1, 0, false), .op (2, 2, false), .op (3, 0, false), .op (4, 0, false), .op (5, 2, false)]) (.seq (.reg [.op (0, 0, false), .op (1, 0, false), .op (2, 0, false), .grp 2 true [(3, 0, false), (4, 0, false), (5, 0, false), (6, 0, false), (7, 0, false), (8, 0, false)] [20] 2064384, .op (9, 0, false), .op (10, 0, false), .op (11, 0, false), .op (12, 2, false)]) (.seq (.reg [.op (0, 0, false), .op (1, 0, false)]) .leaf))))
theorem I_impl_integer_put {a0 a1 a2 : Value} {w : World} {K : Value → World → Prop} (h : D_impl_integer_put a0 a1 a2 w K) : call P f_impl_integer_put [a0, a1, a2] w K :=
  call_of_vc mixed Tryz.func178 (c := codeOf Tryz.f178) (by kernel_rfl) (by kernel_rfl) (p := P_impl_integer_put) (by kernel_rfl) (by rw [Tryz.ntmps178]; simp) (by
    have e : D_impl_integer_put a0 a1 a2 w K = vc P P_impl_integer_put (codeOf Tryz.f178) (env0 [a0, a1, a2]) w (retX P Tryz.f178.results.toList K) := by kernel_rfl
    exact e ▸ h)

/-- impl.magRight -/
def D_impl_magRight (a0 a1 : Value) (w : World) (K : Value → World → Prop) : Prop :=
  bl0 P .len #[156] 3 [a0] w fun x10_1 =>
  cnv P 3 154 x10_1 w fun x11_2 =>
  bin P .quo 154 false true a1 (.int .u64 32) w fun x13_3 =>
  bin P .leq 154 false false x11_2 x13_3 w fun x14_4 =>
  cnd x14_4
  (K (.slice none 0 0) w)
  (bin P .quo 154 false true a1 (.int .u64 32) w fun x17_5 =>
  sli P 156 a0 (some x17_5) none none w fun x18_6 =>
  bl0 P .len #[156] 3 [x18_6] w fun x20_7 =>
  mks P 156 x20_7 x20_7 w fun x21_8 w9 =>
  bl0 P .len #[156] 3 [x18_6] w9 fun x23_10 =>
  ∃ I11 : Nat → Value → World → Prop, (∃ m43, I11 m43 (.int .i64 0) w9) ∧ ∀ (m14 : Nat) (x24_15 : Value) (junk12 : Env) (w13 : World), I11 m14 x24_15 w13 →
  bin P .lss 3 false false x24_15 x23_10 w13 fun x25_16 =>
  cnd x25_16
  (ixa P 156 x18_6 x24_15 w13 fun x27_17 =>
  ld P 202 x27_17 w13 fun x28_18 =>
  cnv P 202 178 x28_18 w13 fun x30_19 =>
  ∃ J20 : Value → World → Prop, (∀ (x8_23 : Value) (junk21 : Env) (w22 : World), J20 x8_23 w22 →
  bin P .rem 154 false true a1 (.int .u64 32) w22 fun x49_24 =>
  bin P .shr 178 false false x8_23 x49_24 w22 fun x50_25 =>
  cnv P 178 202 x50_25 w22 fun x51_26 =>
  ixa P 156 x21_8 x24_15 w22 fun x52_27 =>
  sto P 202 x52_27 x51_26 w22 fun w29 =>
  bin P .add 3 false true x24_15 (.int .i64 1) w29 fun x53_30 =>
  ∃ m31, m31 < m14 ∧ I11 m31 x53_30 w29) ∧
  (bin P .add 3 false true x24_15 (.int .i64 1) w13 fun x32_32 =>
  bl0 P .len #[156] 3 [x18_6] w13 fun x34_33 =>
  bin P .lss 3 false false x32_32 x34_33 w13 fun x35_34 =>
  cnd x35_34
  (bin P .add 3 false true x24_15 (.int .i64 1) w13 fun x39_35 =>
  ixa P 156 x18_6 x39_35 w13 fun x40_36 =>
  ld P 202 x40_36 w13 fun x41_37 =>
  cnv P 202 178 x41_37 w13 fun x42_38 =>
  bin P .shl 178 false true x42_38 (.int .u64 32) w13 fun x43_39 =>
  bin P .or 178 false false x30_19 x43_39 w13 fun x44_40 =>
  J20 x44_40 w13)
  (J20 x30_19 w13)))
  (call P f_impl_magTrim [x21_8] w13 fun x55_41 w42 =>
  K x55_41 w42))
def P_impl_magRight : Plan := (.seq (.reg [.op (0, 0, false)]) (.seq (.seq (.reg [.op (0, 0, false), .op (1, 0, false), .op (2, 0, false), .op (3, 0, false), .op (4, 0, false), .op (5, 0, false)]) (.cond (.seq (.reg [.op (0, 0, false)]) .leaf) .leaf)) (.seq (.reg [.op (0, 0, false), .op (1, 0, false), .op (2, 0, false), .op (3, 0, false), .op (4, 0, false)]) (.seq (.reg [.op (0, 0, false), .op (1, 0, false), .op (2, 2, false), .op (3, 0, false)]) (.seq (.seq (.reg [.op (0, 0, false), .op (1, 0, false), .op (2, 0, false)]) (.blk (.loop [24] 18014398492705216 (.seq (.reg [.op (0, 0, false)]) (.seq (.cond .leaf .leaf) (.seq (.blk (.seq (.reg [.op (0, 0, false), .op (1, 0, false), .op (2, 0, false), .op (3, 0, false), .op (4, 0, false)]) (.seq (.reg [.op (0, 0, false), .op (1, 0, false), .op (2, 0, false)]) (.cut [8] 35182224605440 (.seq (.reg [.op (0, 0, false), .op (1, 0, false), .op (2, 0, false), .op (3, 0, false), .op (4, 0, false)]) (.cond (.reg [.op (0, 0, false), .op (1, 0, false), .op (2, 0, false), .op (3, 0, false), .op (4, 0, false), .op (5, 0, false), .op (6, 0, false), .op (7, 0, false), .op (8, 0, false), .op (9, 0, false)]) .leaf)) (.reg [.op (0, 0, false), .op (1, 0, false), .op (2, 0, false), .op (3, 0, false), .op (4, 0, false), .op (5, 0, false), .op (6, 0, false), .op (7, 0, false), .op (8, 2, false)]))))) (.reg [.op (0, 0, false), .op (1, 0, false)]))))))) (.seq (.reg [.op (0, 0, false), .op (1, 2, false), .op (2, 0, false)]) .leaf))))))
theorem I_impl_magRight {a0 a1 : Value} {w : World} {K : Value → World → Prop} (h : D_impl_magRight a0 a1 w K) : call P f_impl_magRight [a0, a1] w K :=
  call_of_vc mixed Tryz.func179 (c := codeOf Tryz.f179) (by kernel_rfl) (by kernel_rfl) (p := P_impl_magRight) (by kernel_rfl) (by rw [Tryz.ntmps179]; simp) (by
    have e : D_impl_magRight a0 a1 w K = vc P P_impl_magRight (codeOf Tryz.f179) (env0 [a0, a1]) w (retX P Tryz.f179.results.toList K) := by kernel_rfl
    exact e ▸ h)

/-- impl.magSub -/
def D_impl_magSub (a0 a1 : Value) (w : World) (K : Value → World → Prop) : Prop :=
  bl0 P .len #[156] 3 [a0] w fun x12_1 =>
  mks P 156 x12_1 x12_1 w fun x13_2 w3 =>
  bl0 P .len #[156] 3 [a0] w3 fun x15_4 =>
  ∃ I5 : Nat → Value → Value → World → Prop, (∃ m35, I5 m35 (.int .u64 0) (.int .i64 0) w3) ∧ ∀ (m8 : Nat) (x6_9 : Value) (x16_10 : Value) (junk6 : Env) (w7 : World), I5 m8 x6_9 x16_10 w7 →
  bin P .lss 3 false false x16_10 x15_4 w7 fun x17_11 =>
  cnd x17_11
  (ixa P 156 a0 x16_10 w7 fun x19_12 =>
  ld P 202 x19_12 w7 fun x20_13 =>
  ∃ J14 : Value → World → Prop, (∀ (x9_17 : Value) (junk15 : Env) (w16 : World), J14 x9_17 w16 →
  cnv P 202 178 x20_13 w16 fun x34_18 =>
  bin P .sub 178 false false x34_18 x9_17 w16 fun x36_19 =>
  cnv P 178 202 x36_19 w16 fun x40_20 =>
  ixa P 156 x13_2 x16_10 w16 fun x41_21 =>
  sto P 202 x41_21 x40_20 w16 fun w23 =>
  bin P .shr 178 false true x36_19 (.int .u64 63) w23 fun x43_24 =>
  bin P .add 3 false true x16_10 (.int .i64 1) w23 fun x44_25 =>
  ∃ m26, m26 < m8 ∧ I5 m26 x43_24 x44_25 w23) ∧
  (bl0 P .len #[156] 3 [a1] w7 fun x24_27 =>
  bin P .lss 3 false false x16_10 x24_27 w7 fun x25_28 =>
  cnd x25_28
  (ixa P 156 a1 x16_10 w7 fun x29_29 =>
  ld P 202 x29_29 w7 fun x30_30 =>
  cnv P 202 178 x30_30 w7 fun x31_31 =>
  bin P .add 178 false false x6_9 x31_31 w7 fun x32_32 =>
  J14 x32_32 w7)
  (J14 x6_9 w7)))
  (call P f_impl_magTrim [x13_2] w7 fun x46_33 w34 =>
  K x46_33 w34)
def P_impl_magSub : Plan := (.seq (.reg [.op (0, 0, false)]) (.seq (.reg [.op (0, 0, false), .op (1, 0, false), .op (2, 2, false), .op (3, 0, false)]) (.seq (.reg [.op (0, 0, false)]) (.seq (.seq (.reg [.op (0, 0, false), .op (1, 0, false), .op (2, 0, false)]) (.blk (.loop [6, 16] 35184372025280 (.seq (.reg [.op (0, 0, false)]) (.seq (.cond .leaf .leaf) (.seq (.blk (.seq (.reg [.op (0, 0, false), .op (1, 0, false), .op (2, 0, false), .op (3, 0, false), .op (4, 0, false)]) (.seq (.reg [.op (0, 0, false), .op (1, 0, false)]) (.cut [9] 8585740800 (.seq (.reg [.op (0, 0, false), .op (1, 0, false), .op (2, 0, false), .op (3, 0, false)]) (.cond (.reg [.op (0, 0, false), .op (1, 0, false), .op (2, 0, false), .op (3, 0, false), .op (4, 0, false), .op (5, 0, false), .op (6, 0, false), .op (7, 0, false)]) .leaf)) (.seq (.reg [.op (0, 0, false), .op (1, 0, false), .op (2, 0, false), .op (3, 0, false), .op (4, 0, false)]) (.seq (.reg [.op (0, 0, false), .op (1, 0, false), .op (2, 0, false), .op (3, 0, false), .op (4, 0, false), .op (5, 2, false)]) (.reg [.op (0, 0, false), .op (1, 0, false), .op (2, 0, false)]))))))) (.reg [.op (0, 0, false), .op (1, 0, false)]))))))) (.seq (.reg [.op (0, 0, false), .op (1, 2, false), .op (2, 0, false)]) .leaf)))))
theorem I_impl_magSub {a0 a1 : Value} {w : World} {K : Value → World → Prop} (h : D_impl_magSub a0 a1 w K) : call P f_impl_magSub [a0, a1] w K :=
  call_of_vc mixed Tryz.func180 (c := codeOf Tryz.f180) (by kernel_rfl) (by kernel_rfl) (p := P_impl_magSub) (by kernel_rfl) (by rw [Tryz.ntmps180]; simp) (by
    have e : D_impl_magSub a0 a1 w K = vc P P_impl_magSub (codeOf Tryz.f180) (env0 [a0, a1]) w (retX P Tryz.f180.results.toList K) := by kernel_rfl
    exact e ▸ h)

/-- impl.magAdd -/
def D_impl_magAdd (a0 a1 : Value) (w : World) (K : Value → World → Prop) : Prop :=
  ∃ J1 : Value → Value → World → Prop, (∀ (x0_4 : Value) (x1_5 : Value) (junk2 : Env) (w3 : World), J1 x0_4 x1_5 w3 →
  bl0 P .len #[156] 3 [x0_4] w3 fun x17_6 =>
  bin P .add 3 false true x17_6 (.int .i64 1) w3 fun x18_7 =>
  mks P 156 x18_7 x18_7 w3 fun x19_8 w9 =>
  bl0 P .len #[156] 3 [x0_4] w9 fun x21_10 =>
  ∃ I11 : Nat → Value → Value → World → Prop, (∃ m46, I11 m46 (.int .u64 0) (.int .i64 0) w9) ∧ ∀ (m14 : Nat) (x6_15 : Value) (x22_16 : Value) (junk12 : Env) (w13 : World), I11 m14 x6_15 x22_16 w13 →
  bin P .lss 3 false false x22_16 x21_10 w13 fun x23_17 =>
  cnd x23_17
  (ixa P 156 x0_4 x22_16 w13 fun x25_18 =>
  ld P 202 x25_18 w13 fun x26_19 =>
  cnv P 202 178 x26_19 w13 fun x29_20 =>
  bin P .add 178 false false x6_15 x29_20 w13 fun x30_21 =>
  ∃ J22 : Value → World → Prop, (∀ (x6_25 : Value) (junk23 : Env) (w24 : World), J22 x6_25 w24 →
  cnv P 178 202 x6_25 w24 fun x45_26 =>
  ixa P 156 x19_8 x22_16 w24 fun x46_27 =>
  sto P 202 x46_27 x45_26 w24 fun w29 =>
  bin P .shr 178 false true x6_25 (.int .u64 32) w29 fun x48_30 =>
  bin P .add 3 false true x22_16 (.int .i64 1) w29 fun x49_31 =>
  ∃ m32, m32 < m14 ∧ I11 m32 x48_30 x49_31 w29) ∧
  (bl0 P .len #[156] 3 [x1_5] w13 fun x33_33 =>
  bin P .lss 3 false false x22_16 x33_33 w13 fun x34_34 =>
  cnd x34_34
  (ixa P 156 x1_5 x22_16 w13 fun x38_35 =>
  ld P 202 x38_35 w13 fun x39_36 =>
  cnv P 202 178 x39_36 w13 fun x40_37 =>
  bin P .add 178 false false x30_21 x40_37 w13 fun x41_38 =>
  J22 x41_38 w13)
  (J22 x30_21 w13)))
  (bl0 P .len #[156] 3 [x0_4] w13 fun x52_39 =>
  cnv P 178 202 x6_15 w13 fun x54_40 =>
  ixa P 156 x19_8 x52_39 w13 fun x55_41 =>
  sto P 202 x55_41 x54_40 w13 fun w43 =>
  call P f_impl_magTrim [x19_8] w43 fun x57_44 w45 =>
  K x57_44 w45)) ∧
  (bl0 P .len #[156] 3 [a0] w fun x10_47 =>
  bl0 P .len #[156] 3 [a1] w fun x12_48 =>
  bin P .lss 3 false false x10_47 x12_48 w fun x13_49 =>
  cnd x13_49
  (J1 a1 a0 w)
  (J1 a0 a1 w))
def P_impl_magAdd : Plan := (.seq (.reg [.op (0, 0, false)]) (.cut [0, 1] 65027 (.seq (.reg [.op (0, 0, false), .op (1, 0, false), .op (2, 0, false), .op (3, 0, false), .op (4, 0, false)]) (.cond (.reg [.op (0, 0, false), .op (1, 0, false), .op (2, 0, false), .op (3, 0, false)]) .leaf)) (.seq (.reg [.op (0, 0, false), .op (1, 0, false), .op (2, 0, false), .op (3, 2, false), .op (4, 0, false)]) (.seq (.reg [.op (0, 0, false)]) (.seq (.seq (.reg [.op (0, 0, false), .op (1, 0, false), .op (2, 0, false)]) (.blk (.loop [6, 22] 1125899902648768 (.seq (.reg [.op (0, 0, false)]) (.seq (.cond .leaf .leaf) (.seq (.blk (.seq (.reg [.op (0, 0, false), .op (1, 0, false), .op (2, 0, false), .op (3, 0, false), .op (4, 0, false)]) (.seq (.reg [.op (0, 0, false), .op (1, 0, false), .op (2, 0, false), .op (3, 0, false), .op (4, 0, false)]) (.cut [6] 4395899027520 (.seq (.reg [.op (0, 0, false), .op (1, 0, false), .op (2, 0, false), .op (3, 0, false)]) (.cond (.reg [.op (0, 0, false), .op (1, 0, false), .op (2, 0, false), .op (3, 0, false), .op (4, 0, false), .op (5, 0, false), .op (6, 0, false), .op (7, 0, false)]) .leaf)) (.seq (.reg [.op (0, 0, false), .op (1, 0, false), .op (2, 0, false), .op (3, 0, false), .op (4, 0, false), .op (5, 2, false)]) (.reg [.op (0, 0, false), .op (1, 0, false), .op (2, 0, false)])))))) (.reg [.op (0, 0, false), .op (1, 0, false)]))))))) (.seq (.reg [.op (0, 0, false), .op (1, 0, false), .op (2, 0, false), .op (3, 0, false), .op (4, 0, false), .op (5, 0, false), .op (6, 2, false)]) (.seq (.reg [.op (0, 0, false), .op (1, 2, false), .op (2, 0, false)]) .leaf)))))))
theorem I_impl_magAdd {a0 a1 : Value} {w : World} {K : Value → World → Prop} (h : D_impl_magAdd a0 a1 w K) : call P f_impl_magAdd [a0, a1] w K :=
  call_of_vc mixed Tryz.func181 (c := codeOf Tryz.f181) (by kernel_rfl) (by kernel_rfl) (p := P_impl_magAdd) (by kernel_rfl) (by rw [Tryz.ntmps181]; simp) (by
    have e : D_impl_magAdd a0 a1 w K = vc P P_impl_magAdd (codeOf Tryz.f181) (env0 [a0, a1]) w (retX P Tryz.f181.results.toList K) := by kernel_rfl
    exact e ▸ h)

/-- (*impl.integer).Neg -/
def D_impl_integer_Neg (a0 a1 : Value) (w : World) (K : Value → World → Prop) : Prop :=
  nch a1 fun x7_1 =>
  fda P 158 x7_1 0 w fun x8_2 =>
  ld P 4 x8_2 w fun x9_3 =>
  una P .not x9_3 w fun x10_4 =>
  nch a1 fun x12_5 =>
  fda P 158 x12_5 1 w fun x13_6 =>
  ld P 156 x13_6 w fun x14_7 =>
  call P f_slices_Clone_uint32_uint32 [x14_7] w fun x15_8 w9 =>
  Ext w w9 ∧ call P f_impl_integer_put [a0, x10_4, x15_8] w9 fun x16_10 w11 =>
  K x16_10 w11
def P_impl_integer_Neg : Plan := (.seq (.reg [.op (0, 0, false)]) (.seq (.reg [.op (0, 0, false), .op (1, 0, false), .op (2, 0, false), .op (3, 0, false), .op (4, 0, false), .op (5, 0, false), .op (6, 0, false), .op (7, 0, false), .op (8, 0, false), .op (9, 0, false), .op (10, 2, true), .op (11, 2, false), .op (12, 0, false)]) .leaf))
theorem I_impl_integer_Neg {a0 a1 : Value} {w : World} {K : Value → World → Prop} (h : D_impl_integer_Neg a0 a1 w K) : call P f_impl_integer_Neg [a0, a1] w K :=
  call_of_vc mixed Tryz.func184 (c := codeOf Tryz.f184) (by kernel_rfl) (by kernel_rfl) (p := P_impl_integer_Neg) (by kernel_rfl) (by rw [Tryz.ntmps184]; simp) (by
    have e : D_impl_integer_Neg a0 a1 w K = vc P P_impl_integer_Neg (codeOf Tryz.f184) (env0 [a0, a1]) w (retX P Tryz.f184.results.toList K) := by kernel_rfl
    exact e ▸ h)

/-- (*impl.integer).Mul -/
def D_impl_integer_Mul (a0 a1 a2 : Value) (w : World) (K : Value → World → Prop) : Prop :=
  nch a1 fun x9_1 =>
  fda P 158 x9_1 0 w fun x10_2 =>
  ld P 4 x10_2 w fun x11_3 =>
  nch a2 fun x13_4 =>
  fda P 158 x13_4 0 w fun x14_5 =>
  ld P 4 x14_5 w fun x15_6 =>
  bin P .neq 4 false false x11_3 x15_6 w fun x16_7 =>
  nch a1 fun x18_8 =>
  fda P 158 x18_8 1 w fun x19_9 =>
  ld P 156 x19_9 w fun x20_10 =>
  nch a2 fun x22_11 =>
  fda P 158 x22_11 1 w fun x23_12 =>
  ld P 156 x23_12 w fun x24_13 =>
  call P f_impl_magMul [x20_10, x24_13] w fun x25_14 w15 =>
  Ext w w15 ∧ call P f_impl_integer_put [a0, x16_7, x25_14] w15 fun x26_16 w17 =>
  K x26_16 w17
def P_impl_integer_Mul : Plan := (.seq (.reg [.op (0, 0, false)]) (.seq (.reg [.op (0, 0, false), .op (1, 0, false), .op (2, 0, false), .op (3, 0, false), .op (4, 0, false), .op (5, 0, false), .op (6, 0, false), .op (7, 0, false), .op (8, 0, false), .op (9, 0, false), .op (10, 0, false), .op (11, 0, false), .op (12, 0, false), .op (13, 0, false), .op (14, 0, false), .op (15, 0, false), .op (16, 0, false), .op (17, 0, false), .op (18, 2, true), .op (19, 2, false), .op (20, 0, false)]) .leaf))
theorem I_impl_integer_Mul {a0 a1 a2 : Value} {w : World} {K : Value → World → Prop} (h : D_impl_integer_Mul a0 a1 a2 w K) : call P f_impl_integer_Mul [a0, a1, a2] w K :=
  call_of_vc mixed Tryz.func185 (c := codeOf Tryz.f185) (by kernel_rfl) (by kernel_rfl) (p := P_impl_integer_Mul) (by kernel_rfl) (by rw [Tryz.ntmps185]; simp) (by
    have e : D_impl_integer_Mul a0 a1 a2 w K = vc P P_impl_integer_Mul (codeOf Tryz.f185) (env0 [a0, a1, a2]) w (retX P Tryz.f185.results.toList K) := by kernel_rfl
    exact e ▸ h)

/-- (*impl.integer).Abs -/
def D_impl_integer_Abs (a0 a1 : Value) (w : World) (K : Value → World → Prop) : Prop :=
  nch a1 fun x7_1 =>
  fda P 158 x7_1 1 w fun x8_2 =>
  ld P 156 x8_2 w fun x9_3 =>
  call P f_slices_Clone_uint32_uint32 [x9_3] w fun x10_4 w5 =>
  call P f_impl_integer_put [a0, (.bool false), x10_4] w5 fun x11_6 w7 =>
  K x11_6 w7
def P_impl_integer_Abs : Plan := (.seq (.reg [.op (0, 0, false)]) (.seq (.reg [.op (0, 0, false), .op (1, 0, false), .op (2, 0, false), .op (3, 0, false), .op (4, 0, false), .op (5, 2, false), .op (6, 2, false), .op (7, 0, false)]) .leaf))
theorem I_impl_integer_Abs {a0 a1 : Value} {w : World} {K : Value → World → Prop} (h : D_impl_integer_Abs a0 a1 w K) : call P f_impl_integer_Abs [a0, a1] w K :=
  call_of_vc mixed Tryz.func186 (c := codeOf Tryz.f186) (by kernel_rfl) (by kernel_rfl) (p := P_impl_integer_Abs) (by kernel_rfl) (by rw [Tryz.ntmps186]; simp) (by
    have e : D_impl_integer_Abs a0 a1 w K = vc P P_impl_integer_Abs (codeOf Tryz.f186) (env0 [a0, a1]) w (retX P Tryz.f186.results.toList K) := by kernel_rfl
    exact e ▸ h)

/-- (*impl.integer).Add -/
def D_impl_integer_Add (a0 a1 a2 : Value) (w : World) (K : Value → World → Prop) : Prop :=
  nch a2 fun x10_1 =>
  fda P 158 x10_1 0 w fun x11_2 =>
  ld P 4 x11_2 w fun x12_3 =>
  nch a2 fun x14_4 =>
  fda P 158 x14_4 1 w fun x15_5 =>
  ld P 156 x15_5 w fun x16_6 =>
  call P f_impl_integer_plus [a0, a1, x12_3, x16_6] w fun x17_7 w8 =>
  K x17_7 w8
def P_impl_integer_Add : Plan := (.seq (.reg [.op (0, 0, false)]) (.seq (.reg [.op (0, 0, false), .op (1, 0, false), .op (2, 0, false), .op (3, 0, false), .op (4, 0, false), .op (5, 0, false), .op (6, 0, false), .op (7, 0, false), .op (8, 0, false), .op (9, 0, false), .op (10, 2, false), .op (11, 0, false)]) .leaf))
theorem I_impl_integer_Add {a0 a1 a2 : Value} {w : World} {K : Value → World → Prop} (h : D_impl_integer_Add a0 a1 a2 w K) : call P f_impl_integer_Add [a0, a1, a2] w K :=
  call_of_vc mixed Tryz.func187 (c := codeOf Tryz.f187) (by kernel_rfl) (by kernel_rfl) (p := P_impl_integer_Add) (by kernel_rfl) (by rw [Tryz.ntmps187]; simp) (by
    have e : D_impl_integer_Add a0 a1 a2 w K = vc P P_impl_integer_Add (codeOf Tryz.f187) (env0 [a0, a1, a2]) w (retX P Tryz.f187.results.toList K) := by kernel_rfl
    exact e ▸ h)

/-- (*impl.integer).And -/
def D_impl_integer_And (a0 a1 a2 : Value) (w : World) (K : Value → World → Prop) : Prop :=
  bsl P 156 0 [] w fun x9_1 w2 =>
  nch a1 fun x11_3 =>
  fda P 158 x11_3 1 w2 fun x12_4 =>
  ld P 156 x12_4 w2 fun x13_5 =>
  bl0 P .len #[156] 3 [x13_5] w2 fun x14_6 =>
  nch a2 fun x16_7 =>
  fda P 158 x16_7 1 w2 fun x17_8 =>
  ld P 156 x17_8 w2 fun x18_9 =>
  bl0 P .len #[156] 3 [x18_9] w2 fun x19_10 =>
  bl0 P .min #[3, 3] 3 [x14_6, x19_10] w2 fun x20_11 =>
  ∃ I12 : Nat → Value → Value → World → Prop, (∃ m38, I12 m38 x9_1 (.int .i64 0) w2) ∧ ∀ (m15 : Nat) (x7_16 : Value) (x21_17 : Value) (junk13 : Env) (w14 : World), I12 m15 x7_16 x21_17 w14 →
  bin P .lss 3 false false x21_17 x20_11 w14 fun x22_18 =>
  cnd x22_18
  (nch a1 fun x26_19 =>
  fda P 158 x26_19 1 w14 fun x27_20 =>
  ld P 156 x27_20 w14 fun x28_21 =>
  ixa P 156 x28_21 x21_17 w14 fun x30_22 =>
  ld P 202 x30_22 w14 fun x31_23 =>
  nch a2 fun x33_24 =>
  fda P 158 x33_24 1 w14 fun x34_25 =>
  ld P 156 x34_25 w14 fun x35_26 =>
  ixa P 156 x35_26 x21_17 w14 fun x37_27 =>
  ld P 202 x37_27 w14 fun x38_28 =>
  bin P .and 202 false false x31_23 x38_28 w14 fun x39_29 =>
  bsl P 156 1 [(0, x39_29)] w14 fun x40_30 w31 =>
  bl2 P .append #[156, 156] 156 [x7_16, x40_30] w31 fun x41_32 w33 =>
  bin P .add 3 false true x21_17 (.int .i64 1) w33 fun x42_34 =>
  ∃ m35, m35 < m15 ∧ I12 m35 x41_32 x42_34 w33)
  (call P f_impl_integer_put [a0, (.bool false), x7_16] w14 fun x45_36 w37 =>
  K x45_36 w37)
def P_impl_integer_And : Plan := (.seq (.reg [.op (0, 0, false)]) (.seq (.reg [.op (0, 2, false), .op (1, 0, false)]) (.seq (.seq (.reg [.op (0, 0, false), .op (1, 0, false), .op (2, 0, false), .op (3, 0, false), .op (4, 0, false), .op (5, 0, false), .op (6, 0, false), .op (7, 0, false), .op (8, 0, false), .op (9, 0, false), .op (10, 0, false), .op (11, 0, false)]) (.blk (.loop [7, 21] 8796090925440 (.seq (.reg [.op (0, 0, false)]) (.seq (.cond .leaf .leaf) (.seq (.blk (.seq (.reg [.op (0, 0, false), .op (1, 0, false)]) (.reg [.op (0, 0, false), .op (1, 0, false), .op (2, 0, false), .op (3, 0, false), .op (4, 0, false), .op (5, 0, false), .op (6, 0, false), .op (7, 0, false), .op (8, 0, false), .op (9, 0, false), .op (10, 0, false), .op (11, 0, false), .op (12, 0, false), .op (13, 0, false), .op (14, 0, false), .op (15, 0, false), .op (16, 2, false), .op (17, 2, false), .op (18, 0, false)]))) (.reg [.op (0, 0, false), .op (1, 0, false)]))))))) (.seq (.reg [.op (0, 0, false), .op (1, 0, false), .op (2, 2, false), .op (3, 0, false)]) .leaf))))
theorem I_impl_integer_And {a0 a1 a2 : Value} {w : World} {K : Value → World → Prop} (h : D_impl_integer_And a0 a1 a2 w K) : call P f_impl_integer_And [a0, a1, a2] w K :=
  call_of_vc mixed Tryz.func189 (c := codeOf Tryz.f189) (by kernel_rfl) (by kernel_rfl) (p := P_impl_integer_And) (by kernel_rfl) (by rw [Tryz.ntmps189]; simp) (by
    have e : D_impl_integer_And a0 a1 a2 w K = vc P P_impl_integer_And (codeOf Tryz.f189) (env0 [a0, a1, a2]) w (retX P Tryz.f189.results.toList K) := by kernel_rfl
    exact e ▸ h)

/-- (*impl.integer).Int64 -/
def D_impl_integer_Int64 (a0 : Value) (w : World) (K : Value → World → Prop) : Prop :=
  nch a0 fun x4_1 =>
  fda P 158 x4_1 0 w fun x5_2 =>
  ld P 4 x5_2 w fun x6_3 =>
  cnd x6_3
  (call P f_impl_integer_low [a0] w fun x8_4 w5 =>
  cnv P 178 2 x8_4 w5 fun x9_6 =>
  una P .neg x9_6 w5 fun x10_7 =>
  K x10_7 w5)
  (call P f_impl_integer_low [a0] w fun x12_8 w9 =>
  cnv P 178 2 x12_8 w9 fun x13_10 =>
  K x13_10 w9)
def P_impl_integer_Int64 : Plan := (.seq (.reg [.op (0, 0, false)]) (.seq (.seq (.reg [.op (0, 0, false), .op (1, 0, false), .op (2, 0, false), .op (3, 0, false)]) (.cond (.seq (.reg [.op (0, 0, false), .op (1, 2, false), .op (2, 0, false), .op (3, 0, false), .op (4, 0, false)]) .leaf) .leaf)) (.seq (.reg [.op (0, 0, false), .op (1, 2, false), .op (2, 0, false), .op (3, 0, false)]) .leaf)))
theorem I_impl_integer_Int64 {a0 : Value} {w : World} {K : Value → World → Prop} (h : D_impl_integer_Int64 a0 w K) : call P f_impl_integer_Int64 [a0] w K :=
  call_of_vc mixed Tryz.func190 (c := codeOf Tryz.f190) (by kernel_rfl) (by kernel_rfl) (p := P_impl_integer_Int64) (by kernel_rfl) (by rw [Tryz.ntmps190]; simp) (by
    have e : D_impl_integer_Int64 a0 w K = vc P P_impl_integer_Int64 (codeOf Tryz.f190) (env0 [a0]) w (retX P Tryz.f190.results.toList K) := by kernel_rfl
    exact e ▸ h)

/-- impl.magBits -/
def D_impl_magBits (a0 : Value) (w : World) (K : Value → World → Prop) : Prop :=
  bl0 P .len #[156] 3 [a0] w fun x6_1 =>
  bin P .eql 3 false true x6_1 (.int .i64 0) w fun x7_2 =>
  cnd x7_2
  (K (.int .i64 0) w)
  (bl0 P .len #[156] 3 [a0] w fun x9_3 =>
  bin P .sub 3 false true x9_3 (.int .i64 1) w fun x10_4 =>
  bin P .mul 3 true false (.int .i64 32) x10_4 w fun x11_5 =>
  bl0 P .len #[156] 3 [a0] w fun x14_6 =>
  bin P .sub 3 false true x14_6 (.int .i64 1) w fun x15_7 =>
  ixa P 156 a0 x15_7 w fun x16_8 =>
  ld P 202 x16_8 w fun x17_9 =>
  ∃ I10 : Nat → Value → Value → World → Prop, (∃ m20, I10 m20 x11_5 x17_9 w) ∧ ∀ (m13 : Nat) (x3_14 : Value) (x4_15 : Value) (junk11 : Env) (w12 : World), I10 m13 x3_14 x4_15 w12 →
  bin P .gtr 202 false true x4_15 (.int .u32 0) w12 fun x19_16 =>
  cnd x19_16
  (bin P .add 3 false true x3_14 (.int .i64 1) w12 fun x23_17 =>
  bin P .shr 202 false true x4_15 (.int .u64 1) w12 fun x21_18 =>
  ∃ m19, m19 < m13 ∧ I10 m19 x23_17 x21_18 w12)
  (K x3_14 w12))
def P_impl_magBits : Plan := (.seq (.reg [.op (0, 0, false)]) (.seq (.seq (.reg [.op (0, 0, false), .op (1, 0, false), .op (2, 0, false)]) (.cond (.seq (.reg [.op (0, 0, false)]) .leaf) .leaf)) (.seq (.reg [.op (0, 0, false), .op (1, 0, false), .op (2, 0, false), .op (3, 0, false), .op (4, 0, false)]) (.seq (.seq (.reg [.op (0, 0, false), .op (1, 0, false), .op (2, 0, false), .op (3, 0, false), .op (4, 0, false), .op (5, 0, false), .op (6, 0, false)]) (.blk (.loop [3, 4] 16515096 (.seq (.seq (.reg [.op (0, 0, false), .op (1, 0, false)]) (.cond .leaf .leaf)) (.seq (.blk (.reg [.op (0, 0, false), .op (1, 0, false), .op (2, 0, false)])) (.reg [.op (0, 0, false), .op (1, 0, false), .op (2, 0, false)])))))) (.seq (.reg [.op (0, 0, false), .op (1, 0, false)]) .leaf)))))
theorem I_impl_magBits {a0 : Value} {w : World} {K : Value → World → Prop} (h : D_impl_magBits a0 w K) : call P f_impl_magBits [a0] w K :=
  call_of_vc mixed Tryz.func220 (c := codeOf Tryz.f220) (by kernel_rfl) (by kernel_rfl) (p := P_impl_magBits) (by kernel_rfl) (by rw [Tryz.ntmps220]; simp) (by
    have e : D_impl_magBits a0 w K = vc P P_impl_magBits (codeOf Tryz.f220) (env0 [a0]) w (retX P Tryz.f220.results.toList K) := by kernel_rfl
    exact e ▸ h)

/-- impl.magTrim -/
def D_impl_magTrim (a0 : Value) (w : World) (K : Value → World → Prop) : Prop :=
  ∃ I1 : Nat → Value → World → Prop, (∃ m22, I1 m22 a0 w) ∧ ∀ (m4 : Nat) (x0_5 : Value) (junk2 : Env) (w3 : World), I1 m4 x0_5 w3 →
  bl0 P .len #[156] 3 [x0_5] w3 fun x4_6 =>
  bin P .gtr 3 false true x4_6 (.int .i64 0) w3 fun x5_7 =>
  ∃ J8 : Value → World → Prop, (∀ (x13_9 : Value) (junk11 : Env) (w10 : World), J8 x13_9 w10 →
  pick x5_7 x13_9 (.bool false) fun x14_12 =>
  cnd x14_12
  (bl0 P .len #[156] 3 [x0_5] w10 fun x17_13 =>
  bin P .sub 3 false true x17_13 (.int .i64 1) w10 fun x18_14 =>
  sli P 156 x0_5 none (some x18_14) none w10 fun x19_15 =>
  ∃ m16, m16 < m4 ∧ I1 m16 x19_15 w10)
  (K x0_5 w10)) ∧
  grd x5_7 true
  (bl0 P .len #[156] 3 [x0_5] w3 fun x9_17 =>
  bin P .sub 3 false true x9_17 (.int .i64 1) w3 fun x10_18 =>
  ixa P 156 x0_5 x10_18 w3 fun x11_19 =>
  ld P 202 x11_19 w3 fun x12_20 =>
  bin P .eql 202 false true x12_20 (.int .u32 0) w3 fun x13_21 =>
  J8 x13_21 w3)
  (J8 undef w3)
def P_impl_magTrim : Plan := (.seq (.reg [.op (0, 0, false)]) (.seq (.blk (.loop [0] 1048569 (.seq (.seq (.reg [.op (0, 0, false), .op (1, 0, false), .op (2, 0, false), .op (3, 0, false), .grp 3 true [(4, 0, false), (5, 0, false), (6, 0, false), (7, 0, false), (8, 0, false), (9, 0, false), (10, 0, false)] [13] 16256, .op (11, 0, false)]) (.cond .leaf .leaf)) (.blk (.reg [.op (0, 0, false), .op (1, 0, false), .op (2, 0, false), .op (3, 0, false), .op (4, 0, false), .op (5, 0, false)]))))) (.seq (.reg [.op (0, 0, false), .op (1, 0, false)]) .leaf)))
theorem I_impl_magTrim {a0 : Value} {w : World} {K : Value → World → Prop} (h : D_impl_magTrim a0 w K) : call P f_impl_magTrim [a0] w K :=
  call_of_vc mixed Tryz.func221 (c := codeOf Tryz.f221) (by kernel_rfl) (by kernel_rfl) (p := P_impl_magTrim) (by kernel_rfl) (by rw [Tryz.ntmps221]; simp) (by
    have e : D_impl_magTrim a0 w K = vc P P_impl_magTrim (codeOf Tryz.f221) (env0 [a0]) w (retX P Tryz.f221.results.toList K) := by kernel_rfl
    exact e ▸ h)

/-- impl.isNumeral -/
def D_impl_isNumeral (a0 : Value) (w : World) (K : Value → World → Prop) : Prop :=
  ∃ J1 : Value → World → Prop, (∀ (x0_4 : Value) (junk2 : Env) (w3 : World), J1 x0_4 w3 →
  bin P .eql 9 false true x0_4 (.string ⟨#[]⟩) w3 fun x17_5 =>
  ∃ J6 : Value → World → Prop, (∀ (x22_7 : Value) (junk9 : Env) (w8 : World), J6 x22_7 w8 →
  ∃ J10 : Value → World → Prop, (∀ (x25_11 : Value) (junk13 : Env) (w12 : World), J10 x25_11 w12 →
  ∃ J14 : Value → World → Prop, (∀ (x26_15 : Value) (junk17 : Env) (w16 : World), J14 x26_15 w16 →
  pick x17_5 (.bool true) x26_15 fun x27_18 =>
  cnd x27_18
  (K (.bool false) w16)
  (bl0 P .len #[9] 3 [x0_4] w16 fun x29_19 =>
  ∃ I20 : Nat → Value → World → Prop, (∃ m37, I20 m37 (.int .i64 0) w16) ∧ ∀ (m23 : Nat) (x30_24 : Value) (junk21 : Env) (w22 : World), I20 m23 x30_24 w22 →
  bin P .lss 3 false false x30_24 x29_19 w22 fun x31_25 =>
  cnd x31_25
  (idx P 9 x0_4 x30_24 w22 fun x35_26 =>
  bin P .lss 5 false true x35_26 (.int .u8 48) w22 fun x36_27 =>
  ∃ J28 : Value → World → Prop, (∀ (x41_29 : Value) (junk31 : Env) (w30 : World), J28 x41_29 w30 →
  pick x36_27 (.bool true) x41_29 fun x42_32 =>
  cnd x42_32
  (K (.bool false) w30)
  (bin P .add 3 false true x30_24 (.int .i64 1) w30 fun x43_33 =>
  ∃ m34, m34 < m23 ∧ I20 m34 x43_33 w30)) ∧
  grd x36_27 false
  (idx P 9 x0_4 x30_24 w22 fun x40_35 =>
  bin P .gtr 5 false true x40_35 (.int .u8 57) w22 fun x41_36 =>
  J28 x41_36 w22)
  (J28 undef w22))
  (K (.bool true) w22))) ∧
  grd x17_5 false
  (pick x22_7 x25_11 (.bool false) fun x26_38 =>
  J14 x26_38 w12)
  (J14 undef w12)) ∧
  grd x22_7 true
  (bl0 P .len #[9] 3 [x0_4] w8 fun x24_39 =>
  bin P .gtr 3 false true x24_39 (.int .i64 1) w8 fun x25_40 =>
  J10 x25_40 w8)
  (J10 undef w8)) ∧
  grd x17_5 false
  (idx P 9 x0_4 (.int .i64 0) w3 fun x20_41 =>
  bin P .eql 5 false true x20_41 (.int .u8 48) w3 fun x21_42 =>
  J6 x21_42 w3)
  (J6 undef w3)) ∧
  (bl0 P .len #[9] 3 [a0] w fun x5_43 =>
  bin P .gtr 3 false true x5_43 (.int .i64 0) w fun x6_44 =>
  ∃ J45 : Value → World → Prop, (∀ (x10_46 : Value) (junk48 : Env) (w47 : World), J45 x10_46 w47 →
  pick x6_44 x10_46 (.bool false) fun x11_49 =>
  cnd x11_49
  (sli P 9 a0 (some (.int .i64 1)) none none w47 fun x13_50 =>
  bin P .eql 9 false true x13_50 (.string ⟨#[48]⟩) w47 fun x15_51 =>
  cnd x15_51
  (K (.bool false) w47)
  (J1 x13_50 w47))
  (J1 a0 w47)) ∧
  grd x6_44 true
  (idx P 9 a0 (.int .i64 0) w fun x9_52 =>
  bin P .eql 5 false true x9_52 (.int .u8 45) w fun x10_53 =>
  J45 x10_53 w)
  (J45 undef w))
def P_impl_isNumeral : Plan := (.seq (.reg [.op (0, 0, false)]) (.cut [0] 65525 (.seq (.reg [.op (0, 0, false), .op (1, 0, false), .op (2, 0, false), .op (3, 0, false), .grp 3 true [(4, 0, false), (5, 0, false), (6, 0, false)] [10] 1792, .op (7, 0, false)]) (.cond (.seq (.reg [.op (0, 0, false), .op (1, 0, false), .op (2, 0, false)]) (.seq (.reg [.op (0, 0, false), .op (1, 0, false)]) (.cond (.seq (.reg [.op (0, 0, false)]) .leaf) .leaf))) .leaf)) (.seq (.seq (.reg [.op (0, 0, false), .op (1, 0, false), .op (2, 0, false), .grp 2 false [(3, 0, false), (4, 0, false), (5, 0, false), (6, 0, false)] [22] 7864320, .grp 6 true [(7, 0, false), (8, 0, false), (9, 0, false)] [25] 58720256, .grp 2 false [(10, 0, false)] [26] 67108864, .op (11, 0, false)]) (.cond (.seq (.reg [.op (0, 0, false)]) .leaf) .leaf)) (.seq (.seq (.reg [.op (0, 0, false), .op (1, 0, false), .op (2, 0, false)]) (.blk (.loop [30] 17591112302604 (.seq (.reg [.op (0, 0, false)]) (.seq (.cond .leaf .leaf) (.seq (.blk (.seq (.reg [.op (0, 0, false), .op (1, 0, false)]) (.seq (.reg [.op (0, 0, false), .op (1, 0, false), .op (2, 0, false), .op (3, 0, false), .op (4, 0, false), .grp 4 false [(5, 0, false), (6, 0, false), (7, 0, false), (8, 0, false)] [41] 4123168604160, .op (9, 0, false)]) (.cond (.seq (.reg [.op (0, 0, false)]) .leaf) .leaf)))) (.reg [.op (0, 0, false), .op (1, 0, false)]))))))) (.seq (.reg [.op (0, 0, false)]) .leaf)))))
theorem I_impl_isNumeral {a0 : Value} {w : World} {K : Value → World → Prop} (h : D_impl_isNumeral a0 w K) : call P f_impl_isNumeral [a0] w K :=
  call_of_vc mixed Tryz.func223 (c := codeOf Tryz.f223) (by kernel_rfl) (by kernel_rfl) (p := P_impl_isNumeral) (by kernel_rfl) (by rw [Tryz.ntmps223]; simp) (by
    have e : D_impl_isNumeral a0 w K = vc P P_impl_isNumeral (codeOf Tryz.f223) (env0 [a0]) w (retX P Tryz.f223.results.toList K) := by kernel_rfl
    exact e ▸ h)

/-- impl.ParseWhole -/
def D_impl_ParseWhole (a0 : Value) (w : World) (K : Value → World → Prop) : Prop :=
  alc P 55 w fun x2_1 w2 =>
  call P f_impl_isNumeral [a0] w2 fun x7_3 w4 =>
  una P .not x7_3 w4 fun x8_5 =>
  cnd x8_5
  (bld P 55 [] w4 fun x9_6 =>
  sto P 55 x2_1 x9_6 w4 fun w8 =>
  ldc P 55 x2_1 w8 fun r9 =>
  K (.tuple #[r9, (.int .i64 6)]) w8)
  (bl0 P .len #[9] 3 [a0] w4 fun x11_10 =>
  bin P .gtr 3 false true x11_10 (.int .i64 800) w4 fun x12_11 =>
  cnd x12_11
  (bld P 55 [] w4 fun x13_12 =>
  sto P 55 x2_1 x13_12 w4 fun w14 =>
  ldc P 55 x2_1 w14 fun r15 =>
  K (.tuple #[r15, (.int .i64 3)]) w14)
  (alc P 158 w4 fun x15_16 w17 =>
  call P f_impl_integer_SetString [x15_16, a0, (.int .i64 10)] w17 fun x17_18 w19 =>
  xtr P x17_18 0 w19 fun x18_20 =>
  xtr P x17_18 1 w19 fun x19_21 =>
  call P f_impl_whole [x18_20] w19 fun x21_22 w23 =>
  xtr P x21_22 0 w23 fun x22_24 =>
  xtr P x21_22 1 w23 fun x23_25 =>
  sto P 55 x2_1 x22_24 w23 fun w27 =>
  ldc P 55 x2_1 w27 fun r28 =>
  K (.tuple #[r28, x23_25]) w27))
def P_impl_ParseWhole : Plan := (.seq (.reg [.op (0, 2, false), .op (1, 0, false)]) (.seq (.seq (.reg [.op (0, 0, false), .op (1, 2, false), .op (2, 0, false)]) (.cond (.seq (.reg [.op (0, 0, false), .op (1, 2, false), .op (2, 0, false)]) .leaf) .leaf)) (.seq (.seq (.reg [.op (0, 0, false), .op (1, 0, false), .op (2, 0, false)]) (.cond (.seq (.reg [.op (0, 0, false), .op (1, 2, false), .op (2, 0, false)]) .leaf) .leaf)) (.seq (.reg [.op (0, 2, false), .op (1, 0, false), .op (2, 2, false), .op (3, 0, false), .op (4, 0, false), .op (5, 0, false), .op (6, 0, false), .op (7, 0, false)]) (.seq (.reg [.op (0, 0, false), .op (1, 2, false), .op (2, 0, false), .op (3, 0, false), .op (4, 2, false), .op (5, 0, false)]) .leaf)))))
theorem I_impl_ParseWhole {a0 : Value} {w : World} {K : Value → World → Prop} (h : D_impl_ParseWhole a0 w K) : call P f_impl_ParseWhole [a0] w K :=
  call_of_vc mixed Tryz.func224 (c := codeOf Tryz.f224) (by kernel_rfl) (by kernel_rfl) (p := P_impl_ParseWhole) (by kernel_rfl) (by rw [Tryz.ntmps224]; simp) (by
    have e : D_impl_ParseWhole a0 w K = vc P P_impl_ParseWhole (codeOf Tryz.f224) (env0 [a0]) w (retX P Tryz.f224.results.toList K) := by kernel_rfl
    exact e ▸ h)

/-- impl.magMul -/
def D_impl_magMul (a0 a1 : Value) (w : World) (K : Value → World → Prop) : Prop :=
  bl0 P .len #[156] 3 [a0] w fun x12_1 =>
  bl0 P .len #[156] 3 [a1] w fun x14_2 =>
  bin P .add 3 false false x12_1 x14_2 w fun x15_3 =>
  mks P 156 x15_3 x15_3 w fun x16_4 w5 =>
  bl0 P .len #[156] 3 [a0] w5 fun x18_6 =>
  ∃ I7 : Nat → Value → World → Prop, (∃ m53, I7 m53 (.int .i64 0) w5) ∧ ∀ (m10 : Nat) (x19_11 : Value) (junk8 : Env) (w9 : World), I7 m10 x19_11 w9 →
  bin P .lss 3 false false x19_11 x18_6 w9 fun x20_12 =>
  cnd x20_12
  (ixa P 156 a0 x19_11 w9 fun x22_13 =>
  ld P 202 x22_13 w9 fun x23_14 =>
  bl0 P .len #[156] 3 [a1] w9 fun x25_15 =>
  ∃ I16 : Nat → Value → Value → World → Prop, (∃ m50, I16 m50 (.int .u64 0) (.int .i64 0) w9) ∧ ∀ (m19 : Nat) (x8_20 : Value) (x26_21 : Value) (junk17 : Env) (w18 : World), I16 m19 x8_20 x26_21 w18 →
  bin P .lss 3 false false x26_21 x25_15 w18 fun x27_22 =>
  cnd x27_22
  (ixa P 156 a1 x26_21 w18 fun x29_23 =>
  ld P 202 x29_23 w18 fun x30_24 =>
  cnv P 202 178 x23_14 w18 fun x33_25 =>
  cnv P 202 178 x30_24 w18 fun x35_26 =>
  bin P .mul 178 false false x33_25 x35_26 w18 fun x36_27 =>
  bin P .add 3 false false x19_11 x26_21 w18 fun x40_28 =>
  ixa P 156 x16_4 x40_28 w18 fun x41_29 =>
  ld P 202 x41_29 w18 fun x42_30 =>
  cnv P 202 178 x42_30 w18 fun x43_31 =>
  bin P .add 178 false false x36_27 x43_31 w18 fun x44_32 =>
  bin P .add 178 false false x8_20 x44_32 w18 fun x45_33 =>
  bin P .add 3 false false x19_11 x26_21 w18 fun x49_34 =>
  cnv P 178 202 x45_33 w18 fun x51_35 =>
  ixa P 156 x16_4 x49_34 w18 fun x52_36 =>
  sto P 202 x52_36 x51_35 w18 fun w38 =>
  bin P .shr 178 false true x45_33 (.int .u64 32) w38 fun x54_39 =>
  bin P .add 3 false true x26_21 (.int .i64 1) w38 fun x55_40 =>
  ∃ m41, m41 < m19 ∧ I16 m41 x54_39 x55_40 w38)
  (bl0 P .len #[156] 3 [a1] w18 fun x59_42 =>
  bin P .add 3 false false x19_11 x59_42 w18 fun x60_43 =>
  cnv P 178 202 x8_20 w18 fun x62_44 =>
  ixa P 156 x16_4 x60_43 w18 fun x63_45 =>
  sto P 202 x63_45 x62_44 w18 fun w47 =>
  bin P .add 3 false true x19_11 (.int .i64 1) w47 fun x64_48 =>
  ∃ m49, m49 < m10 ∧ I7 m49 x64_48 w47))
  (call P f_impl_magTrim [x16_4] w9 fun x66_51 w52 =>
  K x66_51 w52)
def P_impl_magMul : Plan := (.seq (.reg [.op (0, 0, false)]) (.seq (.reg [.op (0, 0, false), .op (1, 0, false), .op (2, 0, false), .op (3, 0, false), .op (4, 0, false), .op (5, 2, false), .op (6, 0, false)]) (.seq (.seq (.reg [.op (0, 0, false), .op (1, 0, false), .op (2, 0, false)]) (.blk (.loop [19] 36893488147418580928 (.seq (.reg [.op (0, 0, false)]) (.seq (.cond .leaf .leaf) (.seq (.blk (.seq (.reg [.op (0, 0, false), .op (1, 0, false), .op (2, 0, false), .op (3, 0, false), .op (4, 0, false)]) (.seq (.reg [.op (0, 0, false)]) (.seq (.seq (.reg [.op (0, 0, false), .op (1, 0, false), .op (2, 0, false)]) (.blk (.loop [8, 26] 72057593970820864 (.seq (.reg [.op (0, 0, false)]) (.seq (.cond .leaf .leaf) (.seq (.blk (.seq (.reg [.op (0, 0, false), .op (1, 0, false), .op (2, 0, false), .op (3, 0, false), .op (4, 0, false)]) (.seq (.reg [.op (0, 0, false), .op (1, 0, false), .op (2, 0, false), .op (3, 0, false), .op (4, 0, false), .op (5, 0, false), .op (6, 0, false), .op (7, 0, false), .op (8, 0, false), .op (9, 0, false), .op (10, 0, false), .op (11, 0, false), .op (12, 0, false), .op (13, 0, false), .op (14, 0, false), .op (15, 0, false)]) (.seq (.reg [.op (0, 0, false), .op (1, 0, false), .op (2, 0, false), .op (3, 0, false), .op (4, 0, false), .op (5, 0, false), .op (6, 0, false), .op (7, 2, false)]) (.reg [.op (0, 0, false), .op (1, 0, false), .op (2, 0, false)]))))) (.reg [.op (0, 0, false), .op (1, 0, false)]))))))) (.reg [.op (0, 0, false), .op (1, 0, false), .op (2, 0, false), .op (3, 0, false), .op (4, 0, false), .op (5, 0, false), .op (6, 0, false), .op (7, 0, false), .op (8, 2, false)]))))) (.reg [.op (0, 0, false), .op (1, 0, false)]))))))) (.seq (.reg [.op (0, 0, false), .op (1, 2, false), .op (2, 0, false)]) .leaf))))
theorem I_impl_magMul {a0 a1 : Value} {w : World} {K : Value → World → Prop} (h : D_impl_magMul a0 a1 w K) : call P f_impl_magMul [a0, a1] w K :=
  call_of_vc mixed Tryz.func231 (c := codeOf Tryz.f231) (by kernel_rfl) (by kernel_rfl) (p := P_impl_magMul) (by kernel_rfl) (by rw [Tryz.ntmps231]; simp) (by
    have e : D_impl_magMul a0 a1 w K = vc P P_impl_magMul (codeOf Tryz.f231) (env0 [a0, a1]) w (retX P Tryz.f231.results.toList K) := by kernel_rfl
    exact e ▸ h)

/-- (*impl.integer).plus -/
def D_impl_integer_plus (a0 a1 a2 a3 : Value) (w : World) (K : Value → World → Prop) : Prop :=
  nch a1 fun x11_1 =>
  fda P 158 x11_1 0 w fun x12_2 =>
  ld P 4 x12_2 w fun x13_3 =>
  bin P .eql 4 false false x13_3 a2 w fun x15_4 =>
  cnd x15_4
  (nch a1 fun x19_5 =>
  fda P 158 x19_5 1 w fun x20_6 =>
  ld P 156 x20_6 w fun x21_7 =>
  call P f_impl_magAdd [x21_7, a3] w fun x23_8 w9 =>
  call P f_impl_integer_put [a0, a2, x23_8] w9 fun x24_10 w11 =>
  K x24_10 w11)
  (nch a1 fun x27_12 =>
  fda P 158 x27_12 1 w fun x28_13 =>
  ld P 156 x28_13 w fun x29_14 =>
  call P f_impl_magCmp [x29_14, a3] w fun x31_15 w16 =>
  bin P .geq 3 false true x31_15 (.int .i64 0) w16 fun x32_17 =>
  cnd x32_17
  (nch a1 fun x35_18 =>
  fda P 158 x35_18 0 w16 fun x36_19 =>
  ld P 4 x36_19 w16 fun x37_20 =>
  nch a1 fun x39_21 =>
  fda P 158 x39_21 1 w16 fun x40_22 =>
  ld P 156 x40_22 w16 fun x41_23 =>
  call P f_impl_magSub [x41_23, a3] w16 fun x43_24 w25 =>
  Ext w16 w25 ∧ call P f_impl_integer_put [a0, x37_20, x43_24] w25 fun x44_26 w27 =>
  K x44_26 w27)
  (nch a1 fun x49_28 =>
  fda P 158 x49_28 1 w16 fun x50_29 =>
  ld P 156 x50_29 w16 fun x51_30 =>
  call P f_impl_magSub [a3, x51_30] w16 fun x52_31 w32 =>
  call P f_impl_integer_put [a0, a2, x52_31] w32 fun x53_33 w34 =>
  K x53_33 w34))
def P_impl_integer_plus : Plan := (.seq (.reg [.op (0, 0, false)]) (.seq (.blk (.seq (.reg [.op (0, 0, false), .op (1, 0, false), .op (2, 0, false), .op (3, 0, false), .op (4, 0, false), .op (5, 0, false), .op (6, 0, false)]) (.cond (.seq (.reg [.op (0, 0, false), .op (1, 0, false), .op (2, 0, false), .op (3, 0, false), .op (4, 0, false), .op (5, 0, false), .op (6, 0, false), .op (7, 2, false), .op (8, 2, false), .op (9, 0, false)]) .leaf) (.seq (.reg [.op (0, 0, false), .op (1, 0, false), .op (2, 0, false), .op (3, 0, false), .op (4, 0, false), .op (5, 2, false), .op (6, 0, false), .op (7, 0, false)]) (.cond (.seq (.reg [.op (0, 0, false), .op (1, 0, false), .op (2, 0, false), .op (3, 0, false), .op (4, 0, false), .op (5, 0, false), .op (6, 0, false), .op (7, 0, false), .op (8, 0, false), .op (9, 0, false), .op (10, 2, true), .op (11, 2, false), .op (12, 0, false)]) .leaf) .leaf))))) (.seq (.reg [.op (0, 0, false), .op (1, 0, false), .op (2, 0, false), .op (3, 0, false), .op (4, 0, false), .op (5, 0, false), .op (6, 0, false), .op (7, 2, false), .op (8, 2, false), .op (9, 0, false)]) .leaf)))
theorem I_impl_integer_plus {a0 a1 a2 a3 : Value} {w : World} {K : Value → World → Prop} (h : D_impl_integer_plus a0 a1 a2 a3 w K) : call P f_impl_integer_plus [a0, a1, a2, a3] w K :=
  call_of_vc mixed Tryz.func232 (c := codeOf Tryz.f232) (by kernel_rfl) (by kernel_rfl) (p := P_impl_integer_plus) (by kernel_rfl) (by rw [Tryz.ntmps232]; simp) (by
    have e : D_impl_integer_plus a0 a1 a2 a3 w K = vc P P_impl_integer_plus (codeOf Tryz.f232) (env0 [a0, a1, a2, a3]) w (retX P Tryz.f232.results.toList K) := by kernel_rfl
    exact e ▸ h)

/-- (*impl.integer).Lsh -/
def D_impl_integer_Lsh (a0 a1 a2 : Value) (w : World) (K : Value → World → Prop) : Prop :=
  nch a1 fun x9_1 =>
  fda P 158 x9_1 0 w fun x10_2 =>
  ld P 4 x10_2 w fun x11_3 =>
  nch a1 fun x13_4 =>
  fda P 158 x13_4 1 w fun x14_5 =>
  ld P 156 x14_5 w fun x15_6 =>
  call P f_impl_magLeft [x15_6, a2] w fun x17_7 w8 =>
  Ext w w8 ∧ call P f_impl_integer_put [a0, x11_3, x17_7] w8 fun x18_9 w10 =>
  K x18_9 w10
def P_impl_integer_Lsh : Plan := (.seq (.reg [.op (0, 0, false)]) (.seq (.reg [.op (0, 0, false), .op (1, 0, false), .op (2, 0, false), .op (3, 0, false), .op (4, 0, false), .op (5, 0, false), .op (6, 0, false), .op (7, 0, false), .op (8, 0, false), .op (9, 0, false), .op (10, 2, true), .op (11, 2, false), .op (12, 0, false)]) .leaf))
theorem I_impl_integer_Lsh {a0 a1 a2 : Value} {w : World} {K : Value → World → Prop} (h : D_impl_integer_Lsh a0 a1 a2 w K) : call P f_impl_integer_Lsh [a0, a1, a2] w K :=
  call_of_vc mixed Tryz.func233 (c := codeOf Tryz.f233) (by kernel_rfl) (by kernel_rfl) (p := P_impl_integer_Lsh) (by kernel_rfl) (by rw [Tryz.ntmps233]; simp) (by
    have e : D_impl_integer_Lsh a0 a1 a2 w K = vc P P_impl_integer_Lsh (codeOf Tryz.f233) (env0 [a0, a1, a2]) w (retX P Tryz.f233.results.toList K) := by kernel_rfl
    exact e ▸ h)

/-- (*impl.integer).low -/
def D_impl_integer_low (a0 : Value) (w : World) (K : Value → World → Prop) : Prop :=
  nch a0 fun x6_1 =>
  fda P 158 x6_1 1 w fun x7_2 =>
  ld P 156 x7_2 w fun x8_3 =>
  bl0 P .len #[156] 3 [x8_3] w fun x9_4 =>
  bl0 P .min #[3, 3] 3 [x9_4, (.int .i64 2)] w fun x10_5 =>
  bin P .sub 3 false true x10_5 (.int .i64 1) w fun x11_6 =>
  ∃ I7 : Nat → Value → Value → World → Prop, (∃ m24, I7 m24 (.int .u64 0) x11_6 w) ∧ ∀ (m10 : Nat) (x3_11 : Value) (x4_12 : Value) (junk8 : Env) (w9 : World), I7 m10 x3_11 x4_12 w9 →
  bin P .geq 3 false true x4_12 (.int .i64 0) w9 fun x13_13 =>
  cnd x13_13
  (bin P .shl 178 false true x3_11 (.int .u64 32) w9 fun x17_14 =>
  nch a0 fun x19_15 =>
  fda P 158 x19_15 1 w9 fun x20_16 =>
  ld P 156 x20_16 w9 fun x21_17 =>
  ixa P 156 x21_17 x4_12 w9 fun x23_18 =>
  ld P 202 x23_18 w9 fun x24_19 =>
  cnv P 202 178 x24_19 w9 fun x25_20 =>
  bin P .or 178 false false x17_14 x25_20 w9 fun x26_21 =>
  bin P .sub 3 false true x4_12 (.int .i64 1) w9 fun x15_22 =>
  ∃ m23, m23 < m10 ∧ I7 m23 x26_21 x15_22 w9)
  (K x3_11 w9)
def P_impl_integer_low : Plan := (.seq (.reg [.op (0, 0, false)]) (.seq (.reg [.op (0, 0, false)]) (.seq (.seq (.reg [.op (0, 0, false), .op (1, 0, false), .op (2, 0, false), .op (3, 0, false), .op (4, 0, false), .op (5, 0, false), .op (6, 0, false), .op (7, 0, false)]) (.blk (.loop [3, 4] 134213656 (.seq (.seq (.reg [.op (0, 0, false), .op (1, 0, false)]) (.cond .leaf .leaf)) (.seq (.blk (.reg [.op (0, 0, false), .op (1, 0, false), .op (2, 0, false), .op (3, 0, false), .op (4, 0, false), .op (5, 0, false), .op (6, 0, false), .op (7, 0, false), .op (8, 0, false), .op (9, 0, false), .op (10, 0, false), .op (11, 0, false)])) (.reg [.op (0, 0, false), .op (1, 0, false), .op (2, 0, false)])))))) (.seq (.reg [.op (0, 0, false), .op (1, 0, false)]) .leaf))))
theorem I_impl_integer_low {a0 : Value} {w : World} {K : Value → World → Prop} (h : D_impl_integer_low a0 w K) : call P f_impl_integer_low [a0] w K :=
  call_of_vc mixed Tryz.func234 (c := codeOf Tryz.f234) (by kernel_rfl) (by kernel_rfl) (p := P_impl_integer_low) (by kernel_rfl) (by rw [Tryz.ntmps234]; simp) (by
    have e : D_impl_integer_low a0 w K = vc P P_impl_integer_low (codeOf Tryz.f234) (env0 [a0]) w (retX P Tryz.f234.results.toList K) := by kernel_rfl
    exact e ▸ h)

/-- (*impl.integer).SetString -/
def D_impl_integer_SetString (a0 a1 a2 : Value) (w : World) (K : Value → World → Prop) : Prop :=
  bin P .neq 9 false true a1 (.string ⟨#[]⟩) w fun x12_1 =>
  ∃ J2 : Value → World → Prop, (∀ (x16_3 : Value) (junk5 : Env) (w4 : World), J2 x16_3 w4 →
  pick x12_1 x16_3 (.bool false) fun x17_6 =>
  ∃ J7 : Value → World → Prop, (∀ (x1_10 : Value) (junk8 : Env) (w9 : World), J7 x1_10 w9 →
  bsl P 156 0 [] w9 fun x32_11 w12 =>
  bl0 P .len #[9] 3 [x1_10] w12 fun x34_13 =>
  ∃ I14 : Nat → Value → Value → World → Prop, (∃ m71, I14 m71 x32_11 (.int .i64 0) w12) ∧ ∀ (m17 : Nat) (x9_18 : Value) (x35_19 : Value) (junk15 : Env) (w16 : World), I14 m17 x9_18 x35_19 w16 →
  bin P .lss 3 false false x35_19 x34_13 w16 fun x36_20 =>
  cnd x36_20
  (idx P 9 x1_10 x35_19 w16 fun x40_21 =>
  bin P .lss 5 false true x40_21 (.int .u8 48) w16 fun x41_22 =>
  ∃ J23 : Value → World → Prop, (∀ (x46_24 : Value) (junk26 : Env) (w25 : World), J23 x46_24 w25 →
  pick x41_22 (.bool true) x46_24 fun x47_27 =>
  cnd x47_27
  (K (.tuple #[(.pointer none), (.bool false)]) w25)
  (∃ J28 : Value → World → Prop, (∀ (x9_31 : Value) (junk29 : Env) (w30 : World), J28 x9_31 w30 →
  bin P .add 3 false true x35_19 (.int .i64 1) w30 fun x61_32 =>
  ∃ m33, m33 < m17 ∧ I14 m33 x9_31 x61_32 w30) ∧
  (cnv P 3 202 a2 w25 fun x50_34 =>
  idx P 9 x1_10 x35_19 w25 fun x55_35 =>
  bin P .sub 5 false true x55_35 (.int .u8 48) w25 fun x56_36 =>
  cnv P 5 202 x56_36 w25 fun x57_37 =>
  (bsl P 156 1 [(0, x50_34)] w25 fun x51_38 w39 =>
  Ext w25 w39 ∧ (call P f_impl_magMul [x9_18, x51_38] w39 fun x52_40 w41 =>
  Ext w39 w41 ∧ bsl P 156 1 [(0, x57_37)] w41 fun x58_42 w43 =>
  Ext w41 w43 ∧ call P f_impl_magTrim [x58_42] w43 fun x59_44 w45 =>
  call P f_impl_magAdd [x52_40, x59_44] w45 fun x60_46 w47 =>
  J28 x60_46 w47) ∧
  (bsl P 156 1 [(0, x57_37)] w39 fun x58_48 w49 =>
  Ext w39 w49 ∧ call P f_impl_magMul [x9_18, x51_38] w49 fun x52_50 w51 =>
  Ext w49 w51 ∧ call P f_impl_magTrim [x58_48] w51 fun x59_52 w53 =>
  call P f_impl_magAdd [x52_50, x59_52] w53 fun x60_54 w55 =>
  J28 x60_54 w55)) ∧
  (bsl P 156 1 [(0, x57_37)] w25 fun x58_56 w57 =>
  Ext w25 w57 ∧ bsl P 156 1 [(0, x50_34)] w57 fun x51_58 w59 =>
  Ext w57 w59 ∧ call P f_impl_magMul [x9_18, x51_58] w59 fun x52_60 w61 =>
  Ext w59 w61 ∧ call P f_impl_magTrim [x58_56] w61 fun x59_62 w63 =>
  call P f_impl_magAdd [x52_60, x59_62] w63 fun x60_64 w65 =>
  J28 x60_64 w65)))) ∧
  grd x41_22 false
  (idx P 9 x1_10 x35_19 w16 fun x45_66 =>
  bin P .gtr 5 false true x45_66 (.int .u8 57) w16 fun x46_67 =>
  J23 x46_67 w16)
  (J23 undef w16))
  (bin P .eql 9 false true x1_10 (.string ⟨#[]⟩) w16 fun x63_68 =>
  cnd x63_68
  (K (.tuple #[(.pointer none), (.bool false)]) w16)
  (call P f_impl_integer_put [a0, x17_6, x9_18] w16 fun x67_69 w70 =>
  K (.tuple #[x67_69, (.bool true)]) w70))) ∧
  (bin P .neq 9 false true a1 (.string ⟨#[]⟩) w4 fun x19_72 =>
  ∃ J73 : Value → World → Prop, (∀ (x24_74 : Value) (junk76 : Env) (w75 : World), J73 x24_74 w75 →
  ∃ J77 : Value → World → Prop, (∀ (x27_78 : Value) (junk80 : Env) (w79 : World), J77 x27_78 w79 →
  ∃ J81 : Value → World → Prop, (∀ (x28_82 : Value) (junk84 : Env) (w83 : World), J81 x28_82 w83 →
  pick x19_72 x28_82 (.bool false) fun x29_85 =>
  cnd x29_85
  (sli P 9 a1 (some (.int .i64 1)) none none w83 fun x31_86 =>
  J7 x31_86 w83)
  (J7 a1 w83)) ∧
  grd x19_72 true
  (pick x24_74 (.bool true) x27_78 fun x28_87 =>
  J81 x28_87 w79)
  (J81 undef w79)) ∧
  grd x24_74 false
  (idx P 9 a1 (.int .i64 0) w75 fun x26_88 =>
  bin P .eql 5 false true x26_88 (.int .u8 43) w75 fun x27_89 =>
  J77 x27_89 w75)
  (J77 undef w75)) ∧
  grd x19_72 true
  (idx P 9 a1 (.int .i64 0) w4 fun x22_90 =>
  bin P .eql 5 false true x22_90 (.int .u8 45) w4 fun x23_91 =>
  J73 x23_91 w4)
  (J73 undef w4))) ∧
  grd x12_1 true
  (idx P 9 a1 (.int .i64 0) w fun x15_92 =>
  bin P .eql 5 false true x15_92 (.int .u8 45) w fun x16_93 =>
  J2 x16_93 w)
  (J2 undef w)
def P_impl_integer_SetString : Plan := (.seq (.reg [.op (0, 0, false), .op (1, 0, false)]) (.seq (.reg [.op (0, 0, false), .op (1, 0, false), .op (2, 0, false), .grp 2 true [(3, 0, false), (4, 0, false), (5, 0, false)] [16] 114688, .op (6, 0, false), .op (7, 0, false)]) (.cut [1] 4294705154 (.seq (.reg [.op (0, 0, false), .op (1, 0, false), .op (2, 0, false), .grp 2 true [(3, 0, false), (4, 0, false), (5, 0, false), (6, 0, false)] [24] 31457280, .grp 6 false [(7, 0, false), (8, 0, false), (9, 0, false)] [27] 234881024, .grp 2 true [(10, 0, false)] [28] 268435456, .op (11, 0, false)]) (.cond (.reg [.op (0, 0, false), .op (1, 0, false), .op (2, 0, false)]) .leaf)) (.seq (.reg [.op (0, 2, false), .op (1, 0, false)]) (.seq (.seq (.reg [.op (0, 0, false), .op (1, 0, false), .op (2, 0, false)]) (.blk (.loop [9, 35] 4611685984067651264 (.seq (.reg [.op (0, 0, false)]) (.seq (.cond .leaf .leaf) (.seq (.blk (.seq (.reg [.op (0, 0, false), .op (1, 0, false)]) (.seq (.seq (.reg [.op (0, 0, false), .op (1, 0, false), .op (2, 0, false), .op (3, 0, false), .op (4, 0, false), .grp 4 false [(5, 0, false), (6, 0, false), (7, 0, false), (8, 0, false)] [46] 131941395333120, .op (9, 0, false)]) (.cond (.seq (.reg [.op (0, 0, false), .op (1, 0, false)]) .leaf) .leaf)) (.tree [9] 2305561534236983808 (.op (0, 0, false) (.op (1, 0, false) (.op (2, 0, false) (.op (5, 0, false) (.op (6, 0, false) (.op (7, 0, false) (.op (8, 0, false) (.op (9, 0, false) (.fork (3, 2, true) (.fork (4, 2, true) (.fork (10, 2, true) (.fork (11, 2, false) (.fork (12, 2, false) (.op (13, 0, false) .done) .stop) .stop) .stop) (.fork (10, 2, true) (.fork (4, 2, true) (.fork (11, 2, false) (.fork (12, 2, false) (.op (13, 0, false) .done) .stop) .stop) .stop) .stop)) (.fork (10, 2, true) (.fork (3, 2, true) (.fork (4, 2, true) (.fork (11, 2, false) (.fork (12, 2, false) (.op (13, 0, false) .done) .stop) .stop) .stop) .stop) .stop)))))))))))))) (.reg [.op (0, 0, false), .op (1, 0, false)]))))))) (.seq (.seq (.reg [.op (0, 0, false), .op (1, 0, false)]) (.cond (.seq (.reg [.op (0, 0, false), .op (1, 0, false)]) .leaf) .leaf)) (.seq (.reg [.op (0, 0, false), .op (1, 0, false), .op (2, 0, false), .op (3, 2, false), .op (4, 0, false), .op (5, 0, false)]) .leaf)))))))
theorem I_impl_integer_SetString {a0 a1 a2 : Value} {w : World} {K : Value → World → Prop} (h : D_impl_integer_SetString a0 a1 a2 w K) : call P f_impl_integer_SetString [a0, a1, a2] w K :=
  call_of_vc mixed Tryz.func256 (c := codeOf Tryz.f256) (by kernel_rfl) (by kernel_rfl) (p := P_impl_integer_SetString) (by kernel_rfl) (by rw [Tryz.ntmps256]; simp) (by
    have e : D_impl_integer_SetString a0 a1 a2 w K = vc P P_impl_integer_SetString (codeOf Tryz.f256) (env0 [a0, a1, a2]) w (retX P Tryz.f256.results.toList K) := by kernel_rfl
    exact e ▸ h)

/-- impl.whole -/
def D_impl_whole (a0 : Value) (w : World) (K : Value → World → Prop) : Prop :=
  alc P 55 w fun x2_1 w2 =>
  call P f_impl_fromBig [a0] w2 fun x8_3 w4 =>
  xtr P x8_3 0 w4 fun x9_5 =>
  xtr P x8_3 1 w4 fun x10_6 =>
  alc P 55 w4 fun x4_7 w8 =>
  sto P 55 x4_7 x9_5 w8 fun w10 =>
  una P .not x10_6 w10 fun x12_11 =>
  cnd x12_11
  (bld P 55 [] w10 fun x13_12 =>
  sto P 55 x2_1 x13_12 w10 fun w14 =>
  ldc P 55 x2_1 w14 fun r15 =>
  K (.tuple #[r15, (.int .i64 3)]) w14)
  (ld P 55 x4_7 w10 fun x14_16 =>
  sto P 55 x2_1 x14_16 w10 fun w18 =>
  ldc P 55 x2_1 w18 fun r19 =>
  K (.tuple #[r19, (.int .i64 0)]) w18)
def P_impl_whole : Plan := (.seq (.reg [.op (0, 2, false), .op (1, 0, false)]) (.seq (.reg [.op (0, 0, false), .op (1, 2, false), .op (2, 0, false), .op (3, 0, false), .op (4, 0, false), .op (5, 2, false), .op (6, 2, false), .op (7, 0, false)]) (.seq (.seq (.reg [.op (0, 0, false), .op (1, 0, false)]) (.cond (.seq (.reg [.op (0, 0, false), .op (1, 2, false), .op (2, 0, false)]) .leaf) .leaf)) (.seq (.reg [.op (0, 0, false), .op (1, 2, false), .op (2, 0, false)]) .leaf))))
theorem I_impl_whole {a0 : Value} {w : World} {K : Value → World → Prop} (h : D_impl_whole a0 w K) : call P f_impl_whole [a0] w K :=
  call_of_vc mixed Tryz.func257 (c := codeOf Tryz.f257) (by kernel_rfl) (by kernel_rfl) (p := P_impl_whole) (by kernel_rfl) (by rw [Tryz.ntmps257]; simp) (by
    have e : D_impl_whole a0 w K = vc P P_impl_whole (codeOf Tryz.f257) (env0 [a0]) w (retX P Tryz.f257.results.toList K) := by kernel_rfl
    exact e ▸ h)

/-- impl.IsWhole -/
def D_impl_IsWhole (a0 : Value) (w : World) (K : Value → World → Prop) : Prop :=
  bx P 55 a0 w fun x1_1 w2 =>
  fda P 55 x1_1 1 w2 fun x6_3 =>
  ld P 53 x6_3 w2 fun x7_4 =>
  bl0 P .len #[53] 3 [x7_4] w2 fun x8_5 =>
  bin P .gtr 3 false true x8_5 (.int .i64 100) w2 fun x10_6 =>
  ∃ J7 : Value → World → Prop, (∀ (x14_8 : Value) (junk10 : Env) (w9 : World), J7 x14_8 w9 →
  pick x10_6 (.bool true) x14_8 fun x15_11 =>
  ∃ J12 : Value → World → Prop, (∀ (x19_13 : Value) (junk15 : Env) (w14 : World), J12 x19_13 w14 →
  pick x15_11 (.bool true) x19_13 fun x20_16 =>
  ∃ J17 : Value → World → Prop, (∀ (x27_18 : Value) (junk20 : Env) (w19 : World), J17 x27_18 w19 →
  pick x20_16 (.bool true) x27_18 fun x28_21 =>
  cnd x28_21
  (K (.bool false) w19)
  (fda P 55 x1_1 1 w19 fun x29_22 =>
  ld P 53 x29_22 w19 fun x30_23 =>
  bl0 P .len #[53] 3 [x30_23] w19 fun x31_24 =>
  ∃ I25 : Nat → Value → World → Prop, (∃ m54, I25 m54 (.int .i64 0) w19) ∧ ∀ (m28 : Nat) (x32_29 : Value) (junk26 : Env) (w27 : World), I25 m28 x32_29 w27 →
  bin P .lss 3 false false x32_29 x31_24 w27 fun x33_30 =>
  cnd x33_30
  (ixa P 53 x30_23 x32_29 w27 fun x34_31 =>
  ld P 2 x34_31 w27 fun x35_32 =>
  bin P .lss 2 false true x35_32 (.int .i64 0) w27 fun x37_33 =>
  ∃ J34 : Value → World → Prop, (∀ (x40_35 : Value) (junk37 : Env) (w36 : World), J34 x40_35 w36 →
  pick x37_33 (.bool true) x40_35 fun x41_38 =>
  cnd x41_38
  (K (.bool false) w36)
  (bin P .add 3 false true x32_29 (.int .i64 1) w36 fun x42_39 =>
  ∃ m40, m40 < m28 ∧ I25 m40 x42_39 w36)) ∧
  grd x37_33 false
  (bin P .gtr 2 false true x35_32 (.int .i64 16777215) w27 fun x40_41 =>
  J34 x40_41 w27)
  (J34 undef w27))
  (bin P .eql 3 false true x8_5 (.int .i64 0) w27 fun x44_42 =>
  ∃ J43 : Value → World → Prop, (∀ (x52_44 : Value) (junk46 : Env) (w45 : World), J43 x52_44 w45 →
  pick x44_42 (.bool true) x52_44 fun x53_47 =>
  K x53_47 w45) ∧
  grd x44_42 false
  (fda P 55 x1_1 1 w27 fun x46_48 =>
  ld P 53 x46_48 w27 fun x47_49 =>
  bin P .sub 3 false true x8_5 (.int .i64 1) w27 fun x49_50 =>
  ixa P 53 x47_49 x49_50 w27 fun x50_51 =>
  ld P 2 x50_51 w27 fun x51_52 =>
  bin P .neq 2 false true x51_52 (.int .i64 0) w27 fun x52_53 =>
  J43 x52_53 w27)
  (J43 undef w27)))) ∧
  grd x20_16 false
  (fda P 55 x1_1 0 w14 fun x22_55 =>
  ld P 2 x22_55 w14 fun x23_56 =>
  bin P .eql 2 false true x23_56 (.int .i64 0) w14 fun x24_57 =>
  bin P .eql 3 false true x8_5 (.int .i64 0) w14 fun x26_58 =>
  bin P .neq 4 false false x24_57 x26_58 w14 fun x27_59 =>
  J17 x27_59 w14)
  (J17 undef w14)) ∧
  grd x15_11 false
  (fda P 55 x1_1 0 w9 fun x17_60 =>
  ld P 2 x17_60 w9 fun x18_61 =>
  bin P .gtr 2 false true x18_61 (.int .i64 1) w9 fun x19_62 =>
  J12 x19_62 w9)
  (J12 undef w9)) ∧
  grd x10_6 false
  (fda P 55 x1_1 0 w2 fun x12_63 =>
  ld P 2 x12_63 w2 fun x13_64 =>
  bin P .lss 2 false true x13_64 (.int .i64 (-1)) w2 fun x14_65 =>
  J7 x14_65 w2)
  (J7 undef w2)
def P_impl_IsWhole : Plan := (.seq (.reg [.op (0, 2, false), .op (1, 0, false)]) (.seq (.reg [.op (0, 0, false), .op (1, 0, false), .op (2, 0, false), .op (3, 0, false)]) (.seq (.seq (.reg [.op (0, 0, false), .op (1, 0, false), .op (2, 0, false), .grp 2 false [(3, 0, false), (4, 0, false), (5, 0, false)] [14] 28672, .op (6, 0, false), .op (7, 0, false), .grp 7 false [(8, 0, false), (9, 0, false), (10, 0, false)] [19] 917504, .op (11, 0, false), .op (12, 0, false), .grp 12 false [(13, 0, false), (14, 0, false), (15, 0, false), (16, 0, false), (17, 0, false), (18, 0, false)] [27] 264241152, .op (19, 0, false)]) (.cond (.seq (.reg [.op (0, 0, false)]) .leaf) .leaf)) (.seq (.seq (.reg [.op (0, 0, false), .op (1, 0, false), .op (2, 0, false), .op (3, 0, false)]) (.blk (.loop [32] 8791798054948 (.seq (.reg [.op (0, 0, false)]) (.seq (.cond .leaf .leaf) (.seq (.blk (.seq (.reg [.op (0, 0, false), .op (1, 0, false), .op (2, 0, false)]) (.seq (.reg [.op (0, 0, false), .op (1, 0, false), .op (2, 0, false), .grp 2 false [(3, 0, false), (4, 0, false)] [40] 1649267441664, .op (5, 0, false)]) (.cond (.seq (.reg [.op (0, 0, false)]) .leaf) .leaf)))) (.reg [.op (0, 0, false), .op (1, 0, false)]))))))) (.seq (.reg [.op (0, 0, false), .op (1, 0, false), .op (2, 0, false), .grp 2 false [(3, 0, false), (4, 0, false), (5, 0, false), (6, 0, false), (7, 0, false), (8, 0, false), (9, 0, false)] [52] 8936830510563328, .op (10, 0, false), .op (11, 0, false)]) .leaf)))))
theorem I_impl_IsWhole {a0 : Value} {w : World} {K : Value → World → Prop} (h : D_impl_IsWhole a0 w K) : call P f_impl_IsWhole [a0] w K :=
  call_of_vc mixed Tryz.func260 (c := codeOf Tryz.f260) (by kernel_rfl) (by kernel_rfl) (p := P_impl_IsWhole) (by kernel_rfl) (by rw [Tryz.ntmps260]; simp) (by
    have e : D_impl_IsWhole a0 w K = vc P P_impl_IsWhole (codeOf Tryz.f260) (env0 [a0]) w (retX P Tryz.f260.results.toList K) := by kernel_rfl
    exact e ▸ h)

/-- impl.toBig -/
def D_impl_toBig (a0 : Value) (w : World) (K : Value → World → Prop) : Prop :=
  bx P 55 a0 w fun x1_1 w2 =>
  alc P 158 w2 fun x5_3 w4 =>
  fda P 55 x1_1 1 w4 fun x6_5 =>
  ld P 53 x6_5 w4 fun x7_6 =>
  bl0 P .len #[53] 3 [x7_6] w4 fun x8_7 =>
  bin P .sub 3 false true x8_7 (.int .i64 1) w4 fun x9_8 =>
  ∃ I9 : Nat → Value → World → Prop, (∃ m32, I9 m32 x9_8 w4) ∧ ∀ (m12 : Nat) (x4_13 : Value) (junk10 : Env) (w11 : World), I9 m12 x4_13 w11 →
  bin P .geq 3 false true x4_13 (.int .i64 0) w11 fun x11_14 =>
  cnd x11_14
  (call P f_impl_integer_Lsh [x5_3, x5_3, (.int .u64 24)] w11 fun x16_15 w16 =>
  fda P 55 x1_1 1 w16 fun x19_17 =>
  ld P 53 x19_17 w16 fun x20_18 =>
  ixa P 53 x20_18 x4_13 w16 fun x22_19 =>
  ld P 2 x22_19 w16 fun x23_20 =>
  call P f_impl_newInt [x23_20] w16 fun x24_21 w22 =>
  call P f_impl_integer_Or [x5_3, x5_3, x24_21] w22 fun x25_23 w24 =>
  bin P .sub 3 false true x4_13 (.int .i64 1) w24 fun x13_25 =>
  ∃ m26, m26 < m12 ∧ I9 m26 x13_25 w24)
  (fda P 55 x1_1 0 w11 fun x26_27 =>
  ld P 2 x26_27 w11 fun x27_28 =>
  bin P .lss 2 false true x27_28 (.int .i64 0) w11 fun x28_29 =>
  cnd x28_29
  (call P f_impl_integer_Neg [x5_3, x5_3] w11 fun x31_30 w31 =>
  K x5_3 w31)
  (K x5_3 w11))
def P_impl_toBig : Plan := (.seq (.reg [.op (0, 2, false), .op (1, 0, false)]) (.seq (.reg [.op (0, 2, false), .op (1, 0, false)]) (.seq (.seq (.reg [.op (0, 0, false), .op (1, 0, false), .op (2, 0, false), .op (3, 0, false), .op (4, 0, false)]) (.blk (.loop [4] 67107856 (.seq (.seq (.reg [.op (0, 0, false), .op (1, 0, false)]) (.cond .leaf .leaf)) (.seq (.blk (.seq (.reg [.op (0, 0, false), .op (1, 0, false), .op (2, 2, false)]) (.reg [.op (0, 0, false), .op (1, 0, false), .op (2, 0, false), .op (3, 0, false), .op (4, 0, false), .op (5, 0, false), .op (6, 0, false), .op (7, 2, false), .op (8, 2, false)]))) (.reg [.op (0, 0, false), .op (1, 0, false), .op (2, 0, false)])))))) (.seq (.seq (.reg [.op (0, 0, false), .op (1, 0, false), .op (2, 0, false)]) (.cond (.reg [.op (0, 0, false), .op (1, 0, false), .op (2, 2, false)]) .leaf)) (.seq (.reg [.op (0, 0, false), .op (1, 0, false)]) .leaf)))))
theorem I_impl_toBig {a0 : Value} {w : World} {K : Value → World → Prop} (h : D_impl_toBig a0 w K) : call P f_impl_toBig [a0] w K :=
  call_of_vc mixed Tryz.func261 (c := codeOf Tryz.f261) (by kernel_rfl) (by kernel_rfl) (p := P_impl_toBig) (by kernel_rfl) (by rw [Tryz.ntmps261]; simp) (by
    have e : D_impl_toBig a0 w K = vc P P_impl_toBig (codeOf Tryz.f261) (env0 [a0]) w (retX P Tryz.f261.results.toList K) := by kernel_rfl
    exact e ▸ h)

/-- (*impl.integer).Sub -/
def D_impl_integer_Sub (a0 a1 a2 : Value) (w : World) (K : Value → World → Prop) : Prop :=
  nch a2 fun x10_1 =>
  fda P 158 x10_1 0 w fun x11_2 =>
  ld P 4 x11_2 w fun x12_3 =>
  una P .not x12_3 w fun x13_4 =>
  nch a2 fun x15_5 =>
  fda P 158 x15_5 1 w fun x16_6 =>
  ld P 156 x16_6 w fun x17_7 =>
  call P f_impl_integer_plus [a0, a1, x13_4, x17_7] w fun x18_8 w9 =>
  K x18_8 w9
def P_impl_integer_Sub : Plan := (.seq (.reg [.op (0, 0, false)]) (.seq (.reg [.op (0, 0, false), .op (1, 0, false), .op (2, 0, false), .op (3, 0, false), .op (4, 0, false), .op (5, 0, false), .op (6, 0, false), .op (7, 0, false), .op (8, 0, false), .op (9, 0, false), .op (10, 0, false), .op (11, 2, false), .op (12, 0, false)]) .leaf))
theorem I_impl_integer_Sub {a0 a1 a2 : Value} {w : World} {K : Value → World → Prop} (h : D_impl_integer_Sub a0 a1 a2 w K) : call P f_impl_integer_Sub [a0, a1, a2] w K :=
  call_of_vc mixed Tryz.func265 (c := codeOf Tryz.f265) (by kernel_rfl) (by kernel_rfl) (p := P_impl_integer_Sub) (by kernel_rfl) (by rw [Tryz.ntmps265]; simp) (by
    have e : D_impl_integer_Sub a0 a1 a2 w K = vc P P_impl_integer_Sub (codeOf Tryz.f265) (env0 [a0, a1, a2]) w (retX P Tryz.f265.results.toList K) := by kernel_rfl
    exact e ▸ h)

/-- (*impl.integer).Cmp -/
def D_impl_integer_Cmp (a0 a1 : Value) (w : World) (K : Value → World → Prop) : Prop :=
  nch a0 fun x7_1 =>
  fda P 158 x7_1 0 w fun x8_2 =>
  ld P 4 x8_2 w fun x9_3 =>
  ∃ J4 : Value → World → Prop, (∀ (x14_5 : Value) (junk7 : Env) (w6 : World), J4 x14_5 w6 →
  pick x9_3 x14_5 (.bool false) fun x15_8 =>
  cnd x15_8
  (nch a1 fun x17_9 =>
  fda P 158 x17_9 1 w6 fun x18_10 =>
  ld P 156 x18_10 w6 fun x19_11 =>
  nch a0 fun x21_12 =>
  fda P 158 x21_12 1 w6 fun x22_13 =>
  ld P 156 x22_13 w6 fun x23_14 =>
  call P f_impl_magCmp [x19_11, x23_14] w6 fun x24_15 w16 =>
  K x24_15 w16)
  (nch a0 fun x27_17 =>
  fda P 158 x27_17 0 w6 fun x28_18 =>
  ld P 4 x28_18 w6 fun x29_19 =>
  cnd x29_19
  (K (.int .i64 (-1)) w6)
  (nch a1 fun x32_20 =>
  fda P 158 x32_20 0 w6 fun x33_21 =>
  ld P 4 x33_21 w6 fun x34_22 =>
  cnd x34_22
  (K (.int .i64 1) w6)
  (nch a0 fun x36_23 =>
  fda P 158 x36_23 1 w6 fun x37_24 =>
  ld P 156 x37_24 w6 fun x38_25 =>
  nch a1 fun x40_26 =>
  fda P 158 x40_26 1 w6 fun x41_27 =>
  ld P 156 x41_27 w6 fun x42_28 =>
  call P f_impl_magCmp [x38_25, x42_28] w6 fun x43_29 w30 =>
  K x43_29 w30)))) ∧
  grd x9_3 true
  (nch a1 fun x12_31 =>
  fda P 158 x12_31 0 w fun x13_32 =>
  ld P 4 x13_32 w fun x14_33 =>
  J4 x14_33 w)
  (J4 undef w)
def P_impl_integer_Cmp : Plan := (.seq (.reg [.op (0, 0, false)]) (.seq (.blk (.seq (.reg [.op (0, 0, false), .op (1, 0, false), .op (2, 0, false), .op (3, 0, false), .op (4, 0, false), .grp 4 true [(5, 0, false), (6, 0, false), (7, 0, false), (8, 0, false)] [14] 30720, .op (9, 0, false), .op (10, 0, false)]) (.cond (.seq (.reg [.op (0, 0, false), .op (1, 0, false), .op (2, 0, false), .op (3, 0, false), .op (4, 0, false), .op (5, 0, false), .op (6, 0, false), .op (7, 0, false), .op (8, 2, false), .op (9, 0, false)]) .leaf) (.seq (.reg [.op (0, 0, false), .op (1, 0, false), .op (2, 0, false), .op (3, 0, false), .op (4, 0, false)]) (.cond (.seq (.reg [.op (0, 0, false)]) .leaf) (.seq (.reg [.op (0, 0, false), .op (1, 0, false), .op (2, 0, false), .op (3, 0, false), .op (4, 0, false)]) (.cond (.seq (.reg [.op (0, 0, false)]) .leaf) .leaf))))))) (.seq (.reg [.op (0, 0, false), .op (1, 0, false), .op (2, 0, false), .op (3, 0, false), .op (4, 0, false), .op (5, 0, false), .op (6, 0, false), .op (7, 0, false), .op (8, 2, false), .op (9, 0, false)]) .leaf)))
theorem I_impl_integer_Cmp {a0 a1 : Value} {w : World} {K : Value → World → Prop} (h : D_impl_integer_Cmp a0 a1 w K) : call P f_impl_integer_Cmp [a0, a1] w K :=
  call_of_vc mixed Tryz.func266 (c := codeOf Tryz.f266) (by kernel_rfl) (by kernel_rfl) (p := P_impl_integer_Cmp) (by kernel_rfl) (by rw [Tryz.ntmps266]; simp) (by
    have e : D_impl_integer_Cmp a0 a1 w K = vc P P_impl_integer_Cmp (codeOf Tryz.f266) (env0 [a0, a1]) w (retX P Tryz.f266.results.toList K) := by kernel_rfl
    exact e ▸ h)

/-- impl.magCmp -/
def D_impl_magCmp (a0 a1 : Value) (w : World) (K : Value → World → Prop) : Prop :=
  bl0 P .len #[156] 3 [a0] w fun x7_1 =>
  bl0 P .len #[156] 3 [a1] w fun x9_2 =>
  bin P .neq 3 false false x7_1 x9_2 w fun x10_3 =>
  cnd x10_3
  (bl0 P .len #[156] 3 [a0] w fun x12_4 =>
  bl0 P .len #[156] 3 [a1] w fun x14_5 =>
  call P f_cmp_Compare_int [x12_4, x14_5] w fun x15_6 w7 =>
  K x15_6 w7)
  (bl0 P .len #[156] 3 [a0] w fun x17_8 =>
  bin P .sub 3 false true x17_8 (.int .i64 1) w fun x18_9 =>
  ∃ I10 : Nat → Value → World → Prop, (∃ m29, I10 m29 x18_9 w) ∧ ∀ (m13 : Nat) (x5_14 : Value) (junk11 : Env) (w12 : World), I10 m13 x5_14 w12 →
  bin P .geq 3 false true x5_14 (.int .i64 0) w12 fun x20_15 =>
  cnd x20_15
  (ixa P 156 a0 x5_14 w12 fun x25_16 =>
  ld P 202 x25_16 w12 fun x26_17 =>
  ixa P 156 a1 x5_14 w12 fun x29_18 =>
  ld P 202 x29_18 w12 fun x30_19 =>
  bin P .neq 202 false false x26_17 x30_19 w12 fun x31_20 =>
  cnd x31_20
  (ixa P 156 a0 x5_14 w12 fun x34_21 =>
  ld P 202 x34_21 w12 fun x35_22 =>
  ixa P 156 a1 x5_14 w12 fun x38_23 =>
  ld P 202 x38_23 w12 fun x39_24 =>
  call P f_cmp_Compare_uint32 [x35_22, x39_24] w12 fun x40_25 w26 =>
  K x40_25 w26)
  (bin P .sub 3 false true x5_14 (.int .i64 1) w12 fun x22_27 =>
  ∃ m28, m28 < m13 ∧ I10 m28 x22_27 w12))
  (K (.int .i64 0) w12))
def P_impl_magCmp : Plan := (.seq (.reg [.op (0, 0, false)]) (.seq (.seq (.reg [.op (0, 0, false), .op (1, 0, false), .op (2, 0, false), .op (3, 0, false), .op (4, 0, false)]) (.cond (.seq (.reg [.op (0, 0, false), .op (1, 0, false), .op (2, 0, false), .op (3, 0, false), .op (4, 2, false), .op (5, 0, false)]) .leaf) .leaf)) (.seq (.seq (.reg [.op (0, 0, false), .op (1, 0, false), .op (2, 0, false), .op (3, 0, false)]) (.blk (.loop [5] 2199022731312 (.seq (.seq (.reg [.op (0, 0, false), .op (1, 0, false)]) (.cond .leaf .leaf)) (.seq (.blk (.seq (.reg [.op (0, 0, false), .op (1, 0, false), .op (2, 0, false), .op (3, 0, false), .op (4, 0, false), .op (5, 0, false), .op (6, 0, false), .op (7, 0, false), .op (8, 0, false)]) (.cond (.seq (.reg [.op (0, 0, false), .op (1, 0, false), .op (2, 0, false), .op (3, 0, false), .op (4, 0, false), .op (5, 0, false), .op (6, 0, false), .op (7, 0, false), .op (8, 2, false), .op (9, 0, false)]) .leaf) .leaf))) (.reg [.op (0, 0, false), .op (1, 0, false), .op (2, 0, false)])))))) (.seq (.reg [.op (0, 0, false)]) .leaf))))
theorem I_impl_magCmp {a0 a1 : Value} {w : World} {K : Value → World → Prop} (h : D_impl_magCmp a0 a1 w K) : call P f_impl_magCmp [a0, a1] w K :=
  call_of_vc mixed Tryz.func268 (c := codeOf Tryz.f268) (by kernel_rfl) (by kernel_rfl) (p := P_impl_magCmp) (by kernel_rfl) (by rw [Tryz.ntmps268]; simp) (by
    have e : D_impl_magCmp a0 a1 w K = vc P P_impl_magCmp (codeOf Tryz.f268) (env0 [a0, a1]) w (retX P Tryz.f268.results.toList K) := by kernel_rfl
    exact e ▸ h)

/-- impl.magLeft -/
def D_impl_magLeft (a0 a1 : Value) (w : World) (K : Value → World → Prop) : Prop :=
  bl0 P .len #[156] 3 [a0] w fun x10_1 =>
  bin P .eql 3 false true x10_1 (.int .i64 0) w fun x11_2 =>
  cnd x11_2
  (K (.slice none 0 0) w)
  (bin P .quo 154 false true a1 (.int .u64 32) w fun x13_3 =>
  cnv P 154 3 x13_3 w fun x14_4 =>
  bl0 P .len #[156] 3 [a0] w fun x16_5 =>
  bin P .add 3 false false x14_4 x16_5 w fun x17_6 =>
  bin P .add 3 false true x17_6 (.int .i64 1) w fun x18_7 =>
  mks P 156 x18_7 x18_7 w fun x19_8 w9 =>
  bl0 P .len #[156] 3 [a0] w9 fun x21_10 =>
  ∃ I11 : Nat → Value → World → Prop, (∃ m45, I11 m45 (.int .i64 0) w9) ∧ ∀ (m14 : Nat) (x22_15 : Value) (junk12 : Env) (w13 : World), I11 m14 x22_15 w13 →
  bin P .lss 3 false false x22_15 x21_10 w13 fun x23_16 =>
  cnd x23_16
  (ixa P 156 a0 x22_15 w13 fun x25_17 =>
  ld P 202 x25_17 w13 fun x26_18 =>
  cnv P 202 178 x26_18 w13 fun x28_19 =>
  bin P .rem 154 false true a1 (.int .u64 32) w13 fun x30_20 =>
  bin P .shl 178 false false x28_19 x30_20 w13 fun x31_21 =>
  bin P .quo 154 false true a1 (.int .u64 32) w13 fun x34_22 =>
  cnv P 154 3 x34_22 w13 fun x35_23 =>
  bin P .add 3 false false x35_23 x22_15 w13 fun x37_24 =>
  ixa P 156 x19_8 x37_24 w13 fun x38_25 =>
  ld P 202 x38_25 w13 fun x39_26 =>
  cnv P 178 202 x31_21 w13 fun x41_27 =>
  bin P .or 202 false false x39_26 x41_27 w13 fun x42_28 =>
  ixa P 156 x19_8 x37_24 w13 fun x43_29 =>
  sto P 202 x43_29 x42_28 w13 fun w31 =>
  bin P .quo 154 false true a1 (.int .u64 32) w31 fun x46_32 =>
  cnv P 154 3 x46_32 w31 fun x47_33 =>
  bin P .add 3 false false x47_33 x22_15 w31 fun x49_34 =>
  bin P .add 3 false true x49_34 (.int .i64 1) w31 fun x50_35 =>
  bin P .shr 178 false true x31_21 (.int .u64 32) w31 fun x52_36 =>
  cnv P 178 202 x52_36 w31 fun x53_37 =>
  ixa P 156 x19_8 x50_35 w31 fun x54_38 =>
  sto P 202 x54_38 x53_37 w31 fun w40 =>
  bin P .add 3 false true x22_15 (.int .i64 1) w40 fun x55_41 =>
  ∃ m42, m42 < m14 ∧ I11 m42 x55_41 w40)
  (call P f_impl_magTrim [x19_8] w13 fun x57_43 w44 =>
  K x57_43 w44))
def P_impl_magLeft : Plan := (.seq (.reg [.op (0, 0, false)]) (.seq (.seq (.reg [.op (0, 0, false), .op (1, 0, false), .op (2, 0, false)]) (.cond (.seq (.reg [.op (0, 0, false)]) .leaf) .leaf)) (.seq (.reg [.op (0, 0, false), .op (1, 0, false), .op (2, 0, false), .op (3, 0, false), .op (4, 0, false), .op (5, 0, false), .op (6, 0, false), .op (7, 2, false), .op (8, 0, false)]) (.seq (.seq (.reg [.op (0, 0, false), .op (1, 0, false), .op (2, 0, false)]) (.blk (.loop [22] 72057594033734080 (.seq (.reg [.op (0, 0, false)]) (.seq (.cond .leaf .leaf) (.seq (.blk (.seq (.reg [.op (0, 0, false), .op (1, 0, false), .op (2, 0, false), .op (3, 0, false), .op (4, 0, false)]) (.seq (.reg [.op (0, 0, false), .op (1, 0, false), .op (2, 0, false), .op (3, 0, false), .op (4, 0, false), .op (5, 0, false)]) (.seq (.reg [.op (0, 0, false), .op (1, 0, false), .op (2, 0, false), .op (3, 0, false), .op (4, 0, false), .op (5, 0, false), .op (6, 0, false), .op (7, 0, false), .op (8, 0, false), .op (9, 0, false), .op (10, 0, false), .op (11, 0, false), .op (12, 2, false)]) (.reg [.op (0, 0, false), .op (1, 0, false), .op (2, 0, false), .op (3, 0, false), .op (4, 0, false), .op (5, 0, false), .op (6, 0, false), .op (7, 0, false), .op (8, 0, false), .op (9, 0, false), .op (10, 0, false), .op (11, 2, false)]))))) (.reg [.op (0, 0, false), .op (1, 0, false)]))))))) (.seq (.reg [.op (0, 0, false), .op (1, 2, false), .op (2, 0, false)]) .leaf)))))
theorem I_impl_magLeft {a0 a1 : Value} {w : World} {K : Value → World → Prop} (h : D_impl_magLeft a0 a1 w K) : call P f_impl_magLeft [a0, a1] w K :=
  call_of_vc mixed Tryz.func269 (c := codeOf Tryz.f269) (by kernel_rfl) (by kernel_rfl) (p := P_impl_magLeft) (by kernel_rfl) (by rw [Tryz.ntmps269]; simp) (by
    have e : D_impl_magLeft a0 a1 w K = vc P P_impl_magLeft (codeOf Tryz.f269) (env0 [a0, a1]) w (retX P Tryz.f269.results.toList K) := by kernel_rfl
    exact e ▸ h)

/-- (*impl.integer).Or -/
def D_impl_integer_Or (a0 a1 a2 : Value) (w : World) (K : Value → World → Prop) : Prop :=
  nch a1 fun x11_1 =>
  fda P 158 x11_1 1 w fun x12_2 =>
  ld P 156 x12_2 w fun x13_3 =>
  bl0 P .len #[156] 3 [x13_3] w fun x14_4 =>
  nch a2 fun x16_5 =>
  fda P 158 x16_5 1 w fun x17_6 =>
  ld P 156 x17_6 w fun x18_7 =>
  bl0 P .len #[156] 3 [x18_7] w fun x19_8 =>
  bl0 P .max #[3, 3] 3 [x14_4, x19_8] w fun x20_9 =>
  mks P 156 x20_9 x20_9 w fun x21_10 w11 =>
  nch a1 fun x24_12 =>
  fda P 158 x24_12 1 w11 fun x25_13 =>
  ld P 156 x25_13 w11 fun x26_14 =>
  bl2 P .copy #[156, 156] 3 [x21_10, x26_14] w11 fun x27_15 w16 =>
  nch a2 fun x29_17 =>
  fda P 158 x29_17 1 w16 fun x30_18 =>
  ld P 156 x30_18 w16 fun x31_19 =>
  bl0 P .len #[156] 3 [x31_19] w16 fun x32_20 =>
  ∃ I21 : Nat → Value → World → Prop, (∃ m39, I21 m39 (.int .i64 0) w16) ∧ ∀ (m24 : Nat) (x33_25 : Value) (junk22 : Env) (w23 : World), I21 m24 x33_25 w23 →
  bin P .lss 3 false false x33_25 x32_20 w23 fun x34_26 =>
  cnd x34_26
  (ixa P 156 x31_19 x33_25 w23 fun x36_27 =>
  ld P 202 x36_27 w23 fun x37_28 =>
  ixa P 156 x21_10 x33_25 w23 fun x40_29 =>
  ld P 202 x40_29 w23 fun x41_30 =>
  bin P .or 202 false false x41_30 x37_28 w23 fun x43_31 =>
  ixa P 156 x21_10 x33_25 w23 fun x44_32 =>
  sto P 202 x44_32 x43_31 w23 fun w34 =>
  bin P .add 3 false true x33_25 (.int .i64 1) w34 fun x45_35 =>
  ∃ m36, m36 < m24 ∧ I21 m36 x45_35 w34)
  (call P f_impl_integer_put [a0, (.bool false), x21_10] w23 fun x48_37 w38 =>
  K x48_37 w38)
def P_impl_integer_Or : Plan := (.seq (.reg [.op (0, 0, false)]) (.seq (.reg [.op (0, 0, false), .op (1, 0, false), .op (2, 0, false), .op (3, 0, false), .op (4, 0, false), .op (5, 0, false), .op (6, 0, false), .op (7, 0, false), .op (8, 0, false), .op (9, 0, false), .op (10, 0, false), .op (11, 2, false), .op (12, 0, false)]) (.seq (.reg [.op (0, 0, false), .op (1, 0, false), .op (2, 0, false), .op (3, 0, false), .op (4, 0, false), .op (5, 2, false)]) (.seq (.seq (.reg [.op (0, 0, false), .op (1, 0, false), .op (2, 0, false), .op (3, 0, false), .op (4, 0, false), .op (5, 0, false)]) (.blk (.loop [33] 70360154243840 (.seq (.reg [.op (0, 0, false)]) (.seq (.cond .leaf .leaf) (.seq (.blk (.seq (.reg [.op (0, 0, false), .op (1, 0, false), .op (2, 0, false), .op (3, 0, false), .op (4, 0, false)]) (.reg [.op (0, 0, false), .op (1, 0, false), .op (2, 0, false), .op (3, 0, false), .op (4, 0, false), .op (5, 0, false), .op (6, 0, false), .op (7, 2, false)]))) (.reg [.op (0, 0, false), .op (1, 0, false)]))))))) (.seq (.reg [.op (0, 0, false), .op (1, 0, false), .op (2, 2, false), .op (3, 0, false)]) .leaf)))))
theorem I_impl_integer_Or {a0 a1 a2 : Value} {w : World} {K : Value → World → Prop} (h : D_impl_integer_Or a0 a1 a2 w K) : call P f_impl_integer_Or [a0, a1, a2] w K :=
  call_of_vc mixed Tryz.func280 (c := codeOf Tryz.f280) (by kernel_rfl) (by kernel_rfl) (p := P_impl_integer_Or) (by kernel_rfl) (by rw [Tryz.ntmps280]; simp) (by
    have e : D_impl_integer_Or a0 a1 a2 w K = vc P P_impl_integer_Or (codeOf Tryz.f280) (env0 [a0, a1, a2]) w (retX P Tryz.f280.results.toList K) := by kernel_rfl
    exact e ▸ h)

end Go.Proofs.YtjompmflommadaaGreatDoor
