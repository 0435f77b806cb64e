import Derived.Test.YtjompmflommadaaGreatDoorProg
import Derived.Test.YtjompmflommadaaGreatDoorQFnProgramTextsVVcH
set_option linter.unusedSimpArgs false
set_option linter.unusedVariables false
namespace Go.Proofs.YtjompmflommadaaGreatDoor
section
open Go Go.Vc
noncomputable abbrev P : Program := Tryz.prog
theorem mixed : P.follows .mixedOrders = true := by kernel_rfl
def codeOf (f : Func) : Code := match f.body with
 | some c => c
 | none => .skip
abbrev Acp : FuncId := 3
abbrev Adf : FuncId := 4
abbrev AaG : FuncId := 5
abbrev AaD : FuncId := 6
abbrev Aab : FuncId := 7
abbrev Ac4 : FuncId := 8
abbrev AcD : FuncId := 9
abbrev Adu : FuncId := 10
abbrev Fx : FuncId := 11
abbrev AgL : FuncId := 12
abbrev IL : FuncId := 13
abbrev Ahs : FuncId := 14
abbrev Ci : FuncId := 15
abbrev AgV : FuncId := 16
abbrev Lo : FuncId := 17
abbrev HL : FuncId := 18
abbrev GG : FuncId := 19
abbrev G8 : FuncId := 20
abbrev GC : FuncId := 21
abbrev EL : FuncId := 22
abbrev Gk : FuncId := 23
abbrev Ec : FuncId := 24
abbrev Afu : FuncId := 25
abbrev Agk : FuncId := 26
abbrev Aiq : FuncId := 27
abbrev AhU : FuncId := 28
abbrev Aif : FuncId := 29
abbrev AhS : FuncId := 30
abbrev AhW : FuncId := 31
abbrev Aip : FuncId := 32
abbrev Agy : FuncId := 33
abbrev Aio : FuncId := 34
abbrev AhZ : FuncId := 35
abbrev Ags : FuncId := 36
abbrev Ae9 : FuncId := 37
abbrev Agq : FuncId := 38
abbrev Agz : FuncId := 39
abbrev H8 : FuncId := 40
abbrev HP : FuncId := 41
abbrev AjC : FuncId := 42
abbrev RK : FuncId := 43
abbrev EU : FuncId := 44
abbrev Iz : FuncId := 45
abbrev Eg : FuncId := 46
abbrev EV : FuncId := 47
abbrev EQ : FuncId := 48
abbrev Eo : FuncId := 49
abbrev DB : FuncId := 50
abbrev Ahe : FuncId := 51
abbrev Dq : FuncId := 52
abbrev Ahy : FuncId := 53
abbrev HI : FuncId := 54
abbrev Aht : FuncId := 55
abbrev Gz : FuncId := 56
abbrev Cx : FuncId := 57
abbrev Js : FuncId := 58
abbrev H9 : FuncId := 59
abbrev Hp : FuncId := 60
abbrev Jw : FuncId := 61
abbrev Jp : FuncId := 62
abbrev Afs : FuncId := 63
abbrev AfT : FuncId := 64
abbrev Ag0 : FuncId := 65
abbrev Aji : FuncId := 66
abbrev Akm : FuncId := 67
abbrev Agw : FuncId := 68
abbrev Ajr : FuncId := 69
abbrev Aj2 : FuncId := 70
abbrev Wk : FuncId := 71
abbrev Agu : FuncId := 72
abbrev Ajx : FuncId := 73
abbrev KI : FuncId := 74
abbrev Aib : FuncId := 75
abbrev OW : FuncId := 76
abbrev C9 : FuncId := 77
abbrev C4 : FuncId := 78
abbrev Ai2 : FuncId := 79
abbrev AeB : FuncId := 80
abbrev Agt : FuncId := 81
abbrev Aic : FuncId := 82
abbrev Aiz : FuncId := 83
abbrev Agr : FuncId := 84
abbrev Ajs : FuncId := 85
abbrev AgN : FuncId := 86
abbrev AgJ : FuncId := 87
abbrev Ag5 : FuncId := 88
abbrev Gr : FuncId := 89
abbrev LB : FuncId := 90
abbrev HV : FuncId := 91
abbrev Fe : FuncId := 92
abbrev FN : FuncId := 93
abbrev CA : FuncId := 94
abbrev Df : FuncId := 95
abbrev Dg : FuncId := 96
abbrev Ds : FuncId := 97
abbrev Dd : FuncId := 98
abbrev HB : FuncId := 99
abbrev Am : FuncId := 100
abbrev I3 : FuncId := 101
abbrev JA : FuncId := 102
abbrev LN : FuncId := 103
abbrev ED : FuncId := 104
abbrev Gy : FuncId := 105
abbrev Kv : FuncId := 106
abbrev LZ : FuncId := 107
abbrev AhT : FuncId := 108
abbrev Aj7 : FuncId := 109
abbrev AiM : FuncId := 110
abbrev Aia : FuncId := 111
abbrev AjJ : FuncId := 112
abbrev AjN : FuncId := 113
abbrev YR : FuncId := 114
abbrev AjF : FuncId := 115
abbrev AU : FuncId := 116
abbrev GF : FuncId := 117
abbrev BW : FuncId := 118
abbrev Agp : FuncId := 119
abbrev Hs : FuncId := 120
abbrev Cp : FuncId := 121
abbrev CP : FuncId := 122
abbrev Oj : FuncId := 123
abbrev CW : FuncId := 124
abbrev BD : FuncId := 125
abbrev AkA : FuncId := 126
abbrev Wm : FuncId := 127
abbrev EK : FuncId := 128
abbrev Fd : FuncId := 129
abbrev Lp : FuncId := 130
abbrev AkE : FuncId := 131
abbrev KQ : FuncId := 132
abbrev Aju : FuncId := 133
abbrev Ft : FuncId := 134
abbrev HM : FuncId := 135
abbrev Ls : FuncId := 136
abbrev Lj : FuncId := 137
abbrev Ain : FuncId := 138
abbrev Agx : FuncId := 139
abbrev Ag1 : FuncId := 140
abbrev Gx : FuncId := 141
abbrev Fj : FuncId := 142
abbrev Ex : FuncId := 143
abbrev EP : FuncId := 144
abbrev CU : FuncId := 145
abbrev Lk : FuncId := 146
abbrev Ff : FuncId := 147
abbrev CN : FuncId := 148
abbrev CC : FuncId := 149
abbrev Ew : FuncId := 150
abbrev DU : FuncId := 151
abbrev CF : FuncId := 152
abbrev Kb : FuncId := 153
abbrev HN : FuncId := 154
abbrev Ca : FuncId := 155
abbrev GY : FuncId := 156
abbrev Ip : FuncId := 157
abbrev Cf : FuncId := 158
abbrev Hr : FuncId := 159
abbrev UR : FuncId := 160
abbrev JP : FuncId := 161
abbrev Jf : FuncId := 162
abbrev J4 : FuncId := 163
abbrev DX : FuncId := 164
abbrev Nd : FuncId := 165
abbrev Nf : FuncId := 166
abbrev MG : FuncId := 167
abbrev FT : FuncId := 168
abbrev FZ : FuncId := 169
abbrev JS : FuncId := 170
abbrev LI : FuncId := 171
abbrev Iy : FuncId := 172
abbrev EI : FuncId := 173
abbrev Ee : FuncId := 174
abbrev Cy : FuncId := 175
abbrev BK : FuncId := 176
abbrev Er : FuncId := 177
abbrev AQ : FuncId := 178
abbrev Gu : FuncId := 179
abbrev FQ : FuncId := 180
abbrev CV : FuncId := 181
abbrev Hw : FuncId := 182
abbrev GZ : FuncId := 183
abbrev EC : FuncId := 184
abbrev GW : FuncId := 185
abbrev EB : FuncId := 186
abbrev BP : FuncId := 187
abbrev D4 : FuncId := 188
abbrev GK : FuncId := 189
abbrev CI : FuncId := 190
abbrev LJ : FuncId := 191
abbrev Ev : FuncId := 192
abbrev Bn : FuncId := 193
abbrev Ia : FuncId := 194
abbrev Dt : FuncId := 195
abbrev GQ : FuncId := 196
abbrev Iu : FuncId := 197
abbrev Gn : FuncId := 198
abbrev Fp : FuncId := 199
abbrev Gw : FuncId := 200
abbrev La : FuncId := 201
abbrev IB : FuncId := 202
abbrev HA : FuncId := 203
abbrev JJ : FuncId := 204
abbrev Jn : FuncId := 205
abbrev Zi : FuncId := 206
abbrev AcR : FuncId := 207
abbrev IM : FuncId := 208
abbrev Vh : FuncId := 209
abbrev CM : FuncId := 210
abbrev Cq : FuncId := 211
abbrev DL : FuncId := 212
abbrev MS : FuncId := 213
abbrev Bk : FuncId := 214
abbrev ML : FuncId := 215
abbrev Na : FuncId := 216
abbrev Ga : FuncId := 217
abbrev Fk : FuncId := 218
abbrev FO : FuncId := 219
abbrev LF : FuncId := 220
abbrev Bp : FuncId := 221
abbrev MU : FuncId := 222
abbrev FM : FuncId := 223
abbrev HX : FuncId := 224
abbrev Hk : FuncId := 225
abbrev G6 : FuncId := 226
abbrev Nj : FuncId := 227
abbrev JC : FuncId := 228
abbrev FL : FuncId := 229
abbrev Cr : FuncId := 230
abbrev D7 : FuncId := 231
abbrev Ed : FuncId := 232
abbrev Cm : FuncId := 233
abbrev EM : FuncId := 234
abbrev Fr : FuncId := 235
abbrev Hb : FuncId := 236
abbrev DZ : FuncId := 237
abbrev K6 : FuncId := 238
abbrev HD : FuncId := 239
abbrev LQ : FuncId := 240
abbrev HC : FuncId := 241
abbrev CJ : FuncId := 242
abbrev Ic : FuncId := 243
abbrev Acq : FuncId := 244
abbrev Kh : FuncId := 245
abbrev SO : FuncId := 246
abbrev BT : FuncId := 247
abbrev CL : FuncId := 248
abbrev MT : FuncId := 249
abbrev F9 : FuncId := 250
abbrev FV : FuncId := 251
abbrev Lx : FuncId := 252
abbrev EX : FuncId := 253
abbrev Gs : FuncId := 254
abbrev FX : FuncId := 255
abbrev DY : FuncId := 256
abbrev OX : FuncId := 257
abbrev Fy : FuncId := 258
abbrev Ie : FuncId := 259
abbrev KD : FuncId := 260
abbrev OH : FuncId := 261
abbrev GP : FuncId := 262
abbrev HE : FuncId := 263
abbrev G7 : FuncId := 264
abbrev GU : FuncId := 265
abbrev Hq : FuncId := 266
abbrev Jt : FuncId := 267
abbrev FU : FuncId := 268
abbrev KY : FuncId := 269
abbrev Fq : FuncId := 270
abbrev OT : FuncId := 271
abbrev Cj : FuncId := 272
abbrev Ct : FuncId := 273
abbrev UY : FuncId := 274
abbrev Dc : FuncId := 275
abbrev Adi : FuncId := 276
abbrev AdO : FuncId := 277
abbrev Ae8 : FuncId := 278
abbrev Ac1 : FuncId := 279
abbrev HW : FuncId := 280
abbrev Dk : FuncId := 281
abbrev NJ : FuncId := 282
abbrev We : FuncId := 283
abbrev TL : FuncId := 284
abbrev Ij : FuncId := 285
abbrev FB : FuncId := 286
abbrev BM : FuncId := 287
abbrev Jc : FuncId := 288
abbrev Yv : FuncId := 289
abbrev Akx : FuncId := 290
abbrev Ajk : FuncId := 291
abbrev BY : FuncId := 292
abbrev SW : FuncId := 293
abbrev Ua : FuncId := 294
abbrev OR : FuncId := 295
abbrev EN : FuncId := 296
abbrev WR : FuncId := 297
abbrev Gt : FuncId := 298
abbrev Ey : FuncId := 299
abbrev Acn : FuncId := 300
abbrev N7 : FuncId := 301
abbrev YH : FuncId := 302
abbrev Aca : FuncId := 303
abbrev XV : FuncId := 304
abbrev Wi : FuncId := 305
abbrev XI : FuncId := 306
abbrev XT : FuncId := 307
abbrev Agv : FuncId := 308
abbrev XQ : FuncId := 309
abbrev Wj : FuncId := 310
abbrev AaK : FuncId := 311
abbrev ZK : FuncId := 312
abbrev ZD : FuncId := 313
abbrev AaH : FuncId := 326
abbrev NU : FuncId := 327
abbrev Lq : FuncId := 328
abbrev Adr : FuncId := 329
abbrev Ai1 : FuncId := 330
abbrev Aco : FuncId := 331
abbrev XE : FuncId := 332
abbrev Ab4 : FuncId := 333
abbrev Aao : FuncId := 334
abbrev ZS : FuncId := 335
abbrev Dl : FuncId := 336
abbrev Ei : FuncId := 337
abbrev Fb : FuncId := 338
abbrev Fa : FuncId := 339
abbrev Es : FuncId := 340
abbrev Em : FuncId := 341
abbrev CX : FuncId := 342
abbrev EW : FuncId := 343
abbrev In : FuncId := 344
noncomputable abbrev Ue : Func := Tryz.f173
theorem R5 : P.funcs[EI]? = some Ue := Tryz.func173
noncomputable abbrev Jq : Func := Tryz.f210
theorem I4 : P.funcs[CM]? = some Jq := Tryz.func210
noncomputable abbrev Kg : Func := Tryz.f245
theorem Wn : P.funcs[Kh]? = some Kg := Tryz.func245
noncomputable abbrev J9 : Func := Tryz.f248
theorem VD : P.funcs[CL]? = some J9 := Tryz.func248
noncomputable abbrev Ib : Func := Tryz.f273
theorem H5 : P.funcs[Ct]? = some Ib := Tryz.func273
noncomputable abbrev PT : Func := Tryz.f281
theorem OC : P.funcs[Dk]? = some PT := Tryz.func281
noncomputable abbrev PR : Func := Tryz.f292
theorem Oe : P.funcs[BY]? = some PR := Tryz.func292
noncomputable abbrev TW : Func := Tryz.f296
theorem RH : P.funcs[EN]? = some TW := Tryz.func296
abbrev Ar : TypeId := 2
theorem AB : P.underlying 2 = some (.int .i64) := Tryz.underlying2
theorem AE : TI P 2 (.int .i64 0) 1 8 := AZ (by kernel_rfl)
abbrev Bw : TypeId := 3
theorem DD : P.underlying 3 = some (.int .i64) := Tryz.underlying3
theorem LL : TI P 3 (.int .i64 0) 1 8 := AZ (by kernel_rfl)
abbrev Ake : TypeId := 4
theorem Qk : P.underlying 4 = some (.bool) := Tryz.underlying4
theorem AbE : TI P 4 (.bool false) 1 1 := AZ (by kernel_rfl)
abbrev NR : TypeId := 5
theorem DH : P.underlying 5 = some (.int .u8) := Tryz.underlying5
theorem UE : TI P 5 (.int .u8 0) 1 1 := AZ (by kernel_rfl)
abbrev AM : TypeId := 9
theorem Av : P.underlying 9 = some (.string) := Tryz.underlying9
theorem Bz : TI P 9 (.string ⟨#[]⟩) 1 16 := AZ (by kernel_rfl)
abbrev Ali : TypeId := 12
theorem Alo : P.underlying 12 = some (.int .u64) := Tryz.underlying12
theorem Al8 : TI P 12 (.int .u64 0) 1 8 := AZ (by kernel_rfl)
abbrev WG : TypeId := 15
theorem Xp : P.underlying 15 = some (.pointer 322) := Tryz.underlying15
theorem WL : TI P 15 (.pointer none) 1 8 := AZ (by kernel_rfl)
abbrev AaF : TypeId := 16
theorem AaB : P.underlying 16 = some (.pointer 325) := Tryz.underlying16
theorem AaE : TI P 16 (.pointer none) 1 8 := AZ (by kernel_rfl)
abbrev AjY : TypeId := 17
theorem Akv : P.underlying 17 = some (.pointer 332) := Tryz.underlying17
theorem Ak1 : TI P 17 (.pointer none) 1 8 := AZ (by kernel_rfl)
abbrev AlI : TypeId := 21
theorem AlK : P.underlying 21 = some (.int .i32) := Tryz.underlying21
theorem AlJ : TI P 21 (.int .i32 0) 1 4 := AZ (by kernel_rfl)
abbrev B4 : TypeId := 22
theorem AT : P.underlying 22 = some (.slice 9) := Tryz.underlying22
theorem EH : TI P 22 (.slice none 0 0) 1 24 := AZ (by kernel_rfl)
abbrev Ajo : TypeId := 24
theorem YB : P.underlying 24 = some (.struct #[{ name := "Words", type := 22, offset := 0, embedded := false, tag := "", pkgPath := "", byteOffset := 0 }]) := Tryz.underlying24
theorem AiZ : TI P 24 (.agg #[(.slice none 0 0)]) 1 24 := AZ (by kernel_rfl)
abbrev AF : TypeId := 27
theorem Bo : P.underlying 27 = some (.struct #[{ name := "Words", type := 22, offset := 0, embedded := false, tag := "", pkgPath := "", byteOffset := 0 }]) := Tryz.underlying27
theorem As : TI P 27 (.agg #[(.slice none 0 0)]) 1 24 := AZ (by kernel_rfl)
abbrev AgZ : TypeId := 39
theorem VJ : P.underlying 39 = some (.slice 24) := Tryz.underlying39
theorem VE : TI P 39 (.slice none 0 0) 1 24 := AZ (by kernel_rfl)
abbrev AjH : TypeId := 40
theorem ZU : P.underlying 40 = some (.slice 138) := Tryz.underlying40
theorem ZT : TI P 40 (.slice none 0 0) 1 24 := AZ (by kernel_rfl)
abbrev Aj5 : TypeId := 42
theorem Ng : P.underlying 42 = some (.struct #[{ name := "Names", type := 22, offset := 0, embedded := false, tag := "", pkgPath := "", byteOffset := 0 }, { name := "Programs", type := 39, offset := 1, embedded := false, tag := "", pkgPath := "", byteOffset := 24 }, { name := "Results", type := 40, offset := 2, embedded := false, tag := "", pkgPath := "", byteOffset := 48 }]) := Tryz.underlying42
theorem Aj3 : TI P 42 (.agg #[(.slice none 0 0), (.slice none 0 0), (.slice none 0 0)]) 3 72 := AZ (by kernel_rfl)
abbrev AhE : TypeId := 45
theorem V5 : P.underlying 45 = some (.slice 27) := Tryz.underlying45
theorem Vv : TI P 45 (.slice none 0 0) 1 24 := AZ (by kernel_rfl)
abbrev AjI : TypeId := 46
theorem ZN : P.underlying 46 = some (.slice 96) := Tryz.underlying46
theorem Aax : TI P 46 (.slice none 0 0) 1 24 := AZ (by kernel_rfl)
abbrev AjK : TypeId := 48
theorem MH : P.underlying 48 = some (.struct #[{ name := "Names", type := 22, offset := 0, embedded := false, tag := "", pkgPath := "", byteOffset := 0 }, { name := "Programs", type := 45, offset := 1, embedded := false, tag := "", pkgPath := "", byteOffset := 24 }, { name := "Results", type := 46, offset := 2, embedded := false, tag := "", pkgPath := "", byteOffset := 48 }]) := Tryz.underlying48
theorem AjG : TI P 48 (.agg #[(.slice none 0 0), (.slice none 0 0), (.slice none 0 0)]) 3 72 := AZ (by kernel_rfl)
abbrev BN : TypeId := 52
theorem B7 : P.underlying 52 = some (.slice 66) := Tryz.underlying52
theorem AkD : TI P 52 (.slice none 0 0) 1 24 := AZ (by kernel_rfl)
abbrev BO : TypeId := 53
theorem Ah : P.underlying 53 = some (.slice 2) := Tryz.underlying53
theorem Uc : TI P 53 (.slice none 0 0) 1 24 := AZ (by kernel_rfl)
abbrev Aj : TypeId := 55
theorem Bh : P.underlying 55 = some (.struct #[{ name := "Sign", type := 2, offset := 0, embedded := false, tag := "", pkgPath := "", byteOffset := 0 }, { name := "Limbs", type := 53, offset := 1, embedded := false, tag := "", pkgPath := "", byteOffset := 8 }]) := Tryz.underlying55
theorem AK : TI P 55 (.agg #[(.int .i64 0), (.slice none 0 0)]) 2 32 := AZ (by kernel_rfl)
abbrev Al : TypeId := 57
theorem BJ : P.underlying 57 = some (.struct #[{ name := "Whole", type := 55, offset := 0, embedded := false, tag := "", pkgPath := "", byteOffset := 0 }, { name := "Exponent", type := 2, offset := 2, embedded := false, tag := "", pkgPath := "", byteOffset := 32 }]) := Tryz.underlying57
theorem Bs : TI P 57 (.agg #[(.int .i64 0), (.slice none 0 0), (.int .i64 0)]) 3 40 := AZ (by kernel_rfl)
abbrev BQ : TypeId := 66
theorem BC : P.underlying 66 = some (.float .f32) := Tryz.underlying66
theorem CD : TI P 66 (.float .f32 0) 1 4 := AZ (by kernel_rfl)
abbrev Ag : TypeId := 68
theorem ES : P.underlying 68 = some (.struct #[{ name := "High", type := 66, offset := 0, embedded := false, tag := "", pkgPath := "", byteOffset := 0 }, { name := "Low", type := 66, offset := 1, embedded := false, tag := "", pkgPath := "", byteOffset := 4 }]) := Tryz.underlying68
theorem C5 : TI P 68 (.agg #[(.float .f32 0), (.float .f32 0)]) 2 8 := AZ (by kernel_rfl)
abbrev MB : TypeId := 72
theorem Cb : P.underlying 72 = some (.slice 5) := Tryz.underlying72
theorem TO : TI P 72 (.slice none 0 0) 1 24 := AZ (by kernel_rfl)
abbrev AkF : TypeId := 96
theorem Vr : P.underlying 96 = some (.struct #[{ name := "Key", type := 9, offset := 0, embedded := false, tag := "", pkgPath := "", byteOffset := 0 }, { name := "Output", type := 9, offset := 1, embedded := false, tag := "", pkgPath := "", byteOffset := 16 }]) := Tryz.underlying96
theorem AkB : TI P 96 (.agg #[(.string ⟨#[]⟩), (.string ⟨#[]⟩)]) 2 32 := AZ (by kernel_rfl)
abbrev AjR : TypeId := 102
theorem Abi : P.underlying 102 = some (.slice 105) := Tryz.underlying102
theorem Aki : TI P 102 (.slice none 0 0) 1 24 := AZ (by kernel_rfl)
abbrev Vx : TypeId := 103
theorem Wg : P.underlying 103 = some (.pointer 158) := Tryz.underlying103
theorem Ox : TI P 103 (.pointer none) 1 8 := AZ (by kernel_rfl)
abbrev AI : TypeId := 105
theorem EJ : P.underlying 105 = some (.struct #[{ name := "m", type := 103, offset := 0, embedded := false, tag := "", pkgPath := "loop.example/g01172/impl", byteOffset := 0 }, { name := "e", type := 3, offset := 1, embedded := false, tag := "", pkgPath := "loop.example/g01172/impl", byteOffset := 8 }]) := Tryz.underlying105
theorem F6 : TI P 105 (.agg #[(.pointer none), (.int .i64 0)]) 2 16 := AZ (by kernel_rfl)
abbrev Zh : TypeId := 117
theorem Cv : P.underlying 117 = some (.float .f64) := Tryz.underlying117
theorem Alx : TI P 117 (.float .f64 0) 1 8 := AZ (by kernel_rfl)
abbrev AW : TypeId := 119
theorem D5 : P.underlying 119 = some (.slice 68) := Tryz.underlying119
theorem AjD : TI P 119 (.slice none 0 0) 1 24 := AZ (by kernel_rfl)
abbrev Afd : TypeId := 129
theorem AfF : P.underlying 129 = some (.pointer 180) := Tryz.underlying129
theorem Afy : TI P 129 (.pointer none) 1 8 := AZ (by kernel_rfl)
abbrev AkG : TypeId := 138
theorem Vn : P.underlying 138 = some (.struct #[{ name := "Key", type := 9, offset := 0, embedded := false, tag := "", pkgPath := "", byteOffset := 0 }, { name := "Output", type := 9, offset := 1, embedded := false, tag := "", pkgPath := "", byteOffset := 16 }]) := Tryz.underlying138
theorem AkH : TI P 138 (.agg #[(.string ⟨#[]⟩), (.string ⟨#[]⟩)]) 2 32 := AZ (by kernel_rfl)
abbrev Aij : TypeId := 145
theorem WO : P.underlying 145 = some (.slice 57) := Tryz.underlying145
theorem Aiw : TI P 145 (.slice none 0 0) 1 24 := AZ (by kernel_rfl)
abbrev Ab6 : TypeId := 154
theorem TQ : P.underlying 154 = some (.int .u64) := Tryz.underlying154
theorem AlL : TI P 154 (.int .u64 0) 1 8 := AZ (by kernel_rfl)
abbrev Co : TypeId := 156
theorem Af : P.underlying 156 = some (.slice 202) := Tryz.underlying156
theorem RW : TI P 156 (.slice none 0 0) 1 24 := AZ (by kernel_rfl)
abbrev BA : TypeId := 158
theorem DK : P.underlying 158 = some (.struct #[{ name := "neg", type := 4, offset := 0, embedded := false, tag := "", pkgPath := "loop.example/g01172/impl", byteOffset := 0 }, { name := "mag", type := 156, offset := 1, embedded := false, tag := "", pkgPath := "loop.example/g01172/impl", byteOffset := 8 }]) := Tryz.underlying158
theorem XR : TI P 158 (.agg #[(.bool false), (.slice none 0 0)]) 2 32 := AZ (by kernel_rfl)
abbrev AjW : TypeId := 160
theorem Akp : P.underlying 160 = some (.pointer 105) := Tryz.underlying160
theorem Aka : TI P 160 (.pointer none) 1 8 := AZ (by kernel_rfl)
abbrev AjA : TypeId := 175
theorem AjM : P.underlying 175 = some (.pointer 68) := Tryz.underlying175
theorem AjL : TI P 175 (.pointer none) 1 8 := AZ (by kernel_rfl)
abbrev Ea : TypeId := 178
theorem BL : P.underlying 178 = some (.int .u64) := Tryz.underlying178
theorem Lv : TI P 178 (.int .u64 0) 1 8 := AZ (by kernel_rfl)
abbrev BF : TypeId := 180
theorem Bi : P.underlying 180 = some (.struct #[{ name := "code", type := 72, offset := 0, embedded := false, tag := "", pkgPath := "loop.example/g01172/spec", byteOffset := 0 }, { name := "at", type := 3, offset := 1, embedded := false, tag := "", pkgPath := "loop.example/g01172/spec", byteOffset := 24 }, { name := "hash", type := 178, offset := 2, embedded := false, tag := "", pkgPath := "loop.example/g01172/spec", byteOffset := 32 }]) := Tryz.underlying180
theorem AgF : TI P 180 (.agg #[(.slice none 0 0), (.int .i64 0), (.int .u64 0)]) 3 40 := AZ (by kernel_rfl)
abbrev AeC : TypeId := 184
theorem AeD : P.underlying 184 = some (.pointer 186) := Tryz.underlying184
theorem AeA : TI P 184 (.pointer none) 1 8 := AZ (by kernel_rfl)
abbrev Ay : TypeId := 202
theorem Be : P.underlying 202 = some (.int .u32) := Tryz.underlying202
theorem AG : TI P 202 (.int .u32 0) 1 4 := AZ (by kernel_rfl)
abbrev Alk : TypeId := 226
theorem AlC : P.underlying 226 = some (.pointer 5) := Tryz.underlying226
theorem Alu : TI P 226 (.pointer none) 1 8 := AZ (by kernel_rfl)
abbrev AdV : TypeId := 283
theorem AdP : P.underlying 283 = some (.pointer 293) := Tryz.underlying283
theorem Aei : TI P 283 (.pointer none) 1 8 := AZ (by kernel_rfl)
abbrev AcI : TypeId := 304
theorem AcN : P.underlying 304 = some (.pointer 306) := Tryz.underlying304
theorem Acr : TI P 304 (.pointer none) 1 8 := AZ (by kernel_rfl)
abbrev AdE : TypeId := 306
theorem RJ : P.underlying 306 = some (.struct #[{ name := "s", type := 9, offset := 0, embedded := false, tag := "", pkgPath := "errors", byteOffset := 0 }]) := Tryz.underlying306
theorem Aed : TI P 306 (.agg #[(.string ⟨#[]⟩)]) 1 16 := AZ (by kernel_rfl)
abbrev Adj : TypeId := 189
theorem U8 : ∃ ms, P.underlying 189 = some (.interface ms) := ⟨_, Tryz.underlying189⟩
@[simp] theorem AkL {w : World} {K : Value → Prop} {ty : TypeId} (a : Option Addr) (n c : Nat) : bl0 P .len #[22] ty [.slice a n c] w K = K (.int .i64 n) := DI AT
@[simp] theorem Ag9 {w : World} {K : Value → Prop} (a : Addr) : fda P 24 (.pointer (some a)) 0 w K = K (.pointer (some (a.add 0))) := Bu (s := 1) YB rfl EH (by decide)
@[simp] theorem Ahv {w : World} {K : Value → Prop} (a : Addr) : fda P 27 (.pointer (some a)) 0 w K = K (.pointer (some (a.add 0))) := Bu (s := 1) Bo rfl EH (by decide)
@[simp] theorem Ah3 {w : World} {K : Value → Prop} {ty : TypeId} (a : Option Addr) (n c : Nat) : bl0 P .len #[39] ty [.slice a n c] w K = K (.int .i64 n) := DI VJ
@[simp] theorem Aj6 {w : World} {K : Value → Prop} {ty : TypeId} (a : Option Addr) (n c : Nat) : bl0 P .len #[40] ty [.slice a n c] w K = K (.int .i64 n) := DI ZU
@[simp] theorem Aih {w : World} {K : Value → Prop} (a : Addr) : fda P 42 (.pointer (some a)) 0 w K = K (.pointer (some (a.add 0))) := Bu (s := 1) Ng rfl EH (by decide)
@[simp] theorem Aiy {w : World} {K : Value → Prop} (a : Addr) : fda P 42 (.pointer (some a)) 1 w K = K (.pointer (some (a.add 1))) := Bu (s := 1) Ng rfl VE (by decide)
@[simp] theorem Air {w : World} {K : Value → Prop} (a : Addr) : fda P 42 (.pointer (some a)) 2 w K = K (.pointer (some (a.add 2))) := Bu (s := 1) Ng rfl ZT (by decide)
@[simp] theorem AhR {w : World} {K : Value → Prop} {ty : TypeId} (a : Option Addr) (n c : Nat) : bl0 P .len #[45] ty [.slice a n c] w K = K (.int .i64 n) := DI V5
@[simp] theorem Aj9 {w : World} {K : Value → Prop} {ty : TypeId} (a : Option Addr) (n c : Nat) : bl0 P .len #[46] ty [.slice a n c] w K = K (.int .i64 n) := DI ZN
@[simp] theorem AhX {w : World} {K : Value → Prop} (a : Addr) : fda P 48 (.pointer (some a)) 0 w K = K (.pointer (some (a.add 0))) := Bu (s := 1) MH rfl EH (by decide)
@[simp] theorem Aiv {w : World} {K : Value → Prop} (a : Addr) : fda P 48 (.pointer (some a)) 1 w K = K (.pointer (some (a.add 1))) := Bu (s := 1) MH rfl Vv (by decide)
@[simp] theorem Aid {w : World} {K : Value → Prop} (a : Addr) : fda P 48 (.pointer (some a)) 2 w K = K (.pointer (some (a.add 2))) := Bu (s := 1) MH rfl Aax (by decide)
@[simp] theorem AkC {w : World} {K : Value → Prop} {ty : TypeId} (a : Option Addr) (n c : Nat) : bl0 P .len #[52] ty [.slice a n c] w K = K (.int .i64 n) := DI B7
@[simp] theorem Alg {w : World} {K : Value → Prop} {ty : TypeId} (a : Option Addr) (n c : Nat) : bl0 P .len #[53] ty [.slice a n c] w K = K (.int .i64 n) := DI Ah
@[simp] theorem Zc {w : World} {K : Value → Prop} (a : Addr) : fda P 55 (.pointer (some a)) 0 w K = K (.pointer (some (a.add 0))) := Bu (s := 1) Bh rfl AE (by decide)
@[simp] theorem Yh {w : World} {K : Value → Prop} (a : Addr) : fda P 55 (.pointer (some a)) 1 w K = K (.pointer (some (a.add 1))) := Bu (s := 1) Bh rfl Uc (by decide)
@[simp] theorem Je {w : World} {K : Value → Prop} (a : Addr) : fda P 57 (.pointer (some a)) 0 w K = K (.pointer (some (a.add 0))) := Bu (s := 2) BJ rfl AK (by decide)
@[simp] theorem Aig {w : World} {K : Value → Prop} (a : Addr) : fda P 57 (.pointer (some a)) 1 w K = K (.pointer (some (a.add 2))) := Bu (s := 1) BJ rfl AE (by decide)
@[simp] theorem Ajz {w : World} {K : Value → Prop} (a : Addr) : fda P 68 (.pointer (some a)) 0 w K = K (.pointer (some (a.add 0))) := Bu (s := 1) ES rfl CD (by decide)
@[simp] theorem AjE {w : World} {K : Value → Prop} (a : Addr) : fda P 68 (.pointer (some a)) 1 w K = K (.pointer (some (a.add 1))) := Bu (s := 1) ES rfl CD (by decide)
@[simp] theorem Al0 {w : World} {K : Value → Prop} {ty : TypeId} (a : Option Addr) (n c : Nat) : bl0 P .len #[72] ty [.slice a n c] w K = K (.int .i64 n) := DI Cb
@[simp] theorem Aj8 {w : World} {K : Value → Prop} (a : Addr) : fda P 96 (.pointer (some a)) 0 w K = K (.pointer (some (a.add 0))) := Bu (s := 1) Vr rfl Bz (by decide)
@[simp] theorem Aj0 {w : World} {K : Value → Prop} (a : Addr) : fda P 96 (.pointer (some a)) 1 w K = K (.pointer (some (a.add 1))) := Bu (s := 1) Vr rfl Bz (by decide)
@[simp] theorem Ak4 {w : World} {K : Value → Prop} {ty : TypeId} (a : Option Addr) (n c : Nat) : bl0 P .len #[102] ty [.slice a n c] w K = K (.int .i64 n) := DI Abi
@[simp] theorem Akz {w : World} {K : Value → Prop} (a : Addr) : fda P 105 (.pointer (some a)) 0 w K = K (.pointer (some (a.add 0))) := Bu (s := 1) EJ rfl Ox (by decide)
@[simp] theorem Ak0 {w : World} {K : Value → Prop} (a : Addr) : fda P 105 (.pointer (some a)) 1 w K = K (.pointer (some (a.add 1))) := Bu (s := 1) EJ rfl LL (by decide)
@[simp] theorem Aj4 {w : World} {K : Value → Prop} {ty : TypeId} (a : Option Addr) (n c : Nat) : bl0 P .len #[119] ty [.slice a n c] w K = K (.int .i64 n) := DI D5
@[simp] theorem AjB {w : World} {K : Value → Prop} (a : Addr) : fda P 138 (.pointer (some a)) 0 w K = K (.pointer (some (a.add 0))) := Bu (s := 1) Vn rfl Bz (by decide)
@[simp] theorem Aj1 {w : World} {K : Value → Prop} (a : Addr) : fda P 138 (.pointer (some a)) 1 w K = K (.pointer (some (a.add 1))) := Bu (s := 1) Vn rfl Bz (by decide)
@[simp] theorem Aix {w : World} {K : Value → Prop} {ty : TypeId} (a : Option Addr) (n c : Nat) : bl0 P .len #[145] ty [.slice a n c] w K = K (.int .i64 n) := DI WO
@[simp] theorem AkS {w : World} {K : Value → Prop} {ty : TypeId} (a : Option Addr) (n c : Nat) : bl0 P .len #[156] ty [.slice a n c] w K = K (.int .i64 n) := DI Af
@[simp] theorem Ahd {w : World} {K : Value → Prop} (a : Addr) : fda P 158 (.pointer (some a)) 0 w K = K (.pointer (some (a.add 0))) := Bu (s := 1) DK rfl AbE (by decide)
@[simp] theorem Ah9 {w : World} {K : Value → Prop} (a : Addr) : fda P 158 (.pointer (some a)) 1 w K = K (.pointer (some (a.add 1))) := Bu (s := 1) DK rfl RW (by decide)
@[simp] theorem AfG {w : World} {K : Value → Prop} (a : Addr) : fda P 180 (.pointer (some a)) 0 w K = K (.pointer (some (a.add 0))) := Bu (s := 1) Bi rfl TO (by decide)
@[simp] theorem Agd {w : World} {K : Value → Prop} (a : Addr) : fda P 180 (.pointer (some a)) 1 w K = K (.pointer (some (a.add 1))) := Bu (s := 1) Bi rfl LL (by decide)
@[simp] theorem Afp {w : World} {K : Value → Prop} (a : Addr) : fda P 180 (.pointer (some a)) 2 w K = K (.pointer (some (a.add 2))) := Bu (s := 1) Bi rfl Lv (by decide)
@[simp] theorem Ac3 {w : World} {K : Value → Prop} (a : Addr) : fda P 306 (.pointer (some a)) 0 w K = K (.pointer (some (a.add 0))) := Bu (s := 1) RJ rfl Bz (by decide)
end


set_option maxRecDepth 20000
section
open Go Go.Vc
def rg0 : Plan := .reg [.op (0, 0, false), .op (1, 0, false)]
def rg1 : Plan := .reg [.op (0, 0, false), .op (1, 0, false), .op (2, 0, false)]
def rg2 : Plan := .reg [.op (0, 0, false), .op (1, 2, false), .op (2, 0, false)]
def rg3 : Plan := .reg [.op (0, 0, false)]
def rg4 : Plan := .reg [.op (0, 0, false), .op (1, 0, false), .op (2, 0, false), .op (3, 0, false), .op (4, 0, false)]
def rg5 : Plan := .reg [.op (0, 0, false), .op (1, 0, false), .op (2, 0, false), .op (3, 0, false)]
def rg6 : Plan := .reg [.op (0, 2, false), .op (1, 0, false)]
def rg7 : Plan := .reg [.op (0, 0, false), .op (1, 2, false), .op (2, 0, false), .op (3, 0, false), .op (4, 0, false), .op (5, 0, false), .op (6, 0, false)]
def rg8 : Plan := .reg [.op (0, 0, false), .op (1, 0, false), .op (2, 2, false), .op (3, 0, false)]
def rg9 : Plan := .reg [.op (0, 0, false), .op (1, 0, false), .op (2, 0, false), .op (3, 0, false), .op (4, 0, false), .op (5, 0, false)]
def rg10 : Plan := .reg [.op (0, 0, false), .op (1, 0, false), .op (2, 0, false), .op (3, 0, false), .op (4, 0, false), .op (5, 0, false), .op (6, 0, false)]
def rg11 : Plan := .reg [.op (0, 0, false), .op (1, 0, false), .op (2, 0, false), .op (3, 0, false), .op (4, 0, false), .op (5, 0, false), .op (6, 0, false), .op (7, 0, false)]
def rg12 : Plan := .reg [.op (0, 0, false), .op (1, 2, false), .op (2, 0, false), .op (3, 0, false), .op (4, 0, false), .op (5, 2, false), .op (6, 2, false), .op (7, 0, false)]
def rg13 : Plan := .reg [.op (0, 0, false), .op (1, 0, false), .op (2, 0, false), .op (3, 0, false), .op (4, 0, false), .op (5, 0, false), .op (6, 0, false), .op (7, 0, false), .op (8, 0, false)]
def rg14 : Plan := .reg [.op (0, 0, false), .op (1, 2, false), .op (2, 0, false), .op (3, 0, false)]
def rg15 : Plan := .reg [.op (0, 0, false), .op (1, 0, false), .op (2, 0, false), .op (3, 0, false), .op (4, 1, false), .op (5, 0, false)]
def rg16 : Plan := .reg [.op (0, 0, false), .op (1, 0, false), .op (2, 0, false), .op (3, 0, false), .op (4, 0, false), .op (5, 0, false), .op (6, 0, false), .op (7, 0, false), .op (8, 0, false), .op (9, 0, false), .op (10, 0, false), .op (11, 0, false)]
def rg17 : Plan := .reg [.op (0, 0, false), .op (1, 0, false), .op (2, 0, false), .op (3, 2, false), .op (4, 0, false), .op (5, 0, false), .op (6, 0, false), .op (7, 2, false), .op (8, 2, false), .op (9, 0, false)]
def rg18 : Plan := .reg [.op (0, 0, false), .op (1, 0, false), .op (2, 0, false), .op (3, 0, false), .op (4, 2, false), .op (5, 0, false), .op (6, 0, false), .op (7, 0, false), .op (8, 2, false), .op (9, 2, false), .op (10, 0, false)]
def rg19 : Plan := .reg [.op (0, 0, false), .op (1, 0, false), .op (2, 0, false), .op (3, 0, false), .op (4, 0, false), .op (5, 0, false), .op (6, 0, false), .op (7, 0, false), .op (8, 2, false)]
def rg20 : Plan := .reg [.op (0, 0, false), .op (1, 0, false), .op (2, 1, false), .op (3, 0, false)]
def rg21 : Plan := .reg [.op (0, 0, false), .op (1, 0, false), .op (2, 0, false), .op (3, 2, false), .op (4, 0, false)]
def rg22 : Plan := .reg [.op (0, 2, false), .op (1, 0, false), .op (2, 0, false)]
def rg23 : Plan := .reg [.op (0, 0, false), .op (1, 0, false), .op (2, 0, false), .op (3, 0, false), .op (4, 0, false), .op (5, 0, false), .op (6, 0, false), .op (7, 2, false)]
def rg24 : Plan := .reg [.op (0, 0, false), .op (1, 0, false), .op (2, 0, false), .op (3, 0, false), .op (4, 0, false), .op (5, 0, false), .op (6, 0, false), .op (7, 0, false), .op (8, 0, false), .op (9, 0, false)]
def rg25 : Plan := .reg [.op (0, 0, false), .op (1, 0, false), .op (2, 0, false), .op (3, 0, false), .op (4, 0, false), .op (5, 0, false), .op (6, 0, false), .op (7, 0, false), .op (8, 2, false), .op (9, 0, false)]
def rg26 : Plan := .reg [.op (0, 0, false), .op (1, 0, false), .op (2, 2, false), .op (3, 0, false), .op (4, 0, false), .op (5, 2, false), .op (6, 0, false), .op (7, 0, false), .op (8, 2, false), .op (9, 0, false)]
def rg27 : Plan := .reg [.op (0, 0, false), .op (1, 0, false), .op (2, 0, false), .op (3, 0, false), .op (4, 0, false), .op (5, 0, false), .op (6, 0, false), .op (7, 0, false), .op (8, 0, false), .op (9, 0, false), .op (10, 2, true), .op (11, 2, false), .op (12, 0, false)]
def rg28 : Plan := .reg [.op (0, 2, false), .op (1, 2, false), .op (2, 2, false), .op (3, 0, false)]
def rg29 : Plan := .reg [.op (0, 0, false), .op (1, 0, false), .op (2, 0, false), .op (3, 0, false), .op (4, 2, false), .op (5, 0, false)]
def rg30 : Plan := .reg [.op (0, 0, false), .op (1, 0, false), .op (2, 0, false), .op (3, 2, false), .op (4, 2, false), .op (5, 0, false)]
def rg31 : Plan := .reg [.op (0, 0, false), .op (1, 2, false)]
def rg32 : Plan := .reg [.op (0, 0, false), .op (1, 0, false), .op (2, 2, false), .op (3, 0, false), .op (4, 0, false), .op (5, 0, false), .op (6, 2, false), .op (7, 2, false), .op (8, 0, false)]
def rg33 : Plan := .reg [.op (0, 0, false), .op (1, 0, false), .op (2, 2, false), .op (3, 2, false), .op (4, 0, false)]
def rg34 : Plan := .reg [.op (0, 0, false), .op (1, 2, false), .op (2, 2, false), .op (3, 0, false)]
def rg35 : Plan := .reg [.op (0, 0, false), .op (1, 2, false), .op (2, 0, false), .op (3, 0, false), .op (4, 0, false)]
def rg36 : Plan := .reg [.op (0, 0, false), .op (1, 0, false), .op (2, 0, false), .op (3, 0, false), .op (4, 0, false), .op (5, 2, false)]
def rg37 : Plan := .reg [.op (0, 0, false), .op (1, 0, false), .op (2, 0, false), .op (3, 0, false), .op (4, 0, false), .op (5, 0, false), .op (6, 2, true), .op (7, 2, false), .op (8, 2, false)]
def rg38 : Plan := .reg [.op (0, 2, false), .op (1, 2, false)]
def rg39 : Plan := .reg [.op (0, 0, false), .op (1, 0, false), .op (2, 2, false), .op (3, 0, false), .op (4, 0, false)]
def rg40 : Plan := .reg [.op (0, 2, false), .op (1, 2, false), .op (2, 2, false)]
def rg41 : Plan := .reg [.op (0, 0, false), .op (1, 2, false), .op (2, 2, false), .op (3, 2, false)]
def rg42 : Plan := .reg [.op (0, 0, false), .op (1, 2, false), .op (2, 0, false), .op (3, 0, false), .op (4, 0, false), .op (5, 0, false)]
def rg43 : Plan := .reg [.op (0, 0, false), .op (1, 0, false), .op (2, 0, false), .op (3, 0, false), .op (4, 2, false), .op (5, 2, false)]
def rg44 : Plan := .reg [.op (0, 0, false), .op (1, 0, false), .op (2, 0, false), .op (3, 0, false), .op (4, 2, false), .op (5, 0, false), .op (6, 0, false), .op (7, 0, false)]
def rg45 : Plan := .reg [.op (0, 0, false), .op (1, 0, false), .op (2, 0, false), .op (3, 0, false), .op (4, 0, false), .op (5, 2, false), .op (6, 2, false), .op (7, 0, false)]
def rg46 : Plan := .reg [.op (0, 0, false), .op (1, 0, false), .op (2, 2, false), .op (3, 0, false), .op (4, 0, false), .op (5, 0, false), .op (6, 2, false), .op (7, 0, false)]
def rg47 : Plan := .reg [.op (0, 2, false), .op (1, 2, false), .op (2, 0, false)]
def rg48 : Plan := .reg [.op (0, 0, false), .op (1, 0, false), .op (2, 0, false), .op (3, 0, false), .op (4, 0, false), .op (5, 2, false), .op (6, 0, false)]
def rg49 : Plan := .reg [.op (0, 0, false), .op (1, 0, false), .op (2, 0, false), .op (3, 0, false), .op (4, 2, false), .op (5, 0, false), .op (6, 0, false)]
def rg50 : Plan := .reg [.op (0, 0, false), .op (1, 2, false), .op (2, 0, false), .op (3, 2, false), .op (4, 2, false)]
def rg51 : Plan := .reg [.op (0, 0, false), .op (1, 0, false), .op (2, 0, false), .op (3, 2, false), .op (4, 2, false), .op (5, 2, false)]
def rg52 : Plan := .reg [.op (0, 2, false), .op (1, 0, false), .op (2, 2, false), .op (3, 0, false)]
def rg53 : Plan := .reg [.op (0, 0, false), .op (1, 1, false), .op (2, 0, false)]
def rg54 : Plan := .reg [.op (0, 0, false), .op (1, 0, false), .op (2, 2, false)]
def rg55 : Plan := .reg [.op (0, 2, false)]
def rg56 : Plan := .reg [.op (0, 0, false), .op (1, 0, false), .op (2, 2, false), .op (3, 2, false)]
def Jm (a0 : Value) (w : World) (K : Value → World → Prop) : Prop :=
 call P EI [a0] w fun b c =>
 bin P .shr 202 false true b (.int .u64 23) c fun d =>
 bin P .and 202 false true d (.int .u32 255) c fun e =>
 bin P .neq 202 false true e (.int .u32 255) c fun g =>
 K g c
def PJ : Plan := (.seq rg3 (.seq rg42 .leaf))
theorem W8 {a0 : Value} {w : World} {K : Value → World → Prop} (h : Jm a0 w K) : call P CP [a0] w K :=
 Aa mixed Tryz.func122 (c := codeOf Tryz.f122) (by kernel_rfl) (by kernel_rfl) (p := PJ) (by kernel_rfl) (by rw [Tryz.ntmps122]; simp) (by
  have e : Jm a0 w K = vc P PJ (codeOf Tryz.f122) (env0 [a0]) w (retX P Tryz.f122.results.toList K) := by kernel_rfl
  exact e ▸ h)
def Ot (a0 : Value) (w : World) (K : Value → World → Prop) : Prop :=
 call P EI [a0] w fun b c =>
 bin P .shr 202 false true b (.int .u64 23) c fun d =>
 bin P .and 202 false true d (.int .u32 255) c fun e =>
 cnv P 202 2 e c fun g =>
 bin P .and 202 false true b (.int .u32 8388607) c fun h =>
 cnv P 202 2 h c fun i =>
 ∃ j : Value → Value → World → Prop, (∀ (k : Value) (l : Value) (_ : Env) (m : World), j k l m →
 bin P .shr 202 false true b (.int .u64 31) m fun n =>
 bin P .neq 202 false true n (.int .u32 0) m fun o =>
 cnd o
 (una P .neg l m fun p =>
 bin P .sub 2 false true k (.int .i64 150) m fun q =>
 K (.tuple #[p, q]) m)
 (bin P .sub 2 false true k (.int .i64 150) m fun r =>
 K (.tuple #[l, r]) m)) ∧
 (bin P .gtr 2 false true g (.int .i64 0) c fun s =>
 cnd s
 (bin P .add 2 false true i (.int .i64 8388608) c fun t =>
 j g t c)
 (j (.int .i64 1) i c))
def Un : Plan := (.seq rg0 (.seq rg2 (.seq rg13 (.cut [5, 6] 983136 (.seq rg0 (.cond rg1 rg3)) (.seq (.seq rg1 (.cond rg1 .leaf)) (.seq rg4 .leaf))))))
theorem AbI {a0 : Value} {w : World} {K : Value → World → Prop} (h : Ot a0 w K) : call P Oj [a0] w K :=
 Aa mixed Tryz.func123 (c := codeOf Tryz.f123) (by kernel_rfl) (by kernel_rfl) (p := Un) (by kernel_rfl) (by rw [Tryz.ntmps123]; simp) (by
  have e : Ot a0 w K = vc P Un (codeOf Tryz.f123) (env0 [a0]) w (retX P Tryz.f123.results.toList K) := by kernel_rfl
  exact e ▸ h)
def HJ (a0 : Value) (w : World) (K : Value → World → Prop) : Prop :=
 bin P .lss 2 false true a0 (.int .i64 0) w fun b =>
 cnd b
 (una P .neg a0 w fun c =>
 cnv P 2 202 c w fun d =>
 bin P .or 202 false true d (.int .u32 2147483648) w fun e =>
 call P Dk [e] w fun g h =>
 K g h)
 (cnv P 2 202 a0 w fun i =>
 call P Dk [i] w fun j k =>
 K j k)
def QJ : Plan := (.seq rg3 (.seq (.seq rg0 (.cond (.seq rg29 .leaf) .leaf)) (.seq rg8 .leaf)))
theorem QI {a0 : Value} {w : World} {K : Value → World → Prop} (h : HJ a0 w K) : call P HE [a0] w K :=
 Aa mixed Tryz.func263 (c := codeOf Tryz.f263) (by kernel_rfl) (by kernel_rfl) (p := QJ) (by kernel_rfl) (by rw [Tryz.ntmps263]; simp) (by
  have e : HJ a0 w K = vc P QJ (codeOf Tryz.f263) (env0 [a0]) w (retX P Tryz.f263.results.toList K) := by kernel_rfl
  exact e ▸ h)
def Gv (a0 : Value) (w : World) (K : Value → World → Prop) : Prop :=
 call P NJ [a0] w fun b c =>
 rcnv P 117 66 b c fun d =>
 K d c
def PN : Plan := (.seq rg3 (.seq (.reg [.op (0, 0, false), .op (1, 2, false), .op (2, 1, false), .op (3, 0, false)]) .leaf))
theorem Pp {a0 : Value} {w : World} {K : Value → World → Prop} (h : Gv a0 w K) : call P G7 [a0] w K :=
 Aa mixed Tryz.func264 (c := codeOf Tryz.f264) (by kernel_rfl) (by kernel_rfl) (p := PN) (by kernel_rfl) (by rw [Tryz.ntmps264]; simp) (by
  have e : Gv a0 w K = vc P PN (codeOf Tryz.f264) (env0 [a0]) w (retX P Tryz.f264.results.toList K) := by kernel_rfl
  exact e ▸ h)
def Pa (a0 : Value) (w : World) (K : Value → World → Prop) : Prop :=
 bin P .eql 66 false true a0 (.float .f32 0) w fun b =>
 cnd b
 (K (.float .f32 0) w)
 (K a0 w)
def T6 : Plan := (.seq rg3 (.seq (.seq rg0 (.cond (.seq rg3 .leaf) .leaf)) (.seq rg0 .leaf)))
theorem AbO {a0 : Value} {w : World} {K : Value → World → Prop} (h : Pa a0 w K) : call P OT [a0] w K :=
 Aa mixed Tryz.func271 (c := codeOf Tryz.f271) (by kernel_rfl) (by kernel_rfl) (p := T6) (by kernel_rfl) (by rw [Tryz.ntmps271]; simp) (by
  have e : Pa a0 w K = vc P T6 (codeOf Tryz.f271) (env0 [a0]) w (retX P Tryz.f271.results.toList K) := by kernel_rfl
  exact e ▸ h)
end


set_option maxRecDepth 20000
section
open Go Go.Vc
def IE (a0 : Value) (w : World) (K : Value → World → Prop) : Prop :=
 bl0 P .len #[52] 3 [a0] w fun b =>
 ∃ c : Nat → Value → World → Prop, (∃ d, c d (.int .i64 0) w) ∧ ∀ (e : Nat) (g : Value) (_ : Env) (h : World), c e g h →
 bin P .lss 3 false false g b h fun i =>
 cnd i
 (ixa P 52 a0 g h fun j =>
 ld P 66 j h fun k =>
 call P CP [k] h fun l m =>
 una P .not l m fun n =>
 cnd n
 (K (.bool false) m)
 (bin P .add 3 false true g (.int .i64 1) m fun o =>
 ∃ p, p < e ∧ c p o m))
 (K (.bool true) h)
def Pd : Plan := (.seq rg3 (.seq (.seq rg1 (.blk (.loop [7] 32660 (.seq rg3 (.seq (.cond .leaf .leaf) (.seq (.blk (.seq rg1 (.seq rg2 (.cond (.seq rg3 .leaf) .leaf)))) rg0)))))) (.seq rg3 .leaf)))
theorem V6 {a0 : Value} {w : World} {K : Value → World → Prop} (h : IE a0 w K) : call P C9 [a0] w K :=
 Aa mixed Tryz.func77 (c := codeOf Tryz.f77) (by kernel_rfl) (by kernel_rfl) (p := Pd) (by kernel_rfl) (by rw [Tryz.ntmps77]; simp) (by
  have e : IE a0 w K = vc P Pd (codeOf Tryz.f77) (env0 [a0]) w (retX P Tryz.f77.results.toList K) := by kernel_rfl
  exact e ▸ h)
end


set_option maxRecDepth 20000
section
open Go Go.Vc
def LA (a0 : Value) (w : World) (K : Value → World → Prop) : Prop :=
 bl0 P .len #[72] 3 [a0] w fun b =>
 cnv P 3 178 b w fun c =>
 bin P .add 178 true false (.int .u64 8263) c w fun d =>
 bld P 180 [(0, a0), (2, d)] w fun e =>
 bx P 180 e w fun g h =>
 ∃ i : Nat → Value → World → Prop, (∃ j, i j (.int .i64 0) h) ∧ ∀ (k : Nat) (l : Value) (_ : Env) (m : World), i k l m →
 bl0 P .len #[72] 3 [a0] m fun n =>
 bin P .lss 3 false false l n m fun o =>
 ∃ p : Value → World → Prop, (∀ (q : Value) (_ : Env) (r : World), p q r →
 pick o q (.bool false) fun s =>
 cnd s
 (nch g fun t =>
 fda P 180 t 2 r fun u =>
 ld P 178 u r fun v =>
 bin P .mul 178 false true v (.int .u64 1099511628211) r fun x =>
 ixa P 72 a0 l r fun y =>
 ld P 5 y r fun z =>
 cnv P 5 178 z r fun A =>
 bin P .add 178 false false x A r fun B =>
 bin P .add 178 false true B (.int .u64 11) r fun C =>
 nch g fun D =>
 fda P 180 D 2 r fun E =>
 sto P 178 E C r fun F =>
 bin P .add 3 false true l (.int .i64 1) F fun G =>
 ∃ H, H < k ∧ i H G F)
 (K g r)) ∧
 grd o true
 (bin P .lss 3 false true l (.int .i64 4096) m fun L =>
 p L m)
 (p undef m)
def Rp : Plan := (.seq rg3 (.seq (.reg [.op (0, 0, false), .op (1, 0, false), .op (2, 0, false), .op (3, 0, false), .op (4, 0, false), .op (5, 0, false), .op (6, 2, false), .op (7, 0, false)]) (.seq (.seq rg3 (.blk (.loop [4] 137438949392 (.seq (.seq (.reg [.op (0, 0, false), .op (1, 0, false), .op (2, 0, false), .op (3, 0, false), .op (4, 0, false), .grp 4 true [(5, 0, false), (6, 0, false)] [18] 393216, .op (7, 0, false)]) (.cond .leaf .leaf)) (.seq (.blk (.reg [.op (0, 0, false), .op (1, 0, false), .op (2, 0, false), .op (3, 0, false), .op (4, 0, false), .op (5, 0, false), .op (6, 0, false), .op (7, 0, false), .op (8, 0, false), .op (9, 0, false), .op (10, 0, false), .op (11, 0, false), .op (12, 0, false), .op (13, 0, false), .op (14, 0, false), .op (15, 2, false)])) rg1))))) (.seq rg0 .leaf))))
theorem XX {a0 : Value} {w : World} {K : Value → World → Prop} (h : LA a0 w K) : call P Dd [a0] w K :=
 Aa mixed Tryz.func98 (c := codeOf Tryz.f98) (by kernel_rfl) (by kernel_rfl) (p := Rp) (by kernel_rfl) (by rw [Tryz.ntmps98]; simp) (by
  have e : LA a0 w K = vc P Rp (codeOf Tryz.f98) (env0 [a0]) w (retX P Tryz.f98.results.toList K) := by kernel_rfl
  exact e ▸ h)
def L5 (a0 a1 : Value) (w : World) (K : Value → World → Prop) : Prop :=
 bin P .lss 2 false true a1 (.int .i64 1) w fun b =>
 cnd b
 (K (.int .i64 0) w)
 (nch a0 fun c =>
 fda P 180 c 2 w fun d =>
 ld P 178 d w fun e =>
 bin P .mul 178 false true e (.int .u64 6364136223846793005) w fun g =>
 bin P .add 178 false true g (.int .u64 1442695040888963407) w fun h =>
 nch a0 fun i =>
 fda P 180 i 2 w fun j =>
 sto P 178 j h w fun k =>
 nch a0 fun l =>
 fda P 180 l 2 k fun m =>
 ld P 178 m k fun n =>
 bin P .shr 178 false true n (.int .u64 33) k fun o =>
 bin P .and 178 false true o (.int .u64 16777215) k fun p =>
 cnv P 178 2 p k fun q =>
 nch a0 fun r =>
 fda P 180 r 1 k fun s =>
 ld P 3 s k fun t =>
 nch a0 fun u =>
 fda P 180 u 0 k fun v =>
 ld P 72 v k fun x =>
 bl0 P .len #[72] 3 [x] k fun y =>
 bin P .lss 3 false false t y k fun z =>
 cnd z
 (nch a0 fun A =>
 fda P 180 A 0 k fun B =>
 ld P 72 B k fun C =>
 nch a0 fun D =>
 fda P 180 D 1 k fun E =>
 ld P 3 E k fun F =>
 ixa P 72 C F k fun G =>
 ld P 5 G k fun H =>
 cnv P 5 2 H k fun L =>
 bin P .add 2 false false q L k fun M =>
 nch a0 fun N =>
 fda P 180 N 1 k fun O =>
 ld P 3 O k fun Q =>
 bin P .add 3 false true Q (.int .i64 1) k fun R =>
 nch a0 fun S =>
 fda P 180 S 1 k fun T =>
 sto P 3 T R k fun U =>
 bin P .rem 2 false false M a1 U fun V =>
 K V U)
 (bin P .rem 2 false false q a1 k fun W =>
 K W k))
def Qy : Plan := (.seq rg3 (.seq (.seq rg0 (.cond (.seq rg3 .leaf) .leaf)) (.seq (.reg [.op (0, 0, false), .op (1, 0, false), .op (2, 0, false), .op (3, 0, false), .op (4, 0, false), .op (5, 0, false), .op (6, 0, false), .op (7, 0, false), .op (8, 0, false), .op (9, 2, false)]) (.seq rg11 (.seq (.seq rg24 (.cond (.seq (.reg [.op (0, 0, false), .op (1, 0, false), .op (2, 0, false), .op (3, 0, false), .op (4, 0, false), .op (5, 0, false), .op (6, 0, false), .op (7, 0, false), .op (8, 0, false), .op (9, 0, false), .op (10, 0, false), .op (11, 0, false), .op (12, 0, false), .op (13, 0, false)]) rg19) .leaf)) (.seq rg5 .leaf))))))
theorem Zb {a0 a1 : Value} {w : World} {K : Value → World → Prop} (h : L5 a0 a1 w K) : call P Am [a0, a1] w K :=
 Aa mixed Tryz.func100 (c := codeOf Tryz.f100) (by kernel_rfl) (by kernel_rfl) (p := Qy) (by kernel_rfl) (by rw [Tryz.ntmps100]; simp) (by
  have e : L5 a0 a1 w K = vc P Qy (codeOf Tryz.f100) (env0 [a0, a1]) w (retX P Tryz.f100.results.toList K) := by kernel_rfl
  exact e ▸ h)
def IA (a0 a1 : Value) (w : World) (K : Value → World → Prop) : Prop :=
 bsl P 22 17 [(0, (.string ⟨#[48]⟩)), (1, (.string ⟨#[49]⟩)), (2, (.string ⟨#[50]⟩)), (3, (.string ⟨#[53]⟩)), (4, (.string ⟨#[57]⟩)), (5, (.string ⟨#[45]⟩)), (6, (.string ⟨#[43]⟩)), (7, (.string ⟨#[112]⟩)), (8, (.string ⟨#[42]⟩)), (9, (.string ⟨#[47]⟩)), (10, (.string ⟨#[59]⟩)), (11, (.string ⟨#[58]⟩)), (12, (.string ⟨#[44]⟩)), (13, (.string ⟨#[32]⟩)), (14, (.string ⟨#[97]⟩)), (15, (.string ⟨#[120]⟩)), (16, (.string ⟨#[10]⟩))] w fun b c =>
 bl0 P .len #[22] 3 [b] c fun d =>
 call P Am [a0, d] c fun e g =>
 ixa P 22 b e g fun h =>
 ld P 9 h g fun i =>
 bl0 P .len #[9] 3 [a1] g fun j =>
 bin P .eql 3 false true j (.int .i64 0) g fun k =>
 cnd k
 (K i g)
 (bl0 P .len #[9] 3 [a1] g fun l =>
 call P Am [a0, l] g fun m n =>
 call P Am [a0, (.int .i64 3)] n fun o p =>
 bin P .eql 2 false true o (.int .i64 0) p fun q =>
 cnd q
 (sli P 9 a1 none (some m) none p fun r =>
 bin P .add 9 false false r i p fun s =>
 bin P .add 2 false true m (.int .i64 1) p fun t =>
 sli P 9 a1 (some t) none none p fun u =>
 bin P .add 9 false false s u p fun v =>
 K v p)
 (bin P .eql 2 false true o (.int .i64 1) p fun x =>
 cnd x
 (sli P 9 a1 none (some m) none p fun y =>
 bin P .add 2 false true m (.int .i64 1) p fun z =>
 sli P 9 a1 (some z) none none p fun A =>
 bin P .add 9 false false y A p fun B =>
 K B p)
 (sli P 9 a1 none (some m) none p fun C =>
 bin P .add 9 false false C i p fun D =>
 sli P 9 a1 (some m) none none p fun E =>
 bin P .add 9 false false D E p fun F =>
 K F p)))
def Om : Plan := (.seq rg3 (.seq rg6 (.seq rg44 (.seq (.seq rg1 (.cond (.seq rg0 .leaf) .leaf)) (.seq rg21 (.seq (.seq rg31 (.blk (.seq rg0 (.cond (.seq (.reg [.op (0, 0, false), .op (1, 0, false), .op (2, 0, false), .op (3, 0, false), .op (4, 0, false), .op (5, 0, false), .op (6, 0, false), .op (7, 0, false), .op (8, 0, false), .op (9, 0, false), .op (10, 0, false)]) .leaf) (.seq rg0 (.cond (.seq rg13 .leaf) .leaf)))))) (.seq rg24 .leaf)))))))
theorem VP {a0 a1 : Value} {w : World} {K : Value → World → Prop} (h : IA a0 a1 w K) : call P I3 [a0, a1] w K :=
 Aa mixed Tryz.func101 (c := codeOf Tryz.f101) (by kernel_rfl) (by kernel_rfl) (p := Om) (by kernel_rfl) (by rw [Tryz.ntmps101]; simp) (by
  have e : IA a0 a1 w K = vc P Om (codeOf Tryz.f101) (env0 [a0, a1]) w (retX P Tryz.f101.results.toList K) := by kernel_rfl
  exact e ▸ h)
def I6 (a0 : Value) (w : World) (K : Value → World → Prop) : Prop :=
 rbin P .sub 66 false false a0 a0 w fun b =>
 bin P .eql 66 false true b (.float .f32 0) w fun c =>
 K c w
def OY : Plan := (.seq rg3 (.seq (.reg [.op (0, 0, false), .op (1, 0, false), .op (2, 1, false), .op (3, 0, false), .op (4, 0, false)]) .leaf))
theorem Wc {a0 : Value} {w : World} {K : Value → World → Prop} (h : I6 a0 w K) : call P AU [a0] w K :=
 Aa mixed Tryz.func116 (c := codeOf Tryz.f116) (by kernel_rfl) (by kernel_rfl) (p := OY) (by kernel_rfl) (by rw [Tryz.ntmps116]; simp) (by
  have e : I6 a0 w K = vc P OY (codeOf Tryz.f116) (env0 [a0]) w (retX P Tryz.f116.results.toList K) := by kernel_rfl
  exact e ▸ h)
def O6 (a0 a1 a2 : Value) (w : World) (K : Value → World → Prop) : Prop :=
 bin P .geq 2 false false a0 a1 w fun b =>
 ∃ c : Value → World → Prop, (∀ (d : Value) (_ : Env) (e : World), c d e →
 pick b d (.bool false) fun g =>
 K g e) ∧
 grd b true
 (bin P .leq 2 false false a0 a2 w fun h =>
 c h w)
 (c undef w)
def SP : Plan := (.seq rg3 (.seq (.reg [.op (0, 0, false), .op (1, 0, false), .op (2, 0, false), .op (3, 0, false), .grp 3 true [(4, 0, false), (5, 0, false), (6, 0, false)] [13] 14336, .op (7, 0, false), .op (8, 0, false)]) .leaf))
theorem Abf {a0 a1 a2 : Value} {w : World} {K : Value → World → Prop} (h : O6 a0 a1 a2 w K) : call P GF [a0, a1, a2] w K :=
 Aa mixed Tryz.func117 (c := codeOf Tryz.f117) (by kernel_rfl) (by kernel_rfl) (p := SP) (by kernel_rfl) (by rw [Tryz.ntmps117]; simp) (by
  have e : O6 a0 a1 a2 w K = vc P SP (codeOf Tryz.f117) (env0 [a0, a1, a2]) w (retX P Tryz.f117.results.toList K) := by kernel_rfl
  exact e ▸ h)
def Le (a0 a1 : Value) (w : World) (K : Value → World → Prop) : Prop :=
 bl0 P .len #[53] 3 [a1] w fun b =>
 call P Am [a0, b] w fun c d =>
 ixa P 53 a1 c d fun e =>
 ld P 2 e d fun g =>
 K g d
def QF : Plan := (.seq rg3 (.seq rg44 .leaf))
theorem Y4 {a0 a1 : Value} {w : World} {K : Value → World → Prop} (h : Le a0 a1 w K) : call P Ca [a0, a1] w K :=
 Aa mixed Tryz.func155 (c := codeOf Tryz.f155) (by kernel_rfl) (by kernel_rfl) (p := QF) (by kernel_rfl) (by rw [Tryz.ntmps155]; simp) (by
  have e : Le a0 a1 w K = vc P QF (codeOf Tryz.f155) (env0 [a0, a1]) w (retX P Tryz.f155.results.toList K) := by kernel_rfl
  exact e ▸ h)
def JD (a0 : Value) (w : World) (K : Value → World → Prop) : Prop :=
 call P MS [a0] w fun b c =>
 rcnv P 66 117 b c fun d =>
 call P DL [d, (.int .i64 149)] c fun e g =>
 ∃ h : Nat → Value → Value → World → Prop, (∃ i, h i (.int .i64 (-149)) e g) ∧ ∀ (j : Nat) (k : Value) (l : Value) (_ : Env) (m : World), h j k l m →
 bin P .geq 117 false true l (.float .f64 4715268809856909312) m fun n =>
 cnd n
 (rbin P .quo 117 false true l (.float .f64 4611686018427387904) m fun o =>
 bin P .add 2 false true k (.int .i64 1) m fun p =>
 ∃ q, q < j ∧ h q p o m)
 (rcnv P 117 2 l m fun r =>
 K (.tuple #[r, k]) m)
def Pz : Plan := (.seq rg0 (.seq (.reg [.op (0, 0, false), .op (1, 2, false), .op (2, 1, false), .op (3, 2, false), .op (4, 0, false), .op (5, 0, false)]) (.seq (.blk (.loop [4, 5] 64560 (.seq (.seq rg0 (.cond .leaf .leaf)) (.blk (.seq rg53 rg1))))) (.seq (.reg [.op (0, 0, false), .op (1, 1, false), .op (2, 0, false), .op (3, 0, false), .op (4, 0, false)]) .leaf))))
theorem Wx {a0 : Value} {w : World} {K : Value → World → Prop} (h : JD a0 w K) : call P J4 [a0] w K :=
 Aa mixed Tryz.func163 (c := codeOf Tryz.f163) (by kernel_rfl) (by kernel_rfl) (p := Pz) (by kernel_rfl) (by rw [Tryz.ntmps163]; simp) (by
  have e : JD a0 w K = vc P Pz (codeOf Tryz.f163) (env0 [a0]) w (retX P Tryz.f163.results.toList K) := by kernel_rfl
  exact e ▸ h)
def FD (a0 : Value) (w : World) (K : Value → World → Prop) : Prop :=
 rbin P .mul 66 false true a0 (.float .f32 3212836864) w fun b =>
 K b w
def Og : Plan := (.seq rg3 (.seq rg53 .leaf))
theorem Oh {a0 : Value} {w : World} {K : Value → World → Prop} (h : FD a0 w K) : call P Bn [a0] w K :=
 Aa mixed Tryz.func193 (c := codeOf Tryz.f193) (by kernel_rfl) (by kernel_rfl) (p := Og) (by kernel_rfl) (by rw [Tryz.ntmps193]; simp) (by
  have e : FD a0 w K = vc P Og (codeOf Tryz.f193) (env0 [a0]) w (retX P Tryz.f193.results.toList K) := by kernel_rfl
  exact e ▸ h)
def KU (a0 : Value) (w : World) (K : Value → World → Prop) : Prop :=
 ∃ b : Value → World → Prop, (∀ (c : Value) (_ : Env) (d : World), b c d →
 bl0 P .min #[2, 2] 2 [c, (.int .i64 2139095039)] d fun e =>
 bl0 P .max #[2, 2] 2 [(.int .i64 0), e] d fun g =>
 call P Am [a0, (.int .i64 2)] d fun h i =>
 bin P .eql 2 false true h (.int .i64 0) i fun j =>
 cnd j
 (una P .neg g i fun k =>
 call P CJ [k] i fun l m =>
 K l m)
 (call P CJ [g] i fun n o =>
 K n o)) ∧
 (call P Am [a0, (.int .i64 10)] w fun p q =>
 ∃ r : Value → World → Prop, (∀ (s : Value) (_ : Env) (t : World), r s t →
 cnd s
 (call P Am [a0, (.int .i64 41)] t fun u v =>
 bin P .sub 2 false true u (.int .i64 20) v fun x =>
 cnv P 2 66 x v fun y =>
 K y v)
 (∃ z : Value → World → Prop, (∀ (A : Value) (_ : Env) (B : World), z A B →
 cnd A
 (call P Am [a0, (.int .i64 2001)] B fun C D =>
 bin P .sub 2 false true C (.int .i64 1000) D fun E =>
 cnv P 2 66 E D fun F =>
 bsl P 53 7 [(0, (.int .i64 2)), (1, (.int .i64 4)), (2, (.int .i64 16)), (3, (.int .i64 128)), (4, (.int .i64 3)), (5, (.int .i64 10)), (6, (.int .i64 1000))] D fun G H =>
 call P Ca [a0, G] H fun L M =>
 cnv P 2 66 L M fun N =>
 rbin P .quo 66 false false F N M fun O =>
 K O M)
 (bin P .eql 2 false true p (.int .i64 4) B fun Q =>
 cnd Q
 (call P Am [a0, (.int .i64 255)] B fun R S =>
 bin P .shl 2 false true R (.int .u64 23) S fun T =>
 call P Am [a0, (.int .i64 5)] S fun U V =>
 bin P .add 2 false false T U V fun W =>
 bin P .sub 2 false true W (.int .i64 2) V fun X =>
 b X V)
 (bin P .eql 2 false true p (.int .i64 5) B fun Y =>
 cnd Y
 (call P Am [a0, (.int .i64 8388608)] B fun Z b0 =>
 b Z b0)
 (bin P .eql 2 false true p (.int .i64 6) B fun c0 =>
 cnd c0
 (call P Am [a0, (.int .i64 8388608)] B fun d0 e0 =>
 bin P .add 2 true false (.int .i64 2130706432) d0 e0 fun g0 =>
 b g0 e0)
 (bin P .eql 2 false true p (.int .i64 7) B fun h0 =>
 cnd h0
 (call P Am [a0, (.int .i64 16777216)] B fun i0 j0 =>
 bin P .add 2 true false (.int .i64 1065353216) i0 j0 fun k0 =>
 b k0 j0)
 (bin P .eql 2 false true p (.int .i64 8) B fun l0 =>
 cnd l0
 (bsl P 53 11 [(0, (.int .i64 0)), (1, (.int .i64 1)), (2, (.int .i64 2)), (3, (.int .i64 3)), (4, (.int .i64 8388607)), (5, (.int .i64 8388608)), (6, (.int .i64 8388609)), (7, (.int .i64 2139095039)), (8, (.int .i64 2139095038)), (9, (.int .i64 1065353216)), (10, (.int .i64 1065353217))] B fun m0 n0 =>
 call P Ca [a0, m0] n0 fun o0 p0 =>
 call P CJ [o0] p0 fun q0 r0 =>
 K q0 r0)
 (call P Am [a0, (.int .i64 255)] B fun s0 t0 =>
 bin P .shl 2 false true s0 (.int .u64 23) t0 fun u0 =>
 call P Am [a0, (.int .i64 8388608)] t0 fun v0 x0 =>
 bin P .add 2 false false u0 v0 x0 fun y0 =>
 b y0 x0))))))) ∧
 (bin P .eql 2 false true p (.int .i64 2) t fun z0 =>
 cnd z0
 (z z0 t)
 (bin P .eql 2 false true p (.int .i64 3) t fun A0 =>
 z A0 t)))) ∧
 (bin P .eql 2 false true p (.int .i64 0) q fun B0 =>
 cnd B0
 (r B0 q)
 (bin P .eql 2 false true p (.int .i64 1) q fun C0 =>
 r C0 q)))
def Q5 : Plan := (.seq rg3 (.seq rg3 (.cut [3] 1152921504606846972 (.seq rg31 (.blk (.cut [12] 28672 (.seq rg0 (.cond .leaf rg0)) (.cond (.seq rg35 .leaf) (.cut [19] 3670016 (.seq rg0 (.cond .leaf rg0)) (.cond (.seq (.reg [.op (0, 0, false), .op (1, 2, false), .op (2, 0, false), .op (3, 0, false), .op (4, 0, false), .op (5, 2, false), .op (6, 2, false), .op (7, 0, false), .op (8, 1, false), .op (9, 0, false)]) .leaf) (.seq rg0 (.cond (.reg [.op (0, 0, false), .op (1, 2, false), .op (2, 0, false), .op (3, 0, false), .op (4, 2, false), .op (5, 0, false), .op (6, 0, false), .op (7, 0, false)]) (.seq rg0 (.cond rg2 (.seq rg0 (.cond rg14 (.seq rg0 (.cond rg14 (.seq rg0 (.cond (.seq (.reg [.op (0, 0, false), .op (1, 2, false), .op (2, 2, false), .op (3, 2, false), .op (4, 0, false)]) .leaf) (.reg [.op (0, 0, false), .op (1, 2, false), .op (2, 0, false), .op (3, 0, false), .op (4, 2, false), .op (5, 0, false), .op (6, 0, false)]))))))))))))))))) (.seq rg5 (.seq (.seq rg2 (.cond (.seq rg8 .leaf) .leaf)) (.seq rg2 .leaf))))))
theorem Ym {a0 : Value} {w : World} {K : Value → World → Prop} (h : KU a0 w K) : call P HA [a0] w K :=
 Aa mixed Tryz.func203 (c := codeOf Tryz.f203) (by kernel_rfl) (by kernel_rfl) (p := Q5) (by kernel_rfl) (by rw [Tryz.ntmps203]; simp) (by
  have e : KU a0 w K = vc P Q5 (codeOf Tryz.f203) (env0 [a0]) w (retX P Tryz.f203.results.toList K) := by kernel_rfl
  exact e ▸ h)
def JQ (a0 a1 : Value) (w : World) (K : Value → World → Prop) : Prop :=
 call P Am [a0, (.int .i64 14)] w fun b c =>
 bin P .eql 2 false true b (.int .i64 0) c fun d =>
 cnd d
 (bin P .add 2 false true a1 (.int .i64 1) c fun e =>
 bsl P 53 4 [(0, (.int .i64 (-1))), (1, e), (2, (.int .i64 1099511627776)), (3, (.int .i64 (-4611686018427387904)))] c fun g h =>
 call P Ca [a0, g] h fun i j =>
 K i j)
 (bin P .add 2 false true a1 (.int .i64 1) c fun k =>
 call P Am [a0, k] c fun l m =>
 K l m)
def PA : Plan := (.seq rg3 (.seq (.seq rg2 (.cond (.seq rg30 .leaf) .leaf)) (.seq rg21 .leaf)))
theorem WE {a0 a1 : Value} {w : World} {K : Value → World → Prop} (h : JQ a0 a1 w K) : call P JJ [a0, a1] w K :=
 Aa mixed Tryz.func204 (c := codeOf Tryz.f204) (by kernel_rfl) (by kernel_rfl) (p := PA) (by kernel_rfl) (by rw [Tryz.ntmps204]; simp) (by
  have e : JQ a0 a1 w K = vc P PA (codeOf Tryz.f204) (env0 [a0, a1]) w (retX P Tryz.f204.results.toList K) := by kernel_rfl
  exact e ▸ h)
def JF (a0 : Value) (w : World) (K : Value → World → Prop) : Prop :=
 call P Am [a0, (.int .i64 16)] w fun b c =>
 bin P .eql 2 false true b (.int .i64 0) c fun d =>
 cnd d
 (call P Ic [a0] c fun e g =>
 K e g)
 (call P HA [a0] c fun h i =>
 K h i)
def Pm : Plan := (.seq rg3 (.seq (.seq rg2 (.cond (.seq rg2 .leaf) .leaf)) (.seq rg2 .leaf)))
theorem WK {a0 : Value} {w : World} {K : Value → World → Prop} (h : JF a0 w K) : call P Jn [a0] w K :=
 Aa mixed Tryz.func205 (c := codeOf Tryz.f205) (by kernel_rfl) (by kernel_rfl) (p := Pm) (by kernel_rfl) (by rw [Tryz.ntmps205]; simp) (by
  have e : JF a0 w K = vc P Pm (codeOf Tryz.f205) (env0 [a0]) w (retX P Tryz.f205.results.toList K) := by kernel_rfl
  exact e ▸ h)
def K3 (a0 a1 : Value) (w : World) (K : Value → World → Prop) : Prop :=
 ∃ b : Nat → Value → Value → World → Prop, (∃ c, b c a0 a1 w) ∧ ∀ (d : Nat) (e : Value) (g : Value) (_ : Env) (h : World), b d e g h →
 bin P .gtr 2 false true g (.int .i64 0) h fun i =>
 cnd i
 (rbin P .mul 117 false true e (.float .f64 4611686018427387904) h fun j =>
 bin P .sub 2 false true g (.int .i64 1) h fun k =>
 ∃ l, l < d ∧ b l j k h)
 (∃ m : Nat → Value → Value → World → Prop, (∃ n, m n e g h) ∧ ∀ (o : Nat) (p : Value) (q : Value) (_ : Env) (r : World), m o p q r →
 bin P .lss 2 false true q (.int .i64 0) r fun s =>
 cnd s
 (rbin P .quo 117 false true p (.float .f64 4611686018427387904) r fun t =>
 bin P .add 2 false true q (.int .i64 1) r fun u =>
 ∃ v, v < o ∧ m v t u r)
 (K p r))
def QG : Plan := (.seq rg3 (.seq (.blk (.loop [0, 1] 2019 (.seq (.seq rg0 (.cond .leaf .leaf)) (.seq (.blk rg53) rg1)))) (.seq (.blk (.loop [0, 1] 129027 (.seq (.seq rg0 (.cond .leaf .leaf)) (.seq (.blk rg53) rg1)))) (.seq rg0 .leaf))))
theorem Ya {a0 a1 : Value} {w : World} {K : Value → World → Prop} (h : K3 a0 a1 w K) : call P DL [a0, a1] w K :=
 Aa mixed Tryz.func212 (c := codeOf Tryz.f212) (by kernel_rfl) (by kernel_rfl) (p := QG) (by kernel_rfl) (by rw [Tryz.ntmps212]; simp) (by
  have e : K3 a0 a1 w K = vc P QG (codeOf Tryz.f212) (env0 [a0, a1]) w (retX P Tryz.f212.results.toList K) := by kernel_rfl
  exact e ▸ h)
def MX (a0 : Value) (w : World) (K : Value → World → Prop) : Prop :=
 bin P .lss 66 false true a0 (.float .f32 0) w fun b =>
 cnd b
 (una P .neg a0 w fun c =>
 K c w)
 (bin P .eql 66 false true a0 (.float .f32 0) w fun d =>
 cnd d
 (K (.float .f32 0) w)
 (K a0 w))
def Se : Plan := (.seq rg3 (.seq (.seq rg0 (.cond (.seq rg1 .leaf) .leaf)) (.seq (.seq rg0 (.cond (.seq rg3 .leaf) .leaf)) (.seq rg0 .leaf))))
theorem Aap {a0 : Value} {w : World} {K : Value → World → Prop} (h : MX a0 w K) : call P MS [a0] w K :=
 Aa mixed Tryz.func213 (c := codeOf Tryz.f213) (by kernel_rfl) (by kernel_rfl) (p := Se) (by kernel_rfl) (by rw [Tryz.ntmps213]; simp) (by
  have e : MX a0 w K = vc P Se (codeOf Tryz.f213) (env0 [a0]) w (retX P Tryz.f213.results.toList K) := by kernel_rfl
  exact e ▸ h)
def GS (a0 : Value) (w : World) (K : Value → World → Prop) : Prop :=
 bin P .lss 2 false true a0 (.int .i64 0) w fun b =>
 cnd b
 (una P .neg a0 w fun c =>
 call P CJ [c] w fun d e =>
 una P .neg d e fun g =>
 K g e)
 (bin P .shr 2 false true a0 (.int .u64 23) w fun h =>
 bin P .and 2 false true a0 (.int .i64 8388607) w fun i =>
 bin P .eql 2 false true h (.int .i64 255) w fun j =>
 cnd j
 (call P Fq [] w fun k l =>
 K k l)
 (bin P .eql 2 false true h (.int .i64 0) w fun m =>
 cnd m
 (cnv P 2 117 i w fun n =>
 call P DL [n, (.int .i64 (-149))] w fun o p =>
 rcnv P 117 66 o p fun q =>
 K q p)
 (bin P .add 2 false true i (.int .i64 8388608) w fun r =>
 cnv P 2 117 r w fun s =>
 bin P .sub 2 false true h (.int .i64 150) w fun t =>
 call P DL [s, t] w fun u v =>
 rcnv P 117 66 u v fun x =>
 K x v)))
def TF : Plan := (.seq rg3 (.seq (.seq rg0 (.cond (.seq rg39 .leaf) .leaf)) (.seq rg9 (.seq (.blk (.seq rg1 (.cond (.seq rg6 .leaf) (.seq rg1 (.cond (.seq (.reg [.op (0, 0, false), .op (1, 0, false), .op (2, 2, false), .op (3, 1, false), .op (4, 0, false)]) .leaf) .leaf))))) (.seq (.reg [.op (0, 0, false), .op (1, 0, false), .op (2, 0, false), .op (3, 0, false), .op (4, 0, false), .op (5, 2, false), .op (6, 1, false), .op (7, 0, false)]) .leaf)))))
theorem OP {a0 : Value} {w : World} {K : Value → World → Prop} (h : GS a0 w K) : call P CJ [a0] w K :=
 Aa mixed Tryz.func242 (c := codeOf Tryz.f242) (by kernel_rfl) (by kernel_rfl) (p := TF) (by kernel_rfl) (by rw [Tryz.ntmps242]; simp) (by
  have e : GS a0 w K = vc P TF (codeOf Tryz.f242) (env0 [a0]) w (retX P Tryz.f242.results.toList K) := by kernel_rfl
  exact e ▸ h)
def Id (a0 : Value) (w : World) (K : Value → World → Prop) : Prop :=
 call P Fq [] w fun b c =>
 call P Am [a0, (.int .i64 5)] c fun d e =>
 bin P .eql 2 false true d (.int .i64 0) e fun g =>
 cnd g
 (K b e)
 (bin P .eql 2 false true d (.int .i64 1) e fun h =>
 cnd h
 (una P .neg b e fun i =>
 K i e)
 (bin P .eql 2 false true d (.int .i64 2) e fun j =>
 cnd j
 (rbin P .sub 66 false false b b e fun k =>
 K k e)
 (bin P .eql 2 false true d (.int .i64 3) e fun l =>
 cnd l
 (call P Bn [(.float .f32 0)] e fun m n =>
 K m n)
 (K (.float .f32 0) e))))
def Nv : Plan := (.seq rg3 (.seq rg6 (.seq (.seq rg31 (.blk (.seq rg0 (.cond (.seq rg0 .leaf) (.seq rg0 (.cond (.seq rg1 .leaf) (.seq rg0 (.cond (.seq rg20 .leaf) (.seq rg0 (.cond (.seq rg6 .leaf) .leaf)))))))))) (.seq rg3 .leaf))))
theorem UP {a0 : Value} {w : World} {K : Value → World → Prop} (h : Id a0 w K) : call P Ic [a0] w K :=
 Aa mixed Tryz.func243 (c := codeOf Tryz.f243) (by kernel_rfl) (by kernel_rfl) (p := Nv) (by kernel_rfl) (by rw [Tryz.ntmps243]; simp) (by
  have e : Id a0 w K = vc P Nv (codeOf Tryz.f243) (env0 [a0]) w (retX P Tryz.f243.results.toList K) := by kernel_rfl
  exact e ▸ h)
def MP (a0 : Value) (w : World) (K : Value → World → Prop) : Prop :=
 bsl P 53 0 [] w fun b c =>
 bl2 P .append #[53, 53] 53 [b, a0] c fun d e =>
 K d e
def Sw : Plan := (.seq rg3 (.seq rg52 .leaf))
theorem Aaa {a0 : Value} {w : World} {K : Value → World → Prop} (h : MP a0 w K) : call P FV [a0] w K :=
 Aa mixed Tryz.func251 (c := codeOf Tryz.f251) (by kernel_rfl) (by kernel_rfl) (p := Sw) (by kernel_rfl) (by rw [Tryz.ntmps251]; simp) (by
  have e : MP a0 w K = vc P Sw (codeOf Tryz.f251) (env0 [a0]) w (retX P Tryz.f251.results.toList K) := by kernel_rfl
  exact e ▸ h)
def Ly (w : World) (K : Value → World → Prop) : Prop :=
 rbin P .mul 66 false true (.float .f32 2137108966) (.float .f32 1092616192) w fun b =>
 K b w
def Rv : Plan := (.seq rg3 (.seq rg3 (.seq rg53 .leaf)))
theorem XK {w : World} {K : Value → World → Prop} (h : Ly  w K) : call P Fq [] w K :=
 Aa mixed Tryz.func270 (c := codeOf Tryz.f270) (by kernel_rfl) (by kernel_rfl) (p := Rv) (by kernel_rfl) (by rw [Tryz.ntmps270]; simp) (by
  have e : Ly  w K = vc P Rv (codeOf Tryz.f270) (env0 []) w (retX P Tryz.f270.results.toList K) := by kernel_rfl
  exact e ▸ h)
end


set_option maxRecDepth 20000
section
open Go Go.Vc
def RM (a0 : Value) (w : World) (K : Value → World → Prop) : Prop :=
 bl0 P .len #[72] 3 [a0] w fun b =>
 bin P .gtr 3 false true b (.int .i64 4096) w fun c =>
 K c w
def Xo : Plan := (.seq rg3 (.seq rg5 .leaf))
theorem AdU {a0 : Value} {w : World} {K : Value → World → Prop} (h : RM a0 w K) : call P RK [a0] w K :=
 Aa mixed Tryz.func43 (c := codeOf Tryz.f43) (by kernel_rfl) (by kernel_rfl) (p := Xo) (by kernel_rfl) (by rw [Tryz.ntmps43]; simp) (by
  have e : RM a0 w K = vc P Xo (codeOf Tryz.f43) (env0 [a0]) w (retX P Tryz.f43.results.toList K) := by kernel_rfl
  exact e ▸ h)
def MJ (a0 a1 : Value) (w : World) (K : Value → World → Prop) : Prop :=
 bl0 P .len #[22] 3 [a0] w fun b =>
 bl0 P .len #[22] 3 [a1] w fun c =>
 bin P .neq 3 false false b c w fun d =>
 cnd d
 (K (.bool false) w)
 (∃ e : Nat → Value → World → Prop, (∃ g, e g (.int .i64 0) w) ∧ ∀ (h : Nat) (i : Value) (_ : Env) (j : World), e h i j →
 bl0 P .len #[22] 3 [a0] j fun k =>
 bin P .lss 3 false false i k j fun l =>
 cnd l
 (ixa P 22 a0 i j fun m =>
 ld P 9 m j fun n =>
 ixa P 22 a1 i j fun o =>
 ld P 9 o j fun p =>
 bin P .neq 9 false false n p j fun q =>
 cnd q
 (K (.bool false) j)
 (bin P .add 3 false true i (.int .i64 1) j fun r =>
 ∃ s, s < h ∧ e s r j))
 (K (.bool true) j))
def Sb : Plan := (.seq rg3 (.seq (.seq rg4 (.cond (.seq rg3 .leaf) .leaf)) (.seq (.seq rg3 (.blk (.loop [5] 67106864 (.seq (.seq rg5 (.cond .leaf .leaf)) (.seq (.blk (.seq rg13 (.cond (.seq rg3 .leaf) .leaf))) rg1))))) (.seq rg3 .leaf))))
theorem Aa4 {a0 a1 : Value} {w : World} {K : Value → World → Prop} (h : MJ a0 a1 w K) : call P Iz [a0, a1] w K :=
 Aa mixed Tryz.func45 (c := codeOf Tryz.f45) (by kernel_rfl) (by kernel_rfl) (p := Sb) (by kernel_rfl) (by rw [Tryz.ntmps45]; simp) (by
  have e : MJ a0 a1 w K = vc P Sb (codeOf Tryz.f45) (env0 [a0, a1]) w (retX P Tryz.f45.results.toList K) := by kernel_rfl
  exact e ▸ h)
def MW (a0 a1 : Value) (w : World) (K : Value → World → Prop) : Prop :=
 bin P .neq 66 false false a0 a0 w fun b =>
 ∃ c : Value → World → Prop, (∀ (d : Value) (_ : Env) (e : World), c d e →
 pick b (.bool true) d fun g =>
 cnd g
 (bin P .neq 66 false false a0 a0 e fun h =>
 ∃ i : Value → World → Prop, (∀ (j : Value) (_ : Env) (k : World), i j k →
 pick h j (.bool false) fun l =>
 K l k) ∧
 grd h true
 (bin P .neq 66 false false a1 a1 e fun m =>
 i m e)
 (i undef e))
 (bin P .eql 66 false false a0 a1 e fun n =>
 ∃ o : Value → World → Prop, (∀ (p : Value) (_ : Env) (q : World), o p q →
 ∃ r : Value → World → Prop, (∀ (s : Value) (_ : Env) (t : World), r s t →
 ∃ u : Value → World → Prop, (∀ (v : Value) (_ : Env) (x : World), u v x →
 pick n v (.bool false) fun y =>
 K y x) ∧
 grd n true
 (pick p (.bool true) s fun z =>
 u z t)
 (u undef t)) ∧
 grd p false
 (rbin P .quo 66 true false (.float .f32 1065353216) a0 q fun A =>
 rbin P .quo 66 true false (.float .f32 1065353216) a1 q fun B =>
 bin P .eql 66 false false A B q fun C =>
 r C q)
 (r undef q)) ∧
 grd n true
 (bin P .neq 66 false true a0 (.float .f32 0) e fun D =>
 o D e)
 (o undef e))) ∧
 grd b false
 (bin P .neq 66 false false a1 a1 w fun E =>
 c E w)
 (c undef w)
def SF : Plan := (.seq rg3 (.seq (.seq (.reg [.op (0, 0, false), .op (1, 0, false), .op (2, 0, false), .op (3, 0, false), .grp 3 false [(4, 0, false), (5, 0, false), (6, 0, false)] [11] 3584, .op (7, 0, false)]) (.cond (.seq (.reg [.op (0, 0, false), .op (1, 0, false), .op (2, 0, false), .op (3, 0, false), .grp 3 true [(4, 0, false), (5, 0, false), (6, 0, false)] [19] 917504, .op (7, 0, false), .op (8, 0, false)]) .leaf) .leaf)) (.seq (.reg [.op (0, 0, false), .op (1, 0, false), .op (2, 0, false), .op (3, 0, false), .grp 3 true [(4, 0, false), (5, 0, false), (6, 0, false)] [27] 234881024, .grp 6 false [(7, 0, false), (8, 1, false), (9, 0, false), (10, 1, false), (11, 0, false)] [32] 8321499136, .grp 3 true [(12, 0, false)] [33] 8589934592, .op (13, 0, false), .op (14, 0, false)]) .leaf)))
theorem Aal {a0 a1 : Value} {w : World} {K : Value → World → Prop} (h : MW a0 a1 w K) : call P Eo [a0, a1] w K :=
 Aa mixed Tryz.func49 (c := codeOf Tryz.f49) (by kernel_rfl) (by kernel_rfl) (p := SF) (by kernel_rfl) (by rw [Tryz.ntmps49]; simp) (by
  have e : MW a0 a1 w K = vc P SF (codeOf Tryz.f49) (env0 [a0, a1]) w (retX P Tryz.f49.results.toList K) := by kernel_rfl
  exact e ▸ h)
end


set_option maxRecDepth 20000
section
open Go Go.Vc
def JB (a0 a1 : Value) (w : World) (K : Value → World → Prop) : Prop :=
 call P LZ [a0, a1, (.int .i64 0), (.int .i64 (-1))] w fun b c =>
 K b c
def PH : Plan := (.seq rg3 (.seq rg8 .leaf))
theorem Xy {a0 a1 : Value} {w : World} {K : Value → World → Prop} (h : JB a0 a1 w K) : call P Jp [a0, a1] w K :=
 Aa mixed Tryz.func62 (c := codeOf Tryz.f62) (by kernel_rfl) (by kernel_rfl) (p := PH) (by kernel_rfl) (by rw [Tryz.ntmps62]; simp) (by
  have e : JB a0 a1 w K = vc P PH (codeOf Tryz.f62) (env0 [a0, a1]) w (retX P Tryz.f62.results.toList K) := by kernel_rfl
  exact e ▸ h)
def L9 (a0 a1 : Value) (w : World) (K : Value → World → Prop) : Prop :=
 bl0 P .len #[22] 3 [a0] w fun b =>
 bin P .eql 3 false true b (.int .i64 0) w fun c =>
 cnd c
 (K (.string ⟨#[]⟩) w)
 (bin P .eql 3 false true b (.int .i64 1) w fun d =>
 cnd d
 (ixa P 22 a0 (.int .i64 0) w fun e =>
 ld P 9 e w fun g =>
 K g w)
 (∃ h : Value → World → Prop, (∀ (i : Value) (_ : Env) (j : World), h i j →
 bl0 P .len #[22] 3 [a0] j fun k =>
 ∃ l : Nat → Value → Value → World → Prop, (∃ m, l m i (.int .i64 0) j) ∧ ∀ (n : Nat) (o : Value) (p : Value) (_ : Env) (q : World), l n o p q →
 bin P .lss 3 false false p k q fun r =>
 cnd r
 (ixa P 22 a0 p q fun s =>
 ld P 9 s q fun t =>
 bl0 P .len #[9] 3 [t] q fun u =>
 bin P .sub 3 true false (.int .i64 9223372036854775807) o q fun v =>
 bin P .gtr 3 false false u v q fun x =>
 cnd x
 (mki P 9 (.string ⟨#[115, 116, 114, 105, 110, 103, 115, 58, 32, 74, 111, 105, 110, 32, 111, 117, 116, 112, 117, 116, 32, 108, 101, 110, 103, 116, 104, 32, 111, 118, 101, 114, 102, 108, 111, 119]⟩) q fun y =>
             False)
 (bl0 P .len #[9] 3 [t] q fun z =>
 bin P .add 3 false false o z q fun A =>
 bin P .add 3 false true p (.int .i64 1) q fun B =>
 ∃ C, C < n ∧ l C A B q))
 (alc P 186 q fun D E =>
 call P Ip [D, o] E fun F G =>
 ixa P 22 a0 (.int .i64 0) G fun H =>
 ld P 9 H G fun L =>
 call P Cf [D, L] G fun M N =>
 sli P 22 a0 (some (.int .i64 1)) none none N fun O =>
 bl0 P .len #[22] 3 [O] N fun Q =>
 ∃ R : Nat → Value → World → Prop, (∃ S, R S (.int .i64 0) N) ∧ ∀ (T : Nat) (U : Value) (_ : Env) (V : World), R T U V →
 bin P .lss 3 false false U Q V fun W =>
 cnd W
 (ixa P 22 O U V fun X =>
 ld P 9 X V fun Y =>
 call P Cf [D, a1] V fun Z b0 =>
 call P Cf [D, Y] b0 fun c0 d0 =>
 bin P .add 3 false true U (.int .i64 1) d0 fun e0 =>
 ∃ g0, g0 < T ∧ R g0 e0 d0)
 (call P Hr [D] V fun h0 i0 =>
 K h0 i0))) ∧
 (bl0 P .len #[9] 3 [a1] w fun j0 =>
 bin P .gtr 3 false true j0 (.int .i64 0) w fun k0 =>
 cnd k0
 (∃ l0 : World → Prop, (∀ (_ : Env) (m0 : World), l0 m0 →
 bl0 P .len #[9] 3 [a1] m0 fun n0 =>
 bl0 P .len #[22] 3 [a0] m0 fun o0 =>
 bin P .sub 3 false true o0 (.int .i64 1) m0 fun p0 =>
 bin P .mul 3 false false n0 p0 m0 fun q0 =>
 bin P .add 3 false false (.int .i64 0) q0 m0 fun r0 =>
 h r0 m0) ∧
 (bl0 P .len #[9] 3 [a1] w fun s0 =>
 bl0 P .len #[22] 3 [a0] w fun t0 =>
 bin P .sub 3 false true t0 (.int .i64 1) w fun u0 =>
 bin P .quo 3 true false (.int .i64 9223372036854775807) u0 w fun v0 =>
 bin P .geq 3 false false s0 v0 w fun x0 =>
 cnd x0
 (mki P 9 (.string ⟨#[115, 116, 114, 105, 110, 103, 115, 58, 32, 74, 111, 105, 110, 32, 111, 117, 116, 112, 117, 116, 32, 108, 101, 110, 103, 116, 104, 32, 111, 118, 101, 114, 102, 108, 111, 119]⟩) w fun y0 =>
             False)
 (l0 w)))
 (h (.int .i64 0) w))))
def QD : Plan := (.seq rg3 (.seq (.seq rg0 (.blk (.seq rg0 (.cond (.seq rg3 .leaf) (.seq rg0 (.cond (.seq rg5 .leaf) .leaf)))))) (.seq rg3 (.cut [5] 549754765344 (.seq rg1 (.cond (.cut [] 2139095040 (.seq rg10 (.cond rg31 .leaf)) rg13) .leaf)) (.seq (.seq rg1 (.blk (.loop [5, 41] 72055395014672544 (.seq rg3 (.seq (.cond .leaf .leaf) (.seq (.blk (.seq rg1 (.seq (.seq rg4 (.cond rg31 .leaf)) rg4))) rg0)))))) (.seq rg55 (.seq rg31 (.seq (.reg [.op (0, 0, false), .op (1, 0, false), .op (2, 0, false), .op (3, 2, false)]) (.seq (.seq rg5 (.blk (.loop [65] 18852572443331161752576 (.seq rg3 (.seq (.cond .leaf .leaf) (.seq (.blk (.seq rg1 (.seq rg31 rg31))) rg0)))))) (.seq rg6 .leaf))))))))))
theorem YZ {a0 a1 : Value} {w : World} {K : Value → World → Prop} (h : L9 a0 a1 w K) : call P Kv [a0, a1] w K :=
 Aa mixed Tryz.func106 (c := codeOf Tryz.f106) (by kernel_rfl) (by kernel_rfl) (p := QD) (by kernel_rfl) (by rw [Tryz.ntmps106]; simp) (by
  have e : L9 a0 a1 w K = vc P QD (codeOf Tryz.f106) (env0 [a0, a1]) w (retX P Tryz.f106.results.toList K) := by kernel_rfl
  exact e ▸ h)
def GM (a0 a1 a2 a3 : Value) (w : World) (K : Value → World → Prop) : Prop :=
 bin P .eql 3 false true a3 (.int .i64 0) w fun b =>
 cnd b
 (K (.slice none 0 0) w)
 (bin P .eql 9 false true a1 (.string ⟨#[]⟩) w fun c =>
 cnd c
 (call P UR [a0, a3] w fun d e =>
 K d e)
 (∃ g : Value → World → Prop, (∀ (h : Value) (_ : Env) (i : World), g h i →
 bl0 P .len #[9] 3 [a0] i fun j =>
 bin P .add 3 false true j (.int .i64 1) i fun k =>
 bl0 P .min #[3, 3] 3 [h, k] i fun l =>
 mks P 22 l l i fun m n =>
 bin P .sub 3 false true l (.int .i64 1) n fun o =>
 ∃ p : Value → Value → World → Prop, (∀ (q : Value) (r : Value) (_ : Env) (s : World), p q r s →
 ixa P 22 m r s fun t =>
 sto P 9 t q s fun u =>
 bin P .add 3 false true r (.int .i64 1) u fun v =>
 sli P 22 m none (some v) none u fun x =>
 K x u) ∧
 (∃ y : Nat → Value → Value → World → Prop, (∃ z, y z a0 (.int .i64 0) n) ∧ ∀ (A : Nat) (B : Value) (C : Value) (_ : Env) (D : World), y A B C D →
 bin P .lss 3 false false C o D fun E =>
 cnd E
 (call P Jf [B, a1] D fun F G =>
 bin P .lss 3 false true F (.int .i64 0) G fun H =>
 cnd H
 (p B C G)
 (bin P .add 3 false false F a2 G fun L =>
 sli P 9 B none (some L) none G fun M =>
 ixa P 22 m C G fun N =>
 sto P 9 N M G fun O =>
 bl0 P .len #[9] 3 [a1] O fun Q =>
 bin P .add 3 false false F Q O fun R =>
 sli P 9 B (some R) none none O fun S =>
 bin P .add 3 false true C (.int .i64 1) O fun T =>
 ∃ U, U < A ∧ y U S T O))
 (p B C D))) ∧
 (bin P .lss 3 false true a3 (.int .i64 0) w fun V =>
 cnd V
 (call P JP [a0, a1] w fun W X =>
 bin P .add 3 false true W (.int .i64 1) X fun Y =>
 g Y X)
 (g a3 w))))
def M4 : Plan := (.seq rg3 (.seq (.seq rg0 (.cond (.seq rg3 .leaf) .leaf)) (.seq (.seq rg0 (.cond (.seq rg8 .leaf) .leaf)) (.cut [3] 33030152 (.seq rg0 (.cond rg39 .leaf)) (.seq rg9 (.seq rg2 (.seq rg1 (.seq rg3 (.cut [0, 10] 288230358971845633 (.blk (.loop [0, 10] 288230358971845633 (.seq (.seq rg1 (.cond .leaf .leaf)) (.blk (.seq rg8 (.seq (.seq rg0 (.cond .leaf .leaf)) (.seq rg19 (.seq rg10 rg1)))))))) (.seq (.reg [.op (0, 0, false), .op (1, 0, false), .op (2, 0, false), .op (3, 0, false), .op (4, 2, false)]) (.seq rg4 .leaf)))))))))))
theorem Ud {a0 a1 a2 a3 : Value} {w : World} {K : Value → World → Prop} (h : GM a0 a1 a2 a3 w K) : call P LZ [a0, a1, a2, a3] w K :=
 Aa mixed Tryz.func107 (c := codeOf Tryz.f107) (by kernel_rfl) (by kernel_rfl) (p := M4) (by kernel_rfl) (by rw [Tryz.ntmps107]; simp) (by
  have e : GM a0 a1 a2 a3 w K = vc P M4 (codeOf Tryz.f107) (env0 [a0, a1, a2, a3]) w (retX P Tryz.f107.results.toList K) := by kernel_rfl
  exact e ▸ h)
def J8 (a0 a1 : Value) (w : World) (K : Value → World → Prop) : Prop :=
 bl0 P .len #[9] 3 [a1] w fun b =>
 bin P .eql 3 false true b (.int .i64 0) w fun c =>
 cnd c
 (call P IM [a0] w fun d e =>
 bin P .add 3 false true d (.int .i64 1) e fun g =>
 K g e)
 (bl0 P .len #[9] 3 [a1] w fun h =>
 bin P .eql 3 false true h (.int .i64 1) w fun i =>
 cnd i
 (idx P 9 a1 (.int .i64 0) w fun j =>
 call P CM [a0, j] w fun k l =>
 K k l)
 (∃ m : Nat → Value → Value → World → Prop, (∃ n, m n a0 (.int .i64 0) w) ∧ ∀ (o : Nat) (p : Value) (q : Value) (_ : Env) (r : World), m o p q r →
 call P Jf [p, a1] r fun s t =>
 bin P .eql 3 false true s (.int .i64 (-1)) t fun u =>
 cnd u
 (K q t)
 (bin P .add 3 false true q (.int .i64 1) t fun v =>
 bl0 P .len #[9] 3 [a1] t fun x =>
 bin P .add 3 false false s x t fun y =>
 sli P 9 p (some y) none none t fun z =>
 ∃ A, A < o ∧ m A z v t)))
def PB : Plan := (.seq rg3 (.seq (.seq rg1 (.cond (.seq rg14 .leaf) .leaf)) (.seq (.seq rg1 (.cond (.seq rg21 .leaf) .leaf)) (.seq rg3 (.blk (.loop [0, 5] 17178820721 (.blk (.seq rg8 (.seq (.seq rg0 (.cond (.seq rg0 .leaf) .leaf)) (.seq rg1 rg10))))))))))
theorem WH {a0 a1 : Value} {w : World} {K : Value → World → Prop} (h : J8 a0 a1 w K) : call P JP [a0, a1] w K :=
 Aa mixed Tryz.func161 (c := codeOf Tryz.f161) (by kernel_rfl) (by kernel_rfl) (p := PB) (by kernel_rfl) (by rw [Tryz.ntmps161]; simp) (by
  have e : J8 a0 a1 w K = vc P PB (codeOf Tryz.f161) (env0 [a0, a1]) w (retX P Tryz.f161.results.toList K) := by kernel_rfl
  exact e ▸ h)
def JY (a0 a1 : Value) (w : World) (K : Value → World → Prop) : Prop :=
 call P Cq [a0, a1] w fun b c =>
 K b c
def PO : Plan := (.seq rg3 (.seq rg8 .leaf))
theorem X7 {a0 a1 : Value} {w : World} {K : Value → World → Prop} (h : JY a0 a1 w K) : call P Jf [a0, a1] w K :=
 Aa mixed Tryz.func162 (c := codeOf Tryz.f162) (by kernel_rfl) (by kernel_rfl) (p := PO) (by kernel_rfl) (by rw [Tryz.ntmps162]; simp) (by
  have e : JY a0 a1 w K = vc P PO (codeOf Tryz.f162) (env0 [a0, a1]) w (retX P Tryz.f162.results.toList K) := by kernel_rfl
  exact e ▸ h)
def Dh (a0 a1 : Value) (w : World) (K : Value → World → Prop) : Prop :=
 bl0 P .len #[9] 3 [a1] w fun b =>
 bin P .eql 3 false true b (.int .i64 0) w fun c =>
 ∃ d : Value → World → Prop, (∀ (e : Value) (_ : Env) (g : World), d e g →
 pick c (.bool true) e fun h =>
 cnd h
 (K (.int .i64 0) g)
 (bin P .eql 3 false true b (.int .i64 1) g fun i =>
 cnd i
 (idx P 9 a1 (.int .i64 0) g fun j =>
 call P BT [a0, j] g fun k l =>
 K k l)
 (bl0 P .len #[9] 3 [a0] g fun m =>
 bin P .geq 3 false false b m g fun n =>
 cnd n
 (K (.int .i64 (-1)) g)
 (ld P 3 (.pointer (some ⟨1, 0, none⟩)) g fun o =>
 bin P .leq 3 false false b o g fun p =>
 ∃ q : Value → World → Prop, (∀ (r : Value) (_ : Env) (s : World), q r s →
 pick p r (.bool false) fun t =>
 cnd t
 (call P CL [a0, a1] s fun u v =>
 K u v)
 (idx P 9 a1 (.int .i64 0) s fun x =>
 idx P 9 a1 (.int .i64 1) s fun y =>
 bl0 P .len #[9] 3 [a0] s fun z =>
 bin P .sub 3 false false z b s fun A =>
 bin P .add 3 false true A (.int .i64 1) s fun B =>
 ∃ C : Nat → Value → Value → World → Prop, (∃ D, C D (.int .i64 0) (.int .i64 0) s) ∧ ∀ (E : Nat) (F : Value) (G : Value) (_ : Env) (H : World), C E F G H →
 bin P .lss 3 false false F B H fun L =>
 cnd L
 (∃ M : Value → World → Prop, (∀ (N : Value) (_ : Env) (O : World), M N O →
 bin P .add 3 false true N (.int .i64 1) O fun Q =>
 idx P 9 a0 Q O fun R =>
 bin P .eql 5 false false R y O fun S =>
 ∃ T : Value → World → Prop, (∀ (U : Value) (_ : Env) (V : World), T U V →
 pick S U (.bool false) fun W =>
 cnd W
 (K N V)
 (bin P .add 3 false true N (.int .i64 1) V fun X =>
 bin P .add 3 false true G (.int .i64 1) V fun Y =>
 ld P 3 (.pointer (some ⟨1, 0, none⟩)) V fun Z =>
 bin P .leq 3 false false b Z V fun b0 =>
 ∃ c0 : Value → World → Prop, (∀ (d0 : Value) (_ : Env) (e0 : World), c0 d0 e0 →
 pick b0 d0 (.bool false) fun g0 =>
 cnd g0
 (sli P 9 a0 (some X) none none e0 fun h0 =>
 call P CL [h0, a1] e0 fun i0 j0 =>
 bin P .geq 3 false true i0 (.int .i64 0) j0 fun k0 =>
 cnd k0
 (bin P .add 3 false false i0 X j0 fun l0 =>
 K l0 j0)
 (K (.int .i64 (-1)) j0))
 (ld P 3 (.pointer (some ⟨1, 0, none⟩)) e0 fun m0 =>
 bin P .gtr 3 false false b m0 e0 fun n0 =>
 ∃ o0 : Value → World → Prop, (∀ (p0 : Value) (_ : Env) (q0 : World), o0 p0 q0 →
 pick n0 p0 (.bool false) fun r0 =>
 ∃ s0 : Value → World → Prop, (∀ (t0 : Value) (_ : Env) (u0 : World), s0 t0 u0 →
 pick r0 t0 (.bool false) fun v0 =>
 cnd v0
 (sli P 9 a0 (some X) none none u0 fun x0 =>
 call P F9 [x0, a1] u0 fun y0 z0 =>
 bin P .lss 3 false true y0 (.int .i64 0) z0 fun A0 =>
 cnd A0
 (K (.int .i64 (-1)) z0)
 (bin P .add 3 false false X y0 z0 fun B0 =>
 K B0 z0))
 (∃ C0, C0 < E ∧ C C0 X Y u0)) ∧
 grd r0 true
 (bin P .lss 3 false false X B q0 fun D0 =>
 s0 D0 q0)
 (s0 undef q0)) ∧
 grd n0 true
 (bin P .shr 3 false true X (.int .u64 4) e0 fun E0 =>
 bin P .add 3 true false (.int .i64 4) E0 e0 fun F0 =>
 bin P .geq 3 false false Y F0 e0 fun G0 =>
 o0 G0 e0)
 (o0 undef e0))) ∧
 grd b0 true
 (call P MT [X] V fun H0 L0 =>
 bin P .gtr 3 false false Y H0 L0 fun M0 =>
 c0 M0 L0)
 (c0 undef V))) ∧
 grd S true
 (bin P .add 3 false false N b O fun N0 =>
 sli P 9 a0 (some N) (some N0) none O fun O0 =>
 bin P .eql 9 false false O0 a1 O fun Q0 =>
 T Q0 O)
 (T undef O)) ∧
 (idx P 9 a0 F H fun R0 =>
 bin P .neq 5 false false R0 x H fun S0 =>
 cnd S0
 (bin P .add 3 false true F (.int .i64 1) H fun T0 =>
 sli P 9 a0 (some T0) (some B) none H fun U0 =>
 call P BT [U0, x] H fun V0 W0 =>
 bin P .lss 3 false true V0 (.int .i64 0) W0 fun X0 =>
 cnd X0
 (K (.int .i64 (-1)) W0)
 (bin P .add 3 false true V0 (.int .i64 1) W0 fun Y0 =>
 bin P .add 3 false false F Y0 W0 fun Z0 =>
 M Z0 W0))
 (M F H)))
 (K (.int .i64 (-1)) H))) ∧
 grd p true
 (bl0 P .len #[9] 3 [a0] g fun b1 =>
 bin P .leq 3 false true b1 (.int .i64 64) g fun c1 =>
 q c1 g)
 (q undef g))))) ∧
 grd c false
 (bin P .eql 9 false false a1 a0 w fun d1 =>
 d d1 w)
 (d undef w)
def Fh : Plan := (.seq rg3 (.seq rg1 (.seq (.blk (.seq (.reg [.op (0, 0, false), .op (1, 0, false), .op (2, 0, false), .grp 2 false [(3, 0, false), (4, 0, false), (5, 0, false)] [22] 7340032, .op (6, 0, false), .op (7, 0, false)]) (.cond (.seq rg3 .leaf) (.seq rg1 (.cond (.seq rg21 .leaf) (.seq rg4 (.cond (.seq rg3 .leaf) (.seq (.reg [.op (0, 0, false), .op (1, 0, false), .op (2, 0, false), .op (3, 0, false), .grp 3 true [(4, 0, false), (5, 0, false), (6, 0, false)] [43] 15393162788864, .op (7, 0, false), .op (8, 0, false)]) (.cond (.seq rg8 .leaf) .leaf))))))))) (.seq rg1 (.seq rg1 (.seq rg3 (.seq rg9 (.seq rg3 (.seq (.blk (.loop [8, 10] 11150372599265311570767858992208992677149968 (.seq (.seq rg1 (.cond .leaf .leaf)) (.blk (.cut [8] 302230301982152686831888 (.seq rg4 (.cond (.seq (.reg [.op (0, 0, false), .op (1, 0, false), .op (2, 0, false), .op (3, 0, false), .op (4, 0, false), .op (5, 0, false), .op (6, 2, false), .op (7, 0, false)]) (.seq (.seq rg0 (.cond (.seq rg3 .leaf) .leaf)) rg4)) .leaf)) (.seq (.seq (.reg [.op (0, 0, false), .op (1, 0, false), .op (2, 0, false), .op (3, 0, false), .op (4, 0, false), .op (5, 0, false), .op (6, 0, false), .grp 6 true [(7, 0, false), (8, 0, false), (9, 0, false), (10, 0, false), (11, 0, false), (12, 0, false), (13, 0, false), (14, 0, false)] [92] 9864834688055374065602396160, .op (15, 0, false)]) (.cond (.seq rg0 .leaf) .leaf)) (.seq rg1 (.seq rg1 (.seq (.reg [.op (0, 0, false), .op (1, 0, false), .op (2, 0, false), .op (3, 0, false), .grp 3 true [(4, 0, false), (5, 0, false), (6, 2, false), (7, 0, false)] [106] 152118072027387528179604384645120, .op (8, 0, false)]) (.cond (.seq rg29 (.seq (.seq rg0 (.cond (.seq rg5 .leaf) .leaf)) (.seq rg3 .leaf))) (.seq (.reg [.op (0, 0, false), .op (1, 0, false), .op (2, 0, false), .op (3, 0, false), .grp 3 true [(4, 0, false), (5, 0, false), (6, 0, false), (7, 0, false), (8, 0, false)] [126] 164824271477329568240072075474762727424, .op (9, 0, false), .op (10, 0, false), .grp 10 true [(11, 0, false), (12, 0, false), (13, 0, false)] [131] 4763953136893138488487244504044754960384, .op (14, 0, false)]) (.cond (.seq rg29 (.seq (.seq rg0 (.cond (.seq rg3 .leaf) .leaf)) (.seq rg5 .leaf))) .leaf)))))))))))) (.seq rg3 .leaf))))))))))
theorem Ko {a0 a1 : Value} {w : World} {K : Value → World → Prop} (h : Dh a0 a1 w K) : call P Cq [a0, a1] w K :=
 Aa mixed Tryz.func211 (c := codeOf Tryz.f211) (by kernel_rfl) (by kernel_rfl) (p := Fh) (by kernel_rfl) (by rw [Tryz.ntmps211]; simp) (by
  have e : Dh a0 a1 w K = vc P Fh (codeOf Tryz.f211) (env0 [a0, a1]) w (retX P Tryz.f211.results.toList K) := by kernel_rfl
  exact e ▸ h)
def MQ (a0 a1 : Value) (w : World) (K : Value → World → Prop) : Prop :=
 call P FX [a0, a1] w fun b c =>
 xtr P b 0 c fun d =>
 xtr P b 1 c fun e =>
 xtr P b 2 c fun g =>
 K (.tuple #[d, e, g]) c
def Sk : Plan := (.seq rg1 (.seq (.reg [.op (0, 0, false), .op (1, 0, false), .op (2, 2, false), .op (3, 0, false), .op (4, 0, false), .op (5, 0, false), .op (6, 0, false), .op (7, 0, false), .op (8, 0, false)]) .leaf))
theorem ZP {a0 a1 : Value} {w : World} {K : Value → World → Prop} (h : MQ a0 a1 w K) : call P MU [a0, a1] w K :=
 Aa mixed Tryz.func222 (c := codeOf Tryz.f222) (by kernel_rfl) (by kernel_rfl) (p := Sk) (by kernel_rfl) (by rw [Tryz.ntmps222]; simp) (by
  have e : MQ a0 a1 w K = vc P Sk (codeOf Tryz.f222) (env0 [a0, a1]) w (retX P Tryz.f222.results.toList K) := by kernel_rfl
  exact e ▸ h)
def Hm (a0 a1 a2 : Value) (w : World) (K : Value → World → Prop) : Prop :=
 call P Fy [a0, a1, a2] w fun b c =>
 xtr P b 0 c fun d =>
 xtr P b 1 c fun e =>
 bin P .neq 189 false true e .nilIface c fun g =>
 cnd g
 (call P Ie [(.string ⟨#[80, 97, 114, 115, 101, 73, 110, 116]⟩), a0, a1, a2, e] c fun h i =>
 K (.tuple #[d, h]) i)
 (K (.tuple #[d, .nilIface]) c)
def MF : Plan := (.seq rg0 (.seq (.reg [.op (0, 0, false), .op (1, 0, false), .op (2, 0, false), .op (3, 2, false), .op (4, 0, false), .op (5, 0, false), .op (6, 0, false), .op (7, 0, false), .op (8, 0, false)]) (.seq (.seq rg0 (.cond (.seq (.reg [.op (0, 0, false), .op (1, 0, false), .op (2, 0, false), .op (3, 0, false), .op (4, 0, false), .op (5, 2, false), .op (6, 0, false), .op (7, 0, false)]) .leaf) .leaf)) (.seq rg1 .leaf))))
theorem Uv {a0 a1 a2 : Value} {w : World} {K : Value → World → Prop} (h : Hm a0 a1 a2 w K) : call P Hk [a0, a1, a2] w K :=
 Aa mixed Tryz.func225 (c := codeOf Tryz.f225) (by kernel_rfl) (by kernel_rfl) (p := MF) (by kernel_rfl) (by rw [Tryz.ntmps225]; simp) (by
  have e : Hm a0 a1 a2 w K = vc P MF (codeOf Tryz.f225) (env0 [a0, a1, a2]) w (retX P Tryz.f225.results.toList K) := by kernel_rfl
  exact e ▸ h)
def CZ (a0 : Value) (w : World) (K : Value → World → Prop) : Prop :=
 bin P .eql 156 false true a0 (.slice none 0 0) w fun b =>
 cnd b
 (K (.slice none 0 0) w)
 (bsl P 156 0 [] w fun c d =>
 bl2 P .append #[156, 156] 156 [c, a0] d fun e g =>
 K e g)
def Fv : Plan := (.seq rg3 (.seq (.seq rg0 (.cond (.seq rg3 .leaf) .leaf)) (.seq rg52 .leaf)))
theorem Ld {a0 : Value} {w : World} {K : Value → World → Prop} (h : CZ a0 w K) : call P Cr [a0] w K :=
 Aa mixed Tryz.func230 (c := codeOf Tryz.f230) (by kernel_rfl) (by kernel_rfl) (p := Fv) (by kernel_rfl) (by rw [Tryz.ntmps230]; simp) (by
  have e : CZ a0 w K = vc P Fv (codeOf Tryz.f230) (env0 [a0]) w (retX P Tryz.f230.results.toList K) := by kernel_rfl
  exact e ▸ h)
def C8 (a0 a1 : Value) (w : World) (K : Value → World → Prop) : Prop :=
 call P Ct [a0, a1] w fun b c =>
 K b c
def DP : Plan := (.seq rg3 (.seq rg8 .leaf))
theorem I9 {a0 a1 : Value} {w : World} {K : Value → World → Prop} (h : C8 a0 a1 w K) : call P BT [a0, a1] w K :=
 Aa mixed Tryz.func247 (c := codeOf Tryz.f247) (by kernel_rfl) (by kernel_rfl) (p := DP) (by kernel_rfl) (by rw [Tryz.ntmps247]; simp) (by
  have e : C8 a0 a1 w K = vc P DP (codeOf Tryz.f247) (env0 [a0, a1]) w (retX P Tryz.f247.results.toList K) := by kernel_rfl
  exact e ▸ h)
def Dy (a0 a1 : Value) (w : World) (K : Value → World → Prop) : Prop :=
 call P Cq [a0, a1] w fun b c =>
 bin P .geq 3 false true b (.int .i64 0) c fun d =>
 cnd d
 (sli P 9 a0 none (some b) none c fun e =>
 bl0 P .len #[9] 3 [a1] c fun g =>
 bin P .add 3 false false b g c fun h =>
 sli P 9 a0 (some h) none none c fun i =>
 K (.tuple #[e, i, (.bool true)]) c)
 (K (.tuple #[a0, (.string ⟨#[]⟩), (.bool false)]) c)
def FW : Plan := (.seq rg1 (.seq (.seq rg8 (.seq rg0 (.cond (.seq rg16 .leaf) .leaf))) (.seq rg5 .leaf)))
theorem No {a0 a1 : Value} {w : World} {K : Value → World → Prop} (h : Dy a0 a1 w K) : call P FX [a0, a1] w K :=
 Aa mixed Tryz.func255 (c := codeOf Tryz.f255) (by kernel_rfl) (by kernel_rfl) (p := FW) (by kernel_rfl) (by rw [Tryz.ntmps255]; simp) (by
  have e : Dy a0 a1 w K = vc P FW (codeOf Tryz.f255) (env0 [a0, a1]) w (retX P Tryz.f255.results.toList K) := by kernel_rfl
  exact e ▸ h)
def Dm (a0 a1 a2 : Value) (w : World) (K : Value → World → Prop) : Prop :=
 bin P .eql 9 false true a0 (.string ⟨#[]⟩) w fun b =>
 cnd b
 (mki P 280 (.int .i64 2) w fun c =>
 K (.tuple #[(.int .i64 0), c]) w)
 (∃ d : Value → Value → World → Prop, (∀ (e : Value) (g : Value) (_ : Env) (h : World), d e g h →
 call P Dc [e, a1, a2] h fun i j =>
 xtr P i 0 j fun k =>
 xtr P i 1 j fun l =>
 bin P .neq 189 false true l .nilIface j fun m =>
 ∃ n : Value → World → Prop, (∀ (o : Value) (_ : Env) (p : World), n o p →
 pick m o (.bool false) fun q =>
 cnd q
 (K (.tuple #[(.int .i64 0), l]) p)
 (∃ r : Value → World → Prop, (∀ (s : Value) (_ : Env) (t : World), r s t →
 bin P .sub 3 false true s (.int .i64 1) t fun u =>
 cnv P 3 154 u t fun v =>
 bin P .shl 178 true false (.int .u64 1) v t fun x =>
 una P .not g t fun y =>
 ∃ z : Value → World → Prop, (∀ (A : Value) (_ : Env) (B : World), z A B →
 pick y A (.bool false) fun C =>
 cnd C
 (bin P .sub 178 false true x (.int .u64 1) B fun D =>
 cnv P 178 2 D B fun E =>
 mki P 280 (.int .i64 1) B fun F =>
 K (.tuple #[E, F]) B)
 (∃ G : Value → World → Prop, (∀ (H : Value) (_ : Env) (L : World), G H L →
 pick g H (.bool false) fun M =>
 cnd M
 (cnv P 178 2 x L fun N =>
 una P .neg N L fun O =>
 mki P 280 (.int .i64 1) L fun Q =>
 K (.tuple #[O, Q]) L)
 (cnv P 178 2 k L fun R =>
 cnd g
 (una P .neg R L fun S =>
 K (.tuple #[S, .nilIface]) L)
 (K (.tuple #[R, .nilIface]) L))) ∧
 grd g true
 (bin P .gtr 178 false false k x B fun T =>
 G T B)
 (G undef B))) ∧
 grd y true
 (bin P .geq 178 false false k x t fun U =>
 z U t)
 (z undef t)) ∧
 (bin P .eql 3 false true a2 (.int .i64 0) p fun V =>
 cnd V
 (r (.int .i64 64) p)
 (r a2 p)))) ∧
 grd m true
 (mki P 280 (.int .i64 1) j fun W =>
 bin P .neq 189 false false l W j fun X =>
 n X j)
 (n undef j)) ∧
 (idx P 9 a0 (.int .i64 0) w fun Y =>
 bin P .eql 5 false true Y (.int .u8 43) w fun Z =>
 cnd Z
 (sli P 9 a0 (some (.int .i64 1)) none none w fun b0 =>
 d b0 (.bool false) w)
 (bin P .eql 5 false true Y (.int .u8 45) w fun c0 =>
 cnd c0
 (sli P 9 a0 (some (.int .i64 1)) none none w fun d0 =>
 d d0 (.bool true) w)
 (d a0 (.bool false) w))))
def Fz : Plan := (.seq rg0 (.seq (.seq rg0 (.cond (.seq rg1 .leaf) .leaf)) (.seq rg3 (.cut [0, 8] 33521921 (.seq rg0 (.blk (.seq rg0 (.cond rg1 (.seq rg0 (.cond (.seq rg1 rg3) .leaf)))))) (.seq rg3 (.seq (.reg [.op (0, 0, false), .op (1, 0, false), .op (2, 0, false), .op (3, 2, false), .op (4, 0, false), .op (5, 0, false), .op (6, 0, false), .op (7, 0, false), .op (8, 0, false)]) (.seq (.seq (.reg [.op (0, 0, false), .op (1, 0, false), .op (2, 0, false), .grp 2 true [(3, 0, false), (4, 0, false), (5, 0, false)] [37] 240518168576, .op (6, 0, false)]) (.cond (.seq rg1 .leaf) .leaf)) (.cut [2] 3298534883332 (.seq rg0 (.cond rg3 .leaf)) (.seq rg4 (.seq (.seq (.reg [.op (0, 0, false), .op (1, 0, false), .op (2, 0, false), .grp 2 true [(3, 0, false), (4, 0, false), (5, 0, false)] [51] 3940649673949184, .op (6, 0, false)]) (.cond (.seq rg9 .leaf) .leaf)) (.seq (.seq (.reg [.op (0, 0, false), .op (1, 0, false), .grp 1 true [(2, 0, false), (3, 0, false), (4, 0, false)] [61] 4035225266123964416, .op (5, 0, false)]) (.cond (.seq rg9 .leaf) .leaf)) (.seq rg1 (.seq (.seq rg3 (.cond rg1 .leaf)) (.seq rg1 .leaf))))))))))))))
theorem LT {a0 a1 a2 : Value} {w : World} {K : Value → World → Prop} (h : Dm a0 a1 a2 w K) : call P Fy [a0, a1, a2] w K :=
 Aa mixed Tryz.func258 (c := codeOf Tryz.f258) (by kernel_rfl) (by kernel_rfl) (p := Fz) (by kernel_rfl) (by rw [Tryz.ntmps258]; simp) (by
  have e : Dm a0 a1 a2 w K = vc P Fz (codeOf Tryz.f258) (env0 [a0, a1, a2]) w (retX P Tryz.f258.results.toList K) := by kernel_rfl
  exact e ▸ h)
def Da (a0 a1 a2 : Value) (w : World) (K : Value → World → Prop) : Prop :=
 bin P .eql 9 false true a0 (.string ⟨#[]⟩) w fun b =>
 cnd b
 (mki P 280 (.int .i64 2) w fun c =>
 K (.tuple #[(.int .u64 0), c]) w)
 (bin P .eql 3 false true a1 (.int .i64 0) w fun d =>
 ∃ e : Value → Value → World → Prop, (∀ (g : Value) (h : Value) (_ : Env) (i : World), e g h i →
 ∃ j : Value → World → Prop, (∀ (k : Value) (_ : Env) (l : World), j k l →
 ∃ m : Value → World → Prop, (∀ (n : Value) (_ : Env) (o : World), m n o →
 cnv P 3 154 k o fun p =>
 bin P .shl 178 true false (.int .u64 1) p o fun q =>
 bin P .sub 178 false true q (.int .u64 1) o fun r =>
 cnv2 P 9 72 g o fun s t =>
 bl0 P .len #[72] 3 [s] t fun u =>
 ∃ v : Nat → Value → Value → Value → World → Prop, (∃ x, v x (.bool false) (.int .u64 0) (.int .i64 0) t) ∧ ∀ (y : Nat) (z : Value) (A : Value) (B : Value) (_ : Env) (C : World), v y z A B C →
 bin P .lss 3 false false B u C fun D =>
 cnd D
 (ixa P 72 s B C fun E =>
 ld P 5 E C fun F =>
 ∃ G : Value → Value → World → Prop, (∀ (H : Value) (L : Value) (_ : Env) (M : World), G H L M →
 cnv P 3 5 h M fun N =>
 bin P .geq 5 false false L N M fun O =>
 cnd O
 (mki P 280 (.int .i64 2) M fun Q =>
 K (.tuple #[(.int .u64 0), Q]) M)
 (bin P .geq 178 false false A n M fun R =>
 cnd R
 (mki P 280 (.int .i64 1) M fun S =>
 K (.tuple #[r, S]) M)
 (cnv P 3 178 h M fun T =>
 bin P .mul 178 false false A T M fun U =>
 cnv P 5 178 L M fun V =>
 bin P .add 178 false false U V M fun W =>
 bin P .lss 178 false false W U M fun X =>
 ∃ Y : Value → World → Prop, (∀ (Z : Value) (_ : Env) (b0 : World), Y Z b0 →
 pick X (.bool true) Z fun c0 =>
 cnd c0
 (mki P 280 (.int .i64 1) b0 fun d0 =>
 K (.tuple #[r, d0]) b0)
 (bin P .add 3 false true B (.int .i64 1) b0 fun e0 =>
 ∃ g0, g0 < y ∧ v g0 H W e0 b0)) ∧
 grd X false
 (bin P .gtr 178 false false W r M fun h0 =>
 Y h0 M)
 (Y undef M)))) ∧
 (bin P .eql 5 false true F (.int .u8 95) C fun i0 =>
 ∃ j0 : Value → World → Prop, (∀ (k0 : Value) (_ : Env) (l0 : World), j0 k0 l0 →
 pick i0 k0 (.bool false) fun m0 =>
 cnd m0
 (bin P .add 3 false true B (.int .i64 1) l0 fun n0 =>
 ∃ o0, o0 < y ∧ v o0 (.bool true) A n0 l0)
 (bin P .leq 5 true false (.int .u8 48) F l0 fun p0 =>
 ∃ q0 : Value → World → Prop, (∀ (r0 : Value) (_ : Env) (s0 : World), q0 r0 s0 →
 pick p0 r0 (.bool false) fun t0 =>
 cnd t0
 (bin P .sub 5 false true F (.int .u8 48) s0 fun u0 =>
 G z u0 s0)
 (call P BM [F] s0 fun v0 x0 =>
 bin P .leq 5 true false (.int .u8 97) v0 x0 fun y0 =>
 ∃ z0 : Value → World → Prop, (∀ (A0 : Value) (_ : Env) (B0 : World), z0 A0 B0 →
 pick y0 A0 (.bool false) fun C0 =>
 cnd C0
 (call P BM [F] B0 fun D0 E0 =>
 bin P .sub 5 false true D0 (.int .u8 97) E0 fun F0 =>
 bin P .add 5 false true F0 (.int .u8 10) E0 fun G0 =>
 G z G0 E0)
 (mki P 280 (.int .i64 2) B0 fun H0 =>
 K (.tuple #[(.int .u64 0), H0]) B0)) ∧
 grd y0 true
 (call P BM [F] x0 fun L0 M0 =>
 bin P .leq 5 false true L0 (.int .u8 122) M0 fun N0 =>
 z0 N0 M0)
 (z0 undef x0))) ∧
 grd p0 true
 (bin P .leq 5 false true F (.int .u8 57) l0 fun O0 =>
 q0 O0 l0)
 (q0 undef l0))) ∧
 grd i0 true
 (j0 d C)
 (j0 undef C)))
 (∃ Q0 : Value → World → Prop, (∀ (R0 : Value) (_ : Env) (S0 : World), Q0 R0 S0 →
 pick z R0 (.bool false) fun T0 =>
 cnd T0
 (mki P 280 (.int .i64 2) S0 fun U0 =>
 K (.tuple #[(.int .u64 0), U0]) S0)
 (K (.tuple #[A, .nilIface]) S0)) ∧
 grd z true
 (call P Jc [a0] C fun V0 W0 =>
 una P .not V0 W0 fun X0 =>
 Q0 X0 W0)
 (Q0 undef C))) ∧
 (bin P .eql 3 false true h (.int .i64 10) l fun Y0 =>
 cnd Y0
 (m (.int .u64 1844674407370955162) l)
 (bin P .eql 3 false true h (.int .i64 16) l fun Z0 =>
 cnd Z0
 (m (.int .u64 1152921504606846976) l)
 (cnv P 3 178 h l fun b1 =>
 bin P .quo 178 true false (.int .u64 18446744073709551615) b1 l fun c1 =>
 bin P .add 178 false true c1 (.int .u64 1) l fun d1 =>
 m d1 l)))) ∧
 (bin P .eql 3 false true a2 (.int .i64 0) i fun e1 =>
 cnd e1
 (j (.int .i64 64) i)
 (bin P .lss 3 false true a2 (.int .i64 0) i fun g1 =>
 ∃ h1 : Value → World → Prop, (∀ (i1 : Value) (_ : Env) (j1 : World), h1 i1 j1 →
 pick g1 (.bool true) i1 fun k1 =>
 cnd k1
 (mki P 280 (.int .i64 4) j1 fun l1 =>
 K (.tuple #[(.int .u64 0), l1]) j1)
 (j a2 j1)) ∧
 grd g1 false
 (bin P .gtr 3 false true a2 (.int .i64 64) i fun m1 =>
 h1 m1 i)
 (h1 undef i)))) ∧
 (bin P .leq 3 true false (.int .i64 2) a1 w fun n1 =>
 ∃ o1 : Value → World → Prop, (∀ (p1 : Value) (_ : Env) (q1 : World), o1 p1 q1 →
 pick n1 p1 (.bool false) fun r1 =>
 cnd r1
 (e a0 a1 q1)
 (bin P .eql 3 false true a1 (.int .i64 0) q1 fun s1 =>
 cnd s1
 (idx P 9 a0 (.int .i64 0) q1 fun t1 =>
 bin P .eql 5 false true t1 (.int .u8 48) q1 fun u1 =>
 cnd u1
 (bl0 P .len #[9] 3 [a0] q1 fun v1 =>
 bin P .geq 3 false true v1 (.int .i64 3) q1 fun x1 =>
 ∃ y1 : Value → World → Prop, (∀ (z1 : Value) (_ : Env) (A1 : World), y1 z1 A1 →
 pick x1 z1 (.bool false) fun B1 =>
 cnd B1
 (sli P 9 a0 (some (.int .i64 2)) none none A1 fun C1 =>
 e C1 (.int .i64 2) A1)
 (bl0 P .len #[9] 3 [a0] A1 fun D1 =>
 bin P .geq 3 false true D1 (.int .i64 3) A1 fun E1 =>
 ∃ F1 : Value → World → Prop, (∀ (G1 : Value) (_ : Env) (H1 : World), F1 G1 H1 →
 pick E1 G1 (.bool false) fun L1 =>
 cnd L1
 (sli P 9 a0 (some (.int .i64 2)) none none H1 fun M1 =>
 e M1 (.int .i64 8) H1)
 (bl0 P .len #[9] 3 [a0] H1 fun N1 =>
 bin P .geq 3 false true N1 (.int .i64 3) H1 fun O1 =>
 ∃ Q1 : Value → World → Prop, (∀ (R1 : Value) (_ : Env) (S1 : World), Q1 R1 S1 →
 pick O1 R1 (.bool false) fun T1 =>
 cnd T1
 (sli P 9 a0 (some (.int .i64 2)) none none S1 fun U1 =>
 e U1 (.int .i64 16) S1)
 (sli P 9 a0 (some (.int .i64 1)) none none S1 fun V1 =>
 e V1 (.int .i64 8) S1)) ∧
 grd O1 true
 (idx P 9 a0 (.int .i64 1) H1 fun W1 =>
 call P BM [W1] H1 fun X1 Y1 =>
 bin P .eql 5 false true X1 (.int .u8 120) Y1 fun Z1 =>
 Q1 Z1 Y1)
 (Q1 undef H1))) ∧
 grd E1 true
 (idx P 9 a0 (.int .i64 1) A1 fun b2 =>
 call P BM [b2] A1 fun c2 d2 =>
 bin P .eql 5 false true c2 (.int .u8 111) d2 fun e2 =>
 F1 e2 d2)
 (F1 undef A1))) ∧
 grd x1 true
 (idx P 9 a0 (.int .i64 1) q1 fun g2 =>
 call P BM [g2] q1 fun h2 i2 =>
 bin P .eql 5 false true h2 (.int .u8 98) i2 fun j2 =>
 y1 j2 i2)
 (y1 undef q1))
 (e a0 (.int .i64 10) q1))
 (mki P 280 (.int .i64 3) q1 fun k2 =>
 K (.tuple #[(.int .u64 0), k2]) q1))) ∧
 grd n1 true
 (bin P .leq 3 false true a1 (.int .i64 36) w fun l2 =>
 o1 l2 w)
 (o1 undef w)))
def Fu : Plan := (.seq rg0 (.seq (.seq rg0 (.cond (.seq rg1 .leaf) .leaf)) (.seq rg1 (.seq rg0 (.cut [0, 1] 75557863725914306642115 (.blk (.seq (.reg [.op (0, 0, false), .op (1, 0, false), .op (2, 0, false), .grp 2 true [(3, 0, false), (4, 0, false)] [30] 1610612736, .op (5, 0, false), .op (6, 0, false)]) (.cond .leaf (.seq rg1 (.cond (.seq rg3 (.seq rg1 (.cond (.blk (.seq (.reg [.op (0, 0, false), .op (1, 0, false), .op (2, 0, false), .op (3, 0, false), .grp 3 true [(4, 0, false), (5, 0, false), (6, 2, false), (7, 0, false)] [48] 527765581332480, .op (8, 0, false), .op (9, 0, false)]) (.cond (.seq rg3 rg1) (.seq (.reg [.op (0, 0, false), .op (1, 0, false), .op (2, 0, false), .op (3, 0, false), .grp 3 true [(4, 0, false), (5, 0, false), (6, 2, false), (7, 0, false)] [60] 2161727821137838080, .op (8, 0, false), .op (9, 0, false)]) (.cond (.seq rg3 rg1) (.seq (.reg [.op (0, 0, false), .op (1, 0, false), .op (2, 0, false), .op (3, 0, false), .grp 3 true [(4, 0, false), (5, 0, false), (6, 2, false), (7, 0, false)] [72] 8854437155380584775680, .op (8, 0, false), .op (9, 0, false)]) (.cond (.seq rg3 rg1) (.seq rg3 rg1)))))))) .leaf))) (.seq rg1 .leaf)))))) (.cut [2] 38610068363942219267178692 (.seq rg0 (.cond rg3 (.seq (.reg [.op (0, 0, false), .op (1, 0, false), .op (2, 0, false), .grp 2 false [(3, 0, false), (4, 0, false)] [82] 7253554917687775048237056, .op (5, 0, false)]) (.cond (.seq rg1 .leaf) .leaf)))) (.seq rg3 (.cut [10] 19768355002338416264795390976 (.seq rg3 (.blk (.seq rg0 (.cond rg3 (.seq rg0 (.cond rg3 rg4)))))) (.seq rg4 (.seq rg3 (.seq rg3 (.seq (.seq rg14 (.blk (.loop [12, 13, 101] 23384026197294446688723656123004069511501514518720 (.seq rg3 (.seq (.cond .leaf .leaf) (.seq (.blk (.seq rg1 (.seq rg3 (.cut [12, 16] 21778071442375242454352634027738663030976 (.blk (.seq (.reg [.op (0, 0, false), .op (1, 0, false), .op (2, 0, false), .grp 2 true [(3, 0, false)] [110] 1298074214633706907132624082305024, .op (4, 0, false), .op (5, 0, false)]) (.cond (.seq rg3 .leaf) (.seq (.reg [.op (0, 0, false), .op (1, 0, false), .op (2, 0, false), .grp 2 true [(3, 0, false), (4, 0, false)] [117] 249230249209671726169463823802564608, .op (5, 0, false), .op (6, 0, false)]) (.cond rg1 (.seq (.reg [.op (0, 0, false), .op (1, 2, false), .op (2, 0, false), .op (3, 0, false), .grp 3 true [(4, 0, false), (5, 2, false), (6, 0, false)] [128] 595494142111642311060905563005594370048, .op (7, 0, false), .op (8, 0, false)]) (.cond rg35 (.seq rg1 .leaf)))))))) (.seq (.seq rg5 (.cond (.seq rg1 .leaf) .leaf)) (.seq (.seq rg1 (.cond (.seq rg5 .leaf) .leaf)) (.seq rg4 (.seq rg4 (.seq (.seq (.reg [.op (0, 0, false), .op (1, 0, false), .op (2, 0, false), .op (3, 0, false), .grp 3 false [(4, 0, false), (5, 0, false), (6, 0, false)] [158] 639406966332270026714112114313373821099470487552, .op (7, 0, false)]) (.cond (.seq rg5 .leaf) .leaf)) rg0))))))))) rg0)))))) (.seq (.seq (.reg [.op (0, 0, false), .op (1, 0, false), .grp 1 true [(2, 0, false), (3, 2, false), (4, 0, false)] [168] 654752733524244507355250805056894792805857779253248, .op (5, 0, false)]) (.cond (.seq rg1 .leaf) .leaf)) (.seq rg1 .leaf))))))))))))))
theorem KA {a0 a1 a2 : Value} {w : World} {K : Value → World → Prop} (h : Da a0 a1 a2 w K) : call P Dc [a0, a1, a2] w K :=
 Aa mixed Tryz.func275 (c := codeOf Tryz.f275) (by kernel_rfl) (by kernel_rfl) (p := Fu) (by kernel_rfl) (by rw [Tryz.ntmps275]; simp) (by
  have e : Da a0 a1 a2 w K = vc P Fu (codeOf Tryz.f275) (env0 [a0, a1, a2]) w (retX P Tryz.f275.results.toList K) := by kernel_rfl
  exact e ▸ h)
def HY (a0 a1 : Value) (w : World) (K : Value → World → Prop) : Prop :=
 call P Gt [a0] w fun b c =>
 call P Gt [a1] c fun d e =>
 cnd b
 (cnd d
 (K (.int .i64 0) e)
 (K (.int .i64 (-1)) e))
 (cnd d
 (K (.int .i64 1) e)
 (bin P .lss 3 false false a0 a1 e fun g =>
 cnd g
 (K (.int .i64 (-1)) e)
 (bin P .gtr 3 false false a0 a1 e fun h =>
 cnd h
 (K (.int .i64 1) e)
 (K (.int .i64 0) e))))
def Nx : Plan := (.seq rg3 (.seq rg2 (.seq rg2 (.seq (.seq rg3 (.cond (.seq (.seq rg3 (.cond (.seq rg3 .leaf) .leaf)) (.seq rg3 .leaf)) .leaf)) (.seq (.seq rg3 (.cond (.seq rg3 .leaf) .leaf)) (.seq (.seq rg1 (.cond (.seq rg3 .leaf) .leaf)) (.seq (.seq rg1 (.cond (.seq rg3 .leaf) .leaf)) (.seq rg3 .leaf))))))))
theorem UM {a0 a1 : Value} {w : World} {K : Value → World → Prop} (h : HY a0 a1 w K) : call P Ij [a0, a1] w K :=
 Aa mixed Tryz.func285 (c := codeOf Tryz.f285) (by kernel_rfl) (by kernel_rfl) (p := Nx) (by kernel_rfl) (by rw [Tryz.ntmps285]; simp) (by
  have e : HY a0 a1 w K = vc P Nx (codeOf Tryz.f285) (env0 [a0, a1]) w (retX P Tryz.f285.results.toList K) := by kernel_rfl
  exact e ▸ h)
def FE (a0 a1 : Value) (w : World) (K : Value → World → Prop) : Prop :=
 call P Ey [a0] w fun b c =>
 call P Ey [a1] c fun d e =>
 cnd b
 (cnd d
 (K (.int .i64 0) e)
 (K (.int .i64 (-1)) e))
 (cnd d
 (K (.int .i64 1) e)
 (bin P .lss 202 false false a0 a1 e fun g =>
 cnd g
 (K (.int .i64 (-1)) e)
 (bin P .gtr 202 false false a0 a1 e fun h =>
 cnd h
 (K (.int .i64 1) e)
 (K (.int .i64 0) e))))
def JI : Plan := (.seq rg3 (.seq rg2 (.seq rg2 (.seq (.seq rg3 (.cond (.seq (.seq rg3 (.cond (.seq rg3 .leaf) .leaf)) (.seq rg3 .leaf)) .leaf)) (.seq (.seq rg3 (.cond (.seq rg3 .leaf) .leaf)) (.seq (.seq rg1 (.cond (.seq rg3 .leaf) .leaf)) (.seq (.seq rg1 (.cond (.seq rg3 .leaf) .leaf)) (.seq rg3 .leaf))))))))
theorem R4 {a0 a1 : Value} {w : World} {K : Value → World → Prop} (h : FE a0 a1 w K) : call P FB [a0, a1] w K :=
 Aa mixed Tryz.func286 (c := codeOf Tryz.f286) (by kernel_rfl) (by kernel_rfl) (p := JI) (by kernel_rfl) (by rw [Tryz.ntmps286]; simp) (by
  have e : FE a0 a1 w K = vc P JI (codeOf Tryz.f286) (env0 [a0, a1]) w (retX P Tryz.f286.results.toList K) := by kernel_rfl
  exact e ▸ h)
end


set_option maxRecDepth 20000
section
open Go Go.Vc
def Jl (a0 : Value) (w : World) (K : Value → World → Prop) : Prop :=
 bin P .neq 3 false false a0 a0 w fun b =>
 K b w
def P6 : Plan := (.seq rg3 (.seq rg5 .leaf))
theorem WW {a0 : Value} {w : World} {K : Value → World → Prop} (h : Jl a0 w K) : call P Gt [a0] w K :=
 Aa mixed Tryz.func298 (c := codeOf Tryz.f298) (by kernel_rfl) (by kernel_rfl) (p := P6) (by kernel_rfl) (by rw [Tryz.ntmps298]; simp) (by
  have e : Jl a0 w K = vc P P6 (codeOf Tryz.f298) (env0 [a0]) w (retX P Tryz.f298.results.toList K) := by kernel_rfl
  exact e ▸ h)
def Hl (a0 : Value) (w : World) (K : Value → World → Prop) : Prop :=
 bin P .neq 202 false false a0 a0 w fun b =>
 K b w
def Mz : Plan := (.seq rg3 (.seq rg5 .leaf))
theorem TE {a0 : Value} {w : World} {K : Value → World → Prop} (h : Hl a0 w K) : call P Ey [a0] w K :=
 Aa mixed Tryz.func299 (c := codeOf Tryz.f299) (by kernel_rfl) (by kernel_rfl) (p := Mz) (by kernel_rfl) (by rw [Tryz.ntmps299]; simp) (by
  have e : Hl a0 w K = vc P Mz (codeOf Tryz.f299) (env0 [a0]) w (retX P Tryz.f299.results.toList K) := by kernel_rfl
  exact e ▸ h)
end


set_option maxRecDepth 20000
section
open Go Go.Vc
def MO (a0 : Value) (w : World) (K : Value → World → Prop) : Prop :=
 alc P 158 w fun b c =>
 call P Ee [b, a0] c fun d e =>
 K d e
def Sz : Plan := (.seq rg3 (.seq rg52 .leaf))
theorem Aaj {a0 : Value} {w : World} {K : Value → World → Prop} (h : MO a0 w K) : call P CW [a0] w K :=
 Aa mixed Tryz.func124 (c := codeOf Tryz.f124) (by kernel_rfl) (by kernel_rfl) (p := Sz) (by kernel_rfl) (by rw [Tryz.ntmps124]; simp) (by
  have e : MO a0 w K = vc P Sz (codeOf Tryz.f124) (env0 [a0]) w (retX P Tryz.f124.results.toList K) := by kernel_rfl
  exact e ▸ h)
def H4 (a0 a1 a2 : Value) (w : World) (K : Value → World → Prop) : Prop :=
 nch a1 fun b =>
 fda P 158 b 0 w fun c =>
 ld P 4 c w fun d =>
 una P .not d w fun e =>
 cnd e
 (nch a1 fun g =>
 fda P 158 g 1 w fun h =>
 ld P 156 h w fun i =>
 call P Gu [i, a2] w fun j k =>
 call P AQ [a0, (.bool false), j] k fun l m =>
 K l m)
 (nch a1 fun n =>
 fda P 158 n 1 w fun o =>
 ld P 156 o w fun p =>
 bsl P 156 1 [(0, (.int .u32 1))] w fun q r =>
 call P FQ [p, q] r fun s t =>
 call P Gu [s, a2] t fun u v =>
 bsl P 156 1 [(0, (.int .u32 1))] v fun x y =>
 call P CV [u, x] y fun z A =>
 call P AQ [a0, (.bool true), z] A fun B C =>
 K B C)
def Mc : Plan := (.seq rg3 (.seq (.seq rg4 (.cond (.seq (.reg [.op (0, 0, false), .op (1, 0, false), .op (2, 0, false), .op (3, 0, false), .op (4, 0, false), .op (5, 0, false), .op (6, 2, false), .op (7, 2, false), .op (8, 0, false)]) .leaf) .leaf)) (.seq (.reg [.op (0, 0, false), .op (1, 0, false), .op (2, 0, false), .op (3, 0, false), .op (4, 2, false), .op (5, 2, false), .op (6, 0, false)]) (.seq (.reg [.op (0, 0, false), .op (1, 0, false), .op (2, 0, false), .op (3, 2, false), .op (4, 2, false), .op (5, 2, false), .op (6, 2, false), .op (7, 0, false)]) .leaf))))
theorem SR {a0 a1 a2 : Value} {w : World} {K : Value → World → Prop} (h : H4 a0 a1 a2 w K) : call P EK [a0, a1, a2] w K :=
 Aa mixed Tryz.func128 (c := codeOf Tryz.f128) (by kernel_rfl) (by kernel_rfl) (p := Mc) (by kernel_rfl) (by rw [Tryz.ntmps128]; simp) (by
  have e : H4 a0 a1 a2 w K = vc P Mc (codeOf Tryz.f128) (env0 [a0, a1, a2]) w (retX P Tryz.f128.results.toList K) := by kernel_rfl
  exact e ▸ h)
def K1 (a0 : Value) (w : World) (K : Value → World → Prop) : Prop :=
 alc P 55 w fun b c =>
 call P BK [a0] c fun d e =>
 bin P .gtr 3 false true d (.int .i64 2400) e fun g =>
 cnd g
 (bld P 55 [] e fun h =>
 sto P 55 b h e fun i =>
 ldc P 55 b i fun j =>
 K (.tuple #[j, (.bool false)]) i)
 (call P Cy [a0] e fun k l =>
 bld P 55 [(0, k)] l fun m =>
 alc P 55 l fun n o =>
 sto P 55 n m o fun p =>
 alc P 158 p fun q r =>
 call P EB [q, a0] r fun s t =>
 call P CW [(.int .i64 16777215)] t fun u v =>
 ∃ x : Nat → World → Prop, (∃ y, x y v) ∧ ∀ (z : Nat) (_ : Env) (A : World), x z A →
 call P Cy [s] A fun B C =>
 bin P .gtr 3 false true B (.int .i64 0) C fun D =>
 cnd D
 (fda P 55 n 1 C fun E =>
 ld P 53 E C fun F =>
 alc P 158 C fun G H =>
 Ext C H ∧ call P GK [G, s, u] H fun L M =>
 (fda P 55 n 1 M fun z => z = E) ∧ (ld P 53 E M fun z => z = F) ∧ call P CI [L] M fun N O =>
 Ext M O ∧ bsl P 53 1 [(0, N)] O fun Q R =>
 Ext O R ∧ bl2 P .append #[53, 53] 53 [F, Q] R fun S T =>
 fda P 55 n 1 T fun U =>
 sto P 53 U S T fun V =>
 call P EK [s, s, (.int .u64 24)] V fun W X =>
 ∃ Y, Y < z ∧ x Y X)
 (ld P 55 n C fun Z =>
 sto P 55 b Z C fun b0 =>
 ldc P 55 b b0 fun c0 =>
 K (.tuple #[c0, (.bool true)]) b0))
def QL : Plan := (.seq rg6 (.seq (.seq rg2 (.cond (.seq rg2 .leaf) .leaf)) (.seq rg50 (.seq rg52 (.seq rg6 (.seq (.blk (.loop [] 17179607040 (.seq (.seq rg2 (.cond .leaf .leaf)) (.blk (.seq (.reg [.op (0, 0, false), .op (1, 0, false), .op (3, 0, false), .op (4, 0, false), .op (2, 2, true), .op (5, 5, false), .op (6, 2, true), .op (7, 2, true), .op (8, 2, false), .op (9, 0, false), .op (10, 2, false)]) rg54))))) (.seq rg2 .leaf)))))))
theorem Y3 {a0 : Value} {w : World} {K : Value → World → Prop} (h : K1 a0 w K) : call P Lj [a0] w K :=
 Aa mixed Tryz.func137 (c := codeOf Tryz.f137) (by kernel_rfl) (by kernel_rfl) (p := QL) (by kernel_rfl) (by rw [Tryz.ntmps137]; simp) (by
  have e : K1 a0 w K = vc P QL (codeOf Tryz.f137) (env0 [a0]) w (retX P Tryz.f137.results.toList K) := by kernel_rfl
  exact e ▸ h)
def Ef (a0 a1 : Value) (w : World) (K : Value → World → Prop) : Prop :=
 cnv P 2 178 a1 w fun b =>
 ∃ c : Value → World → Prop, (∀ (d : Value) (_ : Env) (e : World), c d e →
 bin P .lss 2 false true a1 (.int .i64 0) e fun g =>
 cnv P 178 202 d e fun h =>
 bin P .shr 178 false true d (.int .u64 32) e fun i =>
 cnv P 178 202 i e fun j =>
 bsl P 156 2 [(0, h), (1, j)] e fun k l =>
 call P AQ [a0, g, k] l fun m n =>
 K m n) ∧
 (bin P .lss 2 false true a1 (.int .i64 0) w fun o =>
 cnd o
 (una P .neg b w fun p =>
 c p w)
 (c b w))
def HR : Plan := (.seq rg3 (.seq rg1 (.cut [5] 3872 (.seq rg0 (.cond rg1 .leaf)) (.seq (.reg [.op (0, 0, false), .op (1, 0, false), .op (2, 0, false), .op (3, 0, false), .op (4, 0, false), .op (5, 0, false), .op (6, 0, false), .op (7, 0, false), .op (8, 2, false), .op (9, 2, false), .op (10, 0, false)]) .leaf))))
theorem Pj {a0 a1 : Value} {w : World} {K : Value → World → Prop} (h : Ef a0 a1 w K) : call P Ee [a0, a1] w K :=
 Aa mixed Tryz.func174 (c := codeOf Tryz.f174) (by kernel_rfl) (by kernel_rfl) (p := HR) (by kernel_rfl) (by rw [Tryz.ntmps174]; simp) (by
  have e : Ef a0 a1 w K = vc P HR (codeOf Tryz.f174) (env0 [a0, a1]) w (retX P Tryz.f174.results.toList K) := by kernel_rfl
  exact e ▸ h)
def Gq (a0 : Value) (w : World) (K : Value → World → Prop) : Prop :=
 nch a0 fun b =>
 fda P 158 b 0 w fun c =>
 ld P 4 c w fun d =>
 cnd d
 (K (.int .i64 (-1)) w)
 (nch a0 fun e =>
 fda P 158 e 1 w fun g =>
 ld P 156 g w fun h =>
 bl0 P .len #[156] 3 [h] w fun i =>
 bin P .gtr 3 false true i (.int .i64 0) w fun j =>
 cnd j
 (K (.int .i64 1) w)
 (K (.int .i64 0) w))
def Kj : Plan := (.seq rg3 (.seq (.blk (.seq rg4 (.cond (.seq rg3 .leaf) (.seq rg10 (.cond (.seq rg3 .leaf) .leaf))))) (.seq rg3 .leaf)))
theorem SI {a0 : Value} {w : World} {K : Value → World → Prop} (h : Gq a0 w K) : call P Cy [a0] w K :=
 Aa mixed Tryz.func175 (c := codeOf Tryz.f175) (by kernel_rfl) (by kernel_rfl) (p := Kj) (by kernel_rfl) (by rw [Tryz.ntmps175]; simp) (by
  have e : Gq a0 w K = vc P Kj (codeOf Tryz.f175) (env0 [a0]) w (retX P Tryz.f175.results.toList K) := by kernel_rfl
  exact e ▸ h)
def Fl (a0 : Value) (w : World) (K : Value → World → Prop) : Prop :=
 nch a0 fun b =>
 fda P 158 b 1 w fun c =>
 ld P 156 c w fun d =>
 call P LF [d] w fun e g =>
 K e g
def IX : Plan := (.seq rg3 (.seq rg29 .leaf))
theorem QE {a0 : Value} {w : World} {K : Value → World → Prop} (h : Fl a0 w K) : call P BK [a0] w K :=
 Aa mixed Tryz.func176 (c := codeOf Tryz.f176) (by kernel_rfl) (by kernel_rfl) (p := IX) (by kernel_rfl) (by rw [Tryz.ntmps176]; simp) (by
  have e : Fl a0 w K = vc P IX (codeOf Tryz.f176) (env0 [a0]) w (retX P Tryz.f176.results.toList K) := by kernel_rfl
  exact e ▸ h)
def Ho (a0 a1 : Value) (w : World) (K : Value → World → Prop) : Prop :=
 bin P .quo 3 false true a1 (.int .i64 32) w fun b =>
 nch a0 fun c =>
 fda P 158 c 1 w fun d =>
 ld P 156 d w fun e =>
 bl0 P .len #[156] 3 [e] w fun g =>
 bin P .geq 3 false false b g w fun h =>
 cnd h
 (K (.int .u64 0) w)
 (nch a0 fun i =>
 fda P 158 i 1 w fun j =>
 ld P 156 j w fun k =>
 bin P .quo 3 false true a1 (.int .i64 32) w fun l =>
 ixa P 156 k l w fun m =>
 ld P 202 m w fun n =>
 bin P .rem 3 false true a1 (.int .i64 32) w fun o =>
 bin P .shr 202 false false n o w fun p =>
 bin P .and 202 false true p (.int .u32 1) w fun q =>
 cnv P 202 154 q w fun r =>
 K r w)
def Mo : Plan := (.seq rg3 (.seq (.seq rg11 (.cond (.seq rg3 .leaf) .leaf)) (.seq (.reg [.op (0, 0, false), .op (1, 0, false), .op (2, 0, false), .op (3, 0, false), .op (4, 0, false), .op (5, 0, false), .op (6, 0, false), .op (7, 0, false), .op (8, 0, false), .op (9, 0, false), .op (10, 0, false), .op (11, 0, false), .op (12, 0, false), .op (13, 0, false)]) .leaf)))
theorem Uu {a0 a1 : Value} {w : World} {K : Value → World → Prop} (h : Ho a0 a1 w K) : call P Er [a0, a1] w K :=
 Aa mixed Tryz.func177 (c := codeOf Tryz.f177) (by kernel_rfl) (by kernel_rfl) (p := Mo) (by kernel_rfl) (by rw [Tryz.ntmps177]; simp) (by
  have e : Ho a0 a1 w K = vc P Mo (codeOf Tryz.f177) (env0 [a0, a1]) w (retX P Tryz.f177.results.toList K) := by kernel_rfl
  exact e ▸ h)
def He (a0 a1 a2 : Value) (w : World) (K : Value → World → Prop) : Prop :=
 call P Bp [a2] w fun b c =>
 nch a0 fun d =>
 fda P 158 d 1 c fun e =>
 sto P 156 e b c fun g =>
 ∃ h : Value → World → Prop, (∀ (i : Value) (_ : Env) (j : World), h i j →
 pick a1 i (.bool false) fun k =>
 nch a0 fun l =>
 fda P 158 l 0 j fun m =>
 sto P 4 m k j fun n =>
 K a0 n) ∧
 grd a1 true
 (nch a0 fun o =>
 fda P 158 o 1 g fun p =>
 ld P 156 p g fun q =>
 bl0 P .len #[156] 3 [q] g fun r =>
 bin P .gtr 3 false true r (.int .i64 0) g fun s =>
 h s g)
 (h undef g)
def Mx : Plan := (.seq rg3 (.seq (.reg [.op (0, 0, false), .op (1, 0, false), .op (2, 2, false), .op (3, 0, false), .op (4, 0, false), .op (5, 2, false)]) (.seq (.reg [.op (0, 0, false), .op (1, 0, false), .op (2, 0, false), .grp 2 true [(3, 0, false), (4, 0, false), (5, 0, false), (6, 0, false), (7, 0, false), (8, 0, false)] [20] 2064384, .op (9, 0, false), .op (10, 0, false), .op (11, 0, false), .op (12, 2, false)]) (.seq rg0 .leaf))))
theorem SU {a0 a1 a2 : Value} {w : World} {K : Value → World → Prop} (h : He a0 a1 a2 w K) : call P AQ [a0, a1, a2] w K :=
 Aa mixed Tryz.func178 (c := codeOf Tryz.f178) (by kernel_rfl) (by kernel_rfl) (p := Mx) (by kernel_rfl) (by rw [Tryz.ntmps178]; simp) (by
  have e : He a0 a1 a2 w K = vc P Mx (codeOf Tryz.f178) (env0 [a0, a1, a2]) w (retX P Tryz.f178.results.toList K) := by kernel_rfl
  exact e ▸ h)
def Ji (a0 a1 : Value) (w : World) (K : Value → World → Prop) : Prop :=
 bl0 P .len #[156] 3 [a0] w fun b =>
 cnv P 3 154 b w fun c =>
 bin P .quo 154 false true a1 (.int .u64 32) w fun d =>
 bin P .leq 154 false false c d w fun e =>
 cnd e
 (K (.slice none 0 0) w)
 (bin P .quo 154 false true a1 (.int .u64 32) w fun g =>
 sli P 156 a0 (some g) none none w fun h =>
 bl0 P .len #[156] 3 [h] w fun i =>
 mks P 156 i i w fun j k =>
 bl0 P .len #[156] 3 [h] k fun l =>
 ∃ m : Nat → Value → World → Prop, (∃ n, m n (.int .i64 0) k) ∧ ∀ (o : Nat) (p : Value) (_ : Env) (q : World), m o p q →
 bin P .lss 3 false false p l q fun r =>
 cnd r
 (ixa P 156 h p q fun s =>
 ld P 202 s q fun t =>
 cnv P 202 178 t q fun u =>
 ∃ v : Value → World → Prop, (∀ (x : Value) (_ : Env) (y : World), v x y →
 bin P .rem 154 false true a1 (.int .u64 32) y fun z =>
 bin P .shr 178 false false x z y fun A =>
 cnv P 178 202 A y fun B =>
 ixa P 156 j p y fun C =>
 sto P 202 C B y fun D =>
 bin P .add 3 false true p (.int .i64 1) D fun E =>
 ∃ F, F < o ∧ m F E D) ∧
 (bin P .add 3 false true p (.int .i64 1) q fun G =>
 bl0 P .len #[156] 3 [h] q fun H =>
 bin P .lss 3 false false G H q fun L =>
 cnd L
 (bin P .add 3 false true p (.int .i64 1) q fun M =>
 ixa P 156 h M q fun N =>
 ld P 202 N q fun O =>
 cnv P 202 178 O q fun Q =>
 bin P .shl 178 false true Q (.int .u64 32) q fun R =>
 bin P .or 178 false false u R q fun S =>
 v S q)
 (v u q)))
 (call P Bp [j] q fun T U =>
 K T U))
def Pk : Plan := (.seq rg3 (.seq (.seq rg9 (.cond (.seq rg3 .leaf) .leaf)) (.seq rg4 (.seq rg8 (.seq (.seq rg1 (.blk (.loop [24] 18014398492705216 (.seq rg3 (.seq (.cond .leaf .leaf) (.seq (.blk (.seq rg4 (.seq rg1 (.cut [8] 35182224605440 (.seq rg4 (.cond rg24 .leaf)) rg19)))) rg0)))))) (.seq rg2 .leaf))))))
theorem WZ {a0 a1 : Value} {w : World} {K : Value → World → Prop} (h : Ji a0 a1 w K) : call P Gu [a0, a1] w K :=
 Aa mixed Tryz.func179 (c := codeOf Tryz.f179) (by kernel_rfl) (by kernel_rfl) (p := Pk) (by kernel_rfl) (by rw [Tryz.ntmps179]; simp) (by
  have e : Ji a0 a1 w K = vc P Pk (codeOf Tryz.f179) (env0 [a0, a1]) w (retX P Tryz.f179.results.toList K) := by kernel_rfl
  exact e ▸ h)
def Nn (a0 a1 : Value) (w : World) (K : Value → World → Prop) : Prop :=
 bl0 P .len #[156] 3 [a0] w fun b =>
 mks P 156 b b w fun c d =>
 bl0 P .len #[156] 3 [a0] d fun e =>
 ∃ g : Nat → Value → Value → World → Prop, (∃ h, g h (.int .u64 0) (.int .i64 0) d) ∧ ∀ (i : Nat) (j : Value) (k : Value) (_ : Env) (l : World), g i j k l →
 bin P .lss 3 false false k e l fun m =>
 cnd m
 (ixa P 156 a0 k l fun n =>
 ld P 202 n l fun o =>
 ∃ p : Value → World → Prop, (∀ (q : Value) (_ : Env) (r : World), p q r →
 cnv P 202 178 o r fun s =>
 bin P .sub 178 false false s q r fun t =>
 cnv P 178 202 t r fun u =>
 ixa P 156 c k r fun v =>
 sto P 202 v u r fun x =>
 bin P .shr 178 false true t (.int .u64 63) x fun y =>
 bin P .add 3 false true k (.int .i64 1) x fun z =>
 ∃ A, A < i ∧ g A y z x) ∧
 (bl0 P .len #[156] 3 [a1] l fun B =>
 bin P .lss 3 false false k B l fun C =>
 cnd C
 (ixa P 156 a1 k l fun D =>
 ld P 202 D l fun E =>
 cnv P 202 178 E l fun F =>
 bin P .add 178 false false j F l fun G =>
 p G l)
 (p j l)))
 (call P Bp [c] l fun H L =>
 K H L)
def Si : Plan := (.seq rg3 (.seq rg8 (.seq rg3 (.seq (.seq rg1 (.blk (.loop [6, 16] 35184372025280 (.seq rg3 (.seq (.cond .leaf .leaf) (.seq (.blk (.seq rg4 (.seq rg0 (.cut [9] 8585740800 (.seq rg5 (.cond rg11 .leaf)) (.seq rg4 (.seq rg36 rg1)))))) rg0)))))) (.seq rg2 .leaf)))))
theorem Aaw {a0 a1 : Value} {w : World} {K : Value → World → Prop} (h : Nn a0 a1 w K) : call P FQ [a0, a1] w K :=
 Aa mixed Tryz.func180 (c := codeOf Tryz.f180) (by kernel_rfl) (by kernel_rfl) (p := Si) (by kernel_rfl) (by rw [Tryz.ntmps180]; simp) (by
  have e : Nn a0 a1 w K = vc P Si (codeOf Tryz.f180) (env0 [a0, a1]) w (retX P Tryz.f180.results.toList K) := by kernel_rfl
  exact e ▸ h)
def MI (a0 a1 : Value) (w : World) (K : Value → World → Prop) : Prop :=
 ∃ b : Value → Value → World → Prop, (∀ (c : Value) (d : Value) (_ : Env) (e : World), b c d e →
 bl0 P .len #[156] 3 [c] e fun g =>
 bin P .add 3 false true g (.int .i64 1) e fun h =>
 mks P 156 h h e fun i j =>
 bl0 P .len #[156] 3 [c] j fun k =>
 ∃ l : Nat → Value → Value → World → Prop, (∃ m, l m (.int .u64 0) (.int .i64 0) j) ∧ ∀ (n : Nat) (o : Value) (p : Value) (_ : Env) (q : World), l n o p q →
 bin P .lss 3 false false p k q fun r =>
 cnd r
 (ixa P 156 c p q fun s =>
 ld P 202 s q fun t =>
 cnv P 202 178 t q fun u =>
 bin P .add 178 false false o u q fun v =>
 ∃ x : Value → World → Prop, (∀ (y : Value) (_ : Env) (z : World), x y z →
 cnv P 178 202 y z fun A =>
 ixa P 156 i p z fun B =>
 sto P 202 B A z fun C =>
 bin P .shr 178 false true y (.int .u64 32) C fun D =>
 bin P .add 3 false true p (.int .i64 1) C fun E =>
 ∃ F, F < n ∧ l F D E C) ∧
 (bl0 P .len #[156] 3 [d] q fun G =>
 bin P .lss 3 false false p G q fun H =>
 cnd H
 (ixa P 156 d p q fun L =>
 ld P 202 L q fun M =>
 cnv P 202 178 M q fun N =>
 bin P .add 178 false false v N q fun O =>
 x O q)
 (x v q)))
 (bl0 P .len #[156] 3 [c] q fun Q =>
 cnv P 178 202 o q fun R =>
 ixa P 156 i Q q fun S =>
 sto P 202 S R q fun T =>
 call P Bp [i] T fun U V =>
 K U V)) ∧
 (bl0 P .len #[156] 3 [a0] w fun W =>
 bl0 P .len #[156] 3 [a1] w fun X =>
 bin P .lss 3 false false W X w fun Y =>
 cnd Y
 (b a1 a0 w)
 (b a0 a1 w))
def Sr : Plan := (.seq rg3 (.cut [0, 1] 65027 (.seq rg4 (.cond rg5 .leaf)) (.seq rg21 (.seq rg3 (.seq (.seq rg1 (.blk (.loop [6, 22] 1125899902648768 (.seq rg3 (.seq (.cond .leaf .leaf) (.seq (.blk (.seq rg4 (.seq rg4 (.cut [6] 4395899027520 (.seq rg5 (.cond rg11 .leaf)) (.seq rg36 rg1))))) rg0)))))) (.seq (.reg [.op (0, 0, false), .op (1, 0, false), .op (2, 0, false), .op (3, 0, false), .op (4, 0, false), .op (5, 0, false), .op (6, 2, false)]) (.seq rg2 .leaf)))))))
theorem Aa6 {a0 a1 : Value} {w : World} {K : Value → World → Prop} (h : MI a0 a1 w K) : call P CV [a0, a1] w K :=
 Aa mixed Tryz.func181 (c := codeOf Tryz.f181) (by kernel_rfl) (by kernel_rfl) (p := Sr) (by kernel_rfl) (by rw [Tryz.ntmps181]; simp) (by
  have e : MI a0 a1 w K = vc P Sr (codeOf Tryz.f181) (env0 [a0, a1]) w (retX P Tryz.f181.results.toList K) := by kernel_rfl
  exact e ▸ h)
def Hy (a0 a1 : Value) (w : World) (K : Value → World → Prop) : Prop :=
 nch a1 fun b =>
 fda P 158 b 0 w fun c =>
 ld P 4 c w fun d =>
 una P .not d w fun e =>
 nch a1 fun g =>
 fda P 158 g 1 w fun h =>
 ld P 156 h w fun i =>
 call P Cr [i] w fun j k =>
 Ext w k ∧ call P AQ [a0, e, j] k fun l m =>
 K l m
def LS : Plan := (.seq rg3 (.seq rg27 .leaf))
theorem Tl {a0 a1 : Value} {w : World} {K : Value → World → Prop} (h : Hy a0 a1 w K) : call P EC [a0, a1] w K :=
 Aa mixed Tryz.func184 (c := codeOf Tryz.f184) (by kernel_rfl) (by kernel_rfl) (p := LS) (by kernel_rfl) (by rw [Tryz.ntmps184]; simp) (by
  have e : Hy a0 a1 w K = vc P LS (codeOf Tryz.f184) (env0 [a0, a1]) w (retX P Tryz.f184.results.toList K) := by kernel_rfl
  exact e ▸ h)
def GD (a0 a1 a2 : Value) (w : World) (K : Value → World → Prop) : Prop :=
 nch a1 fun b =>
 fda P 158 b 0 w fun c =>
 ld P 4 c w fun d =>
 nch a2 fun e =>
 fda P 158 e 0 w fun g =>
 ld P 4 g w fun h =>
 bin P .neq 4 false false d h w fun i =>
 nch a1 fun j =>
 fda P 158 j 1 w fun k =>
 ld P 156 k w fun l =>
 nch a2 fun m =>
 fda P 158 m 1 w fun n =>
 ld P 156 n w fun o =>
 call P D7 [l, o] w fun p q =>
 Ext w q ∧ call P AQ [a0, i, p] q fun r s =>
 K r s
def LY : Plan := (.seq rg3 (.seq (.reg [.op (0, 0, false), .op (1, 0, false), .op (2, 0, false), .op (3, 0, false), .op (4, 0, false), .op (5, 0, false), .op (6, 0, false), .op (7, 0, false), .op (8, 0, false), .op (9, 0, false), .op (10, 0, false), .op (11, 0, false), .op (12, 0, false), .op (13, 0, false), .op (14, 0, false), .op (15, 0, false), .op (16, 0, false), .op (17, 0, false), .op (18, 2, true), .op (19, 2, false), .op (20, 0, false)]) .leaf))
theorem Tj {a0 a1 a2 : Value} {w : World} {K : Value → World → Prop} (h : GD a0 a1 a2 w K) : call P GW [a0, a1, a2] w K :=
 Aa mixed Tryz.func185 (c := codeOf Tryz.f185) (by kernel_rfl) (by kernel_rfl) (p := LY) (by kernel_rfl) (by rw [Tryz.ntmps185]; simp) (by
  have e : GD a0 a1 a2 w K = vc P LY (codeOf Tryz.f185) (env0 [a0, a1, a2]) w (retX P Tryz.f185.results.toList K) := by kernel_rfl
  exact e ▸ h)
def G9 (a0 a1 : Value) (w : World) (K : Value → World → Prop) : Prop :=
 nch a1 fun b =>
 fda P 158 b 1 w fun c =>
 ld P 156 c w fun d =>
 call P Cr [d] w fun e g =>
 call P AQ [a0, (.bool false), e] g fun h i =>
 K h i
def ME : Plan := (.seq rg3 (.seq rg45 .leaf))
theorem Tf {a0 a1 : Value} {w : World} {K : Value → World → Prop} (h : G9 a0 a1 w K) : call P EB [a0, a1] w K :=
 Aa mixed Tryz.func186 (c := codeOf Tryz.f186) (by kernel_rfl) (by kernel_rfl) (p := ME) (by kernel_rfl) (by rw [Tryz.ntmps186]; simp) (by
  have e : G9 a0 a1 w K = vc P ME (codeOf Tryz.f186) (env0 [a0, a1]) w (retX P Tryz.f186.results.toList K) := by kernel_rfl
  exact e ▸ h)
def Ha (a0 a1 a2 : Value) (w : World) (K : Value → World → Prop) : Prop :=
 nch a2 fun b =>
 fda P 158 b 0 w fun c =>
 ld P 4 c w fun d =>
 nch a2 fun e =>
 fda P 158 e 1 w fun g =>
 ld P 156 g w fun h =>
 call P Ed [a0, a1, d, h] w fun i j =>
 K i j
def Mi : Plan := (.seq rg3 (.seq (.reg [.op (0, 0, false), .op (1, 0, false), .op (2, 0, false), .op (3, 0, false), .op (4, 0, false), .op (5, 0, false), .op (6, 0, false), .op (7, 0, false), .op (8, 0, false), .op (9, 0, false), .op (10, 2, false), .op (11, 0, false)]) .leaf))
theorem SZ {a0 a1 a2 : Value} {w : World} {K : Value → World → Prop} (h : Ha a0 a1 a2 w K) : call P BP [a0, a1, a2] w K :=
 Aa mixed Tryz.func187 (c := codeOf Tryz.f187) (by kernel_rfl) (by kernel_rfl) (p := Mi) (by kernel_rfl) (by rw [Tryz.ntmps187]; simp) (by
  have e : Ha a0 a1 a2 w K = vc P Mi (codeOf Tryz.f187) (env0 [a0, a1, a2]) w (retX P Tryz.f187.results.toList K) := by kernel_rfl
  exact e ▸ h)
def Hi (a0 a1 a2 : Value) (w : World) (K : Value → World → Prop) : Prop :=
 bsl P 156 0 [] w fun b c =>
 nch a1 fun d =>
 fda P 158 d 1 c fun e =>
 ld P 156 e c fun g =>
 bl0 P .len #[156] 3 [g] c fun h =>
 nch a2 fun i =>
 fda P 158 i 1 c fun j =>
 ld P 156 j c fun k =>
 bl0 P .len #[156] 3 [k] c fun l =>
 bl0 P .min #[3, 3] 3 [h, l] c fun m =>
 ∃ n : Nat → Value → Value → World → Prop, (∃ o, n o b (.int .i64 0) c) ∧ ∀ (p : Nat) (q : Value) (r : Value) (_ : Env) (s : World), n p q r s →
 bin P .lss 3 false false r m s fun t =>
 cnd t
 (nch a1 fun u =>
 fda P 158 u 1 s fun v =>
 ld P 156 v s fun x =>
 ixa P 156 x r s fun y =>
 ld P 202 y s fun z =>
 nch a2 fun A =>
 fda P 158 A 1 s fun B =>
 ld P 156 B s fun C =>
 ixa P 156 C r s fun D =>
 ld P 202 D s fun E =>
 bin P .and 202 false false z E s fun F =>
 bsl P 156 1 [(0, F)] s fun G H =>
 bl2 P .append #[156, 156] 156 [q, G] H fun L M =>
 bin P .add 3 false true r (.int .i64 1) M fun N =>
 ∃ O, O < p ∧ n O L N M)
 (call P AQ [a0, (.bool false), q] s fun Q R =>
 K Q R)
def Mv : Plan := (.seq rg3 (.seq rg6 (.seq (.seq rg16 (.blk (.loop [7, 21] 8796090925440 (.seq rg3 (.seq (.cond .leaf .leaf) (.seq (.blk (.seq rg0 (.reg [.op (0, 0, false), .op (1, 0, false), .op (2, 0, false), .op (3, 0, false), .op (4, 0, false), .op (5, 0, false), .op (6, 0, false), .op (7, 0, false), .op (8, 0, false), .op (9, 0, false), .op (10, 0, false), .op (11, 0, false), .op (12, 0, false), .op (13, 0, false), .op (14, 0, false), .op (15, 0, false), .op (16, 2, false), .op (17, 2, false), .op (18, 0, false)]))) rg0)))))) (.seq rg8 .leaf))))
theorem Uo {a0 a1 a2 : Value} {w : World} {K : Value → World → Prop} (h : Hi a0 a1 a2 w K) : call P GK [a0, a1, a2] w K :=
 Aa mixed Tryz.func189 (c := codeOf Tryz.f189) (by kernel_rfl) (by kernel_rfl) (p := Mv) (by kernel_rfl) (by rw [Tryz.ntmps189]; simp) (by
  have e : Hi a0 a1 a2 w K = vc P Mv (codeOf Tryz.f189) (env0 [a0, a1, a2]) w (retX P Tryz.f189.results.toList K) := by kernel_rfl
  exact e ▸ h)
def FC (a0 : Value) (w : World) (K : Value → World → Prop) : Prop :=
 nch a0 fun b =>
 fda P 158 b 0 w fun c =>
 ld P 4 c w fun d =>
 cnd d
 (call P EM [a0] w fun e g =>
 cnv P 178 2 e g fun h =>
 una P .neg h g fun i =>
 K i g)
 (call P EM [a0] w fun j k =>
 cnv P 178 2 j k fun l =>
 K l k)
def JT : Plan := (.seq rg3 (.seq (.seq rg5 (.cond (.seq rg35 .leaf) .leaf)) (.seq rg14 .leaf)))
theorem RD {a0 : Value} {w : World} {K : Value → World → Prop} (h : FC a0 w K) : call P CI [a0] w K :=
 Aa mixed Tryz.func190 (c := codeOf Tryz.f190) (by kernel_rfl) (by kernel_rfl) (p := JT) (by kernel_rfl) (by rw [Tryz.ntmps190]; simp) (by
  have e : FC a0 w K = vc P JT (codeOf Tryz.f190) (env0 [a0]) w (retX P Tryz.f190.results.toList K) := by kernel_rfl
  exact e ▸ h)
def LH (a0 : Value) (w : World) (K : Value → World → Prop) : Prop :=
 bl0 P .len #[156] 3 [a0] w fun b =>
 bin P .eql 3 false true b (.int .i64 0) w fun c =>
 cnd c
 (K (.int .i64 0) w)
 (bl0 P .len #[156] 3 [a0] w fun d =>
 bin P .sub 3 false true d (.int .i64 1) w fun e =>
 bin P .mul 3 true false (.int .i64 32) e w fun g =>
 bl0 P .len #[156] 3 [a0] w fun h =>
 bin P .sub 3 false true h (.int .i64 1) w fun i =>
 ixa P 156 a0 i w fun j =>
 ld P 202 j w fun k =>
 ∃ l : Nat → Value → Value → World → Prop, (∃ m, l m g k w) ∧ ∀ (n : Nat) (o : Value) (p : Value) (_ : Env) (q : World), l n o p q →
 bin P .gtr 202 false true p (.int .u32 0) q fun r =>
 cnd r
 (bin P .add 3 false true o (.int .i64 1) q fun s =>
 bin P .shr 202 false true p (.int .u64 1) q fun t =>
 ∃ u, u < n ∧ l u s t q)
 (K o q))
def Rk : Plan := (.seq rg3 (.seq (.seq rg1 (.cond (.seq rg3 .leaf) .leaf)) (.seq rg4 (.seq (.seq rg10 (.blk (.loop [3, 4] 16515096 (.seq (.seq rg0 (.cond .leaf .leaf)) (.seq (.blk rg1) rg1))))) (.seq rg0 .leaf)))))
theorem YL {a0 : Value} {w : World} {K : Value → World → Prop} (h : LH a0 w K) : call P LF [a0] w K :=
 Aa mixed Tryz.func220 (c := codeOf Tryz.f220) (by kernel_rfl) (by kernel_rfl) (p := Rk) (by kernel_rfl) (by rw [Tryz.ntmps220]; simp) (by
  have e : LH a0 w K = vc P Rk (codeOf Tryz.f220) (env0 [a0]) w (retX P Tryz.f220.results.toList K) := by kernel_rfl
  exact e ▸ h)
def K4 (a0 : Value) (w : World) (K : Value → World → Prop) : Prop :=
 ∃ b : Nat → Value → World → Prop, (∃ c, b c a0 w) ∧ ∀ (d : Nat) (e : Value) (_ : Env) (g : World), b d e g →
 bl0 P .len #[156] 3 [e] g fun h =>
 bin P .gtr 3 false true h (.int .i64 0) g fun i =>
 ∃ j : Value → World → Prop, (∀ (k : Value) (_ : Env) (l : World), j k l →
 pick i k (.bool false) fun m =>
 cnd m
 (bl0 P .len #[156] 3 [e] l fun n =>
 bin P .sub 3 false true n (.int .i64 1) l fun o =>
 sli P 156 e none (some o) none l fun p =>
 ∃ q, q < d ∧ b q p l)
 (K e l)) ∧
 grd i true
 (bl0 P .len #[156] 3 [e] g fun r =>
 bin P .sub 3 false true r (.int .i64 1) g fun s =>
 ixa P 156 e s g fun t =>
 ld P 202 t g fun u =>
 bin P .eql 202 false true u (.int .u32 0) g fun v =>
 j v g)
 (j undef g)
def Rg : Plan := (.seq rg3 (.seq (.blk (.loop [0] 1048569 (.seq (.seq (.reg [.op (0, 0, false), .op (1, 0, false), .op (2, 0, false), .op (3, 0, false), .grp 3 true [(4, 0, false), (5, 0, false), (6, 0, false), (7, 0, false), (8, 0, false), (9, 0, false), (10, 0, false)] [13] 16256, .op (11, 0, false)]) (.cond .leaf .leaf)) (.blk rg9)))) (.seq rg0 .leaf)))
theorem YY {a0 : Value} {w : World} {K : Value → World → Prop} (h : K4 a0 w K) : call P Bp [a0] w K :=
 Aa mixed Tryz.func221 (c := codeOf Tryz.f221) (by kernel_rfl) (by kernel_rfl) (p := Rg) (by kernel_rfl) (by rw [Tryz.ntmps221]; simp) (by
  have e : K4 a0 w K = vc P Rg (codeOf Tryz.f221) (env0 [a0]) w (retX P Tryz.f221.results.toList K) := by kernel_rfl
  exact e ▸ h)
def I7 (a0 : Value) (w : World) (K : Value → World → Prop) : Prop :=
 ∃ b : Value → World → Prop, (∀ (c : Value) (_ : Env) (d : World), b c d →
 bin P .eql 9 false true c (.string ⟨#[]⟩) d fun e =>
 ∃ g : Value → World → Prop, (∀ (h : Value) (_ : Env) (i : World), g h i →
 ∃ j : Value → World → Prop, (∀ (k : Value) (_ : Env) (l : World), j k l →
 ∃ m : Value → World → Prop, (∀ (n : Value) (_ : Env) (o : World), m n o →
 pick e (.bool true) n fun p =>
 cnd p
 (K (.bool false) o)
 (bl0 P .len #[9] 3 [c] o fun q =>
 ∃ r : Nat → Value → World → Prop, (∃ s, r s (.int .i64 0) o) ∧ ∀ (t : Nat) (u : Value) (_ : Env) (v : World), r t u v →
 bin P .lss 3 false false u q v fun x =>
 cnd x
 (idx P 9 c u v fun y =>
 bin P .lss 5 false true y (.int .u8 48) v fun z =>
 ∃ A : Value → World → Prop, (∀ (B : Value) (_ : Env) (C : World), A B C →
 pick z (.bool true) B fun D =>
 cnd D
 (K (.bool false) C)
 (bin P .add 3 false true u (.int .i64 1) C fun E =>
 ∃ F, F < t ∧ r F E C)) ∧
 grd z false
 (idx P 9 c u v fun G =>
 bin P .gtr 5 false true G (.int .u8 57) v fun H =>
 A H v)
 (A undef v))
 (K (.bool true) v))) ∧
 grd e false
 (pick h k (.bool false) fun L =>
 m L l)
 (m undef l)) ∧
 grd h true
 (bl0 P .len #[9] 3 [c] i fun M =>
 bin P .gtr 3 false true M (.int .i64 1) i fun N =>
 j N i)
 (j undef i)) ∧
 grd e false
 (idx P 9 c (.int .i64 0) d fun O =>
 bin P .eql 5 false true O (.int .u8 48) d fun Q =>
 g Q d)
 (g undef d)) ∧
 (bl0 P .len #[9] 3 [a0] w fun R =>
 bin P .gtr 3 false true R (.int .i64 0) w fun S =>
 ∃ T : Value → World → Prop, (∀ (U : Value) (_ : Env) (V : World), T U V →
 pick S U (.bool false) fun W =>
 cnd W
 (sli P 9 a0 (some (.int .i64 1)) none none V fun X =>
 bin P .eql 9 false true X (.string ⟨#[48]⟩) V fun Y =>
 cnd Y
 (K (.bool false) V)
 (b X V))
 (b a0 V)) ∧
 grd S true
 (idx P 9 a0 (.int .i64 0) w fun Z =>
 bin P .eql 5 false true Z (.int .u8 45) w fun b0 =>
 T b0 w)
 (T undef w))
def Oo : Plan := (.seq rg3 (.cut [0] 65525 (.seq (.reg [.op (0, 0, false), .op (1, 0, false), .op (2, 0, false), .op (3, 0, false), .grp 3 true [(4, 0, false), (5, 0, false), (6, 0, false)] [10] 1792, .op (7, 0, false)]) (.cond (.seq rg1 (.seq rg0 (.cond (.seq rg3 .leaf) .leaf))) .leaf)) (.seq (.seq (.reg [.op (0, 0, false), .op (1, 0, false), .op (2, 0, false), .grp 2 false [(3, 0, false), (4, 0, false), (5, 0, false), (6, 0, false)] [22] 7864320, .grp 6 true [(7, 0, false), (8, 0, false), (9, 0, false)] [25] 58720256, .grp 2 false [(10, 0, false)] [26] 67108864, .op (11, 0, false)]) (.cond (.seq rg3 .leaf) .leaf)) (.seq (.seq rg1 (.blk (.loop [30] 17591112302604 (.seq rg3 (.seq (.cond .leaf .leaf) (.seq (.blk (.seq rg0 (.seq (.reg [.op (0, 0, false), .op (1, 0, false), .op (2, 0, false), .op (3, 0, false), .op (4, 0, false), .grp 4 false [(5, 0, false), (6, 0, false), (7, 0, false), (8, 0, false)] [41] 4123168604160, .op (9, 0, false)]) (.cond (.seq rg3 .leaf) .leaf)))) rg0)))))) (.seq rg3 .leaf)))))
theorem VS {a0 : Value} {w : World} {K : Value → World → Prop} (h : I7 a0 w K) : call P FM [a0] w K :=
 Aa mixed Tryz.func223 (c := codeOf Tryz.f223) (by kernel_rfl) (by kernel_rfl) (p := Oo) (by kernel_rfl) (by rw [Tryz.ntmps223]; simp) (by
  have e : I7 a0 w K = vc P Oo (codeOf Tryz.f223) (env0 [a0]) w (retX P Tryz.f223.results.toList K) := by kernel_rfl
  exact e ▸ h)
def Ii (a0 : Value) (w : World) (K : Value → World → Prop) : Prop :=
 alc P 55 w fun b c =>
 call P FM [a0] c fun d e =>
 una P .not d e fun g =>
 cnd g
 (bld P 55 [] e fun h =>
 sto P 55 b h e fun i =>
 ldc P 55 b i fun j =>
 K (.tuple #[j, (.int .i64 6)]) i)
 (bl0 P .len #[9] 3 [a0] e fun k =>
 bin P .gtr 3 false true k (.int .i64 800) e fun l =>
 cnd l
 (bld P 55 [] e fun m =>
 sto P 55 b m e fun n =>
 ldc P 55 b n fun o =>
 K (.tuple #[o, (.int .i64 3)]) n)
 (alc P 158 e fun p q =>
 call P DY [p, a0, (.int .i64 10)] q fun r s =>
 xtr P r 0 s fun t =>
 xtr P r 1 s fun u =>
 call P OX [t] s fun v x =>
 xtr P v 0 x fun y =>
 xtr P v 1 x fun z =>
 sto P 55 b y x fun A =>
 ldc P 55 b A fun B =>
 K (.tuple #[B, z]) A))
def Nz : Plan := (.seq rg6 (.seq (.seq rg2 (.cond (.seq rg2 .leaf) .leaf)) (.seq (.seq rg1 (.cond (.seq rg2 .leaf) .leaf)) (.seq (.reg [.op (0, 2, false), .op (1, 0, false), .op (2, 2, false), .op (3, 0, false), .op (4, 0, false), .op (5, 0, false), .op (6, 0, false), .op (7, 0, false)]) (.seq (.reg [.op (0, 0, false), .op (1, 2, false), .op (2, 0, false), .op (3, 0, false), .op (4, 2, false), .op (5, 0, false)]) .leaf)))))
theorem US {a0 : Value} {w : World} {K : Value → World → Prop} (h : Ii a0 w K) : call P HX [a0] w K :=
 Aa mixed Tryz.func224 (c := codeOf Tryz.f224) (by kernel_rfl) (by kernel_rfl) (p := Nz) (by kernel_rfl) (by rw [Tryz.ntmps224]; simp) (by
  have e : Ii a0 w K = vc P Nz (codeOf Tryz.f224) (env0 [a0]) w (retX P Tryz.f224.results.toList K) := by kernel_rfl
  exact e ▸ h)
def Ns (a0 a1 : Value) (w : World) (K : Value → World → Prop) : Prop :=
 bl0 P .len #[156] 3 [a0] w fun b =>
 bl0 P .len #[156] 3 [a1] w fun c =>
 bin P .add 3 false false b c w fun d =>
 mks P 156 d d w fun e g =>
 bl0 P .len #[156] 3 [a0] g fun h =>
 ∃ i : Nat → Value → World → Prop, (∃ j, i j (.int .i64 0) g) ∧ ∀ (k : Nat) (l : Value) (_ : Env) (m : World), i k l m →
 bin P .lss 3 false false l h m fun n =>
 cnd n
 (ixa P 156 a0 l m fun o =>
 ld P 202 o m fun p =>
 bl0 P .len #[156] 3 [a1] m fun q =>
 ∃ r : Nat → Value → Value → World → Prop, (∃ s, r s (.int .u64 0) (.int .i64 0) m) ∧ ∀ (t : Nat) (u : Value) (v : Value) (_ : Env) (x : World), r t u v x →
 bin P .lss 3 false false v q x fun y =>
 cnd y
 (ixa P 156 a1 v x fun z =>
 ld P 202 z x fun A =>
 cnv P 202 178 p x fun B =>
 cnv P 202 178 A x fun C =>
 bin P .mul 178 false false B C x fun D =>
 bin P .add 3 false false l v x fun E =>
 ixa P 156 e E x fun F =>
 ld P 202 F x fun G =>
 cnv P 202 178 G x fun H =>
 bin P .add 178 false false D H x fun L =>
 bin P .add 178 false false u L x fun M =>
 bin P .add 3 false false l v x fun N =>
 cnv P 178 202 M x fun O =>
 ixa P 156 e N x fun Q =>
 sto P 202 Q O x fun R =>
 bin P .shr 178 false true M (.int .u64 32) R fun S =>
 bin P .add 3 false true v (.int .i64 1) R fun T =>
 ∃ U, U < t ∧ r U S T R)
 (bl0 P .len #[156] 3 [a1] x fun V =>
 bin P .add 3 false false l V x fun W =>
 cnv P 178 202 u x fun X =>
 ixa P 156 e W x fun Y =>
 sto P 202 Y X x fun Z =>
 bin P .add 3 false true l (.int .i64 1) Z fun b0 =>
 ∃ c0, c0 < k ∧ i c0 b0 Z))
 (call P Bp [e] m fun d0 e0 =>
 K d0 e0)
def Sj : Plan := (.seq rg3 (.seq rg48 (.seq (.seq rg1 (.blk (.loop [19] 36893488147418580928 (.seq rg3 (.seq (.cond .leaf .leaf) (.seq (.blk (.seq rg4 (.seq rg3 (.seq (.seq rg1 (.blk (.loop [8, 26] 72057593970820864 (.seq rg3 (.seq (.cond .leaf .leaf) (.seq (.blk (.seq rg4 (.seq (.reg [.op (0, 0, false), .op (1, 0, false), .op (2, 0, false), .op (3, 0, false), .op (4, 0, false), .op (5, 0, false), .op (6, 0, false), .op (7, 0, false), .op (8, 0, false), .op (9, 0, false), .op (10, 0, false), .op (11, 0, false), .op (12, 0, false), .op (13, 0, false), .op (14, 0, false), .op (15, 0, false)]) (.seq rg23 rg1)))) rg0)))))) rg19)))) rg0)))))) (.seq rg2 .leaf))))
theorem Aas {a0 a1 : Value} {w : World} {K : Value → World → Prop} (h : Ns a0 a1 w K) : call P D7 [a0, a1] w K :=
 Aa mixed Tryz.func231 (c := codeOf Tryz.f231) (by kernel_rfl) (by kernel_rfl) (p := Sj) (by kernel_rfl) (by rw [Tryz.ntmps231]; simp) (by
  have e : Ns a0 a1 w K = vc P Sj (codeOf Tryz.f231) (env0 [a0, a1]) w (retX P Tryz.f231.results.toList K) := by kernel_rfl
  exact e ▸ h)
def Gm (a0 a1 a2 a3 : Value) (w : World) (K : Value → World → Prop) : Prop :=
 nch a1 fun b =>
 fda P 158 b 0 w fun c =>
 ld P 4 c w fun d =>
 bin P .eql 4 false false d a2 w fun e =>
 cnd e
 (nch a1 fun g =>
 fda P 158 g 1 w fun h =>
 ld P 156 h w fun i =>
 call P CV [i, a3] w fun j k =>
 call P AQ [a0, a2, j] k fun l m =>
 K l m)
 (nch a1 fun n =>
 fda P 158 n 1 w fun o =>
 ld P 156 o w fun p =>
 call P FU [p, a3] w fun q r =>
 bin P .geq 3 false true q (.int .i64 0) r fun s =>
 cnd s
 (nch a1 fun t =>
 fda P 158 t 0 r fun u =>
 ld P 4 u r fun v =>
 nch a1 fun x =>
 fda P 158 x 1 r fun y =>
 ld P 156 y r fun z =>
 call P FQ [z, a3] r fun A B =>
 Ext r B ∧ call P AQ [a0, v, A] B fun C D =>
 K C D)
 (nch a1 fun E =>
 fda P 158 E 1 r fun F =>
 ld P 156 F r fun G =>
 call P FQ [a3, G] r fun H L =>
 call P AQ [a0, a2, H] L fun M N =>
 K M N))
def Kk : Plan := (.seq rg3 (.seq (.blk (.seq rg10 (.cond (.seq (.reg [.op (0, 0, false), .op (1, 0, false), .op (2, 0, false), .op (3, 0, false), .op (4, 0, false), .op (5, 0, false), .op (6, 0, false), .op (7, 2, false), .op (8, 2, false), .op (9, 0, false)]) .leaf) (.seq (.reg [.op (0, 0, false), .op (1, 0, false), .op (2, 0, false), .op (3, 0, false), .op (4, 0, false), .op (5, 2, false), .op (6, 0, false), .op (7, 0, false)]) (.cond (.seq rg27 .leaf) .leaf))))) (.seq (.reg [.op (0, 0, false), .op (1, 0, false), .op (2, 0, false), .op (3, 0, false), .op (4, 0, false), .op (5, 0, false), .op (6, 0, false), .op (7, 2, false), .op (8, 2, false), .op (9, 0, false)]) .leaf)))
theorem SM {a0 a1 a2 a3 : Value} {w : World} {K : Value → World → Prop} (h : Gm a0 a1 a2 a3 w K) : call P Ed [a0, a1, a2, a3] w K :=
 Aa mixed Tryz.func232 (c := codeOf Tryz.f232) (by kernel_rfl) (by kernel_rfl) (p := Kk) (by kernel_rfl) (by rw [Tryz.ntmps232]; simp) (by
  have e : Gm a0 a1 a2 a3 w K = vc P Kk (codeOf Tryz.f232) (env0 [a0, a1, a2, a3]) w (retX P Tryz.f232.results.toList K) := by kernel_rfl
  exact e ▸ h)
def Hx (a0 a1 a2 : Value) (w : World) (K : Value → World → Prop) : Prop :=
 nch a1 fun b =>
 fda P 158 b 0 w fun c =>
 ld P 4 c w fun d =>
 nch a1 fun e =>
 fda P 158 e 1 w fun g =>
 ld P 156 g w fun h =>
 call P KY [h, a2] w fun i j =>
 Ext w j ∧ call P AQ [a0, d, i] j fun k l =>
 K k l
def Me : Plan := (.seq rg3 (.seq rg27 .leaf))
theorem T5 {a0 a1 a2 : Value} {w : World} {K : Value → World → Prop} (h : Hx a0 a1 a2 w K) : call P Cm [a0, a1, a2] w K :=
 Aa mixed Tryz.func233 (c := codeOf Tryz.f233) (by kernel_rfl) (by kernel_rfl) (p := Me) (by kernel_rfl) (by rw [Tryz.ntmps233]; simp) (by
  have e : Hx a0 a1 a2 w K = vc P Me (codeOf Tryz.f233) (env0 [a0, a1, a2]) w (retX P Tryz.f233.results.toList K) := by kernel_rfl
  exact e ▸ h)
def GB (a0 : Value) (w : World) (K : Value → World → Prop) : Prop :=
 nch a0 fun b =>
 fda P 158 b 1 w fun c =>
 ld P 156 c w fun d =>
 bl0 P .len #[156] 3 [d] w fun e =>
 bl0 P .min #[3, 3] 3 [e, (.int .i64 2)] w fun g =>
 bin P .sub 3 false true g (.int .i64 1) w fun h =>
 ∃ i : Nat → Value → Value → World → Prop, (∃ j, i j (.int .u64 0) h w) ∧ ∀ (k : Nat) (l : Value) (m : Value) (_ : Env) (n : World), i k l m n →
 bin P .geq 3 false true m (.int .i64 0) n fun o =>
 cnd o
 (bin P .shl 178 false true l (.int .u64 32) n fun p =>
 nch a0 fun q =>
 fda P 158 q 1 n fun r =>
 ld P 156 r n fun s =>
 ixa P 156 s m n fun t =>
 ld P 202 t n fun u =>
 cnv P 202 178 u n fun v =>
 bin P .or 178 false false p v n fun x =>
 bin P .sub 3 false true m (.int .i64 1) n fun y =>
 ∃ z, z < k ∧ i z x y n)
 (K l n)
def Mb : Plan := (.seq rg3 (.seq rg3 (.seq (.seq rg11 (.blk (.loop [3, 4] 134213656 (.seq (.seq rg0 (.cond .leaf .leaf)) (.seq (.blk rg16) rg1))))) (.seq rg0 .leaf))))
theorem Uk {a0 : Value} {w : World} {K : Value → World → Prop} (h : GB a0 w K) : call P EM [a0] w K :=
 Aa mixed Tryz.func234 (c := codeOf Tryz.f234) (by kernel_rfl) (by kernel_rfl) (p := Mb) (by kernel_rfl) (by rw [Tryz.ntmps234]; simp) (by
  have e : GB a0 w K = vc P Mb (codeOf Tryz.f234) (env0 [a0]) w (retX P Tryz.f234.results.toList K) := by kernel_rfl
  exact e ▸ h)
def DW (a0 a1 a2 : Value) (w : World) (K : Value → World → Prop) : Prop :=
 bin P .neq 9 false true a1 (.string ⟨#[]⟩) w fun b =>
 ∃ c : Value → World → Prop, (∀ (d : Value) (_ : Env) (e : World), c d e →
 pick b d (.bool false) fun g =>
 ∃ h : Value → World → Prop, (∀ (i : Value) (_ : Env) (j : World), h i j →
 bsl P 156 0 [] j fun k l =>
 bl0 P .len #[9] 3 [i] l fun m =>
 ∃ n : Nat → Value → Value → World → Prop, (∃ o, n o k (.int .i64 0) l) ∧ ∀ (p : Nat) (q : Value) (r : Value) (_ : Env) (s : World), n p q r s →
 bin P .lss 3 false false r m s fun t =>
 cnd t
 (idx P 9 i r s fun u =>
 bin P .lss 5 false true u (.int .u8 48) s fun v =>
 ∃ x : Value → World → Prop, (∀ (y : Value) (_ : Env) (z : World), x y z →
 pick v (.bool true) y fun A =>
 cnd A
 (K (.tuple #[(.pointer none), (.bool false)]) z)
 (∃ B : Value → World → Prop, (∀ (C : Value) (_ : Env) (D : World), B C D →
 bin P .add 3 false true r (.int .i64 1) D fun E =>
 ∃ F, F < p ∧ n F C E D) ∧
 (cnv P 3 202 a2 z fun G =>
 idx P 9 i r z fun H =>
 bin P .sub 5 false true H (.int .u8 48) z fun L =>
 cnv P 5 202 L z fun M =>
 (bsl P 156 1 [(0, G)] z fun N O =>
 Ext z O ∧ (call P D7 [q, N] O fun Q R =>
 Ext O R ∧ bsl P 156 1 [(0, M)] R fun S T =>
 Ext R T ∧ call P Bp [S] T fun U V =>
 call P CV [Q, U] V fun W X =>
 B W X) ∧
 (bsl P 156 1 [(0, M)] O fun Y Z =>
 Ext O Z ∧ call P D7 [q, N] Z fun b0 c0 =>
 Ext Z c0 ∧ call P Bp [Y] c0 fun d0 e0 =>
 call P CV [b0, d0] e0 fun g0 h0 =>
 B g0 h0)) ∧
 (bsl P 156 1 [(0, M)] z fun i0 j0 =>
 Ext z j0 ∧ bsl P 156 1 [(0, G)] j0 fun k0 l0 =>
 Ext j0 l0 ∧ call P D7 [q, k0] l0 fun m0 n0 =>
 Ext l0 n0 ∧ call P Bp [i0] n0 fun o0 p0 =>
 call P CV [m0, o0] p0 fun q0 r0 =>
 B q0 r0)))) ∧
 grd v false
 (idx P 9 i r s fun s0 =>
 bin P .gtr 5 false true s0 (.int .u8 57) s fun t0 =>
 x t0 s)
 (x undef s))
 (bin P .eql 9 false true i (.string ⟨#[]⟩) s fun u0 =>
 cnd u0
 (K (.tuple #[(.pointer none), (.bool false)]) s)
 (call P AQ [a0, g, q] s fun v0 x0 =>
 K (.tuple #[v0, (.bool true)]) x0))) ∧
 (bin P .neq 9 false true a1 (.string ⟨#[]⟩) e fun y0 =>
 ∃ z0 : Value → World → Prop, (∀ (A0 : Value) (_ : Env) (B0 : World), z0 A0 B0 →
 ∃ C0 : Value → World → Prop, (∀ (D0 : Value) (_ : Env) (E0 : World), C0 D0 E0 →
 ∃ F0 : Value → World → Prop, (∀ (G0 : Value) (_ : Env) (H0 : World), F0 G0 H0 →
 pick y0 G0 (.bool false) fun L0 =>
 cnd L0
 (sli P 9 a1 (some (.int .i64 1)) none none H0 fun M0 =>
 h M0 H0)
 (h a1 H0)) ∧
 grd y0 true
 (pick A0 (.bool true) D0 fun N0 =>
 F0 N0 E0)
 (F0 undef E0)) ∧
 grd A0 false
 (idx P 9 a1 (.int .i64 0) B0 fun O0 =>
 bin P .eql 5 false true O0 (.int .u8 43) B0 fun Q0 =>
 C0 Q0 B0)
 (C0 undef B0)) ∧
 grd y0 true
 (idx P 9 a1 (.int .i64 0) e fun R0 =>
 bin P .eql 5 false true R0 (.int .u8 45) e fun S0 =>
 z0 S0 e)
 (z0 undef e))) ∧
 grd b true
 (idx P 9 a1 (.int .i64 0) w fun T0 =>
 bin P .eql 5 false true T0 (.int .u8 45) w fun U0 =>
 c U0 w)
 (c undef w)
def GN : Plan := (.seq rg0 (.seq (.reg [.op (0, 0, false), .op (1, 0, false), .op (2, 0, false), .grp 2 true [(3, 0, false), (4, 0, false), (5, 0, false)] [16] 114688, .op (6, 0, false), .op (7, 0, false)]) (.cut [1] 4294705154 (.seq (.reg [.op (0, 0, false), .op (1, 0, false), .op (2, 0, false), .grp 2 true [(3, 0, false), (4, 0, false), (5, 0, false), (6, 0, false)] [24] 31457280, .grp 6 false [(7, 0, false), (8, 0, false), (9, 0, false)] [27] 234881024, .grp 2 true [(10, 0, false)] [28] 268435456, .op (11, 0, false)]) (.cond rg1 .leaf)) (.seq rg6 (.seq (.seq rg1 (.blk (.loop [9, 35] 4611685984067651264 (.seq rg3 (.seq (.cond .leaf .leaf) (.seq (.blk (.seq rg0 (.seq (.seq (.reg [.op (0, 0, false), .op (1, 0, false), .op (2, 0, false), .op (3, 0, false), .op (4, 0, false), .grp 4 false [(5, 0, false), (6, 0, false), (7, 0, false), (8, 0, false)] [46] 131941395333120, .op (9, 0, false)]) (.cond (.seq rg0 .leaf) .leaf)) (.tree [9] 2305561534236983808 (.op (0, 0, false) (.op (1, 0, false) (.op (2, 0, false) (.op (5, 0, false) (.op (6, 0, false) (.op (7, 0, false) (.op (8, 0, false) (.op (9, 0, false) (.fork (3, 2, true) (.fork (4, 2, true) (.fork (10, 2, true) (.fork (11, 2, false) (.fork (12, 2, false) (.op (13, 0, false) .done) .stop) .stop) .stop) (.fork (10, 2, true) (.fork (4, 2, true) (.fork (11, 2, false) (.fork (12, 2, false) (.op (13, 0, false) .done) .stop) .stop) .stop) .stop)) (.fork (10, 2, true) (.fork (3, 2, true) (.fork (4, 2, true) (.fork (11, 2, false) (.fork (12, 2, false) (.op (13, 0, false) .done) .stop) .stop) .stop) .stop) .stop)))))))))))))) rg0)))))) (.seq (.seq rg0 (.cond (.seq rg0 .leaf) .leaf)) (.seq (.reg [.op (0, 0, false), .op (1, 0, false), .op (2, 0, false), .op (3, 2, false), .op (4, 0, false), .op (5, 0, false)]) .leaf)))))))
theorem OJ {a0 a1 a2 : Value} {w : World} {K : Value → World → Prop} (h : DW a0 a1 a2 w K) : call P DY [a0, a1, a2] w K :=
 Aa mixed Tryz.func256 (c := codeOf Tryz.f256) (by kernel_rfl) (by kernel_rfl) (p := GN) (by kernel_rfl) (by rw [Tryz.ntmps256]; simp) (by
  have e : DW a0 a1 a2 w K = vc P GN (codeOf Tryz.f256) (env0 [a0, a1, a2]) w (retX P Tryz.f256.results.toList K) := by kernel_rfl
  exact e ▸ h)
def Oy (a0 : Value) (w : World) (K : Value → World → Prop) : Prop :=
 alc P 55 w fun b c =>
 call P Lj [a0] c fun d e =>
 xtr P d 0 e fun g =>
 xtr P d 1 e fun h =>
 alc P 55 e fun i j =>
 sto P 55 i g j fun k =>
 una P .not h k fun l =>
 cnd l
 (bld P 55 [] k fun m =>
 sto P 55 b m k fun n =>
 ldc P 55 b n fun o =>
 K (.tuple #[o, (.int .i64 3)]) n)
 (ld P 55 i k fun p =>
 sto P 55 b p k fun q =>
 ldc P 55 b q fun r =>
 K (.tuple #[r, (.int .i64 0)]) q)
def Tn : Plan := (.seq rg6 (.seq rg12 (.seq (.seq rg0 (.cond (.seq rg2 .leaf) .leaf)) (.seq rg2 .leaf))))
theorem Abl {a0 : Value} {w : World} {K : Value → World → Prop} (h : Oy a0 w K) : call P OX [a0] w K :=
 Aa mixed Tryz.func257 (c := codeOf Tryz.f257) (by kernel_rfl) (by kernel_rfl) (p := Tn) (by kernel_rfl) (by rw [Tryz.ntmps257]; simp) (by
  have e : Oy a0 w K = vc P Tn (codeOf Tryz.f257) (env0 [a0]) w (retX P Tryz.f257.results.toList K) := by kernel_rfl
  exact e ▸ h)
def K5 (a0 : Value) (w : World) (K : Value → World → Prop) : Prop :=
 bx P 55 a0 w fun b c =>
 fda P 55 b 1 c fun d =>
 ld P 53 d c fun e =>
 bl0 P .len #[53] 3 [e] c fun g =>
 bin P .gtr 3 false true g (.int .i64 100) c fun h =>
 ∃ i : Value → World → Prop, (∀ (j : Value) (_ : Env) (k : World), i j k →
 pick h (.bool true) j fun l =>
 ∃ m : Value → World → Prop, (∀ (n : Value) (_ : Env) (o : World), m n o →
 pick l (.bool true) n fun p =>
 ∃ q : Value → World → Prop, (∀ (r : Value) (_ : Env) (s : World), q r s →
 pick p (.bool true) r fun t =>
 cnd t
 (K (.bool false) s)
 (fda P 55 b 1 s fun u =>
 ld P 53 u s fun v =>
 bl0 P .len #[53] 3 [v] s fun x =>
 ∃ y : Nat → Value → World → Prop, (∃ z, y z (.int .i64 0) s) ∧ ∀ (A : Nat) (B : Value) (_ : Env) (C : World), y A B C →
 bin P .lss 3 false false B x C fun D =>
 cnd D
 (ixa P 53 v B C fun E =>
 ld P 2 E C fun F =>
 bin P .lss 2 false true F (.int .i64 0) C fun G =>
 ∃ H : Value → World → Prop, (∀ (L : Value) (_ : Env) (M : World), H L M →
 pick G (.bool true) L fun N =>
 cnd N
 (K (.bool false) M)
 (bin P .add 3 false true B (.int .i64 1) M fun O =>
 ∃ Q, Q < A ∧ y Q O M)) ∧
 grd G false
 (bin P .gtr 2 false true F (.int .i64 16777215) C fun R =>
 H R C)
 (H undef C))
 (bin P .eql 3 false true g (.int .i64 0) C fun S =>
 ∃ T : Value → World → Prop, (∀ (U : Value) (_ : Env) (V : World), T U V →
 pick S (.bool true) U fun W =>
 K W V) ∧
 grd S false
 (fda P 55 b 1 C fun X =>
 ld P 53 X C fun Y =>
 bin P .sub 3 false true g (.int .i64 1) C fun Z =>
 ixa P 53 Y Z C fun b0 =>
 ld P 2 b0 C fun c0 =>
 bin P .neq 2 false true c0 (.int .i64 0) C fun d0 =>
 T d0 C)
 (T undef C)))) ∧
 grd p false
 (fda P 55 b 0 o fun e0 =>
 ld P 2 e0 o fun g0 =>
 bin P .eql 2 false true g0 (.int .i64 0) o fun h0 =>
 bin P .eql 3 false true g (.int .i64 0) o fun i0 =>
 bin P .neq 4 false false h0 i0 o fun j0 =>
 q j0 o)
 (q undef o)) ∧
 grd l false
 (fda P 55 b 0 k fun k0 =>
 ld P 2 k0 k fun l0 =>
 bin P .gtr 2 false true l0 (.int .i64 1) k fun m0 =>
 m m0 k)
 (m undef k)) ∧
 grd h false
 (fda P 55 b 0 c fun n0 =>
 ld P 2 n0 c fun o0 =>
 bin P .lss 2 false true o0 (.int .i64 (-1)) c fun p0 =>
 i p0 c)
 (i undef c)
def QZ : Plan := (.seq rg6 (.seq rg5 (.seq (.seq (.reg [.op (0, 0, false), .op (1, 0, false), .op (2, 0, false), .grp 2 false [(3, 0, false), (4, 0, false), (5, 0, false)] [14] 28672, .op (6, 0, false), .op (7, 0, false), .grp 7 false [(8, 0, false), (9, 0, false), (10, 0, false)] [19] 917504, .op (11, 0, false), .op (12, 0, false), .grp 12 false [(13, 0, false), (14, 0, false), (15, 0, false), (16, 0, false), (17, 0, false), (18, 0, false)] [27] 264241152, .op (19, 0, false)]) (.cond (.seq rg3 .leaf) .leaf)) (.seq (.seq rg5 (.blk (.loop [32] 8791798054948 (.seq rg3 (.seq (.cond .leaf .leaf) (.seq (.blk (.seq rg1 (.seq (.reg [.op (0, 0, false), .op (1, 0, false), .op (2, 0, false), .grp 2 false [(3, 0, false), (4, 0, false)] [40] 1649267441664, .op (5, 0, false)]) (.cond (.seq rg3 .leaf) .leaf)))) rg0)))))) (.seq (.reg [.op (0, 0, false), .op (1, 0, false), .op (2, 0, false), .grp 2 false [(3, 0, false), (4, 0, false), (5, 0, false), (6, 0, false), (7, 0, false), (8, 0, false), (9, 0, false)] [52] 8936830510563328, .op (10, 0, false), .op (11, 0, false)]) .leaf)))))
theorem YK {a0 : Value} {w : World} {K : Value → World → Prop} (h : K5 a0 w K) : call P KD [a0] w K :=
 Aa mixed Tryz.func260 (c := codeOf Tryz.f260) (by kernel_rfl) (by kernel_rfl) (p := QZ) (by kernel_rfl) (by rw [Tryz.ntmps260]; simp) (by
  have e : K5 a0 w K = vc P QZ (codeOf Tryz.f260) (env0 [a0]) w (retX P Tryz.f260.results.toList K) := by kernel_rfl
  exact e ▸ h)
def Od (a0 : Value) (w : World) (K : Value → World → Prop) : Prop :=
 bx P 55 a0 w fun b c =>
 alc P 158 c fun d e =>
 fda P 55 b 1 e fun g =>
 ld P 53 g e fun h =>
 bl0 P .len #[53] 3 [h] e fun i =>
 bin P .sub 3 false true i (.int .i64 1) e fun j =>
 ∃ k : Nat → Value → World → Prop, (∃ l, k l j e) ∧ ∀ (m : Nat) (n : Value) (_ : Env) (o : World), k m n o →
 bin P .geq 3 false true n (.int .i64 0) o fun p =>
 cnd p
 (call P Cm [d, d, (.int .u64 24)] o fun q r =>
 fda P 55 b 1 r fun s =>
 ld P 53 s r fun t =>
 ixa P 53 t n r fun u =>
 ld P 2 u r fun v =>
 call P CW [v] r fun x y =>
 call P HW [d, d, x] y fun z A =>
 bin P .sub 3 false true n (.int .i64 1) A fun B =>
 ∃ C, C < m ∧ k C B A)
 (fda P 55 b 0 o fun D =>
 ld P 2 D o fun E =>
 bin P .lss 2 false true E (.int .i64 0) o fun F =>
 cnd F
 (call P EC [d, d] o fun G H =>
 K d H)
 (K d o))
def Tq : Plan := (.seq rg6 (.seq rg6 (.seq (.seq rg4 (.blk (.loop [4] 67107856 (.seq (.seq rg0 (.cond .leaf .leaf)) (.seq (.blk (.seq rg54 (.reg [.op (0, 0, false), .op (1, 0, false), .op (2, 0, false), .op (3, 0, false), .op (4, 0, false), .op (5, 0, false), .op (6, 0, false), .op (7, 2, false), .op (8, 2, false)]))) rg1))))) (.seq (.seq rg1 (.cond rg54 .leaf)) (.seq rg0 .leaf)))))
theorem Ach {a0 : Value} {w : World} {K : Value → World → Prop} (h : Od a0 w K) : call P OH [a0] w K :=
 Aa mixed Tryz.func261 (c := codeOf Tryz.f261) (by kernel_rfl) (by kernel_rfl) (p := Tq) (by kernel_rfl) (by rw [Tryz.ntmps261]; simp) (by
  have e : Od a0 w K = vc P Tq (codeOf Tryz.f261) (env0 [a0]) w (retX P Tryz.f261.results.toList K) := by kernel_rfl
  exact e ▸ h)
def H6 (a0 a1 a2 : Value) (w : World) (K : Value → World → Prop) : Prop :=
 nch a2 fun b =>
 fda P 158 b 0 w fun c =>
 ld P 4 c w fun d =>
 una P .not d w fun e =>
 nch a2 fun g =>
 fda P 158 g 1 w fun h =>
 ld P 156 h w fun i =>
 call P Ed [a0, a1, e, i] w fun j k =>
 K j k
def M8 : Plan := (.seq rg3 (.seq (.reg [.op (0, 0, false), .op (1, 0, false), .op (2, 0, false), .op (3, 0, false), .op (4, 0, false), .op (5, 0, false), .op (6, 0, false), .op (7, 0, false), .op (8, 0, false), .op (9, 0, false), .op (10, 0, false), .op (11, 2, false), .op (12, 0, false)]) .leaf))
theorem To {a0 a1 a2 : Value} {w : World} {K : Value → World → Prop} (h : H6 a0 a1 a2 w K) : call P GU [a0, a1, a2] w K :=
 Aa mixed Tryz.func265 (c := codeOf Tryz.f265) (by kernel_rfl) (by kernel_rfl) (p := M8) (by kernel_rfl) (by rw [Tryz.ntmps265]; simp) (by
  have e : H6 a0 a1 a2 w K = vc P M8 (codeOf Tryz.f265) (env0 [a0, a1, a2]) w (retX P Tryz.f265.results.toList K) := by kernel_rfl
  exact e ▸ h)
def GO (a0 a1 : Value) (w : World) (K : Value → World → Prop) : Prop :=
 nch a0 fun b =>
 fda P 158 b 0 w fun c =>
 ld P 4 c w fun d =>
 ∃ e : Value → World → Prop, (∀ (g : Value) (_ : Env) (h : World), e g h →
 pick d g (.bool false) fun i =>
 cnd i
 (nch a1 fun j =>
 fda P 158 j 1 h fun k =>
 ld P 156 k h fun l =>
 nch a0 fun m =>
 fda P 158 m 1 h fun n =>
 ld P 156 n h fun o =>
 call P FU [l, o] h fun p q =>
 K p q)
 (nch a0 fun r =>
 fda P 158 r 0 h fun s =>
 ld P 4 s h fun t =>
 cnd t
 (K (.int .i64 (-1)) h)
 (nch a1 fun u =>
 fda P 158 u 0 h fun v =>
 ld P 4 v h fun x =>
 cnd x
 (K (.int .i64 1) h)
 (nch a0 fun y =>
 fda P 158 y 1 h fun z =>
 ld P 156 z h fun A =>
 nch a1 fun B =>
 fda P 158 B 1 h fun C =>
 ld P 156 C h fun D =>
 call P FU [A, D] h fun E F =>
 K E F)))) ∧
 grd d true
 (nch a1 fun G =>
 fda P 158 G 0 w fun H =>
 ld P 4 H w fun L =>
 e L w)
 (e undef w)
def Mn : Plan := (.seq rg3 (.seq (.blk (.seq (.reg [.op (0, 0, false), .op (1, 0, false), .op (2, 0, false), .op (3, 0, false), .op (4, 0, false), .grp 4 true [(5, 0, false), (6, 0, false), (7, 0, false), (8, 0, false)] [14] 30720, .op (9, 0, false), .op (10, 0, false)]) (.cond (.seq rg25 .leaf) (.seq rg4 (.cond (.seq rg3 .leaf) (.seq rg4 (.cond (.seq rg3 .leaf) .leaf))))))) (.seq rg25 .leaf)))
theorem TC {a0 a1 : Value} {w : World} {K : Value → World → Prop} (h : GO a0 a1 w K) : call P Hq [a0, a1] w K :=
 Aa mixed Tryz.func266 (c := codeOf Tryz.f266) (by kernel_rfl) (by kernel_rfl) (p := Mn) (by kernel_rfl) (by rw [Tryz.ntmps266]; simp) (by
  have e : GO a0 a1 w K = vc P Mn (codeOf Tryz.f266) (env0 [a0, a1]) w (retX P Tryz.f266.results.toList K) := by kernel_rfl
  exact e ▸ h)
def Nq (a0 a1 : Value) (w : World) (K : Value → World → Prop) : Prop :=
 bl0 P .len #[156] 3 [a0] w fun b =>
 bl0 P .len #[156] 3 [a1] w fun c =>
 bin P .neq 3 false false b c w fun d =>
 cnd d
 (bl0 P .len #[156] 3 [a0] w fun e =>
 bl0 P .len #[156] 3 [a1] w fun g =>
 call P Ij [e, g] w fun h i =>
 K h i)
 (bl0 P .len #[156] 3 [a0] w fun j =>
 bin P .sub 3 false true j (.int .i64 1) w fun k =>
 ∃ l : Nat → Value → World → Prop, (∃ m, l m k w) ∧ ∀ (n : Nat) (o : Value) (_ : Env) (p : World), l n o p →
 bin P .geq 3 false true o (.int .i64 0) p fun q =>
 cnd q
 (ixa P 156 a0 o p fun r =>
 ld P 202 r p fun s =>
 ixa P 156 a1 o p fun t =>
 ld P 202 t p fun u =>
 bin P .neq 202 false false s u p fun v =>
 cnd v
 (ixa P 156 a0 o p fun x =>
 ld P 202 x p fun y =>
 ixa P 156 a1 o p fun z =>
 ld P 202 z p fun A =>
 call P FB [y, A] p fun B C =>
 K B C)
 (bin P .sub 3 false true o (.int .i64 1) p fun D =>
 ∃ E, E < n ∧ l E D p))
 (K (.int .i64 0) p))
def SC : Plan := (.seq rg3 (.seq (.seq rg4 (.cond (.seq rg29 .leaf) .leaf)) (.seq (.seq rg5 (.blk (.loop [5] 2199022731312 (.seq (.seq rg0 (.cond .leaf .leaf)) (.seq (.blk (.seq rg13 (.cond (.seq rg25 .leaf) .leaf))) rg1))))) (.seq rg3 .leaf))))
theorem Aa0 {a0 a1 : Value} {w : World} {K : Value → World → Prop} (h : Nq a0 a1 w K) : call P FU [a0, a1] w K :=
 Aa mixed Tryz.func268 (c := codeOf Tryz.f268) (by kernel_rfl) (by kernel_rfl) (p := SC) (by kernel_rfl) (by rw [Tryz.ntmps268]; simp) (by
  have e : Nq a0 a1 w K = vc P SC (codeOf Tryz.f268) (env0 [a0, a1]) w (retX P Tryz.f268.results.toList K) := by kernel_rfl
  exact e ▸ h)
def LG (a0 a1 : Value) (w : World) (K : Value → World → Prop) : Prop :=
 bl0 P .len #[156] 3 [a0] w fun b =>
 bin P .eql 3 false true b (.int .i64 0) w fun c =>
 cnd c
 (K (.slice none 0 0) w)
 (bin P .quo 154 false true a1 (.int .u64 32) w fun d =>
 cnv P 154 3 d w fun e =>
 bl0 P .len #[156] 3 [a0] w fun g =>
 bin P .add 3 false false e g w fun h =>
 bin P .add 3 false true h (.int .i64 1) w fun i =>
 mks P 156 i i w fun j k =>
 bl0 P .len #[156] 3 [a0] k fun l =>
 ∃ m : Nat → Value → World → Prop, (∃ n, m n (.int .i64 0) k) ∧ ∀ (o : Nat) (p : Value) (_ : Env) (q : World), m o p q →
 bin P .lss 3 false false p l q fun r =>
 cnd r
 (ixa P 156 a0 p q fun s =>
 ld P 202 s q fun t =>
 cnv P 202 178 t q fun u =>
 bin P .rem 154 false true a1 (.int .u64 32) q fun v =>
 bin P .shl 178 false false u v q fun x =>
 bin P .quo 154 false true a1 (.int .u64 32) q fun y =>
 cnv P 154 3 y q fun z =>
 bin P .add 3 false false z p q fun A =>
 ixa P 156 j A q fun B =>
 ld P 202 B q fun C =>
 cnv P 178 202 x q fun D =>
 bin P .or 202 false false C D q fun E =>
 ixa P 156 j A q fun F =>
 sto P 202 F E q fun G =>
 bin P .quo 154 false true a1 (.int .u64 32) G fun H =>
 cnv P 154 3 H G fun L =>
 bin P .add 3 false false L p G fun M =>
 bin P .add 3 false true M (.int .i64 1) G fun N =>
 bin P .shr 178 false true x (.int .u64 32) G fun O =>
 cnv P 178 202 O G fun Q =>
 ixa P 156 j N G fun R =>
 sto P 202 R Q G fun S =>
 bin P .add 3 false true p (.int .i64 1) S fun T =>
 ∃ U, U < o ∧ m U T S)
 (call P Bp [j] q fun V W =>
 K V W))
def Qt : Plan := (.seq rg3 (.seq (.seq rg1 (.cond (.seq rg3 .leaf) .leaf)) (.seq (.reg [.op (0, 0, false), .op (1, 0, false), .op (2, 0, false), .op (3, 0, false), .op (4, 0, false), .op (5, 0, false), .op (6, 0, false), .op (7, 2, false), .op (8, 0, false)]) (.seq (.seq rg1 (.blk (.loop [22] 72057594033734080 (.seq rg3 (.seq (.cond .leaf .leaf) (.seq (.blk (.seq rg4 (.seq rg9 (.seq (.reg [.op (0, 0, false), .op (1, 0, false), .op (2, 0, false), .op (3, 0, false), .op (4, 0, false), .op (5, 0, false), .op (6, 0, false), .op (7, 0, false), .op (8, 0, false), .op (9, 0, false), .op (10, 0, false), .op (11, 0, false), .op (12, 2, false)]) (.reg [.op (0, 0, false), .op (1, 0, false), .op (2, 0, false), .op (3, 0, false), .op (4, 0, false), .op (5, 0, false), .op (6, 0, false), .op (7, 0, false), .op (8, 0, false), .op (9, 0, false), .op (10, 0, false), .op (11, 2, false)]))))) rg0)))))) (.seq rg2 .leaf)))))
theorem Ze {a0 a1 : Value} {w : World} {K : Value → World → Prop} (h : LG a0 a1 w K) : call P KY [a0, a1] w K :=
 Aa mixed Tryz.func269 (c := codeOf Tryz.f269) (by kernel_rfl) (by kernel_rfl) (p := Qt) (by kernel_rfl) (by rw [Tryz.ntmps269]; simp) (by
  have e : LG a0 a1 w K = vc P Qt (codeOf Tryz.f269) (env0 [a0, a1]) w (retX P Tryz.f269.results.toList K) := by kernel_rfl
  exact e ▸ h)
def Ig (a0 a1 a2 : Value) (w : World) (K : Value → World → Prop) : Prop :=
 nch a1 fun b =>
 fda P 158 b 1 w fun c =>
 ld P 156 c w fun d =>
 bl0 P .len #[156] 3 [d] w fun e =>
 nch a2 fun g =>
 fda P 158 g 1 w fun h =>
 ld P 156 h w fun i =>
 bl0 P .len #[156] 3 [i] w fun j =>
 bl0 P .max #[3, 3] 3 [e, j] w fun k =>
 mks P 156 k k w fun l m =>
 nch a1 fun n =>
 fda P 158 n 1 m fun o =>
 ld P 156 o m fun p =>
 bl2 P .copy #[156, 156] 3 [l, p] m fun q r =>
 nch a2 fun s =>
 fda P 158 s 1 r fun t =>
 ld P 156 t r fun u =>
 bl0 P .len #[156] 3 [u] r fun v =>
 ∃ x : Nat → Value → World → Prop, (∃ y, x y (.int .i64 0) r) ∧ ∀ (z : Nat) (A : Value) (_ : Env) (B : World), x z A B →
 bin P .lss 3 false false A v B fun C =>
 cnd C
 (ixa P 156 u A B fun D =>
 ld P 202 D B fun E =>
 ixa P 156 l A B fun F =>
 ld P 202 F B fun G =>
 bin P .or 202 false false G E B fun H =>
 ixa P 156 l A B fun L =>
 sto P 202 L H B fun M =>
 bin P .add 3 false true A (.int .i64 1) M fun N =>
 ∃ O, O < z ∧ x O N M)
 (call P AQ [a0, (.bool false), l] B fun Q R =>
 K Q R)
def Nu : Plan := (.seq rg3 (.seq (.reg [.op (0, 0, false), .op (1, 0, false), .op (2, 0, false), .op (3, 0, false), .op (4, 0, false), .op (5, 0, false), .op (6, 0, false), .op (7, 0, false), .op (8, 0, false), .op (9, 0, false), .op (10, 0, false), .op (11, 2, false), .op (12, 0, false)]) (.seq rg36 (.seq (.seq rg9 (.blk (.loop [33] 70360154243840 (.seq rg3 (.seq (.cond .leaf .leaf) (.seq (.blk (.seq rg4 rg23)) rg0)))))) (.seq rg8 .leaf)))))
theorem UI {a0 a1 a2 : Value} {w : World} {K : Value → World → Prop} (h : Ig a0 a1 a2 w K) : call P HW [a0, a1, a2] w K :=
 Aa mixed Tryz.func280 (c := codeOf Tryz.f280) (by kernel_rfl) (by kernel_rfl) (p := Nu) (by kernel_rfl) (by rw [Tryz.ntmps280]; simp) (by
  have e : Ig a0 a1 a2 w K = vc P Nu (codeOf Tryz.f280) (env0 [a0, a1, a2]) w (retX P Tryz.f280.results.toList K) := by kernel_rfl
  exact e ▸ h)
end


set_option maxRecDepth 20000
section
open Go Go.Vc
def OB (a0 : Value) (w : World) (K : Value → World → Prop) : Prop :=
 alc P 105 w fun b c =>
 call P Oj [a0] c fun d e =>
 xtr P d 0 e fun g =>
 xtr P d 1 e fun h =>
 call P CW [g] e fun i j =>
 bld P 105 [(0, i), (1, h)] j fun k =>
 sto P 105 b k j fun l =>
 ldc P 105 b l fun m =>
 K m l
def Ti : Plan := (.seq rg55 (.seq rg7 (.seq (.reg [.op (0, 0, false), .op (1, 2, false), .op (2, 0, false), .op (3, 0, false), .op (4, 2, false)]) .leaf)))
theorem Ab5 {a0 : Value} {w : World} {K : Value → World → Prop} (h : OB a0 w K) : call P C4 [a0] w K :=
 Aa mixed Tryz.func78 (c := codeOf Tryz.f78) (by kernel_rfl) (by kernel_rfl) (p := Ti) (by kernel_rfl) (by rw [Tryz.ntmps78]; simp) (by
  have e : OB a0 w K = vc P Ti (codeOf Tryz.f78) (env0 [a0]) w (retX P Tryz.f78.results.toList K) := by kernel_rfl
  exact e ▸ h)
def JN (a0 : Value) (w : World) (K : Value → World → Prop) : Prop :=
 bx P 105 a0 w fun b c =>
 fda P 105 b 0 c fun d =>
 ld P 103 d c fun e =>
 call P Cy [e] c fun g h =>
 K g h
def P8 : Plan := (.seq rg6 (.seq rg8 .leaf))
theorem WQ {a0 : Value} {w : World} {K : Value → World → Prop} (h : JN a0 w K) : call P BD [a0] w K :=
 Aa mixed Tryz.func125 (c := codeOf Tryz.f125) (by kernel_rfl) (by kernel_rfl) (p := P8) (by kernel_rfl) (by rw [Tryz.ntmps125]; simp) (by
  have e : JN a0 w K = vc P P8 (codeOf Tryz.f125) (env0 [a0]) w (retX P Tryz.f125.results.toList K) := by kernel_rfl
  exact e ▸ h)
def LK (a0 : Value) (w : World) (K : Value → World → Prop) : Prop :=
 bx P 105 a0 w fun b c =>
 alc P 105 c fun d e =>
 fda P 105 b 0 e fun g =>
 ld P 103 g e fun h =>
 fda P 105 b 1 e fun i =>
 ld P 3 i e fun j =>
 alc P 158 e fun k l =>
 Ext e l ∧ call P EC [k, h] l fun m n =>
 (fda P 105 b 1 n fun z => z = i) ∧ (ld P 3 i n fun z => z = j) ∧ bld P 105 [(0, m), (1, j)] n fun o =>
 sto P 105 d o n fun p =>
 ldc P 105 d p fun q =>
 K q p
def Q6 : Plan := (.seq rg38 (.seq (.reg [.op (1, 0, false), .op (2, 0, false), .op (4, 0, false), .op (5, 0, false), .op (0, 2, true), .op (3, 50, false), .op (6, 0, false), .op (7, 2, false)]) .leaf))
theorem YD {a0 : Value} {w : World} {K : Value → World → Prop} (h : LK a0 w K) : call P Lp [a0] w K :=
 Aa mixed Tryz.func130 (c := codeOf Tryz.f130) (by kernel_rfl) (by kernel_rfl) (p := Q6) (by kernel_rfl) (by rw [Tryz.ntmps130]; simp) (by
  have e : LK a0 w K = vc P Q6 (codeOf Tryz.f130) (env0 [a0]) w (retX P Tryz.f130.results.toList K) := by kernel_rfl
  exact e ▸ h)
def Kq (a0 a1 : Value) (w : World) (K : Value → World → Prop) : Prop :=
 bx P 105 a0 w fun b c =>
 bx P 105 a1 c fun d e =>
 alc P 105 e fun g h =>
 fda P 105 b 0 h fun i =>
 ld P 103 i h fun j =>
 fda P 105 d 0 h fun k =>
 ld P 103 k h fun l =>
 fda P 105 b 1 h fun m =>
 ld P 3 m h fun n =>
 fda P 105 d 1 h fun o =>
 ld P 3 o h fun p =>
 bin P .add 3 false false n p h fun q =>
 alc P 158 h fun r s =>
 Ext h s ∧ call P GW [r, j, l] s fun t u =>
 (fda P 105 b 1 u fun z => z = m) ∧ (ld P 3 m u fun z => z = n) ∧ (fda P 105 d 1 u fun z => z = o) ∧ (ld P 3 o u fun z => z = p) ∧ (bin P .add 3 false false n p u fun z => z = q) ∧ bld P 105 [(0, t), (1, q)] u fun v =>
 sto P 105 g v u fun x =>
 ldc P 105 g x fun y =>
 K y x
def QS : Plan := (.seq rg40 (.seq (.reg [.op (1, 0, false), .op (2, 0, false), .op (3, 0, false), .op (4, 0, false), .op (6, 0, false), .op (7, 0, false), .op (8, 0, false), .op (9, 0, false), .op (10, 0, false), .op (0, 2, true), .op (5, 1986, false), .op (11, 0, false), .op (12, 2, false)]) .leaf))
theorem Yj {a0 a1 : Value} {w : World} {K : Value → World → Prop} (h : Kq a0 a1 w K) : call P KQ [a0, a1] w K :=
 Aa mixed Tryz.func132 (c := codeOf Tryz.f132) (by kernel_rfl) (by kernel_rfl) (p := QS) (by kernel_rfl) (by rw [Tryz.ntmps132]; simp) (by
  have e : Kq a0 a1 w K = vc P QS (codeOf Tryz.f132) (env0 [a0, a1]) w (retX P Tryz.f132.results.toList K) := by kernel_rfl
  exact e ▸ h)
def Lg (a0 a1 : Value) (w : World) (K : Value → World → Prop) : Prop :=
 bx P 105 a0 w fun b c =>
 bx P 105 a1 c fun d e =>
 alc P 105 e fun g h =>
 ld P 105 b h fun i =>
 call P BD [i] h fun j k =>
 bin P .eql 3 false true j (.int .i64 0) k fun l =>
 cnd l
 (ld P 105 d k fun m =>
 sto P 105 g m k fun n =>
 ldc P 105 g n fun o =>
 K o n)
 (ld P 105 d k fun p =>
 call P BD [p] k fun q r =>
 bin P .eql 3 false true q (.int .i64 0) r fun s =>
 cnd s
 (ld P 105 b r fun t =>
 sto P 105 g t r fun u =>
 ldc P 105 g u fun v =>
 K v u)
 (fda P 105 b 1 r fun x =>
 ld P 3 x r fun y =>
 fda P 105 d 1 r fun z =>
 ld P 3 z r fun A =>
 bl0 P .min #[3, 3] 3 [y, A] r fun B =>
 ∃ C : World → Prop, (∀ (_ : Env) (D : World), C D →
 ldc P 105 g D fun E =>
 K E D) ∧
 (ld P 105 b r fun F =>
 ld P 105 d r fun G =>
 (alc P 158 r fun H L =>
 Ext r L ∧ call P D4 [F, B] L fun M N =>
 Ext L N ∧ call P D4 [G, B] N fun O Q =>
 call P BP [H, M, O] Q fun R S =>
 bld P 105 [(0, R), (1, B)] S fun T =>
 sto P 105 g T S fun U =>
 C U) ∧
 (call P D4 [F, B] r fun V W =>
 Ext r W ∧ (alc P 158 W fun X Y =>
 Ext W Y ∧ call P D4 [G, B] Y fun Z b0 =>
 call P BP [X, V, Z] b0 fun c0 d0 =>
 bld P 105 [(0, c0), (1, B)] d0 fun e0 =>
 sto P 105 g e0 d0 fun g0 =>
 C g0) ∧
 (call P D4 [G, B] W fun h0 i0 =>
 alc P 158 i0 fun j0 k0 =>
 Ext i0 k0 ∧ call P BP [j0, V, h0] k0 fun l0 m0 =>
 bld P 105 [(0, l0), (1, B)] m0 fun n0 =>
 sto P 105 g n0 m0 fun o0 =>
 C o0)))))
def Rh : Plan := (.seq rg40 (.seq (.blk (.seq rg14 (.cond (.seq rg31 .leaf) (.seq rg14 (.cond (.seq rg31 .leaf) .leaf))))) (.seq rg9 (.seq (.tree [] 2145386496 (.op (1, 0, false) (.op (2, 0, false) (.op (4, 0, false) (.op (5, 0, false) (.op (8, 0, false) (.fork (0, 2, true) (.fork (3, 2, true) (.fork (6, 2, false) (.fork (7, 2, false) (.op (9, 0, false) (.fork (10, 2, false) .done .stop)) .stop) .stop) .stop) (.fork (3, 2, true) (.fork (0, 2, true) (.fork (6, 2, false) (.fork (7, 2, false) (.op (9, 0, false) (.fork (10, 2, false) .done .stop)) .stop) .stop) (.fork (6, 2, false) (.fork (0, 2, true) (.fork (7, 2, false) (.op (9, 0, false) (.fork (10, 2, false) .done .stop)) .stop) .stop) .stop)) .stop)))))))) .leaf))))
theorem XN {a0 a1 : Value} {w : World} {K : Value → World → Prop} (h : Lg a0 a1 w K) : call P Ft [a0, a1] w K :=
 Aa mixed Tryz.func134 (c := codeOf Tryz.f134) (by kernel_rfl) (by kernel_rfl) (p := Rh) (by kernel_rfl) (by rw [Tryz.ntmps134]; simp) (by
  have e : Lg a0 a1 w K = vc P Rh (codeOf Tryz.f134) (env0 [a0, a1]) w (retX P Tryz.f134.results.toList K) := by kernel_rfl
  exact e ▸ h)
def K0 (a0 a1 : Value) (w : World) (K : Value → World → Prop) : Prop :=
 bx P 105 a0 w fun b c =>
 bx P 105 a1 c fun d e =>
 alc P 105 e fun g h =>
 ld P 105 b h fun i =>
 ld P 105 d h fun j =>
 call P Lp [j] h fun k l =>
 Ext h l ∧ call P Ft [i, k] l fun m n =>
 sto P 105 g m n fun o =>
 ldc P 105 g o fun p =>
 K p o
def QY : Plan := (.seq rg40 (.seq (.reg [.op (0, 0, false), .op (1, 0, false), .op (2, 2, true), .op (3, 2, false), .op (4, 2, false)]) .leaf))
theorem YQ {a0 a1 : Value} {w : World} {K : Value → World → Prop} (h : K0 a0 a1 w K) : call P HM [a0, a1] w K :=
 Aa mixed Tryz.func135 (c := codeOf Tryz.f135) (by kernel_rfl) (by kernel_rfl) (p := QY) (by kernel_rfl) (by rw [Tryz.ntmps135]; simp) (by
  have e : K0 a0 a1 w K = vc P QY (codeOf Tryz.f135) (env0 [a0, a1]) w (retX P Tryz.f135.results.toList K) := by kernel_rfl
  exact e ▸ h)
def Kx (a0 a1 : Value) (w : World) (K : Value → World → Prop) : Prop :=
 bx P 105 a0 w fun b c =>
 bx P 105 a1 c fun d e =>
 ld P 105 b e fun g =>
 ld P 105 d e fun h =>
 call P HM [g, h] e fun i j =>
 call P BD [i] j fun k l =>
 K k l
def Q4 : Plan := (.seq rg47 (.seq rg33 .leaf))
theorem Ye {a0 a1 : Value} {w : World} {K : Value → World → Prop} (h : Kx a0 a1 w K) : call P Ls [a0, a1] w K :=
 Aa mixed Tryz.func136 (c := codeOf Tryz.f136) (by kernel_rfl) (by kernel_rfl) (p := Q4) (by kernel_rfl) (by rw [Tryz.ntmps136]; simp) (by
  have e : Kx a0 a1 w K = vc P Q4 (codeOf Tryz.f136) (env0 [a0, a1]) w (retX P Tryz.f136.results.toList K) := by kernel_rfl
  exact e ▸ h)
def GR (a0 : Value) (w : World) (K : Value → World → Prop) : Prop :=
 alc P 57 w fun b c =>
 call P MU [a0, (.string ⟨#[112]⟩)] c fun d e =>
 xtr P d 0 e fun g =>
 xtr P d 1 e fun h =>
 xtr P d 2 e fun i =>
 una P .not i e fun j =>
 ∃ k : Value → World → Prop, (∀ (l : Value) (_ : Env) (m : World), k l m →
 pick j (.bool true) l fun n =>
 ∃ o : Value → World → Prop, (∀ (p : Value) (_ : Env) (q : World), o p q →
 pick n (.bool true) p fun r =>
 cnd r
 (bld P 57 [] q fun s =>
 sto P 57 b s q fun t =>
 ldc P 57 b t fun u =>
 K (.tuple #[u, (.int .i64 6)]) t)
 (call P HX [g] q fun v x =>
 xtr P v 0 x fun y =>
 xtr P v 1 x fun z =>
 alc P 55 x fun A B =>
 sto P 55 A y B fun C =>
 call P Hk [h, (.int .i64 10), (.int .i64 64)] C fun D E =>
 xtr P D 0 E fun F =>
 xtr P D 1 E fun G =>
 ld P 55 A E fun H =>
 bld P 57 [(0, H), (1, F)] E fun L =>
 alc P 57 E fun M N =>
 sto P 57 M L N fun O =>
 bin P .neq 2 false true z (.int .i64 0) O fun Q =>
 ∃ R : Value → World → Prop, (∀ (S : Value) (_ : Env) (T : World), R S T →
 pick Q (.bool true) S fun U =>
 ∃ V : Value → World → Prop, (∀ (W : Value) (_ : Env) (X : World), V W X →
 pick U (.bool true) W fun Y =>
 cnd Y
 (bld P 57 [] X fun Z =>
 sto P 57 b Z X fun b0 =>
 ldc P 57 b b0 fun c0 =>
 K (.tuple #[c0, (.int .i64 6)]) b0)
 (ld P 57 M X fun d0 =>
 sto P 57 b d0 X fun e0 =>
 ldc P 57 b e0 fun g0 =>
 K (.tuple #[g0, (.int .i64 0)]) e0)) ∧
 grd U false
 (ld P 57 M T fun h0 =>
 call P G6 [h0] T fun i0 j0 =>
 una P .not i0 j0 fun k0 =>
 V k0 j0)
 (V undef T)) ∧
 grd Q false
 (bin P .neq 189 false true G .nilIface O fun l0 =>
 R l0 O)
 (R undef O))) ∧
 grd n false
 (bl0 P .len #[9] 3 [h] m fun m0 =>
 bin P .gtr 3 false true m0 (.int .i64 6) m fun n0 =>
 o n0 m)
 (o undef m)) ∧
 grd j false
 (call P FM [h] e fun o0 p0 =>
 una P .not o0 p0 fun q0 =>
 k q0 p0)
 (k undef e)
def LX : Plan := (.seq rg6 (.seq (.reg [.op (0, 0, false), .op (1, 2, false), .op (2, 0, false), .op (3, 0, false), .op (4, 0, false), .op (5, 0, false), .op (6, 0, false), .op (7, 0, false), .op (8, 0, false)]) (.seq (.seq (.reg [.op (0, 0, false), .op (1, 0, false), .op (2, 0, false), .grp 2 false [(3, 0, false), (4, 2, false), (5, 0, false)] [23] 14680064, .op (6, 0, false), .op (7, 0, false), .grp 7 false [(8, 0, false), (9, 0, false), (10, 0, false)] [28] 469762048, .op (11, 0, false)]) (.cond (.seq rg2 .leaf) .leaf)) (.seq rg12 (.seq rg7 (.seq (.reg [.op (0, 0, false), .op (1, 0, false), .op (2, 0, false), .op (3, 2, false), .op (4, 2, false)]) (.seq (.seq (.reg [.op (0, 0, false), .op (1, 0, false), .op (2, 0, false), .grp 2 false [(3, 0, false), (4, 0, false)] [48] 422212465065984, .op (5, 0, false), .op (6, 0, false), .grp 6 false [(7, 0, false), (8, 2, false), (9, 0, false)] [53] 15762598695796736, .op (10, 0, false)]) (.cond (.seq rg2 .leaf) .leaf)) (.seq rg2 .leaf))))))))
theorem T8 {a0 : Value} {w : World} {K : Value → World → Prop} (h : GR a0 w K) : call P Hw [a0] w K :=
 Aa mixed Tryz.func182 (c := codeOf Tryz.f182) (by kernel_rfl) (by kernel_rfl) (p := LX) (by kernel_rfl) (by rw [Tryz.ntmps182]; simp) (by
  have e : GR a0 w K = vc P LX (codeOf Tryz.f182) (env0 [a0]) w (retX P Tryz.f182.results.toList K) := by kernel_rfl
  exact e ▸ h)
def Ht (a0 a1 : Value) (w : World) (K : Value → World → Prop) : Prop :=
 bx P 57 a0 w fun b c =>
 ld P 57 b c fun d =>
 call P G6 [d] c fun e g =>
 una P .not e g fun h =>
 cnd h
 (K (.tuple #[(.float .f32 0), (.int .i64 0), (.int .i64 1)]) g)
 (call P Nj [a1] g fun i j =>
 una P .not i j fun k =>
 cnd k
 (K (.tuple #[(.float .f32 0), (.int .i64 0), (.int .i64 2)]) j)
 (ld P 57 b j fun l =>
 call P JC [l] j fun m n =>
 call P FL [m, a1] n fun o p =>
 xtr P o 0 p fun q =>
 xtr P o 1 p fun r =>
 K (.tuple #[q, r, (.int .i64 0)]) p))
def M6 : Plan := (.seq (.reg [.op (0, 2, false), .op (1, 0, false), .op (2, 0, false), .op (3, 0, false)]) (.seq (.seq rg2 (.cond (.seq rg1 .leaf) .leaf)) (.seq (.seq rg2 (.cond (.seq rg1 .leaf) .leaf)) (.seq (.reg [.op (0, 0, false), .op (1, 2, false), .op (2, 0, false), .op (3, 2, false), .op (4, 0, false), .op (5, 0, false), .op (6, 0, false), .op (7, 0, false), .op (8, 0, false)]) (.seq rg4 .leaf)))))
theorem TY {a0 a1 : Value} {w : World} {K : Value → World → Prop} (h : Ht a0 a1 w K) : call P GZ [a0, a1] w K :=
 Aa mixed Tryz.func183 (c := codeOf Tryz.f183) (by kernel_rfl) (by kernel_rfl) (p := M6) (by kernel_rfl) (by rw [Tryz.ntmps183]; simp) (by
  have e : Ht a0 a1 w K = vc P M6 (codeOf Tryz.f183) (env0 [a0, a1]) w (retX P Tryz.f183.results.toList K) := by kernel_rfl
  exact e ▸ h)
def Nl (a0 a1 : Value) (w : World) (K : Value → World → Prop) : Prop :=
 bx P 105 a0 w fun b c =>
 alc P 158 c fun d e =>
 fda P 105 b 0 e fun g =>
 ld P 103 g e fun h =>
 fda P 105 b 1 e fun i =>
 ld P 3 i e fun j =>
 bin P .sub 3 false false j a1 e fun k =>
 cnv P 3 154 k e fun l =>
 call P Cm [d, h, l] e fun m n =>
 K m n
def Sh : Plan := (.seq rg6 (.seq (.reg [.op (0, 2, false), .op (1, 0, false), .op (2, 0, false), .op (3, 0, false), .op (4, 0, false), .op (5, 0, false), .op (6, 0, false), .op (7, 0, false), .op (8, 2, false), .op (9, 0, false)]) .leaf))
theorem ZX {a0 a1 : Value} {w : World} {K : Value → World → Prop} (h : Nl a0 a1 w K) : call P D4 [a0, a1] w K :=
 Aa mixed Tryz.func188 (c := codeOf Tryz.f188) (by kernel_rfl) (by kernel_rfl) (p := Sh) (by kernel_rfl) (by rw [Tryz.ntmps188]; simp) (by
  have e : Nl a0 a1 w K = vc P Sh (codeOf Tryz.f188) (env0 [a0, a1]) w (retX P Tryz.f188.results.toList K) := by kernel_rfl
  exact e ▸ h)
def JH (a0 : Value) (w : World) (K : Value → World → Prop) : Prop :=
 bx P 57 a0 w fun b c =>
 fda P 57 b 0 c fun d =>
 ld P 55 d c fun e =>
 call P KD [e] c fun g h =>
 una P .not g h fun i =>
 cnd i
 (K (.bool false) h)
 (fda P 57 b 0 h fun j =>
 fda P 55 j 0 h fun k =>
 ld P 2 k h fun l =>
 bin P .eql 2 false true l (.int .i64 0) h fun m =>
 cnd m
 (fda P 57 b 1 h fun n =>
 ld P 2 n h fun o =>
 bin P .eql 2 false true o (.int .i64 0) h fun p =>
 K p h)
 (fda P 57 b 0 h fun q =>
 fda P 55 q 1 h fun r =>
 ld P 53 r h fun s =>
 ixa P 53 s (.int .i64 0) h fun t =>
 ld P 2 t h fun u =>
 bin P .rem 2 false true u (.int .i64 2) h fun v =>
 bin P .eql 2 false true v (.int .i64 1) h fun x =>
 ∃ y : Value → World → Prop, (∀ (z : Value) (_ : Env) (A : World), y z A →
 pick x z (.bool false) fun B =>
 ∃ C : Value → World → Prop, (∀ (D : Value) (_ : Env) (E : World), C D E →
 pick B D (.bool false) fun F =>
 K F E) ∧
 grd B true
 (fda P 57 b 1 A fun G =>
 ld P 2 G A fun H =>
 bin P .leq 2 false true H (.int .i64 3000) A fun L =>
 C L A)
 (C undef A)) ∧
 grd x true
 (fda P 57 b 1 h fun M =>
 ld P 2 M h fun N =>
 bin P .geq 2 false true N (.int .i64 (-3000)) h fun O =>
 y O h)
 (y undef h)))
def PQ : Plan := (.seq rg6 (.seq (.seq rg8 (.cond (.seq rg3 .leaf) .leaf)) (.seq (.seq rg5 (.cond (.seq rg5 .leaf) .leaf)) (.seq (.reg [.op (0, 0, false), .op (1, 0, false), .op (2, 0, false), .op (3, 0, false), .op (4, 0, false), .op (5, 0, false), .op (6, 0, false), .op (7, 0, false), .grp 7 true [(8, 0, false), (9, 0, false), (10, 0, false)] [24] 29360128, .op (11, 0, false), .op (12, 0, false), .grp 12 true [(13, 0, false), (14, 0, false), (15, 0, false)] [29] 939524096, .op (16, 0, false), .op (17, 0, false)]) .leaf))))
theorem Xs {a0 : Value} {w : World} {K : Value → World → Prop} (h : JH a0 w K) : call P G6 [a0] w K :=
 Aa mixed Tryz.func226 (c := codeOf Tryz.f226) (by kernel_rfl) (by kernel_rfl) (p := PQ) (by kernel_rfl) (by rw [Tryz.ntmps226]; simp) (by
  have e : JH a0 w K = vc P PQ (codeOf Tryz.f226) (env0 [a0]) w (retX P Tryz.f226.results.toList K) := by kernel_rfl
  exact e ▸ h)
def MY (a0 : Value) (w : World) (K : Value → World → Prop) : Prop :=
 bin P .geq 2 false true a0 (.int .i64 0) w fun b =>
 ∃ c : Value → World → Prop, (∀ (d : Value) (_ : Env) (e : World), c d e →
 pick b d (.bool false) fun g =>
 K g e) ∧
 grd b true
 (bin P .leq 2 false true a0 (.int .i64 4) w fun h =>
 c h w)
 (c undef w)
def Sv : Plan := (.seq rg3 (.seq (.reg [.op (0, 0, false), .op (1, 0, false), .op (2, 0, false), .grp 2 true [(3, 0, false), (4, 0, false)] [7] 192, .op (5, 0, false), .op (6, 0, false)]) .leaf))
theorem Aay {a0 : Value} {w : World} {K : Value → World → Prop} (h : MY a0 w K) : call P Nj [a0] w K :=
 Aa mixed Tryz.func227 (c := codeOf Tryz.f227) (by kernel_rfl) (by kernel_rfl) (p := Sv) (by kernel_rfl) (by rw [Tryz.ntmps227]; simp) (by
  have e : MY a0 w K = vc P Sv (codeOf Tryz.f227) (env0 [a0]) w (retX P Tryz.f227.results.toList K) := by kernel_rfl
  exact e ▸ h)
def J1 (a0 : Value) (w : World) (K : Value → World → Prop) : Prop :=
 bx P 57 a0 w fun b c =>
 alc P 105 c fun d e =>
 fda P 57 b 0 e fun g =>
 ld P 55 g e fun h =>
 fda P 57 b 1 e fun i =>
 ld P 2 i e fun j =>
 call P OH [h] e fun k l =>
 Ext e l ∧ bld P 105 [(0, k), (1, j)] l fun m =>
 sto P 105 d m l fun n =>
 ldc P 105 d n fun o =>
 K o n
def PC : Plan := (.seq rg38 (.seq (.reg [.op (0, 0, false), .op (1, 0, false), .op (3, 0, false), .op (4, 0, false), .op (2, 2, true), .op (5, 0, false), .op (6, 2, false)]) .leaf))
theorem W3 {a0 : Value} {w : World} {K : Value → World → Prop} (h : J1 a0 w K) : call P JC [a0] w K :=
 Aa mixed Tryz.func228 (c := codeOf Tryz.f228) (by kernel_rfl) (by kernel_rfl) (p := PC) (by kernel_rfl) (by rw [Tryz.ntmps228]; simp) (by
  have e : J1 a0 w K = vc P PC (codeOf Tryz.f228) (env0 [a0]) w (retX P Tryz.f228.results.toList K) := by kernel_rfl
  exact e ▸ h)
def IK (a0 a1 : Value) (w : World) (K : Value → World → Prop) : Prop :=
 bx P 105 a0 w fun b c =>
 bx P 2 a1 c fun d e =>
 ld P 105 b e fun g =>
 call P BD [g] e fun h i =>
 bin P .eql 3 false true h (.int .i64 0) i fun j =>
 cnd j
 (K (.tuple #[(.float .f32 0), (.int .i64 0)]) i)
 (∃ k : Value → Value → World → Prop, (∀ (l : Value) (m : Value) (_ : Env) (n : World), k l m n →
 fda P 105 b 1 n fun o =>
 ld P 3 o n fun p =>
 bin P .add 3 false false m p n fun q =>
 bin P .gtr 3 false true q (.int .i64 128) n fun r =>
 cnd r
 (callv P (.func (.func 262) #[] #[d, l]) [] n fun s t =>
 xtr P s 0 t fun u =>
 xtr P s 1 t fun v =>
 K (.tuple #[u, v]) t)
 (fda P 105 b 1 n fun x =>
 ld P 3 x n fun y =>
 bin P .add 3 false false m y n fun z =>
 bin P .sub 3 false true z (.int .i64 24) n fun A =>
 bl0 P .max #[3, 3] 3 [A, (.int .i64 (-149))] n fun B =>
 alc P 158 n fun C D =>
 fda P 105 b 0 D fun E =>
 ld P 103 E D fun F =>
 call P EB [C, F] D fun G H =>
 alc P 158 H fun L M =>
 ∃ N : Value → World → Prop, (∀ (O : Value) (_ : Env) (Q : World), N O Q →
 call P BK [L] Q fun R S =>
 bin P .add 3 false false R B S fun T =>
 bin P .gtr 3 false true T (.int .i64 128) S fun U =>
 cnd U
 (callv P (.func (.func 262) #[] #[d, l]) [] S fun V W =>
 xtr P V 0 W fun X =>
 xtr P V 1 W fun Y =>
 K (.tuple #[X, Y]) W)
 (call P CI [L] S fun Z b0 =>
 cnv P 2 117 Z b0 fun c0 =>
 call P Jt [c0, B] b0 fun d0 e0 =>
 rcnv P 117 66 d0 e0 fun g0 =>
 ld P 3 l e0 fun h0 =>
 bin P .lss 3 false true h0 (.int .i64 0) e0 fun i0 =>
 cnd i0
 (una P .neg g0 e0 fun j0 =>
 K (.tuple #[j0, O]) e0)
 (K (.tuple #[g0, O]) e0))) ∧
 (fda P 105 b 1 M fun k0 =>
 ld P 3 k0 M fun l0 =>
 bin P .geq 3 false false l0 B M fun m0 =>
 cnd m0
 (fda P 105 b 1 M fun n0 =>
 ld P 3 n0 M fun o0 =>
 bin P .sub 3 false false o0 B M fun p0 =>
 cnv P 3 154 p0 M fun q0 =>
 call P Cm [L, G, q0] M fun r0 s0 =>
 N (.int .i64 0) s0)
 (fda P 105 b 1 M fun t0 =>
 ld P 3 t0 M fun u0 =>
 bin P .sub 3 false false B u0 M fun v0 =>
 cnv P 3 154 v0 M fun x0 =>
 call P EK [L, G, x0] M fun y0 z0 =>
 alc P 158 z0 fun A0 B0 =>
 alc P 158 B0 fun C0 D0 =>
 call P Cm [C0, L, x0] D0 fun E0 F0 =>
 call P GU [A0, G, E0] F0 fun G0 H0 =>
 call P Cy [G0] H0 fun L0 M0 =>
 bin P .neq 3 false true L0 (.int .i64 0) M0 fun N0 =>
 cnd N0
 (∃ O0 : Value → World → Prop, (∀ (Q0 : Value) (_ : Env) (R0 : World), O0 Q0 R0 →
 alc P 158 R0 fun S0 T0 =>
 call P CW [(.int .i64 1)] T0 fun U0 V0 =>
 bin P .sub 154 false true x0 (.int .u64 1) V0 fun W0 =>
 call P Cm [S0, U0, W0] V0 fun X0 Y0 =>
 call P Hq [G0, X0] Y0 fun Z0 b1 =>
 ∃ c1 : Value → World → Prop, (∀ (d1 : Value) (_ : Env) (e1 : World), c1 d1 e1 →
 cnd d1
 (call P CW [(.int .i64 1)] e1 fun g1 h1 =>
 call P BP [L, L, g1] h1 fun i1 j1 =>
 N Q0 j1)
 (N Q0 e1)) ∧
 (ld P 2 d b1 fun k1 =>
 bin P .eql 2 false true k1 (.int .i64 0) b1 fun l1 =>
 cnd l1
 (bin P .gtr 3 false true Z0 (.int .i64 0) b1 fun m1 =>
 ∃ n1 : Value → World → Prop, (∀ (o1 : Value) (_ : Env) (p1 : World), n1 o1 p1 →
 ∃ q1 : Value → World → Prop, (∀ (r1 : Value) (_ : Env) (s1 : World), q1 r1 s1 →
 ∃ t1 : Value → World → Prop, (∀ (u1 : Value) (_ : Env) (v1 : World), t1 u1 v1 →
 pick m1 (.bool true) u1 fun x1 =>
 c1 x1 v1) ∧
 grd m1 false
 (pick o1 r1 (.bool false) fun y1 =>
 t1 y1 s1)
 (t1 undef s1)) ∧
 grd o1 true
 (call P Er [L, (.int .i64 0)] p1 fun z1 A1 =>
 bin P .eql 154 false true z1 (.int .u64 1) A1 fun B1 =>
 q1 B1 A1)
 (q1 undef p1)) ∧
 grd m1 false
 (bin P .eql 3 false true Z0 (.int .i64 0) b1 fun C1 =>
 n1 C1 b1)
 (n1 undef b1))
 (bin P .eql 2 false true k1 (.int .i64 1) b1 fun D1 =>
 cnd D1
 (ld P 3 l b1 fun E1 =>
 bin P .lss 3 false true E1 (.int .i64 0) b1 fun F1 =>
 c1 F1 b1)
 (bin P .eql 2 false true k1 (.int .i64 2) b1 fun G1 =>
 cnd G1
 (ld P 3 l b1 fun H1 =>
 bin P .gtr 3 false true H1 (.int .i64 0) b1 fun L1 =>
 c1 L1 b1)
 (bin P .eql 2 false true k1 (.int .i64 4) b1 fun M1 =>
 cnd M1
 (c1 (.bool true) b1)
 (c1 (.bool false) b1)))))) ∧
 (fda P 105 b 1 M0 fun N1 =>
 ld P 3 N1 M0 fun O1 =>
 bin P .add 3 false false m O1 M0 fun Q1 =>
 bin P .leq 3 false true Q1 (.int .i64 (-126)) M0 fun R1 =>
 cnd R1
 (bin P .or 2 false true (.int .i64 1) (.int .i64 2) M0 fun S1 =>
 O0 S1 M0)
 (O0 (.int .i64 1) M0)))
 (N (.int .i64 0) M0))))) ∧
 (ld P 105 b i fun T1 =>
 fda P 105 b 0 i fun U1 =>
 ld P 103 U1 i fun V1 =>
 (call P BD [T1] i fun W1 X1 =>
 Ext i X1 ∧ (call P BK [V1] X1 fun Y1 Z1 =>
 alc P 3 Z1 fun b2 c2 =>
 Ext Z1 c2 ∧ sto P 3 b2 W1 c2 fun d2 =>
 k b2 Y1 d2) ∧
 (alc P 3 X1 fun e2 g2 =>
 Ext X1 g2 ∧ call P BK [V1] g2 fun h2 i2 =>
 sto P 3 e2 W1 i2 fun j2 =>
 k e2 h2 j2)) ∧
 (alc P 3 i fun k2 l2 =>
 Ext i l2 ∧ call P BD [T1] l2 fun m2 n2 =>
 Ext l2 n2 ∧ call P BK [V1] n2 fun o2 p2 =>
 sto P 3 k2 m2 p2 fun q2 =>
 k k2 o2 q2)))
def O9 : Plan := (.seq (.reg [.op (0, 2, false), .op (1, 2, false), .op (2, 0, false), .op (3, 0, false)]) (.seq (.seq rg2 (.cond (.seq rg0 .leaf) .leaf)) (.seq (.tree [6, 7] 65011904 (.op (0, 0, false) (.op (2, 0, false) (.op (3, 0, false) (.fork (1, 2, true) (.fork (4, 2, false) (.fork (5, 2, true) (.fork (6, 2, false) (.op (7, 0, false) .done) .stop) .stop) (.fork (5, 2, true) (.fork (4, 2, false) (.fork (6, 2, false) (.op (7, 0, false) .done) .stop) .stop) .stop)) (.fork (5, 2, true) (.fork (1, 2, true) (.fork (4, 2, false) (.fork (6, 2, false) (.op (7, 0, false) .done) .stop) .stop) .stop) .stop)))))) (.seq rg0 (.seq (.seq rg4 (.cond (.seq rg42 .leaf) .leaf)) (.seq rg10 (.seq (.reg [.op (0, 2, false), .op (1, 0, false), .op (2, 0, false), .op (3, 2, false), .op (4, 0, false)]) (.seq rg3 (.seq rg6 (.cut [11] 2658455991569831745807473383072458752 (.seq rg5 (.cond rg23 (.seq rg9 (.seq (.reg [.op (0, 0, false), .op (1, 0, false), .op (2, 0, false), .op (3, 2, false)]) (.seq (.reg [.op (0, 2, false), .op (1, 0, false), .op (2, 2, false), .op (3, 0, false), .op (4, 0, false), .op (5, 2, false), .op (6, 2, false), .op (7, 0, false)]) (.seq rg2 (.cond (.seq rg3 (.cut [11] 38383394772764476296923136 (.seq rg4 (.cond rg1 .leaf)) (.seq (.reg [.op (0, 0, false), .op (1, 2, false), .op (2, 2, false), .op (3, 0, false), .op (4, 0, false), .op (5, 2, false), .op (6, 2, false), .op (7, 0, false)]) (.seq rg3 (.cut [16] 83076744784797084914966841671090176 (.seq rg3 (.blk (.seq rg0 (.cond (.reg [.op (0, 0, false), .op (1, 0, false), .op (2, 0, false), .grp 2 false [(3, 0, false), (4, 0, false), (5, 0, false)] [100] 2218388550399401452619230609408, .grp 5 true [(6, 0, false), (7, 2, false), (8, 0, false)] [103] 17747108403195211620953844875264, .grp 2 false [(9, 0, false)] [104] 20282409603651670423947251286016, .op (10, 0, false), .op (11, 0, false)]) (.seq rg0 (.cond rg1 (.seq rg0 (.cond rg1 (.seq rg0 (.cond rg3 .leaf)))))))))) (.seq rg3 (.cond rg56 .leaf))))))) .leaf))))))) (.seq (.seq rg35 (.cond (.seq rg42 .leaf) .leaf)) (.seq (.reg [.op (0, 0, false), .op (1, 2, false), .op (2, 0, false), .op (3, 0, false), .op (4, 2, false), .op (5, 1, false), .op (6, 0, false)]) (.seq (.seq rg0 (.cond rg1 .leaf)) (.seq rg5 .leaf))))))))))))))
theorem VL {a0 a1 : Value} {w : World} {K : Value → World → Prop} (h : IK a0 a1 w K) : call P FL [a0, a1] w K :=
 Aa mixed Tryz.func229 (c := codeOf Tryz.f229) (by kernel_rfl) (by kernel_rfl) (p := O9) (by kernel_rfl) (by rw [Tryz.ntmps229]; simp) (by
  have e : IK a0 a1 w K = vc P O9 (codeOf Tryz.f229) (env0 [a0, a1]) w (retX P Tryz.f229.results.toList K) := by kernel_rfl
  exact e ▸ h)
def GH (a0 a1 : Value) (w : World) (K : Value → World → Prop) : Prop :=
 ld P 2 a0 w fun b =>
 bin P .eql 2 false true b (.int .i64 3) w fun c =>
 ∃ d : Value → World → Prop, (∀ (e : Value) (_ : Env) (g : World), d e g →
 ∃ h : Value → World → Prop, (∀ (i : Value) (_ : Env) (j : World), h i j →
 ∃ k : Value → World → Prop, (∀ (l : Value) (_ : Env) (m : World), k l m →
 pick c (.bool true) l fun n =>
 ∃ o : Value → World → Prop, (∀ (p : Value) (_ : Env) (q : World), o p q →
 ∃ r : Value → World → Prop, (∀ (s : Value) (_ : Env) (t : World), r s t →
 ∃ u : Value → World → Prop, (∀ (v : Value) (_ : Env) (x : World), u v x →
 pick n (.bool true) v fun y =>
 cnd y
 (ld P 3 a1 x fun z =>
 bin P .mul 2 false true z (.int .i64 2139095039) x fun A =>
 call P HE [A] x fun B C =>
 K (.tuple #[B, (.int .i64 5)]) C)
 (ld P 3 a1 x fun D =>
 call P G7 [D] x fun E F =>
 K (.tuple #[E, (.int .i64 5)]) F)) ∧
 grd n false
 (pick p s (.bool false) fun G =>
 u G t)
 (u undef t)) ∧
 grd p true
 (ld P 3 a1 q fun H =>
 bin P .lss 3 false true H (.int .i64 0) q fun L =>
 r L q)
 (r undef q)) ∧
 grd n false
 (ld P 2 a0 m fun M =>
 bin P .eql 2 false true M (.int .i64 2) m fun N =>
 o N m)
 (o undef m)) ∧
 grd c false
 (pick e i (.bool false) fun O =>
 k O j)
 (k undef j)) ∧
 grd e true
 (ld P 3 a1 g fun Q =>
 bin P .gtr 3 false true Q (.int .i64 0) g fun R =>
 h R g)
 (h undef g)) ∧
 grd c false
 (ld P 2 a0 w fun S =>
 bin P .eql 2 false true S (.int .i64 1) w fun T =>
 d T w)
 (d undef w)
def Ms : Plan := (.seq rg0 (.seq (.seq (.reg [.op (0, 0, false), .op (1, 0, false), .op (2, 0, false), .grp 2 false [(3, 0, false), (4, 0, false), (5, 0, false)] [9] 896, .grp 5 true [(6, 0, false), (7, 0, false)] [11] 3072, .grp 2 false [(8, 0, false)] [12] 4096, .op (9, 0, false), .op (10, 0, false), .grp 10 false [(11, 0, false), (12, 0, false), (13, 0, false)] [17] 229376, .grp 13 true [(14, 0, false), (15, 0, false)] [19] 786432, .grp 10 false [(16, 0, false)] [20] 1048576, .op (17, 0, false)]) (.cond (.seq rg39 .leaf) .leaf)) (.seq rg14 .leaf)))
theorem Ts {a0 a1 : Value} {w : World} {K : Value → World → Prop} (h : GH a0 a1 w K) : call P GP [a0, a1] w K :=
 Aa mixed Tryz.func262 (c := codeOf Tryz.f262) (by kernel_rfl) (by kernel_rfl) (p := Ms) (by kernel_rfl) (by rw [Tryz.ntmps262]; simp) (by
  have e : GH a0 a1 w K = vc P Ms (codeOf Tryz.f262) (env0 [a0, a1]) w (retX P Tryz.f262.results.toList K) := by kernel_rfl
  exact e ▸ h)
end
end Go.Proofs.YtjompmflommadaaGreatDoor
