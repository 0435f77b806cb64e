/- Elimination: the program's. -/
import Derived.Test.YtliagkijeigcaaaC11
set_option linter.unusedVariables false
namespace Go.Proofs.Ytliagkijeigcaaa
open Go Go.Vc

variable {w : World} {K : Value → World → Prop}

theorem FSS.at0 {v : Value} {m : List (List Nat)} {w' : World} (h : FSS w v m) (he : Ext w w') {i : Nat} (hi : i < m.length) {K : Value → Prop} (H : ∀ x, FS w x m[i] → K x) : ixa P t_s_s_float32 v (.int .i64 (i : Int)) w' (fun a => ld P t_s_float32 a w' K) := by
  obtain ⟨vs, h1, h2⟩ := h.ex
  obtain ⟨x, hx, hf⟩ := h2 i hi
  exact (h1.ext he).at1 hx u_s_s_float32 i_s_float32 u_s_float32 rfl (H x hf)

/-- A field of one cell, with its address. -/
theorem Bx_fld2 {base : Nat} {t ty : TypeId} {p : Value} {cs : List Value} {z : Value} {b : Nat} {d : TypeDesc} {fs : Array Field} {f off : Nat} {x : Value} {K : Value → Value → Prop} (h : Bx w base t p cs) (hx : cs[off]? = some x) (hu : P.underlying t = some (.struct fs))
    (hf : (fs[f]?).map (fun x => (x.type, x.offset)) = some (ty, off)) (ht : TI P ty z 1 b) (hue : P.underlying ty = some d) (hd : aggB d = false)
    (H : ∀ a, (∀ {w' base' cs'}, Bx w' base' t p cs' → ∀ {K' : Value → Prop}, K' a → fda P t p f w' K') → (∀ {w' base' cs' y}, Bx w' base' t p cs' → cs'[off]? = some y → ∀ {K' : Value → Prop}, K' y → ld P ty a w' K') → K a x) :
    fda P t p f w (fun a => ld P ty a w (fun x => K a x)) := by
  obtain ⟨g, rfl, hc⟩ := h.cell
  have e0 : ∀ {w' : World} {K' : Value → Prop}, fda P t (.pointer (some ⟨g, 0, none⟩)) f w' K' = K' (.pointer (some ⟨g, off, none⟩)) := by
    intro w' K'
    rw [fda_off hu hf ht (by decide), Addr.add_lit, Nat.zero_add]
  rw [e0, ld_scalar hue hd (hc off x hx).1]
  refine H _ (fun h' K' hk => by rw [e0]; exact hk) (fun {w' base' cs' y} h' hy K' hk => ?_)
  obtain ⟨g', hg', hc'⟩ := h'.cell
  simp only [Value.pointer.injEq, Option.some.injEq, Addr.mk.injEq] at hg'
  obtain ⟨rfl, _⟩ := hg'
  rw [ld_scalar hue hd (hc' off y hy).1]; exact hk

theorem nb1 {b : Bool} (h : (!b) = true) : b = false := by simpa using h
theorem nb0 {b : Bool} (h : (!b) = false) : b = true := by simpa using h
theorem bslF0 {KW : Value → World → Prop} (H : ∀ w', Ext w w' → KW (.slice (some ⟨w.heap.size, 0, none⟩) 0 0) w') : bsl P t_s_float32 0 [] w KW := bsl_nil u_s_float32 i_float32 (H _ (Ext_alloc _ _))
theorem one2 {a b : Value} (ha : a.oneCell' = true) (hb : b.oneCell' = true) : ∀ x ∈ [a, b], x.oneCell' = true := by
  intro x hx
  simp at hx
  rcases hx with rfl | rfl
  · exact ha
  · exact hb
abbrev nilS : Value := .slice none 0 0
theorem bld_elim {K : Value → Prop} : bld P t_impl_Elimination [] w K = K (.agg #[nilS, nilS]) := bld_of (by kernel_rfl)

/-- One step of elimination in a row. -/
theorem step_sub {a b s p q : Nat} (ha : finB a = true) (hb : finB b = true) (hs : finB s = true) (hp : FR .mul .f32 a b p) (hq : FR .sub .f32 s p q) : p = opF .mul a b ∧ q = opF .sub s (opF .mul a b) ∧ (finB p = true ∨ finB p = false ∧ finB q = false) := by
  rw [finB_iff] at ha hb hs
  have hm := mul_fin (k := .f32) ha hb
  have e := FR_opF hp hm
  refine ⟨e, ?_⟩
  by_cases hf : Fin Ieee.single p
  · refine ⟨?_, .inl (finB_iff.2 hf)⟩
    rw [← e]
    exact FR_opF hq (sub_fin (k := .f32) hs hf)
  · refine ⟨?_, .inr ⟨finB_not.2 hf, finB_not.2 (sub_bad (k := .f32) hs hf hq)⟩⟩
    rw [← e]
    have hn : ¬ NaN Ieee.single p := by rw [e]; exact opF_nan hm
    rcases fin_inf_nan Ieee.single p with h | h | h
    · exact absurd h hf
    · have hread := read_inf hs1 h
      obtain ⟨m, e', h1⟩ := read_fin hs
      have : floatBits .sub .f32 s p = some (Ieee.single.write (.infinity (!(p / Ieee.single.signWeight % 2 == 1)))) := by
        show Ieee.single.sub s p = _
        unfold Ieee.Format.sub; rw [h1, hread]; rfl
      rw [FR_some hq this]
      unfold opF
      rw [this]; rfl
    · exact absurd h hn
theorem quo_ok {a b q : Nat} (ha : finB a = true) (hb : finB b = true) (hz : isZ b = false) (hq : FR .quo .f32 a b q) : q = opF .quo a b := by
  rw [finB_iff] at ha hb
  exact FR_opF hq (div_def (k := .f32) ha hb (by
    intro h
    unfold isZ at hz
    rw [show Ieee.single.order b 0 = some .eq from h] at hz
    simp at hz))

theorem Good.of {m : List (List Nat)} (h : matB m = true) (hb : bits m) : Good m.length m := by
  obtain ⟨h1, h2, h3⟩ := matB_parts h
  exact ⟨⟨rfl, fun r hr => (h1 r hr).1⟩, fun r hr => (h1 r hr).2, hb⟩
theorem cell_getD {m : List (List Nat)} {i j : Nat} (h : i < m.length) (h' : j < m[i].length) : (m.getD i []).getD j 0 = m[i][j] := cell_get h h'
theorem getD_lt {m : List (List Nat)} {i : Nat} (h : i < m.length) : m.getD i [] = m[i] := by simp [h]
theorem getDn {l : List Nat} {i : Nat} (h : i < l.length) : l.getD i 0 = l[i] := by simp [h]
theorem set_row {m : List (List Nat)} {i j x : Nat} {r : List Nat} (h : i < m.length) (h' : i < (m.set i r).length) : (m.set i r).set i ((m.set i r)[i].set j x) = m.set i (r.set j x) := by
  rw [List.getElem_set_self, List.set_set]

/-- The columns of one row: the program's loop. -/
theorem impl_cols {B n i k : Nat} {w0 w1 : World} {p q ov tv : Value} {O : List Nat} {T : List (List Nat)} {V : List Value} {r0 : List Nat} {by_ : Nat} {Fail Done : World → Prop} (hn : n ≤ 8) (hG : Good n T) (hi : i < n) (hki : k < i) (hB : B ≤ w0.heap.size) (hb1 : RowKit.Below B w0 w1)
    (h1 : EL w1 B p q ov tv O (T.set i r0) V) (hf : finB by_ = true) (hr0 : r0.length = n) (hr0f : r0.all finB = true) (hr0b : ∀ b ∈ r0, b < 4294967296)
    (hfail : colsE (T.getD k []) by_ (n - (k + 1)) (k + 1) r0 = none → ∀ w' t', RowKit.Below B w0 w' → EL w' B p q ov tv O t' V → Fail w')
    (hdone : ∀ r w', colsE (T.getD k []) by_ (n - (k + 1)) (k + 1) r0 = some r → RowKit.Below B w0 w' → EL w' B p q ov tv O (T.set i r) V → r.length = n → r.all finB = true → (∀ b ∈ r, b < 4294967296) → Done w') :
    ∃ I140 : Nat → Value → World → Prop, (∃ m178, I140 m178 (.int .i64 ((k : Int) + 1)) w1) ∧ ∀ (m143 : Nat) (x14_144 : Value) (junk141 : Env) (w142 : World), I140 m143 x14_144 w142 →
      bin P .lss t_int false false x14_144 (.int .i64 n) w142 fun x150_145 =>
      cnd x150_145
        (ixa P t_s_s_float32 tv (.int .i64 k) w142 fun x156_146 =>
        ld P t_s_float32 x156_146 w142 fun x157_147 =>
        ixa P t_s_float32 x157_147 x14_144 w142 fun x159_148 =>
        ld P t_float32 x159_148 w142 fun x160_149 =>
        rbin P .mul t_float32 false false (fl by_) x160_149 w142 fun x161_150 =>
        ixa P t_s_s_float32 tv (.int .i64 i) w142 fun x164_151 =>
        ld P t_s_float32 x164_151 w142 fun x165_152 =>
        ixa P t_s_s_float32 tv (.int .i64 i) w142 fun x169_153 =>
        ld P t_s_float32 x169_153 w142 fun x170_154 =>
        ixa P t_s_float32 x170_154 x14_144 w142 fun x172_155 =>
        ld P t_float32 x172_155 w142 fun x173_156 =>
        rbin P .sub t_float32 false false x173_156 x161_150 w142 fun x175_157 =>
        ixa P t_s_float32 x165_152 x14_144 w142 fun x176_158 =>
        sto P t_float32 x176_158 x175_157 w142 fun w160 =>
        ixa P t_s_s_float32 tv (.int .i64 i) w160 fun x180_161 =>
        ld P t_s_float32 x180_161 w160 fun x181_162 =>
        ixa P t_s_float32 x181_162 x14_144 w160 fun x183_163 =>
        ld P t_float32 x183_163 w160 fun x184_164 =>
        bsl P t_s_float32 2 [(0, x161_150), (1, x184_164)] w160 fun x185_165 w166 =>
        call P f_impl_areFinite [x185_165] w166 fun x186_167 w168 =>
        una P .not x186_167 w168 fun x187_169 =>
        cnd x187_169
          (Fail w168)
          (bin P .add t_int false true x14_144 (.int .i64 1) w168 fun x152_174 =>
          ∃ m175, m175 < m143 ∧ I140 m175 x152_174 w168))
        (Done w142) := by
  have htA := hG.len
  have hk : k < n := by omega
  have hik : i < T.length := by omega
  have hkT : k < T.length := by omega
  have ekT : T.getD k [] = T[k] := getD_lt hkT
  rw [ekT] at hfail hdone
  have hkl : T[k].length = n := hG.row hkT
  have hkf := hG.fin _ (List.getElem_mem hkT)
  refine ⟨fun g x w' => RowKit.Below B w0 w' ∧ ∃ (j : Nat) (r : List Nat), x = .int .i64 j ∧ g + j = n ∧ k + 1 ≤ j ∧ EL w' B p q ov tv O (T.set i r) V ∧ r.length = n ∧ r.all finB = true ∧ (∀ b ∈ r, b < 4294967296) ∧ colsE T[k] by_ (n - j) j r = colsE T[k] by_ (n - (k + 1)) (k + 1) r0,
    ⟨n - (k + 1), hb1, k + 1, r0, rfl, by omega, Nat.le_refl _, h1, hr0, hr0f, hr0b, rfl⟩, ?_⟩
  rintro g3 x junk3 wC ⟨hbC, j, r, rfl, hg3, hkj3, hC, hrl, hrf, hrb, hcols⟩
  have sC := hbC.size
  have hsl : (T.set i r).length = n := by rw [List.length_set]; exact htA
  have hi1 : i < (T.set i r).length := by omega
  have hk1 : k < (T.set i r).length := by omega
  have eri : (T.set i r)[i] = r := List.getElem_set_self _
  have erk : (T.set i r)[k] = T[k] := List.getElem_set_ne (by omega) _
  rw [bin_lss]
  refine cnd_dec (fun hlt3 => ?_) (fun hge3 => ?_)
  · have hj : j < n := by omega
    have hjk : j < T[k].length := by omega
    have hjr : j < r.length := by omega
    have hjk1 : j < (T.set i r)[k].length := by rw [erk]; exact hjk
    have hji1 : j < (T.set i r)[i].length := by rw [eri]; exact hjr
    refine hC.tab.atI (i := k) hk1 fun rk3 hrk3 => ?_
    refine hC.tab.rowAt (j := j) hrk3 hk1 hjk1 ?_
    refine rbin_float (by simp) fun pr hpr => ?_
    refine hC.tab.atI (i := i) hi1 fun ri3 hri3 => ?_
    refine hC.tab.atI (i := i) hi1 fun ri4 hri4 => ?_
    refine hC.tab.rowAt (j := j) hri4 hi1 hji1 ?_
    refine rbin_float (by simp) fun df hdf => ?_
    have e1 : (T.set i r)[k][j] = T[k][j] := by simp only [erk]
    have e2 : (T.set i r)[i][j] = r[j] := by simp only [eri]
    rw [e1] at hpr
    rw [e2] at hdf
    obtain ⟨epr, edf, hcase⟩ := step_sub hf (all_get hkf hjk) (all_get hrf hjr) hpr hdf
    rw [colsE_step hj, getDn hjr, getDn hjk, ← edf] at hcols
    have hprl := FR_lt hpr
    have hdfl := FR_lt hdf
    refine hC.put (i := i) (j := j) hri3 hi1 hji1 fun wD hD hbD => ?_
    rw [set_row hik] at hD
    have hbD := hbD (Nat.le_refl _) (Nat.le_trans hB sC) hbC
    have hi4 : i < (T.set i (r.set j df)).length := by rw [List.length_set]; omega
    have eri4 : (T.set i (r.set j df))[i] = r.set j df := List.getElem_set_self _
    have hj4 : j < (T.set i (r.set j df))[i].length := by rw [eri4, List.length_set]; exact hjr
    refine hD.tab.atI (i := i) hi4 fun ri5 hri5 => ?_
    refine hD.tab.rowAt (j := j) hri5 hi4 hj4 ?_
    have e3 : (T.set i (r.set j df))[i][j] = df := by simp only [eri4, List.getElem_set_self]
    rw [e3]
    refine bslF2 hprl hdfl fun v5 w5 e5 hf5 => ?_
    refine c_areFinite hf5 ?_
    rw [una_not]
    have hfdf : [pr, df].all finB = finB df := by
      have eall : [pr, df].all finB = (finB pr && finB df) := by simp
      rw [eall]
      rcases hcase with h1 | ⟨h1, h2⟩
      · rw [h1, Bool.true_and]
      · rw [h1, h2]; rfl
    rw [hfdf]
    have hbE : RowKit.Below B w0 w5 := hbD.trans (RowKit.Below.mono e5 (Nat.le_trans hB hbD.size))
    have hE := hD.ext e5
    refine cnd_split (fun hf6 => ?_) (fun hf6 => ?_)
    · have hf6 : finB df = false := nb1 hf6
      rw [hf6] at hcols
      exact hfail hcols.symm _ _ hbE hE
    · have hf6 : finB df = true := nb0 hf6
      rw [hf6] at hcols
      rw [bin_add, wrap_i64 (by omega) (by omega)]
      exact ⟨g3 - 1, by omega, hbE, j + 1, r.set j df, rfl, by omega, by omega, hE, by rw [List.length_set]; exact hrl, all_set hrf hf6, lt_set hrb hdfl, hcols⟩
  · rw [colsE_end (by omega)] at hcols
    exact hdone r wC hcols.symm hbC hC hrl hrf hrb

/-- The rows below a pivot: the program's loop. -/
theorem impl_rows {B n k : Nat} {w0 w1 : World} {p q ov tv : Value} {O : List Nat} {T : List (List Nat)} {V : List Value} {Fail Done : World → Prop} (hn : n ≤ 8) (hG : Good n T) (hk : k < n) (hB : B ≤ w0.heap.size) (hb1 : RowKit.Below B w0 w1)
    (h1 : EL w1 B p q ov tv O T V) (hz : isZ (cell T k k) = false)
    (hfail : rowsE n k (n - (k + 1)) (k + 1) T = none → ∀ w' t', RowKit.Below B w0 w' → EL w' B p q ov tv O t' V → Fail w')
    (hdone : ∀ t' w', rowsE n k (n - (k + 1)) (k + 1) T = some t' → RowKit.Below B w0 w' → EL w' B p q ov tv O t' V → Good n t' → Done w') :
    ∃ I112 : Nat → Value → World → Prop, (∃ m181, I112 m181 (.int .i64 ((k : Int) + 1)) w1) ∧ ∀ (m115 : Nat) (x12_116 : Value) (junk113 : Env) (w114 : World), I112 m115 x12_116 w114 →
      bin P .lss t_int false false x12_116 (.int .i64 n) w114 fun x117_117 =>
      cnd x117_117
        (ixa P t_s_s_float32 tv x12_116 w114 fun x122_118 =>
        ld P t_s_float32 x122_118 w114 fun x123_119 =>
        ixa P t_s_float32 x123_119 (.int .i64 k) w114 fun x125_120 =>
        ld P t_float32 x125_120 w114 fun x126_121 =>
        ixa P t_s_s_float32 tv (.int .i64 k) w114 fun x129_122 =>
        ld P t_s_float32 x129_122 w114 fun x130_123 =>
        ixa P t_s_float32 x130_123 (.int .i64 k) w114 fun x132_124 =>
        ld P t_float32 x132_124 w114 fun x133_125 =>
        rbin P .quo t_float32 false false x126_121 x133_125 w114 fun x134_126 =>
        call P f_impl_isFinite [x134_126] w114 fun x136_127 w128 =>
        una P .not x136_127 w128 fun x137_129 =>
        cnd x137_129
          (Fail w128)
          (ixa P t_s_s_float32 tv x12_116 w128 fun x141_134 =>
          ld P t_s_float32 x141_134 w128 fun x142_135 =>
          ixa P t_s_float32 x142_135 (.int .i64 k) w128 fun x145_136 =>
          sto P t_float32 x145_136 x134_126 w128 fun w138 =>
          bin P .add t_int false true (.int .i64 k) (.int .i64 1) w138 fun x147_139 =>
          ∃ I140 : Nat → Value → World → Prop, (∃ m178, I140 m178 x147_139 w138) ∧ ∀ (m143 : Nat) (x14_144 : Value) (junk141 : Env) (w142 : World), I140 m143 x14_144 w142 →
            bin P .lss t_int false false x14_144 (.int .i64 n) w142 fun x150_145 =>
            cnd x150_145
              (ixa P t_s_s_float32 tv (.int .i64 k) w142 fun x156_146 =>
              ld P t_s_float32 x156_146 w142 fun x157_147 =>
              ixa P t_s_float32 x157_147 x14_144 w142 fun x159_148 =>
              ld P t_float32 x159_148 w142 fun x160_149 =>
              rbin P .mul t_float32 false false x134_126 x160_149 w142 fun x161_150 =>
              ixa P t_s_s_float32 tv x12_116 w142 fun x164_151 =>
              ld P t_s_float32 x164_151 w142 fun x165_152 =>
              ixa P t_s_s_float32 tv x12_116 w142 fun x169_153 =>
              ld P t_s_float32 x169_153 w142 fun x170_154 =>
              ixa P t_s_float32 x170_154 x14_144 w142 fun x172_155 =>
              ld P t_float32 x172_155 w142 fun x173_156 =>
              rbin P .sub t_float32 false false x173_156 x161_150 w142 fun x175_157 =>
              ixa P t_s_float32 x165_152 x14_144 w142 fun x176_158 =>
              sto P t_float32 x176_158 x175_157 w142 fun w160 =>
              ixa P t_s_s_float32 tv x12_116 w160 fun x180_161 =>
              ld P t_s_float32 x180_161 w160 fun x181_162 =>
              ixa P t_s_float32 x181_162 x14_144 w160 fun x183_163 =>
              ld P t_float32 x183_163 w160 fun x184_164 =>
              bsl P t_s_float32 2 [(0, x161_150), (1, x184_164)] w160 fun x185_165 w166 =>
              call P f_impl_areFinite [x185_165] w166 fun x186_167 w168 =>
              una P .not x186_167 w168 fun x187_169 =>
              cnd x187_169
                (Fail w168)
                (bin P .add t_int false true x14_144 (.int .i64 1) w168 fun x152_174 =>
                ∃ m175, m175 < m143 ∧ I140 m175 x152_174 w168))
              (bin P .add t_int false true x12_116 (.int .i64 1) w142 fun x119_176 =>
              ∃ m177, m177 < m115 ∧ I112 m177 x119_176 w142)))
        (Done w114) := by
  refine ⟨fun g x w' => RowKit.Below B w0 w' ∧ ∃ (i : Nat) (t : List (List Nat)), x = .int .i64 i ∧ g + i = n ∧ k + 1 ≤ i ∧ EL w' B p q ov tv O t V ∧ Good n t ∧ cell t k k = cell T k k ∧ rowsE n k (n - i) i t = rowsE n k (n - (k + 1)) (k + 1) T,
    ⟨n - (k + 1), hb1, k + 1, T, rfl, by omega, Nat.le_refl _, h1, hG, rfl, rfl⟩, ?_⟩
  rintro g2 x junk2 wA ⟨hbA, i, t', rfl, hg2, hki, hA, hGA, hcell, hrows⟩
  have sA := hbA.size
  have htA := hGA.len
  rw [bin_lss]
  refine cnd_dec (fun hlt2 => ?_) (fun hge2 => ?_)
  · have hi : i < n := by omega
    have hi1 : i < t'.length := by omega
    have hk1 : k < t'.length := by omega
    have hik : k < t'[i].length := by rw [hGA.row]; exact hk
    have hkk' : k < t'[k].length := by rw [hGA.row]; exact hk
    refine hA.tab.atI (i := i) hi1 fun ri hri => ?_
    refine hA.tab.rowAt hri hi1 hik ?_
    refine hA.tab.atI (i := k) hk1 fun rk' hrk' => ?_
    refine hA.tab.rowAt hrk' hk1 hkk' ?_
    refine rbin_float (by simp) fun by_ hby => ?_
    have hfi := all_get (hGA.fin _ (List.getElem_mem hi1)) hik
    have hfk := all_get (hGA.fin _ (List.getElem_mem hk1)) hkk'
    have hzk : isZ t'[k][k] = false := by rw [← cell_get hk1 hkk', hcell]; exact hz
    have eby := quo_ok hfi hfk hzk hby
    have hbl := FR_lt hby
    refine c_isFinite hbl ?_
    rw [una_not]
    rw [rowsE_step hi, getD_lt hi1] at hrows
    have erow : rowE n k (t'.getD k []) t'[i] = if finB by_ then colsE (t'.getD k []) by_ (n - (k + 1)) (k + 1) (t'[i].set k by_) else none := by
      unfold rowE
      rw [getD_lt hk1, getDn hik, getDn hkk', ← eby]
    refine cnd_split (fun hf => ?_) (fun hf => ?_)
    · have hf : finB by_ = false := nb1 hf
      rw [hf] at erow
      rw [erow] at hrows
      exact hfail hrows.symm _ _ hbA hA
    · have hf : finB by_ = true := nb0 hf
      rw [hf] at erow
      simp only [if_true] at erow
      refine hA.tab.atI (i := i) hi1 fun ri2 hri2 => ?_
      refine hA.put hri2 hi1 hik fun wB hB' hbB => ?_
      have hbB := hbB (Nat.le_refl _) (Nat.le_trans hB sA) hbA
      rw [bin_add, wrap_i64 (by omega) (by omega)]
      refine impl_cols (Fail := Fail) hn hGA hi (by omega) hB hbB hB' hf (by rw [List.length_set, hGA.row]) (all_set (hGA.fin _ (List.getElem_mem _)) hf) (lt_set (hGA.lt _ (List.getElem_mem _)) hbl) (fun he w' t2 hb2 h2 => ?_) (fun r w' he hb2 h2 hrl hrf hrb => ?_)
      · rw [erow, he] at hrows
        exact hfail hrows.symm _ _ hb2 h2
      · rw [erow, he] at hrows
        rw [bin_add, wrap_i64 (by omega) (by omega)]
        refine ⟨g2 - 1, by omega, hb2, i + 1, t'.set i r, rfl, by omega, by omega, h2, hGA.set i hrl hrf hrb, ?_, hrows⟩
        have hk2 : k < (t'.set i r).length := by rw [List.length_set]; exact hk1
        have erk : (t'.set i r)[k] = t'[k] := List.getElem_set_ne (by omega) _
        rw [← hcell, cell_get hk2 (by rw [erk]; exact hkk'), cell_get hk1 hkk']
        simp only [erk]
  · rw [rowsE_end (by omega)] at hrows
    exact hdone t' wA hrows.symm hbA hA hGA

set_option maxHeartbeats 1000000 in
theorem c_impl_eliminate {a : Value} {m : List (List Nat)} (ha : FSS w a m) (hbits : bits m) (hm : matB m = true)
    (he : ∀ e, elimF m = .error e → ∀ w', Ext w w' → K (.tuple #[.agg #[nilS, nilS], .int .i64 e]) w')
    (ho : ∀ o t, elimF m = .ok (o, t) → ∀ ov tv vs w', Ext w w' → OI w' w.heap.size ov o → OM w' w.heap.size w'.heap.size tv t vs → K (.tuple #[.agg #[ov, tv], .int .i64 0]) w') : call P f_impl_eliminate [a] w K := by
  obtain ⟨hmr, hm1, hm8⟩ := matB_parts hm
  refine I_impl_eliminate ?_
  unfold D_impl_eliminate
  refine alc_bx i_impl_Elimination fun q w1 bq e1 hq => ?_
  rw [(ha.ext e1).len, bld_elim]
  refine alc_bx i_impl_Elimination fun p w2 bp e2 hp => ?_
  have s1 := e1.size
  refine bp.put i_impl_Elimination (ds := [nilS, nilS]) rfl rfl (one2 rfl rfl) fun w3 bp g3 => ?_
  have hqs : w.heap.size < w1.heap.size := (bq.blk_lt hq).2
  have hne : blk q ≠ blk p := by
    rw [hq, hp]
    simp only [ne_eq, Option.some.injEq]
    omega
  have E3 : RowKit.Below w.heap.size w w3 := RowKit.Below.grown (e1.trans e2) g3 (e1.trans e2).size fun k hk => by rw [hp] at hk; cases hk; exact s1
  have bq := (bq.ext e2).kept g3 (.inr (Ne.symm hne))
  have bp := bp.low s1
  rw [(ha.ext E3).len]
  have h0 : EL w3 w.heap.size p q nilS nilS [] [] [] := ⟨bp, bq, hne, ⟨rfl, .inl ⟨rfl, rfl⟩⟩, OM.nil _ _ _⟩
  refine ⟨fun g x w' => RowKit.Below w.heap.size w w' ∧ ∃ (i : Nat) (ov tv : Value) (vs : List Value), x = .int .i64 i ∧ g + i = m.length ∧ EL w' w.heap.size p q ov tv (List.range i) (m.take i) vs,
    ⟨m.length, E3, 0, nilS, nilS, [], rfl, by omega, by simpa using h0⟩, ?_⟩
  rintro g x junk w4 ⟨hb4, i, ov, tv, vs, rfl, hg, h4⟩
  rw [bin_lss]
  refine cnd_dec (fun hlt => ?_) (fun hge => ?_)
  · have hi : i < m.length := by omega
    have hrl := (hmr _ (List.getElem_mem hi)).1
    have s4 := hb4.size
    refine ha.at0 hb4 hi fun r hr => ?_
    refine h4.getO ?_
    refine app1 h4.ord (oneCell_iv i) u_s_int64 i_int64 rfl (by simp [maxLen]; omega) (by simp; omega) hb4.size fun ov' w5 ho5 hg5 => ?_
    have t5 := Ty.owns h4.ord
    have bp5 := keep_box h4.bx hg5 t5 (by decide)
    have bq5 := keep_box h4.res hg5 t5 (by decide)
    have tab5 := h4.tab.keep hg5 t5 (by decide) (by decide)
    have hb5 := hb4.grown hg5 s4 fun k hk => (h4.ord.lt k hk).1
    have s5 := hg5.size
    refine bp5.fput (off := 0) (by simp) u_impl_Elimination rfl i_s_int64 (oneCell_sl ho5) fun w6 bp6 hg6 => ?_
    have t6 := Ty.box bp5
    have bq6 := bq5.kept hg6 (.inr (Ne.symm hne))
    have tab6 := tab5.keep hg6 t6 (by decide) (by decide)
    have ho6 := keep_row ho5 hg6 t6 (by decide)
    have s6 := hg6.size
    have hb6 := hb5.grown hg6 (by omega) fun k hk => (bp5.blk_lt hk).1
    refine Bx.fld bp6 (off := 1) rfl u_impl_Elimination rfl i_s_s_float32 u_s_s_float32 rfl ?_
    refine bslF0 fun w7 e7 => ⟨e7, ?_⟩
    have s7 := e7.size
    have hb7 : RowKit.Below w.heap.size w w7 := hb6.trans (RowKit.Below.mono e7 hb6.size)
    refine append_fresh (hr.ext hb7).row (by intro u hu; simp at hu; obtain ⟨b, _, rfl⟩ := hu; rfl) u_s_float32 i_float32 rfl (by decide) (by omega) (by omega) fun r' w8 ho8 e8 => ⟨e8, ?_⟩
    have e68 := e7.trans e8
    have s8 := e8.size
    have tab8 := tab6.ext e68
    refine app1x tab8.outer (oneCell_sl ho8) u_s_s_float32 i_s_float32 rfl (by simp [maxLen]; omega) (by simp; omega) (by omega) fun tv' w9 ho9 hg9 => ?_
    have t9 := Ty.owns tab8.outer
    have tab9 := tab8.pushed ((OwnR.of ho8).mono (by omega) (Nat.le_refl _)) s4 ho9 hg9
    have bp9 := keep_box (bp6.ext e68) hg9 t9 (by decide)
    have bq9 := keep_box (bq6.ext e68) hg9 t9 (by decide)
    have ho9' := keep_row (owns_ext ho6 e68) hg9 t9 (by decide)
    have s9 := hg9.size
    have hb9 : RowKit.Below w.heap.size w w9 := (hb7.trans (RowKit.Below.mono e8 hb7.size)).grown hg9 (by omega) fun k hk => (tab8.outer.lt k hk).1
    refine bp9.fput (off := 1) (by simp) u_impl_Elimination rfl i_s_s_float32 (oneCell_sl ho9) fun w10 bp10 hg10 => ?_
    have t10 := Ty.box bp9
    have bq10 := bq9.kept hg10 (.inr (Ne.symm hne))
    have tab10 := tab9.keep hg10 t10 (by decide) (by decide)
    have ho10 := keep_row ho9' hg10 t10 (by decide)
    rw [bin_add, wrap_i64 (by omega) (by omega)]
    refine ⟨g - 1, by omega, hb9.grown hg10 (by omega) fun k hk => (bp9.blk_lt hk).1, i + 1, ov', tv', vs ++ [r'], rfl, by omega, bp10, bq10, hne, ?_, ?_⟩
    · show w10.ownsRow w.heap.size t_int64 1 ov' (List.range (i + 1)).length ((List.range (i + 1)).map iv)
      rw [List.range_succ, List.map_append, List.length_append]
      exact ho10
    · rw [List.take_succ_eq_append_getElem hi]
      exact tab10.sized
  · have hi : i = m.length := by omega
    subst hi
    rw [List.take_length] at h4
    clear s1 hqs hq hp hne E3 bq bp h0 e1 e2 g3
    refine h4.getT ?_
    refine ⟨fun g x w' => RowKit.Below w.heap.size w w' ∧ ∃ (k : Nat) (o : List Nat) (t : List (List Nat)) (vs : List Value), x = .int .i64 k ∧ g + k = m.length ∧ EL w' w.heap.size p q ov tv o t vs ∧ Good m.length t ∧ o.length = m.length ∧ elimE m.length (m.length - k) k o t = elimF m,
      ⟨m.length, hb4, 0, _, m, vs, rfl, by omega, h4, Good.of hm hbits, by simp, rfl⟩, ?_⟩
    rintro g x junk w5 ⟨hb5, k, o, t, vs, rfl, hg, h5, hG, hol, hel⟩
    have s5 := hb5.size
    have htl := hG.len
    rw [bin_lss]
    refine cnd_dec (fun hlt => ?_) (fun hge => ?_)
    · have hk : k < m.length := by omega
      refine ⟨fun g b i w' => w' = w5 ∧ ∃ bn j : Nat, b = .int .i64 bn ∧ i = .int .i64 j ∧ g + j = m.length ∧ bn < m.length ∧ k ≤ bn ∧ k ≤ j ∧ bestF t k (m.length - j) j bn = bestF t k (m.length - k) k k,
        ⟨m.length - k, rfl, k, k, rfl, rfl, by omega, hk, Nat.le_refl _, Nat.le_refl _, rfl⟩, ?_⟩
      rintro g' b i' junk' w' ⟨rfl, bn, j, rfl, rfl, hg', hbn, hkb, hkj, hbest⟩
      rw [bin_lss]
      refine cnd_dec (fun hlt' => ?_) (fun hge' => ?_)
      · have hj : j < m.length := by omega
        have hjl : k < t[j].length := by rw [hG.row]; exact hk
        have hbl : k < t[bn].length := by rw [hG.row]; exact hk
        refine h5.tab.atI (i := j) (by omega) fun r1 hr1 => ?_
        refine h5.tab.rowAt hr1 (by omega) hjl ?_
        refine h5.tab.atI (i := bn) (by omega) fun r2 hr2 => ?_
        refine h5.tab.rowAt hr2 (by omega) hbl ?_
        refine c_impl_size ⟨Ext.refl _, ?_⟩
        refine c_impl_size ?_
        rw [bin_fgtr]
        rw [show m.length - j = (m.length - (j + 1)) + 1 by omega, bestF, cell_get (by omega) hjl, cell_get (by omega) hbl] at hbest
        refine cnd_split (fun h => ?_) (fun h => ?_)
        · rw [bin_add, wrap_i64 (by omega) (by omega)]
          have h : gtF t[j][k] t[bn][k] = true := h
          rw [h] at hbest
          exact ⟨g' - 1, by omega, rfl, j, j + 1, rfl, rfl, by omega, hj, hkj, by omega, hbest⟩
        · rw [bin_add, wrap_i64 (by omega) (by omega)]
          have h : gtF t[j][k] t[bn][k] = false := h
          rw [h] at hbest
          exact ⟨g' - 1, by omega, rfl, bn, j + 1, rfl, rfl, by omega, hbn, hkb, by omega, hbest⟩
      · rw [show m.length - j = 0 by omega, bestF] at hbest
        rw [elimE_step hk, ← hbest] at hel
        refine h5.tab.atI (i := bn) (by omega) fun rb hrb => ?_
        refine h5.tab.atI (i := k) (by omega) fun rk hrk => ?_
        refine h5.swap1 (i := k) (j := bn) (by omega) (by omega) hrk hrb fun w6 _ hstep => hstep fun w7 h7 hb7 => ?_
        have hb7 := hb7 (Nat.le_refl _) s5 hb5
        have s7 := hb7.size
        have hG7 : Good m.length (swapL t k bn []) := hG.swap (by omega) (by omega)
        generalize swapL t k bn [] = T at h7 hG7 hel
        have hTl := hG7.len
        refine h7.getO ?_
        refine Bx_fld2 h7.bx (off := 0) rfl u_impl_Elimination rfl i_s_int64 u_s_int64 rfl fun ad hfd hld => ?_
        refine h7.getO ?_
        refine h7.ordAt (i := bn) (by omega) ?_
        refine h7.getO ?_
        refine h7.ordAt (i := k) (by omega) ?_
        refine h7.setO (i := k) (x := o[bn]) (by omega) fun w8 h8 hb8 => ?_
        have hb8 := hb8 (Nat.le_refl _) s7 hb7
        have s8 := hb8.size
        refine ⟨hfd h8.bx rfl, hld h8.bx rfl rfl, ?_⟩
        refine h8.setO (i := bn) (x := o[k]) (by simp; omega) fun w9 h9 hb9 => ?_
        have hb9 := hb9 (Nat.le_refl _) s8 hb8
        have s9 := hb9.size
        have eo : (o.set k o[bn]).set bn o[k] = swapL o k bn 0 := by
          unfold swapL
          rw [getDn (by omega), getDn (by omega)]
        rw [eo] at h9
        have hol9 : (swapL o k bn 0).length = m.length := by rw [swapL_length]; exact hol
        generalize swapL o k bn 0 = O at h9 hol9 hel
        generalize swapL vs k bn undef = V at h9
        have hkk : k < T[k].length := by rw [hG7.row]; exact hk
        refine h9.tab.atI (i := k) (by omega) fun r hr => ?_
        refine h9.tab.rowAt hr (by omega) hkk ?_
        rw [bin_feql, ← cell_get (by omega) hkk]
        refine cnd_split (fun h => ?_) (fun h => ?_)
        · rw [show isZ (cell T k k) = true from h, if_pos rfl] at hel
          rw [bld_elim]
          refine h9.res.put i_impl_Elimination (ds := [nilS, nilS]) rfl rfl (one2 rfl rfl) fun wa ba ga => ?_
          refine ba.getc u_impl_Elimination rfl i_impl_Elimination rfl ?_
          exact he 5 hel.symm _ (hb9.grown ga s9 fun k hk => (h9.res.blk_lt hk).1)
        · have hz : isZ (cell T k k) = false := h
          rw [hz] at hel
          simp only [Bool.false_eq_true, if_false] at hel
          rw [bin_add, wrap_i64 (by omega) (by omega)]
          refine impl_rows (Fail := fun w128 => _) (Done := fun w128 => _) hm8 hG7 hk (Nat.le_refl _) hb9 h9 hz (fun hrn w' t' hb2 h2 => ?_) (fun t' w' hrn hb2 h2 hG2 => ?_)
          · rw [hrn] at hel
            rw [bld_elim]
            refine h2.res.put i_impl_Elimination (ds := [nilS, nilS]) rfl rfl (one2 rfl rfl) fun wa ba ga => ?_
            refine ba.getc u_impl_Elimination rfl i_impl_Elimination rfl ?_
            exact he 3 hel.symm _ (hb2.grown ga hb2.size fun k hk => (h2.res.blk_lt hk).1)
          · rw [hrn] at hel
            rw [bin_add, wrap_i64 (by omega) (by omega)]
            exact ⟨g - 1, by omega, hb2, k + 1, O, t', V, rfl, by omega, h2, hG2, hol9, hel⟩
    · rw [elimE_end (by omega)] at hel
      refine h5.bx.get u_impl_Elimination rfl i_impl_Elimination rfl ?_
      refine h5.res.put i_impl_Elimination (ds := [ov, tv]) rfl rfl (one2 (oneCell_sl h5.ord) (oneCell_sl h5.tab.outer)) fun wa ba ga => ?_
      refine ba.getc u_impl_Elimination rfl i_impl_Elimination rfl ?_
      have ta := Ty.box h5.res
      exact ho o t hel.symm ov tv vs _ (hb5.grown ga s5 fun k hk => (h5.res.blk_lt hk).1) (keep_row h5.ord ga ta (by decide)) (h5.tab.keep ga ta (by decide) (by decide)).sized

end Go.Proofs.Ytliagkijeigcaaa
