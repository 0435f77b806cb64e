/- Elimination: the reference's. -/
import Derived.Test.YtliagkijeigcaaaC12
set_option linter.unusedVariables false
namespace Go.Proofs.Ytliagkijeigcaaa
open Go Go.Vc

variable {w : World} {K : Value → World → Prop}

theorem swapL_symm {α : Type} {l : List α} {i j : Nat} {d : α} (hi : i < l.length) (hj : j < l.length) : swapL l j i d = swapL l i j d := by
  rw [← swapL_comm hi hj]; rfl

/-- The columns of one row: the reference's loop. -/
theorem spec_cols {B n i k : Nat} {w0 w1 : World} {p q ov tv ri rk : Value} {O : List Nat} {T : List (List Nat)} {V : List Value} {by_ : Nat} {Fail Done : World → Prop} (hn : n ≤ 8) (hG : Good n T) (hi : i < n) (hki : k < i) (hB : B ≤ w0.heap.size) (hb1 : RowKit.Below B w0 w1)
    (h1 : EL w1 B p q ov tv O (T.set i ((T.getD i []).set k by_)) V) (hri : V[i]? = some ri) (hrk : V[k]? = some rk) (hbl : by_ < 4294967296)
    (hfail : (if finB by_ then colsE (T.getD k []) by_ (n - (k + 1)) (k + 1) ((T.getD i []).set k by_) else none) = none → ∀ w' t', RowKit.Below B w0 w' → EL w' B p q ov tv O t' V → Fail w')
    (hdone : ∀ r w', (if finB by_ then colsE (T.getD k []) by_ (n - (k + 1)) (k + 1) ((T.getD i []).set k by_) else none) = some r → RowKit.Below B w0 w' → EL w' B p q ov tv O (T.set i r) V → r.length = n → r.all finB = true → (∀ b ∈ r, b < 4294967296) → Done w') :
    ∃ I139 : Nat → Value → World → Prop, (∃ m178, I139 m178 (.int .i64 ((k : Int) + 1)) w1) ∧ ∀ (m142 : Nat) (x14_143 : Value) (junk140 : Env) (w141 : World), I139 m142 x14_143 w141 →
      bin P .lss t_int false false x14_143 (.int .i64 n) w141 fun x145_144 =>
      cnd x145_144
        (ixa P t_s_float32 ri x14_143 w141 fun x152_145 =>
        ld P t_float32 x152_145 w141 fun x153_146 =>
        ixa P t_s_float32 ri (.int .i64 k) w141 fun x156_147 =>
        ld P t_float32 x156_147 w141 fun x157_148 =>
        ixa P t_s_float32 rk x14_143 w141 fun x160_149 =>
        ld P t_float32 x160_149 w141 fun x161_150 =>
        rbin P .mul t_float32 false false x157_148 x161_150 w141 fun x162_151 =>
        rbin P .sub t_float32 false false x153_146 x162_151 w141 fun x163_152 =>
        ixa P t_s_float32 ri x14_143 w141 fun x164_153 =>
        sto P t_float32 x164_153 x163_152 w141 fun w155 =>
        ixa P t_s_float32 ri x14_143 w155 fun x167_156 =>
        ld P t_float32 x167_156 w155 fun x168_157 =>
        call P f_spec_l01Finite [x168_157] w155 fun x169_158 w159 =>
        una P .not x169_158 w159 fun x170_160 =>
        cnd x170_160
          (Fail w159)
          (bin P .add t_int false true x14_143 (.int .i64 1) w159 fun x147_165 =>
          ∃ m166, m166 < m142 ∧ I139 m166 x147_165 w159))
        (ixa P t_s_float32 ri (.int .i64 k) w141 fun x174_167 =>
        ld P t_float32 x174_167 w141 fun x175_168 =>
        call P f_spec_l01Finite [x175_168] w141 fun x176_169 w170 =>
        una P .not x176_169 w170 fun x177_171 =>
        cnd x177_171
          (Fail w170)
          (Done w170)) := by
  have htA := hG.len
  have hk : k < n := by omega
  have hik : i < T.length := by omega
  have hkT : k < T.length := by omega
  rw [getD_lt hkT, getD_lt hik] at hfail hdone
  rw [getD_lt hik] at h1
  have hkl : T[k].length = n := hG.row hkT
  have hil : T[i].length = n := hG.row hik
  have hkf := hG.fin _ (List.getElem_mem hkT)
  have hif := hG.fin _ (List.getElem_mem hik)
  have hib := hG.lt _ (List.getElem_mem hik)
  by_cases hfb : finB by_ = true
  · simp only [hfb, if_true] at hfail hdone
    refine ⟨fun g x w' => RowKit.Below B w0 w' ∧ ∃ (j : Nat) (r : List Nat), x = .int .i64 j ∧ g + j = n ∧ k + 1 ≤ j ∧ EL w' B p q ov tv O (T.set i r) V ∧ r.length = n ∧ r.all finB = true ∧ (∀ b ∈ r, b < 4294967296) ∧ r.getD k 0 = by_ ∧ colsE T[k] by_ (n - j) j r = colsE T[k] by_ (n - (k + 1)) (k + 1) (T[i].set k by_),
      ⟨n - (k + 1), hb1, k + 1, _, rfl, by omega, Nat.le_refl _, h1, by rw [List.length_set]; exact hil, all_set hif hfb, lt_set hib hbl, by simp [hil, hk], rfl⟩, ?_⟩
    rintro g3 x junk3 wC ⟨hbC, j, r, rfl, hg3, hkj3, hC, hrl, hrf, hrb, hrk0, hcols⟩
    have sC := hbC.size
    have hsl : (T.set i r).length = n := by rw [List.length_set]; exact htA
    have hi1 : i < (T.set i r).length := by omega
    have hk1 : k < (T.set i r).length := by omega
    have eri : (T.set i r)[i] = r := List.getElem_set_self _
    have erk : (T.set i r)[k] = T[k] := List.getElem_set_ne (by omega) _
    have hkr : k < r.length := by omega
    have hki1 : k < (T.set i r)[i].length := by rw [eri]; exact hkr
    have hrk1 : r[k] = by_ := by rw [← getDn hkr]; exact hrk0
    have ekk : (T.set i r)[i][k] = by_ := by simp only [eri]; exact hrk1
    rw [bin_lss]
    refine cnd_dec (fun hlt3 => ?_) (fun hge3 => ?_)
    · have hj : j < n := by omega
      have hjk : j < T[k].length := by omega
      have hjr : j < r.length := by omega
      have hjk1 : j < (T.set i r)[k].length := by rw [erk]; exact hjk
      have hji1 : j < (T.set i r)[i].length := by rw [eri]; exact hjr
      refine hC.tab.rowAt (j := j) hri hi1 hji1 ?_
      refine hC.tab.rowAt (j := k) hri hi1 hki1 ?_
      refine hC.tab.rowAt (j := j) hrk hk1 hjk1 ?_
      refine rbin_float (by simp) fun pr hpr => ?_
      refine rbin_float (by simp) fun df hdf => ?_
      have e1 : (T.set i r)[k][j] = T[k][j] := by simp only [erk]
      have e2 : (T.set i r)[i][j] = r[j] := by simp only [eri]
      rw [ekk, e1] at hpr
      rw [e2] at hdf
      obtain ⟨epr, edf, hcase⟩ := step_sub hfb (all_get hkf hjk) (all_get hrf hjr) hpr hdf
      rw [colsE_step hj, getDn hjr, getDn hjk, ← edf] at hcols
      have hdfl := FR_lt hdf
      refine hC.put (i := i) (j := j) hri hi1 hji1 fun wD hD hbD => ?_
      rw [set_row hik] at hD
      have hbD := hbD (Nat.le_refl _) (Nat.le_trans hB sC) hbC
      have hi4 : i < (T.set i (r.set j df)).length := by rw [List.length_set]; omega
      have eri4 : (T.set i (r.set j df))[i] = r.set j df := List.getElem_set_self _
      have hj4 : j < (T.set i (r.set j df))[i].length := by rw [eri4, List.length_set]; exact hjr
      refine hD.tab.rowAt (j := j) hri hi4 hj4 ?_
      have e3 : (T.set i (r.set j df))[i][j] = df := by simp only [eri4, List.getElem_set_self]
      rw [e3]
      refine c_l01Finite ?_
      rw [una_not]
      refine cnd_split (fun hf6 => ?_) (fun hf6 => ?_)
      · have hf6 : finB df = false := nb1 hf6
        rw [hf6] at hcols
        exact hfail hcols.symm _ _ hbD hD
      · have hf6 : finB df = true := nb0 hf6
        rw [hf6] at hcols
        rw [bin_add, wrap_i64 (by omega) (by omega)]
        refine ⟨g3 - 1, by omega, hbD, j + 1, r.set j df, rfl, by omega, by omega, hD, by rw [List.length_set]; exact hrl, all_set hrf hf6, lt_set hrb hdfl, ?_, hcols⟩
        rw [getDn (by rw [List.length_set]; exact hkr), List.getElem_set_ne (by omega)]
        exact hrk1
    · rw [colsE_end (by omega)] at hcols
      refine hC.tab.rowAt (j := k) hri hi1 hki1 ?_
      rw [ekk]
      refine c_l01Finite ?_
      rw [una_not, hfb]
      exact cnd_no rfl (hdone r wC hcols.symm hbC hC hrl hrf hrb)
  · have hfb : finB by_ = false := by simpa using hfb
    simp only [hfb, Bool.false_eq_true, if_false] at hfail
    have hfail := hfail trivial
    generalize hr0 : T[i].set k by_ = r at h1
    have hrl : r.length = n := by rw [← hr0, List.length_set]; exact hil
    have hkr : k < r.length := by omega
    have hrk1 : r[k] = by_ := by simp only [← hr0, List.getElem_set_self]
    refine ⟨fun g x w' => w' = w1 ∧ x = .int .i64 ((k + 1 : Nat) : Int), ⟨0, rfl, rfl⟩, ?_⟩
    rintro g3 x junk3 wC ⟨rfl, rfl⟩
    have hsl : (T.set i r).length = n := by rw [List.length_set]; exact htA
    have hi1 : i < (T.set i r).length := by omega
    have hk1 : k < (T.set i r).length := by omega
    have eri : (T.set i r)[i] = r := List.getElem_set_self _
    have erk : (T.set i r)[k] = T[k] := List.getElem_set_ne (by omega) _
    have hki1 : k < (T.set i r)[i].length := by rw [eri]; exact hkr
    have ekk : (T.set i r)[i][k] = by_ := by simp only [eri]; exact hrk1
    rw [bin_lss]
    refine cnd_dec (fun hlt3 => ?_) (fun hge3 => by omega)
    have hj : k + 1 < n := by omega
    have hjk : k + 1 < T[k].length := by omega
    have hjr : k + 1 < r.length := by omega
    have hjk1 : k + 1 < (T.set i r)[k].length := by rw [erk]; exact hjk
    have hji1 : k + 1 < (T.set i r)[i].length := by rw [eri]; exact hjr
    refine h1.tab.rowAt (j := k + 1) hri hi1 hji1 ?_
    refine h1.tab.rowAt (j := k) hri hi1 hki1 ?_
    refine h1.tab.rowAt (j := k + 1) hrk hk1 hjk1 ?_
    refine rbin_float (by simp) fun pr hpr => ?_
    refine rbin_float (by simp) fun df hdf => ?_
    have e1 : (T.set i r)[k][k + 1] = T[k][k + 1] := by simp only [erk]
    have hi2 : k + 1 < T[i].length := by omega
    have e2' : r[k + 1] = T[i][k + 1] := by
      simp only [← hr0]
      exact List.getElem_set_ne (h := by omega) _
    have e2 : (T.set i r)[i][k + 1] = T[i][k + 1] := by
      simp only [eri]
      exact e2'
    rw [ekk, e1] at hpr
    rw [e2] at hdf
    have n1 : ¬ Fin Ieee.single pr := mul_bad (k := .f32) (finB_not.1 hfb) (finB_iff.1 (all_get hkf hjk)) hpr
    have n2 : ¬ Fin Ieee.single df := sub_bad (k := .f32) (finB_iff.1 (all_get hif (by omega))) n1 hdf
    refine h1.put (i := i) (j := k + 1) hri hi1 hji1 fun wD hD hbD => ?_
    rw [set_row hik] at hD
    have hbD := hbD (Nat.le_refl _) (Nat.le_trans hB hb1.size) hb1
    have hi4 : i < (T.set i (r.set (k + 1) df)).length := by rw [List.length_set]; omega
    have eri4 : (T.set i (r.set (k + 1) df))[i] = r.set (k + 1) df := List.getElem_set_self _
    have hj4 : k + 1 < (T.set i (r.set (k + 1) df))[i].length := by rw [eri4, List.length_set]; exact hjr
    refine hD.tab.rowAt (j := k + 1) hri hi4 hj4 ?_
    have e3 : (T.set i (r.set (k + 1) df))[i][k + 1] = df := by simp only [eri4, List.getElem_set_self]
    rw [e3]
    refine c_l01Finite ?_
    rw [una_not, finB_not.2 n2]
    exact cnd_yes rfl (hfail _ _ hbD hD)

/-- The rows below a pivot: the reference's loop. -/
theorem spec_rows {B n k : Nat} {w0 w1 : World} {p q ov tv rk : Value} {O : List Nat} {T : List (List Nat)} {V : List Value} {Fail Done : World → Prop} (hn : n ≤ 8) (hG : Good n T) (hk : k < n) (hB : B ≤ w0.heap.size) (hb1 : RowKit.Below B w0 w1)
    (h1 : EL w1 B p q ov tv O T V) (hrk : V[k]? = some rk) (hz : isZ (cell T k k) = false)
    (hfail : rowsE n k (n - (k + 1)) (k + 1) T = none → ∀ w' t', RowKit.Below B w0 w' → EL w' B p q ov tv O t' V → Fail w')
    (hdone : ∀ t' w', rowsE n k (n - (k + 1)) (k + 1) T = some t' → RowKit.Below B w0 w' → EL w' B p q ov tv O t' V → Good n t' → Done w') :
    ∃ I120 : Nat → Value → World → Prop, (∃ m181, I120 m181 (.int .i64 ((k : Int) + 1)) w1) ∧ ∀ (m123 : Nat) (x12_124 : Value) (junk121 : Env) (w122 : World), I120 m123 x12_124 w122 →
      bin P .lss t_int false false x12_124 (.int .i64 n) w122 fun x121_125 =>
      cnd x121_125
        (fda P t_impl_Elimination p 1 w122 fun x124_126 =>
        ld P t_s_s_float32 x124_126 w122 fun x125_127 =>
        ixa P t_s_s_float32 x125_127 x12_124 w122 fun x127_128 =>
        ld P t_s_float32 x127_128 w122 fun x128_129 =>
        ixa P t_s_float32 x128_129 (.int .i64 k) w122 fun x133_130 =>
        ld P t_float32 x133_130 w122 fun x134_131 =>
        ixa P t_s_float32 rk (.int .i64 k) w122 fun x137_132 =>
        ld P t_float32 x137_132 w122 fun x138_133 =>
        rbin P .quo t_float32 false false x134_131 x138_133 w122 fun x139_134 =>
        ixa P t_s_float32 x128_129 (.int .i64 k) w122 fun x140_135 =>
        sto P t_float32 x140_135 x139_134 w122 fun w137 =>
        bin P .add t_int false true (.int .i64 k) (.int .i64 1) w137 fun x142_138 =>
        ∃ I139 : Nat → Value → World → Prop, (∃ m178, I139 m178 x142_138 w137) ∧ ∀ (m142 : Nat) (x14_143 : Value) (junk140 : Env) (w141 : World), I139 m142 x14_143 w141 →
          bin P .lss t_int false false x14_143 (.int .i64 n) w141 fun x145_144 =>
          cnd x145_144
            (ixa P t_s_float32 x128_129 x14_143 w141 fun x152_145 =>
            ld P t_float32 x152_145 w141 fun x153_146 =>
            ixa P t_s_float32 x128_129 (.int .i64 k) w141 fun x156_147 =>
            ld P t_float32 x156_147 w141 fun x157_148 =>
            ixa P t_s_float32 rk x14_143 w141 fun x160_149 =>
            ld P t_float32 x160_149 w141 fun x161_150 =>
            rbin P .mul t_float32 false false x157_148 x161_150 w141 fun x162_151 =>
            rbin P .sub t_float32 false false x153_146 x162_151 w141 fun x163_152 =>
            ixa P t_s_float32 x128_129 x14_143 w141 fun x164_153 =>
            sto P t_float32 x164_153 x163_152 w141 fun w155 =>
            ixa P t_s_float32 x128_129 x14_143 w155 fun x167_156 =>
            ld P t_float32 x167_156 w155 fun x168_157 =>
            call P f_spec_l01Finite [x168_157] w155 fun x169_158 w159 =>
            una P .not x169_158 w159 fun x170_160 =>
            cnd x170_160
              (Fail w159)
              (bin P .add t_int false true x14_143 (.int .i64 1) w159 fun x147_165 =>
              ∃ m166, m166 < m142 ∧ I139 m166 x147_165 w159))
            (ixa P t_s_float32 x128_129 (.int .i64 k) w141 fun x174_167 =>
            ld P t_float32 x174_167 w141 fun x175_168 =>
            call P f_spec_l01Finite [x175_168] w141 fun x176_169 w170 =>
            una P .not x176_169 w170 fun x177_171 =>
            cnd x177_171
              (Fail w170)
              (bin P .add t_int false true x12_124 (.int .i64 1) w170 fun x123_176 =>
              ∃ m177, m177 < m123 ∧ I120 m177 x123_176 w170)))
        (Done w122) := by
  refine ⟨fun g x w' => RowKit.Below B w0 w' ∧ ∃ (i : Nat) (t : List (List Nat)), x = .int .i64 i ∧ g + i = n ∧ k + 1 ≤ i ∧ EL w' B p q ov tv O t V ∧ Good n t ∧ cell t k k = cell T k k ∧ rowsE n k (n - i) i t = rowsE n k (n - (k + 1)) (k + 1) T,
    ⟨n - (k + 1), hb1, k + 1, T, rfl, by omega, Nat.le_refl _, h1, hG, rfl, rfl⟩, ?_⟩
  rintro g2 x junk2 wA ⟨hbA, i, t', rfl, hg2, hki, hA, hGA, hcell, hrows⟩
  have sA := hbA.size
  have htA := hGA.len
  rw [bin_lss]
  refine cnd_dec (fun hlt2 => ?_) (fun hge2 => ?_)
  · have hi : i < n := by omega
    have hi1 : i < t'.length := by omega
    have hk1 : k < t'.length := by omega
    have hik : k < t'[i].length := by rw [hGA.row]; exact hk
    have hkk' : k < t'[k].length := by rw [hGA.row]; exact hk
    refine hA.getT ?_
    refine hA.tab.atI (i := i) hi1 fun ri hri => ?_
    refine hA.tab.rowAt hri hi1 hik ?_
    refine hA.tab.rowAt hrk hk1 hkk' ?_
    refine rbin_float (by simp) fun by_ hby => ?_
    have hfi := all_get (hGA.fin _ (List.getElem_mem hi1)) hik
    have hfk := all_get (hGA.fin _ (List.getElem_mem hk1)) hkk'
    have hzk : isZ t'[k][k] = false := by rw [← cell_get hk1 hkk', hcell]; exact hz
    have eby := quo_ok hfi hfk hzk hby
    have hbl := FR_lt hby
    rw [rowsE_step hi] at hrows
    have erow : rowE n k (t'.getD k []) (t'.getD i []) = if finB by_ then colsE (t'.getD k []) by_ (n - (k + 1)) (k + 1) ((t'.getD i []).set k by_) else none := by
      unfold rowE
      rw [getD_lt hk1, getD_lt hi1, getDn hik, getDn hkk', ← eby]
    refine hA.put hri hi1 hik fun wB hB' hbB => ?_
    have hbB := hbB (Nat.le_refl _) (Nat.le_trans hB sA) hbA
    rw [← getD_lt hi1] at hB'
    rw [bin_add, wrap_i64 (by omega) (by omega)]
    refine spec_cols (Fail := Fail) hn hGA hi (by omega) hB hbB hB' hri hrk hbl (fun he w' t2 hb2 h2 => ?_) (fun r w' he hb2 h2 hrl hrf hrb => ?_)
    · rw [erow, he] at hrows
      exact hfail hrows.symm _ _ hb2 h2
    · rw [erow, he] at hrows
      rw [bin_add, wrap_i64 (by omega) (by omega)]
      refine ⟨g2 - 1, by omega, hb2, i + 1, t'.set i r, rfl, by omega, by omega, h2, hGA.set i hrl hrf hrb, ?_, hrows⟩
      have hk2 : k < (t'.set i r).length := by rw [List.length_set]; exact hk1
      have erk : (t'.set i r)[k] = t'[k] := List.getElem_set_ne (by omega) _
      rw [← hcell, cell_get hk2 (by rw [erk]; exact hkk'), cell_get hk1 hkk']
      simp only [erk]
  · rw [rowsE_end (by omega)] at hrows
    exact hdone t' wA hrows.symm hbA hA hGA

set_option maxHeartbeats 1000000 in
theorem c_spec_l10Eliminate {a : Value} {m : List (List Nat)} (ha : FSS w a m) (hbits : bits m) (hm : matB m = true)
    (he : ∀ e, elimF m = .error e → ∀ w', Ext w w' → K (.tuple #[.agg #[nilS, nilS], .int .i64 e]) w')
    (ho : ∀ o t, elimF m = .ok (o, t) → ∀ ov tv vs w', Ext w w' → OI w' w.heap.size ov o → OM w' w.heap.size w'.heap.size tv t vs → K (.tuple #[.agg #[ov, tv], .int .i64 0]) w') : call P f_spec_l10Eliminate [a] w K := by
  obtain ⟨hmr, hm1, hm8⟩ := matB_parts hm
  refine I_spec_l10Eliminate ?_
  unfold D_spec_l10Eliminate
  refine alc_bx i_impl_Elimination fun q w1 bq e1 hq => ?_
  rw [(ha.ext e1).len, bld_elim]
  refine alc_bx i_impl_Elimination fun p w2 bp e2 hp => ?_
  have s1 := e1.size
  refine bp.put i_impl_Elimination (ds := [nilS, nilS]) rfl rfl (one2 rfl rfl) fun w3 bp g3 => ?_
  have hqs : w.heap.size < w1.heap.size := (bq.blk_lt hq).2
  have hne : blk q ≠ blk p := by
    rw [hq, hp]
    simp only [ne_eq, Option.some.injEq]
    omega
  have E3 : RowKit.Below w.heap.size w w3 := RowKit.Below.grown (e1.trans e2) g3 (e1.trans e2).size fun k hk => by rw [hp] at hk; cases hk; exact s1
  have bq := (bq.ext e2).kept g3 (.inr (Ne.symm hne))
  have bp := bp.low s1
  have h0 : EL w3 w.heap.size p q nilS nilS [] [] [] := ⟨bp, bq, hne, ⟨rfl, .inl ⟨rfl, rfl⟩⟩, OM.nil _ _ _⟩
  refine ⟨fun g x w' => RowKit.Below w.heap.size w w' ∧ ∃ (i : Nat) (ov tv : Value) (vs : List Value), x = .int .i64 i ∧ g + i = m.length ∧ EL w' w.heap.size p q ov tv (List.range i) (m.take i) vs,
    ⟨m.length, E3, 0, nilS, nilS, [], rfl, by omega, by simpa using h0⟩, ?_⟩
  rintro g x junk w4 ⟨hb4, i, ov, tv, vs, rfl, hg, h4⟩
  rw [bin_lss]
  refine cnd_dec (fun hlt => ?_) (fun hge => ?_)
  · have hi : i < m.length := by omega
    have hrl := (hmr _ (List.getElem_mem hi)).1
    have s4 := hb4.size
    refine h4.getO ?_
    refine app1 h4.ord (oneCell_iv i) u_s_int64 i_int64 rfl (by simp [maxLen]; omega) (by simp; omega) hb4.size fun ov' w5 ho5 hg5 => ?_
    have t5 := Ty.owns h4.ord
    have bp5 := keep_box h4.bx hg5 t5 (by decide)
    have bq5 := keep_box h4.res hg5 t5 (by decide)
    have tab5 := h4.tab.keep hg5 t5 (by decide) (by decide)
    have hb5 := hb4.grown hg5 s4 fun k hk => (h4.ord.lt k hk).1
    have s5 := hg5.size
    refine bp5.fput (off := 0) (by simp) u_impl_Elimination rfl i_s_int64 (oneCell_sl ho5) fun w6 bp6 hg6 => ?_
    have t6 := Ty.box bp5
    have bq6 := bq5.kept hg6 (.inr (Ne.symm hne))
    have tab6 := tab5.keep hg6 t6 (by decide) (by decide)
    have ho6 := keep_row ho5 hg6 t6 (by decide)
    have s6 := hg6.size
    have hb6 := hb5.grown hg6 (by omega) fun k hk => (bp5.blk_lt hk).1
    refine Bx.fld bp6 (off := 1) rfl u_impl_Elimination rfl i_s_s_float32 u_s_s_float32 rfl ?_
    refine ha.at0 hb6 hi fun r hr => ?_
    refine bslF0 fun w7 e7 => ⟨e7, ?_⟩
    have s7 := e7.size
    have hb7 : RowKit.Below w.heap.size w w7 := hb6.trans (RowKit.Below.mono e7 hb6.size)
    refine append_fresh (hr.ext hb7).row (by intro u hu; simp at hu; obtain ⟨b, _, rfl⟩ := hu; rfl) u_s_float32 i_float32 rfl (by decide) (by omega) (by omega) fun r' w8 ho8 e8 => ⟨e8, ?_⟩
    have e68 := e7.trans e8
    have s8 := e8.size
    have tab8 := tab6.ext e68
    refine app1x tab8.outer (oneCell_sl ho8) u_s_s_float32 i_s_float32 rfl (by simp [maxLen]; omega) (by simp; omega) (by omega) fun tv' w9 ho9 hg9 => ?_
    have t9 := Ty.owns tab8.outer
    have tab9 := tab8.pushed ((OwnR.of ho8).mono (by omega) (Nat.le_refl _)) s4 ho9 hg9
    have bp9 := keep_box (bp6.ext e68) hg9 t9 (by decide)
    have bq9 := keep_box (bq6.ext e68) hg9 t9 (by decide)
    have ho9' := keep_row (owns_ext ho6 e68) hg9 t9 (by decide)
    have s9 := hg9.size
    have hb9 : RowKit.Below w.heap.size w w9 := (hb7.trans (RowKit.Below.mono e8 hb7.size)).grown hg9 (by omega) fun k hk => (tab8.outer.lt k hk).1
    refine bp9.fput (off := 1) (by simp) u_impl_Elimination rfl i_s_s_float32 (oneCell_sl ho9) fun w10 bp10 hg10 => ?_
    have t10 := Ty.box bp9
    have bq10 := bq9.kept hg10 (.inr (Ne.symm hne))
    have tab10 := tab9.keep hg10 t10 (by decide) (by decide)
    have ho10 := keep_row ho9' hg10 t10 (by decide)
    rw [bin_add, wrap_i64 (by omega) (by omega)]
    refine ⟨g - 1, by omega, hb9.grown hg10 (by omega) fun k hk => (bp9.blk_lt hk).1, i + 1, ov', tv', vs ++ [r'], rfl, by omega, bp10, bq10, hne, ?_, ?_⟩
    · show w10.ownsRow w.heap.size t_int64 1 ov' (List.range (i + 1)).length ((List.range (i + 1)).map iv)
      rw [List.range_succ, List.map_append, List.length_append]
      exact ho10
    · rw [List.take_succ_eq_append_getElem hi]
      exact tab10.sized
  · have hi : i = m.length := by omega
    subst hi
    rw [List.take_length] at h4
    clear s1 hqs hq hp hne E3 bq bp h0 e1 e2 g3
    refine ⟨fun g x w' => RowKit.Below w.heap.size w w' ∧ ∃ (k : Nat) (o : List Nat) (t : List (List Nat)) (vs : List Value), x = .int .i64 k ∧ g + k = m.length ∧ EL w' w.heap.size p q ov tv o t vs ∧ Good m.length t ∧ o.length = m.length ∧ elimE m.length (m.length - k) k o t = elimF m,
      ⟨m.length, hb4, 0, _, m, vs, rfl, by omega, h4, Good.of hm hbits, by simp, rfl⟩, ?_⟩
    rintro g x junk w5 ⟨hb5, k, o, t, vs, rfl, hg, h5, hG, hol, hel⟩
    have s5 := hb5.size
    have htl := hG.len
    rw [bin_lss]
    refine cnd_dec (fun hlt => ?_) (fun hge => ?_)
    · have hk : k < m.length := by omega
      rw [bin_add, wrap_i64 (by omega) (by omega)]
      refine ⟨fun g b i w' => w' = w5 ∧ ∃ bn j : Nat, b = .int .i64 bn ∧ i = .int .i64 j ∧ g + j = m.length ∧ bn < m.length ∧ k ≤ bn ∧ k ≤ j ∧ bestF t k (m.length - j) j bn = bestF t k (m.length - k) k k,
        ⟨m.length - (k + 1), rfl, k, k + 1, rfl, rfl, by omega, hk, Nat.le_refl _, by omega, (bestF_start hk).symm⟩, ?_⟩
      rintro g' b i' junk' w' ⟨rfl, bn, j, rfl, rfl, hg', hbn, hkb, hkj, hbest⟩
      rw [bin_lss]
      refine cnd_dec (fun hlt' => ?_) (fun hge' => ?_)
      · have hj : j < m.length := by omega
        have hjl : k < t[j].length := by rw [hG.row]; exact hk
        have hbl : k < t[bn].length := by rw [hG.row]; exact hk
        refine h5.getT ?_
        refine h5.tab.atI (i := j) (by omega) fun r1 hr1 => ?_
        refine h5.tab.rowAt hr1 (by omega) hjl ?_
        refine h5.getT ?_
        refine h5.tab.atI (i := bn) (by omega) fun r2 hr2 => ?_
        refine h5.tab.rowAt hr2 (by omega) hbl ?_
        refine c_spec_l01Abs ⟨Ext.refl _, ?_⟩
        refine c_spec_l01Abs ?_
        rw [bin_fgtr]
        rw [show m.length - j = (m.length - (j + 1)) + 1 by omega, bestF, cell_get (by omega) hjl, cell_get (by omega) hbl] at hbest
        have hf1 := finB_iff.1 (all_get (hG.fin _ (List.getElem_mem (by omega : j < t.length))) hjl)
        have hf2 := finB_iff.1 (all_get (hG.fin _ (List.getElem_mem (by omega : bn < t.length))) hbl)
        have eg : (FloatKind.f32.format.order (absF t[j][k]) (absF t[bn][k]) == some .gt) = gtF t[j][k] t[bn][k] := gt_abs hf1 hf2
        rw [eg]
        refine cnd_split (fun h => ?_) (fun h => ?_)
        · rw [bin_add, wrap_i64 (by omega) (by omega)]
          rw [h] at hbest
          exact ⟨g' - 1, by omega, rfl, j, j + 1, rfl, rfl, by omega, hj, hkj, by omega, hbest⟩
        · rw [bin_add, wrap_i64 (by omega) (by omega)]
          rw [h] at hbest
          exact ⟨g' - 1, by omega, rfl, bn, j + 1, rfl, rfl, by omega, hbn, hkb, by omega, hbest⟩
      · rw [show m.length - j = 0 by omega, bestF] at hbest
        rw [elimE_step hk, ← hbest] at hel
        refine h5.getT ?_
        refine h5.tab.atI (i := bn) (by omega) fun rb hrb => ?_
        refine h5.getO ?_
        refine h5.ordAt (i := bn) (by omega) ?_
        refine h5.getT ?_
        refine h5.getT ?_
        refine h5.tab.atI (i := k) (by omega) fun rk hrk => ?_
        refine h5.swap1 (i := bn) (j := k) (by omega) (by omega) hrb hrk fun w6 hb6 hstep => ?_
        refine Bx.fld hb6 (off := 1) rfl u_impl_Elimination rfl i_s_s_float32 u_s_s_float32 rfl ?_
        refine hstep fun w7 h7 hb7 => ?_
        have hb7 := hb7 (Nat.le_refl _) s5 hb5
        have s7 := hb7.size
        have hV : (swapL vs bn k undef)[k]? = some rb := by
          rw [swapL_get (by rw [h5.tab.vlen]; omega) (by rw [h5.tab.vlen]; omega)]
          unfold sw
          rw [if_pos rfl]; exact hrb
        rw [swapL_symm (l := t) (i := k) (j := bn) (by omega) (by omega)] at h7
        have hG7 : Good m.length (swapL t k bn []) := hG.swap (by omega) (by omega)
        generalize swapL t k bn [] = T at h7 hG7 hel
        have hTl := hG7.len
        refine h7.getO ?_
        refine h7.getO ?_
        refine h7.ordAt (i := k) (by omega) ?_
        refine h7.setO (i := bn) (x := o[k]) (by omega) fun w8 h8 hb8 => ?_
        have hb8 := hb8 (Nat.le_refl _) s7 hb7
        have s8 := hb8.size
        refine h8.getO ?_
        refine h8.setO (i := k) (x := o[bn]) (by simp; omega) fun w9 h9 hb9 => ?_
        have hb9 := hb9 (Nat.le_refl _) s8 hb8
        have s9 := hb9.size
        have eo : (o.set bn o[k]).set k o[bn] = swapL o k bn 0 := by
          rw [← swapL_comm (by omega) (by omega), getDn (by omega), getDn (by omega)]
        rw [eo] at h9
        have hol9 : (swapL o k bn 0).length = m.length := by rw [swapL_length]; exact hol
        generalize swapL o k bn 0 = O at h9 hol9 hel
        generalize swapL vs bn k undef = V at h9 hV
        have hkk : k < T[k].length := by rw [hG7.row]; exact hk
        refine h9.tab.rowAt hV (by omega) hkk ?_
        rw [bin_feql, ← cell_get (by omega) hkk]
        refine cnd_split (fun h => ?_) (fun h => ?_)
        · rw [show isZ (cell T k k) = true from h, if_pos rfl] at hel
          rw [bld_elim]
          refine h9.res.put i_impl_Elimination (ds := [nilS, nilS]) rfl rfl (one2 rfl rfl) fun wa ba ga => ?_
          refine ba.getc u_impl_Elimination rfl i_impl_Elimination rfl ?_
          exact he 5 hel.symm _ (hb9.grown ga s9 fun k hk => (h9.res.blk_lt hk).1)
        · have hz : isZ (cell T k k) = false := h
          rw [hz] at hel
          simp only [Bool.false_eq_true, if_false] at hel
          rw [bin_add, wrap_i64 (by omega) (by omega)]
          refine spec_rows (Fail := fun w128 => _) (Done := fun w128 => _) hm8 hG7 hk (Nat.le_refl _) hb9 h9 hV hz (fun hrn w' t' hb2 h2 => ?_) (fun t' w' hrn hb2 h2 hG2 => ?_)
          · rw [hrn] at hel
            rw [bld_elim]
            refine h2.res.put i_impl_Elimination (ds := [nilS, nilS]) rfl rfl (one2 rfl rfl) fun wa ba ga => ?_
            refine ba.getc u_impl_Elimination rfl i_impl_Elimination rfl ?_
            exact he 3 hel.symm _ (hb2.grown ga hb2.size fun k hk => (h2.res.blk_lt hk).1)
          · rw [hrn] at hel
            rw [bin_add, wrap_i64 (by omega) (by omega)]
            exact ⟨g - 1, by omega, hb2, k + 1, O, t', V, rfl, by omega, h2, hG2, hol9, hel⟩
    · rw [elimE_end (by omega)] at hel
      refine h5.bx.get u_impl_Elimination rfl i_impl_Elimination rfl ?_
      refine h5.res.put i_impl_Elimination (ds := [ov, tv]) rfl rfl (one2 (oneCell_sl h5.ord) (oneCell_sl h5.tab.outer)) fun wa ba ga => ?_
      refine ba.getc u_impl_Elimination rfl i_impl_Elimination rfl ?_
      have ta := Ty.box h5.res
      exact ho o t hel.symm ov tv vs _ (hb5.grown ga s5 fun k hk => (h5.res.blk_lt hk).1) (keep_row h5.ord ga ta (by decide)) (h5.tab.keep ga ta (by decide) (by decide)).sized

end Go.Proofs.Ytliagkijeigcaaa
