/- The solution by an elimination: what is computed; the reference's. -/
import Derived.Test.YtliagkijeigcaaaC13
import Derived.Test.YtliagkijeigcaaaT2
set_option linter.unusedVariables false
namespace Go.Proofs.Ytliagkijeigcaaa
open Go Go.Vc

variable {w : World} {K : Value → World → Prop}

/-- A number less the products of a row's and a list's numbers. -/
def subsF (row x : List Nat) : Nat → Nat → Nat → Option Nat
  | 0, _, s => some s
  | f + 1, j, s => if finB (opF .sub s (opF .mul (row.getD j 0) (x.getD j 0))) then subsF row x f (j + 1) (opF .sub s (opF .mul (row.getD j 0) (x.getD j 0))) else none
def fwdF (t : List (List Nat)) (o b : List Nat) : Nat → Nat → List Nat → Option (List Nat)
  | 0, _, y => some y
  | f + 1, i, y => match subsF (t.getD i []) y i 0 (b.getD (o.getD i 0) 0) with
    | none => none
    | some s => fwdF t o b f (i + 1) (y ++ [s])
def backF (t : List (List Nat)) (n : Nat) : Nat → List Nat → Option (List Nat)
  | 0, y => some y
  | i + 1, y => match subsF (t.getD i []) y (n - (i + 1)) (i + 1) (y.getD i 0) with
    | none => none
    | some s => if isZ (cell t i i) then none else if finB (opF .quo s (cell t i i)) then backF t n i (y.set i (opF .quo s (cell t i i))) else none
def solveF (o : List Nat) (t : List (List Nat)) (b : List Nat) : Option (List Nat) := match fwdF t o b b.length 0 [] with
  | none => none
  | some y => backF t b.length b.length y

theorem subsF_step {row x : List Nat} {n j s : Nat} (h : j < n) : subsF row x (n - j) j s = if finB (opF .sub s (opF .mul (row.getD j 0) (x.getD j 0))) then subsF row x (n - (j + 1)) (j + 1) (opF .sub s (opF .mul (row.getD j 0) (x.getD j 0))) else none := by
  rw [show n - j = (n - (j + 1)) + 1 by omega, subsF]
theorem subsF_end {row x : List Nat} {n j s : Nat} (h : n ≤ j) : subsF row x (n - j) j s = some s := by
  rw [show n - j = 0 by omega, subsF]
theorem fwdF_step {t : List (List Nat)} {o b y : List Nat} {n i : Nat} (h : i < n) : fwdF t o b (n - i) i y = match subsF (t.getD i []) y i 0 (b.getD (o.getD i 0) 0) with
    | none => none
    | some s => fwdF t o b (n - (i + 1)) (i + 1) (y ++ [s]) := by
  rw [show n - i = (n - (i + 1)) + 1 by omega, fwdF]
theorem fwdF_end {t : List (List Nat)} {o b y : List Nat} {n i : Nat} (h : n ≤ i) : fwdF t o b (n - i) i y = some y := by
  rw [show n - i = 0 by omega, fwdF]

theorem quo_zero {a b q : Nat} (ha : finB a = true) (hb : finB b = true) (hz : isZ b = true) (hq : FR .quo .f32 a b q) : finB q = false := by
  rw [finB_iff] at ha hb
  obtain ⟨s, e, h1, _⟩ := read_isZ hb hz
  obtain ⟨m, g, h2⟩ := read_fin ha
  rw [finB_not]
  by_cases hm : m = 0
  · have : floatBits .quo .f32 a b = none := by
      show Ieee.single.div a b = _
      unfold Ieee.Format.div; rw [h1, h2]; simp [Ieee.Datum.quotient, hm]
    exact not_fin_of_nan (FR_nan hq this)
  · have : floatBits .quo .f32 a b = some (Ieee.single.write (.infinity ((a / Ieee.single.signWeight % 2 == 1) ^^ s))) := by
      show Ieee.single.div a b = _
      unfold Ieee.Format.div; rw [h1, h2]; simp [Ieee.Datum.quotient, hm]
    rw [FR_some hq this]
    exact not_fin_of_inf (write_inf _ _)

/-- An elimination that is read. -/
structure ER (w : World) (v ov tv : Value) (o : List Nat) (t : List (List Nat)) (n : Nat) : Prop where
  val : v = .agg #[ov, tv]
  ord : FI w ov (o.map Int.ofNat)
  tab : FSS w tv t
  good : Good n t
  len : o.length = n
  lt : ∀ x ∈ o, x < n
theorem ER.ext {w' : World} {v ov tv : Value} {o : List Nat} {t : List (List Nat)} {n : Nat} (h : ER w v ov tv o t n) (he : Ext w w') : ER w' v ov tv o t n := ⟨h.val, h.ord.ext he, h.tab.ext he, h.good, h.len, h.lt⟩
theorem ER.at {w' : World} {v ov tv : Value} {o : List Nat} {t : List (List Nat)} {n : Nat} (h : ER w v ov tv o t n) (he : Ext w w') {i : Nat} (hi : i < o.length) {K : Value → Prop} (H : K (iv o[i])) : ixa P t_s_int64 ov (.int .i64 (i : Int)) w' (fun a => ld P t_int64 a w' K) := by
  refine Row.at1 (h.ord.ext he) (i := i) (x := iv o[i]) ?_ u_s_int64 i_int64 u_int64 rfl H
  simp [hi]

structure FinL (n : Nat) (b : List Nat) : Prop where
  len : b.length = n
  fin : b.all finB = true
  lt : ∀ x ∈ b, x < 4294967296

theorem bslFe {KW : Value → World → Prop} (H : ∀ u w', Ext w w' → OS w' w.heap.size u [] → KW u w') : bsl P t_s_float32 0 [] w KW := bsl_nil u_s_float32 i_float32 (H _ _ (Ext_alloc _ _) (OS_lit0 w))

/-- One subtraction: as both packages do it. -/
theorem sub_case {a b s p q : Nat} (ha : finB a = true) (hb : finB b = true) (hs : finB s = true) (hp : FR .mul .f32 a b p) (hq : FR .sub .f32 s p q) : q = opF .sub s (opF .mul a b) ∧ [p, q].all finB = finB q := by
  obtain ⟨h1, h2, h3⟩ := step_sub ha hb hs hp hq
  refine ⟨h2, ?_⟩
  have eall : [p, q].all finB = (finB p && finB q) := by simp
  rw [eall]
  rcases h3 with h3 | ⟨h3, h4⟩
  · rw [h3, Bool.true_and]
  · rw [h3, h4]; rfl

theorem FinL.get {n : Nat} {b : List Nat} (h : FinL n b) {i : Nat} (hi : i < b.length) : finB b[i] = true := all_get h.fin hi
theorem FinL.set {n : Nat} {b : List Nat} (h : FinL n b) {i x : Nat} (h1 : finB x = true) (h2 : x < 4294967296) : FinL n (b.set i x) := ⟨by rw [List.length_set]; exact h.len, all_set h.fin h1, lt_set h.lt h2⟩

set_option maxHeartbeats 1000000 in
theorem c_spec_l10Solve {v bv ov tv : Value} {o b : List Nat} {t : List (List Nat)} {n : Nat} (hn : n ≤ 8) (he : ER w v ov tv o t n) (hb : FS w bv b) (hf : FinL n b)
    (h0 : solveF o t b = none → ∀ w', Ext w w' → K (.tuple #[.slice none 0 0, .bool false]) w')
    (h1 : ∀ q u w', solveF o t b = some q → FinL n q → Ext w w' → OS w' w.heap.size u q → K (.tuple #[u, .bool true]) w') : call P f_spec_l10Solve [v, bv] w K := by
  refine I_spec_l10Solve ?_
  unfold D_spec_l10Solve
  obtain rfl := he.val
  have htl := he.good.len
  have hol := he.len
  have hbl := hf.len
  refine bx_bx fun p w1 bp e1 _ => ?_
  rw [(hb.ext e1).row.len u_s_float32, hf.len]
  refine bslFe fun u0 w2 e2 o2 => ?_
  refine ⟨fun g y x w' => RowKit.Below w.heap.size w w' ∧ ∃ (i : Nat) (yl : List Nat), x = .int .i64 i ∧ g + i = n ∧ Bx w' w.heap.size t_impl_Elimination p [ov, tv] ∧ OS w' w.heap.size y yl ∧ FinL i yl ∧ fwdF t o b (n - i) i yl = fwdF t o b n 0 [],
    ⟨n, e1.trans e2, 0, [], rfl, by omega, bp.ext e2, owns_base o2 e1.size, ⟨rfl, rfl, by simp⟩, rfl⟩, ?_⟩
  rintro g y x junk w3 ⟨hb3, i, yl, rfl, hg, bp3, hy, hyf, hfw⟩
  have s3 := hb3.size
  have hyl := hyf.len
  have hyFS := hy.FS hyf.lt
  rw [bin_lss]
  refine cnd_dec (fun hlt => ?_) (fun hge => ?_)
  · have hi : i < n := by omega
    have hit : i < t.length := by omega
    have hio : i < o.length := by omega
    have hoi : o[i] < b.length := by rw [hbl]; exact he.lt _ (List.getElem_mem hio)
    rw [fwdF_step hi, getD_lt hit, getDn hio, getDn hoi] at hfw
    refine Bx.fld bp3 (off := 0) rfl u_impl_Elimination rfl i_s_int64 u_s_int64 rfl ?_
    refine he.at hb3 hio ?_
    refine (hb.ext hb3).at hoi ?_
    have hrow := he.good.row hit
    have hrf := he.good.fin _ (List.getElem_mem hit)
    refine ⟨fun g s x w' => w' = w3 ∧ ∃ j own : Nat, x = .int .i64 j ∧ s = fl own ∧ finB own = true ∧ own < 4294967296 ∧ g + j = i ∧ subsF t[i] yl (i - j) j own = subsF t[i] yl i 0 b[o[i]],
      ⟨i, rfl, 0, b[o[i]], rfl, rfl, hf.get hoi, hf.lt _ (List.getElem_mem hoi), by omega, rfl⟩, ?_⟩
    rintro g2 s x junk2 w' ⟨rfl, j, own, rfl, rfl, hown, hownl, hg2, hsub⟩
    rw [bin_lss]
    refine cnd_dec (fun hlt2 => ?_) (fun hge2 => ?_)
    · have hj : j < i := by omega
      have hjr : j < t[i].length := by omega
      have hjy : j < yl.length := by omega
      refine Bx.fld bp3 (off := 1) rfl u_impl_Elimination rfl i_s_s_float32 u_s_s_float32 rfl ?_
      refine he.tab.at0 hb3 hit fun r hr => ?_
      refine (hr.ext hb3).at hjr ?_
      refine hyFS.at hjy ?_
      refine rbin_float (by simp) fun pr hpr => ?_
      refine rbin_float (by simp) fun df hdf => ?_
      obtain ⟨edf, _⟩ := sub_case (all_get hrf hjr) (hyf.get hjy) hown hpr hdf
      rw [subsF_step hj, getDn hjr, getDn hjy, ← edf] at hsub
      refine c_l01Finite ?_
      rw [una_not]
      refine cnd_split (fun h => ?_) (fun h => ?_)
      · rw [nb1 h] at hsub
        simp only [Bool.false_eq_true, if_false] at hsub
        rw [← hsub] at hfw
        refine h0 ?_ _ hb3
        unfold solveF
        rw [hbl, ← hfw]
      · have h := nb0 h
        rw [h] at hsub
        simp only [if_true] at hsub
        rw [bin_add, wrap_i64 (by omega) (by omega)]
        exact ⟨g2 - 1, by omega, rfl, j + 1, df, rfl, rfl, h, FR_lt hdf, by omega, hsub⟩
    · rw [subsF_end (by omega)] at hsub
      rw [← hsub] at hfw
      refine appF hy (by omega) s3 fun y' w4 hy4 hg4 => ?_
      rw [bin_add, wrap_i64 (by omega) (by omega)]
      refine ⟨g - 1, by omega, OS.below hy hb3 hg4 (Nat.le_refl _) (Nat.le_refl _), i + 1, yl ++ [own], rfl, by omega, keep_box bp3 hg4 (Ty.owns hy) (by decide), hy4, ⟨by simp [hyl], by rw [List.all_append, hyf.fin]; simpa using hown, ?_⟩, hfw⟩
      intro c hc
      rcases List.mem_append.1 hc with hc | hc
      · exact hyf.lt c hc
      · simp at hc; subst hc; exact hownl
  · have hi : i = n := by omega
    subst hi
    rw [fwdF_end (Nat.le_refl _)] at hfw
    have hsol : solveF o t b = backF t i i yl := by unfold solveF; rw [hbl, ← hfw]
    rw [hsol] at h0
    simp only [hsol] at h1
    rw [bin_sub, wrap_i64 (by omega) (by omega)]
    refine ⟨fun g x w' => RowKit.Below w.heap.size w w' ∧ ∃ (c : Nat) (zl : List Nat), x = .int .i64 ((c : Int) - 1) ∧ g = c ∧ c ≤ i ∧ Bx w' w.heap.size t_impl_Elimination p [ov, tv] ∧ OS w' w.heap.size y zl ∧ FinL i zl ∧ backF t i c zl = backF t i i yl,
      ⟨i, hb3, i, yl, rfl, rfl, Nat.le_refl _, bp3, hy, hyf, rfl⟩, ?_⟩
    rintro g x junk w4 ⟨hb4, c, zl, rfl, rfl, hci, bp4, hz, hzf, hbk⟩
    have s4 := hb4.size
    have hzl := hzf.len
    have hzFS := hz.FS hzf.lt
    rw [bin_geq]
    refine cnd_dec (fun hpos => ?_) (fun hneg => ?_)
    · obtain ⟨k, rfl⟩ : ∃ k, g = k + 1 := ⟨g - 1, by omega⟩
      rw [show ((k + 1 : Nat) : Int) - 1 = (k : Int) by omega]
      have hkt : k < t.length := by omega
      have hkz : k < zl.length := by omega
      have hrow := he.good.row hkt
      have hrf := he.good.fin _ (List.getElem_mem hkt)
      rw [backF, getD_lt hkt, getDn hkz] at hbk
      refine hzFS.at hkz ?_
      rw [bin_add, wrap_i64 (by omega) (by omega)]
      refine ⟨fun g s x w' => w' = w4 ∧ ∃ j own : Nat, x = .int .i64 j ∧ s = fl own ∧ finB own = true ∧ g + j = i ∧ k + 1 ≤ j ∧ subsF t[k] zl (i - j) j own = subsF t[k] zl (i - (k + 1)) (k + 1) zl[k],
        ⟨i - (k + 1), rfl, k + 1, zl[k], rfl, rfl, hzf.get hkz, by omega, Nat.le_refl _, rfl⟩, ?_⟩
      rintro g2 s x junk2 w' ⟨rfl, j, own, rfl, rfl, hown, hg2, hkj, hsub⟩
      rw [bin_lss]
      refine cnd_dec (fun hlt2 => ?_) (fun hge2 => ?_)
      · have hj : j < i := by omega
        have hjr : j < t[k].length := by omega
        have hjy : j < zl.length := by omega
        refine Bx.fld bp4 (off := 1) rfl u_impl_Elimination rfl i_s_s_float32 u_s_s_float32 rfl ?_
        refine he.tab.at0 hb4 hkt fun r hr => ?_
        refine (hr.ext hb4).at hjr ?_
        refine hzFS.at hjy ?_
        refine rbin_float (by simp) fun pr hpr => ?_
        refine rbin_float (by simp) fun df hdf => ?_
        obtain ⟨edf, _⟩ := sub_case (all_get hrf hjr) (hzf.get hjy) hown hpr hdf
        rw [subsF_step hj, getDn hjr, getDn hjy, ← edf] at hsub
        refine c_l01Finite ?_
        rw [una_not]
        refine cnd_split (fun h => ?_) (fun h => ?_)
        · rw [nb1 h] at hsub
          simp only [Bool.false_eq_true, if_false] at hsub
          rw [← hsub] at hbk
          exact h0 hbk.symm _ hb4
        · have h := nb0 h
          rw [h] at hsub
          simp only [if_true] at hsub
          rw [bin_add, wrap_i64 (by omega) (by omega)]
          exact ⟨g2 - 1, by omega, rfl, j + 1, df, rfl, rfl, h, by omega, by omega, hsub⟩
      · rw [subsF_end (by omega)] at hsub
        rw [← hsub] at hbk
        have hkr : k < t[k].length := by omega
        have hdk := all_get hrf hkr
        refine Bx.fld bp4 (off := 1) rfl u_impl_Elimination rfl i_s_s_float32 u_s_s_float32 rfl ?_
        refine he.tab.at0 hb4 hkt fun r hr => ?_
        refine (hr.ext hb4).at hkr ?_
        refine rbin_float (by simp) fun q hq => ?_
        rw [cell_get hkt hkr] at hbk
        refine owns_set hz (x := fl q) hkz rfl u_s_float32 i_float32 fun w5 ho5 hg5 => ?_
        have ho5 : OS w5 w.heap.size y (zl.set k q) := by
          show w5.ownsRow w.heap.size t_float32 1 y (zl.set k q).length ((zl.set k q).map fl)
          rw [List.length_set, List.map_set]; exact ho5
        have hb5 := OS.below hz hb4 hg5 (Nat.le_refl _) (Nat.le_refl _)
        have bp5 := keep_box bp4 hg5 (Ty.owns hz) (by decide)
        have hql := FR_lt hq
        have hk5 : k < (zl.set k q).length := by rw [List.length_set]; exact hkz
        refine (ho5.FS (lt_set hzf.lt hql)).at hk5 ?_
        rw [List.getElem_set_self]
        refine c_l01Finite ?_
        rw [una_not]
        by_cases hzero : isZ t[k][k] = true
        · rw [quo_zero hown hdk hzero hq]
          rw [hzero] at hbk
          exact cnd_yes rfl (h0 hbk.symm _ hb5)
        · have hzero : isZ t[k][k] = false := by simpa using hzero
          rw [hzero] at hbk
          simp only [Bool.false_eq_true, if_false] at hbk
          rw [← quo_ok hown hdk hzero hq] at hbk
          refine cnd_split (fun h => ?_) (fun h => ?_)
          · rw [nb1 h] at hbk
            exact h0 hbk.symm _ hb5
          · have h := nb0 h
            rw [h] at hbk
            rw [bin_sub, wrap_i64 (by omega) (by omega)]
            exact ⟨k, by omega, hb5, k, zl.set k q, rfl, rfl, by omega, bp5, ho5, hzf.set h hql, hbk⟩
    · have : g = 0 := by omega
      subst this
      rw [backF] at hbk
      exact h1 zl y _ hbk.symm hzf hb4 hz

end Go.Proofs.Ytliagkijeigcaaa
