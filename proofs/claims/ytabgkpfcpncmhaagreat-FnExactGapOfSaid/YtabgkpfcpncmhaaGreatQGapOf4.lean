import Derived.ProofKit
import Derived.Test.YtabgkpfcpncmhaaGreatRows
import Derived.Test.YtabgkpfcpncmhaaGreatQGapOf3
/- Contracts: gaps of matrices. -/
set_option linter.unusedVariables false
namespace Go.Proofs.YtabgkpfcpncmhaaGreat
open Go Go.Vc

variable {w : World} {K : Value → World → Prop}

def en (m : List (List Nat)) (i j : Nat) : Nat := (m.getD i []).getD j 0
theorem en_eq {m : List (List Nat)} {i j : Nat} (hi : i < m.length) (hj : j < m[i].length) : m[i][j] = en m i j := by
  unfold en; simp [hi, hj]
theorem FSS.entry {a : Value} {m : List (List Nat)} (ha : FSS w a m) (hm : matB m = true) {i j : Nat} (hi : i < m.length) (hj : j < m.length) {K : Value → Prop}
    (H : en m i j < 4294967296 → Vc.Fin Ieee.single (en m i j) → K (fl (en m i j))) :
    ixa P t_s_s_float32 a (.int .i64 (i : Int)) w fun x => ld P t_s_float32 x w fun r => ixa P t_s_float32 r (.int .i64 (j : Int)) w fun y => ld P t_float32 y w K := by
  obtain ⟨h1, h2, h3⟩ := matB_parts hm
  refine ha.at hi fun x hx => ?_
  have h4 := h1 m[i] (List.getElem_mem hi)
  have hj' : j < m[i].length := by omega
  refine hx.at hj' ?_
  have h5 := hx.lt m[i][j] (List.getElem_mem hj')
  have h6 := finB_iff.1 (List.all_eq_true.1 h4.2 m[i][j] (List.getElem_mem hj'))
  rw [en_eq hi hj'] at h5 h6 ⊢
  exact H h5 h6

/-! ### the plain law -/
def gK (m b : List (List Nat)) (i j : Nat) : Nat → Rat
  | 0 => if i = j then 1 else 0
  | k + 1 => gK m b i j k - fq (en b i k) * fq (en m k j)
def gJ (m b : List (List Nat)) (n i : Nat) : Nat → Rat
  | 0 => 0
  | j + 1 => gJ m b n i j + absQ (gK m b i j n)
def gI (m b : List (List Nat)) (n : Nat) : Nat → Rat
  | 0 => 0
  | i + 1 => if 0 < cmpQ (gJ m b n i n) (gI m b n i) then gJ m b n i n else gI m b n i
theorem dy_one : dy 1 0 = 1 := by simp [dy]
theorem fq_one : fq 1065353216 = 1 := by
  show dy (fM 1065353216) (fE 1065353216) = 1
  rw [show fM 1065353216 = 1 * 2 ^ 23 from by decide, dy_shift' (m := 1) (e := 0) (by decide)]
  exact dy_one
theorem fin_one : Vc.Fin Ieee.single 1065353216 := by decide

theorem c_impl_gap {a v : Value} {m b : List (List Nat)} (ha : FSS w a m) (hv : FSS w v b) (hm : matB m = true) (hb : matB b = true) (hl : m.length = b.length)
    (H : ∀ u w', Ext w w' → NQ w' u 298 272 (gI m b m.length m.length) → K u w') : call P f_impl_gap [a, v] w K := by
  obtain ⟨_, _, h8⟩ := matB_parts hm
  refine I_impl_gap ?_
  unfold D_impl_gap
  refine alc_NC fun x4 w1 n4 e1 => ?_
  refine c_num_zero fun v2 w2 e2 n2 => ?_
  refine alc_NC fun x5 w3 n5 e3 => ?_
  refine n5.put (n2.ext e3) fun w4 v5 g4 _ => ?_
  have e4 : Ext w1 w4 := ext_gr (e2.trans e3) e2.size g4
  have s1 := e1.size
  have s2 := e2.size
  rw [(hv.ext (e1.trans e4)).len]
  refine ⟨fun g x w' => ∃ i : Nat, x = .int .i64 i ∧ g + i = m.length ∧ Ext w1 w' ∧ NV w' w2.heap.size x5 298 272 (gI m b m.length i), ⟨m.length, 0, rfl, rfl, e4, v5.mono (by decide) (by decide)⟩, ?_⟩
  rintro g x junk w5 ⟨i, rfl, hg, e5, v5⟩
  rw [bin_lss]
  refine cnd_dec (fun hlt => ?_) (fun hge => ?_)
  · have hi : i < m.length := by omega
    refine c_num_zero fun v6 w6 e6 n6 => ?_
    refine alc_NC fun x7 w7 n7 e7 => ?_
    refine n7.put (n6.ext e7) fun w8 v7 g8 _ => ?_
    have e8 : Ext w5 w8 := ext_gr (e6.trans e7) e6.size g8
    have s6 := e6.size
    rw [((ha.ext (e1.trans e5)).ext e8).len]
    refine ⟨fun g x w' => ∃ j : Nat, x = .int .i64 j ∧ g + j = m.length ∧ Ext w5 w' ∧ NV w' w6.heap.size x7 298 (264 + j) (gJ m b m.length i j), ⟨m.length, 0, rfl, rfl, e8, v7.mono (by decide) (by decide)⟩, ?_⟩
    rintro g' x junk w9 ⟨j, rfl, hg', e9, v7⟩
    rw [bin_lss]
    refine cnd_dec (fun hlt' => ?_) (fun hge' => ?_)
    · have hj : j < m.length := by omega
      refine c_num_zero fun v10 w10 e10 n10 => ?_
      refine alc_NC fun x9 w11 n9 e11 => ?_
      refine n9.put (n10.ext e11) fun w12 v9 g12 _ => ?_
      have e12 : Ext w9 w12 := ext_gr (e10.trans e11) e10.size g12
      have s10 := e10.size
      refine ⟨fun w' => Ext w9 w' ∧ NV w' w10.heap.size x9 298 256 (if i = j then 1 else 0), ?_, ?_⟩
      · rintro junk w13 ⟨e13, v9⟩
        rw [((ha.ext (e1.trans (e5.trans e9))).ext e13).len]
        refine ⟨fun g x w' => ∃ k : Nat, x = .int .i64 k ∧ g + k = m.length ∧ Ext w9 w' ∧ NV w' w10.heap.size x9 298 (256 + k) (gK m b i j k), ⟨m.length, 0, rfl, rfl, e13, v9⟩, ?_⟩
        rintro g'' x junk w14 ⟨k, rfl, hg'', e14, v9⟩
        have E14 := e1.trans (e5.trans (e9.trans e14))
        rw [bin_lss]
        refine cnd_dec (fun hlt'' => ?_) (fun hge'' => ?_)
        · have hk : k < m.length := by omega
          refine v9.get fun u9 nu9 => ?_
          refine (hv.ext E14).entry hb (by omega) (by omega) fun hb1 hf1 => ?_
          refine (ha.ext E14).entry hm hk hj fun hb2 hf2 => ?_
          refine c_numOf hb1 hf1 fun p1 w15 e15 np1 => ?_
          refine ⟨e15, ?_⟩
          refine c_numOf hb2 hf2 fun p2 w16 e16 np2 => ?_
          refine ⟨e16, ?_⟩
          refine c_num_mul (np1.ext e16) np2 (by decide) (by decide) (by decide) (by decide) fun p3 w17 e17 np3 => ?_
          refine ⟨e17, ?_⟩
          have E17 := e15.trans (e16.trans e17)
          refine c_num_sub (nu9.ext E17) (np3.mono (by omega) (by omega)) (by omega) (by omega) fun p4 w18 e18 np4 => ?_
          refine (v9.NC.ext (E17.trans e18)).put np4 fun w19 v9' g19 _ => ?_
          rw [bin_add, wrap_i64 (by omega) (by omega)]
          refine ⟨g'' - 1, by omega, k + 1, rfl, by omega, ?_, v9'⟩
          exact ext_gr (e14.trans (E17.trans e18)) s10 g19
        · have hk : k = m.length := by omega
          subst hk
          refine (v7.ext e14).get fun u7 nu7 => ?_
          refine v9.get fun u9 nu9 => ?_
          refine c_num_abs nu9 (by omega) (by omega) fun p1 w15 e15 np1 => ?_
          refine ⟨e15, ?_⟩
          refine c_num_add (nu7.ext e15) (np1.mono (by omega) (by omega)) (by omega) (by omega) fun p2 w16 e16 np2 => ?_
          have E16 := e14.trans (e15.trans e16)
          refine (v7.NC.ext E16).put np2 fun w17 v7' g17 _ => ?_
          rw [bin_add, wrap_i64 (by omega) (by omega)]
          refine ⟨g' - 1, by omega, j + 1, rfl, by omega, ?_, v7'⟩
          exact ext_gr (e9.trans E16) s6 g17
      · rw [bin_eql]
        refine cnd_dec (fun heq => ?_) (fun hne => ?_)
        · refine c_numOf (by decide) fin_one fun p1 w13 e13 np1 => ?_
          refine (v9.NC.ext e13).put np1 fun w14 v9' g14 _ => ?_
          rw [fq_one] at v9'
          refine ⟨ext_gr (e12.trans e13) s10 g14, ?_⟩
          rw [if_pos (by omega)]
          exact v9'.mono (by decide) (by decide)
        · refine ⟨e12, ?_⟩
          rw [if_neg (by omega)]
          exact v9.mono (by decide) (by decide)
    · have hj : j = m.length := by omega
      subst hj
      refine v7.get fun u7 nu7 => ?_
      refine (v5.ext e9).get fun u5 nu5 => ?_
      refine c_num_cmp (nu7.mono (by omega) (show 264 + m.length ≤ 272 by omega)) nu5 (by decide) (by decide) fun w10 e10 => ?_
      have E10 := e9.trans e10
      rw [bin_gtr]
      refine cnd_dec (fun hgt => ?_) (fun hle => ?_)
      · refine (v7.ext e10).get fun u7 nu7 => ?_
        refine (v5.NC.ext E10).put (nu7.mono (Nat.le_refl _) (show 264 + m.length ≤ 272 by omega)) fun w11 v5' g11 _ => ?_
        rw [bin_add, wrap_i64 (by omega) (by omega)]
        refine ⟨g - 1, by omega, i + 1, rfl, by omega, ext_gr (e5.trans E10) s2 g11, ?_⟩
        rw [gI, if_pos hgt]
        exact v5'
      · rw [bin_add, wrap_i64 (by omega) (by omega)]
        refine ⟨g - 1, by omega, i + 1, rfl, by omega, e5.trans E10, ?_⟩
        rw [gI, if_neg hle]
        exact v5.ext E10
  · have hi : i = m.length := by omega
    subst hi
    refine v5.get fun u5 nu5 => ?_
    refine (n4.ext e5).put nu5 fun w6 v4 g6 _ => ?_
    refine v4.getc fun u nu => ?_
    exact H _ _ (ext_gr (e1.trans e5) (Nat.le_refl _) g6) nu

theorem c_spec_l10Gap {a v : Value} {m b : List (List Nat)} (ha : FSS w a m) (hv : FSS w v b) (hm : matB m = true) (hb : matB b = true) (hl : m.length = b.length)
    (H : ∀ u w', Ext w w' → DQ w' u 298 272 (gI m b m.length m.length) → K u w') : call P f_spec_l10Gap [a, v] w K := by
  obtain ⟨_, _, h8⟩ := matB_parts hm
  refine I_spec_l10Gap ?_
  unfold D_spec_l10Gap
  refine alc_DC fun x4 w1 n4 e1 => ?_
  rw [bld_Dyadic0]
  rw [(ha.ext e1).len]
  refine alc_DC fun x5 w3 n5 e3 => ?_
  refine n5.put ((DQ.zero _).mono (lo' := 298) (hi' := 272) (by decide) (by decide)) fun w4 v5 g4 _ => ?_
  have e4 : Ext w1 w4 := ext_gr e3 (Nat.le_refl _) g4
  have s1 := e1.size
  refine ⟨fun g x w' => ∃ i : Nat, x = .int .i64 i ∧ g + i = m.length ∧ Ext w1 w' ∧ DV w' w1.heap.size x5 298 272 (gI m b m.length i), ⟨m.length, 0, rfl, rfl, e4, v5⟩, ?_⟩
  rintro g x junk w5 ⟨i, rfl, hg, e5, v5⟩
  rw [bin_lss]
  refine cnd_dec (fun hlt => ?_) (fun hge => ?_)
  · have hi : i < m.length := by omega
    rw [bld_Dyadic0]
    refine alc_DC fun x7 w7 n7 e7 => ?_
    refine n7.put ((DQ.zero _).mono (lo' := 298) (hi' := 264) (by decide) (by decide)) fun w8 v7 g8 _ => ?_
    have e8 : Ext w5 w8 := ext_gr e7 (Nat.le_refl _) g8
    refine ⟨fun g x w' => ∃ j : Nat, x = .int .i64 j ∧ g + j = m.length ∧ Ext w5 w' ∧ DV w' w5.heap.size x7 298 (264 + j) (gJ m b m.length i j), ⟨m.length, 0, rfl, rfl, e8, v7⟩, ?_⟩
    rintro g' x junk w9 ⟨j, rfl, hg', e9, v7⟩
    rw [bin_lss]
    refine cnd_dec (fun hlt' => ?_) (fun hge' => ?_)
    · have hj : j < m.length := by omega
      rw [bld_Dyadic0]
      refine alc_DC fun x9 w11 n9 e11 => ?_
      refine n9.put ((DQ.zero _).mono (lo' := 298) (hi' := 256) (by decide) (by decide)) fun w12 v9 g12 _ => ?_
      have e12 : Ext w9 w12 := ext_gr e11 (Nat.le_refl _) g12
      refine ⟨fun w' => Ext w9 w' ∧ DV w' w9.heap.size x9 298 256 (if i = j then 1 else 0), ?_, ?_⟩
      · rintro junk w13 ⟨e13, v9⟩
        refine ⟨fun g x w' => ∃ k : Nat, x = .int .i64 k ∧ g + k = m.length ∧ Ext w9 w' ∧ DV w' w9.heap.size x9 298 (256 + k) (gK m b i j k), ⟨m.length, 0, rfl, rfl, e13, v9⟩, ?_⟩
        rintro g'' x junk w14 ⟨k, rfl, hg'', e14, v9⟩
        have E14 := e1.trans (e5.trans (e9.trans e14))
        rw [bin_lss]
        refine cnd_dec (fun hlt'' => ?_) (fun hge'' => ?_)
        · have hk : k < m.length := by omega
          refine v9.get fun u9 nu9 => ?_
          refine (hv.ext E14).entry hb (by omega) (by omega) fun hb1 hf1 => ?_
          refine (ha.ext E14).entry hm hk hj fun hb2 hf2 => ?_
          refine c_l03Of hf1 hb1 fun p1 w15 e15 np1 => ?_
          refine ⟨e15, ?_⟩
          refine c_l03Of hf2 hb2 fun p2 w16 e16 np2 => ?_
          refine ⟨e16, ?_⟩
          refine c_l03Mul (np1.ext e16) np2 (by decide) (by decide) (by decide) (by decide) fun p3 w17 e17 np3 => ?_
          refine ⟨e17, ?_⟩
          have E17 := e15.trans (e16.trans e17)
          refine c_l03Sub (nu9.ext E17) (np3.mono (by omega) (by omega)) (by omega) (by omega) fun p4 w18 e18 np4 => ?_
          refine (v9.DC.ext (E17.trans e18)).put np4 fun w19 v9' g19 _ => ?_
          rw [bin_add, wrap_i64 (by omega) (by omega)]
          refine ⟨g'' - 1, by omega, k + 1, rfl, by omega, ?_, v9'⟩
          exact ext_gr (e14.trans (E17.trans e18)) (Nat.le_refl _) g19
        · have hk : k = m.length := by omega
          subst hk
          refine v9.absv (by omega) (by omega) fun w15 w16 e15 g16 v9 => ?_
          have e16 : Ext w9 w16 := ext_gr (e14.trans e15) (Nat.le_refl _) g16
          refine (v7.ext e16).get fun u7 nu7 => ?_
          refine v9.get fun u9 nu9 => ?_
          refine c_l03Add nu7 (nu9.mono (by omega) (by omega)) (by omega) (by omega) fun p2 w17 e17 np2 => ?_
          have E17 := e16.trans e17
          refine (v7.DC.ext E17).put np2 fun w18 v7' g18 _ => ?_
          rw [bin_add, wrap_i64 (by omega) (by omega)]
          refine ⟨g' - 1, by omega, j + 1, rfl, by omega, ?_, v7'⟩
          exact ext_gr (e9.trans E17) (Nat.le_refl _) g18
      · rw [bin_eql]
        refine cnd_dec (fun heq => ?_) (fun hne => ?_)
        · refine c_l02Of (by decide) (by decide) fun p1 w13 e13 np1 => ?_
          refine c_l03Make (lo := 298) (hi := 256) np1.Wr ⟨by decide, by decide, fun _ => by decide⟩ (by decide) (by decide) fun p2 w14 m' e' e14 hd hc => ?_
          refine (v9.DC.ext (e13.trans e14)).put ⟨m', e', hd.Dr, hc⟩ fun w15 v9' g15 _ => ?_
          rw [dy_one] at v9'
          refine ⟨ext_gr (e12.trans (e13.trans e14)) (Nat.le_refl _) g15, ?_⟩
          rw [if_pos (by omega)]
          exact v9'
        · refine ⟨e12, ?_⟩
          rw [if_neg (by omega)]
          exact v9
    · have hj : j = m.length := by omega
      subst hj
      refine v7.get fun u7 nu7 => ?_
      refine (v5.ext e9).get fun u5 nu5 => ?_
      refine c_l03Compare (nu7.mono (by omega) (show 264 + m.length ≤ 272 by omega)) nu5 (by decide) (by decide) fun w10 e10 => ?_
      have E10 := e9.trans e10
      rw [bin_gtr]
      refine cnd_dec (fun hgt => ?_) (fun hle => ?_)
      · refine (v7.ext e10).get fun u7 nu7 => ?_
        refine (v5.DC.ext E10).put (nu7.mono (Nat.le_refl _) (show 264 + m.length ≤ 272 by omega)) fun w11 v5' g11 _ => ?_
        rw [bin_add, wrap_i64 (by omega) (by omega)]
        refine ⟨g - 1, by omega, i + 1, rfl, by omega, ext_gr (e5.trans E10) (Nat.le_refl _) g11, ?_⟩
        rw [gI, if_pos hgt]
        exact v5'
      · rw [bin_add, wrap_i64 (by omega) (by omega)]
        refine ⟨g - 1, by omega, i + 1, rfl, by omega, e5.trans E10, ?_⟩
        rw [gI, if_neg hle]
        exact v5.ext E10
  · have hi : i = m.length := by omega
    subst hi
    refine v5.get fun u5 nu5 => ?_
    refine (n4.ext e5).put nu5 fun w6 v4 g6 _ => ?_
    refine v4.getc fun u nu => ?_
    exact H _ _ (ext_gr (e1.trans e5) (Nat.le_refl _) g6) nu
end Go.Proofs.YtabgkpfcpncmhaaGreat

/- The interface for exact numbers. -/
set_option linter.unusedVariables false
namespace Go.Proofs.YtabgkpfcpncmhaaGreat
open Go Go.Vc

variable {w : World} {K : Value → World → Prop} {lo hi : Nat} {v : Value}

abbrev DY := Int × List Int × Int
def I_Dyadic (w : World) (v : Value) (d : DY) : Prop := ∃ s, v = .agg #[.int .i64 d.1, s, .int .i64 d.2.2] ∧ FI w s d.2.1
theorem I_Dyadic.ext {w' : World} {d : DY} (h : I_Dyadic w v d) (he : Ext w w') : I_Dyadic w' v d := let ⟨s, h1, h2⟩ := h; ⟨s, h1, h2.ext he⟩
def O_Dyadic (w : World) (lo hi : Nat) (v : Value) (d : DY) : Prop := ∃ s, v = .agg #[.int .i64 d.1, s, .int .i64 d.2.2] ∧ OIR w lo hi s d.2.1
theorem O_Dyadic.ext {w' : World} {d : DY} (h : O_Dyadic w lo hi v d) (he : Ext w w') : O_Dyadic w' lo hi v d := let ⟨s, h1, h2⟩ := h; ⟨s, h1, h2.ext he⟩
theorem O_Dyadic.chg {w' : World} {d : DY} {lo' hi' : Nat} (h : O_Dyadic w lo hi v d) (hc : Chg lo' hi' w w') (hd : hi ≤ lo' ∨ hi' ≤ lo) : O_Dyadic w' lo hi v d := let ⟨s, h1, h2⟩ := h; ⟨s, h1, h2.chg hc hd⟩
theorem O_Dyadic.I {d : DY} (h : O_Dyadic w lo hi v d) : I_Dyadic w v d := let ⟨s, h1, h2⟩ := h; ⟨s, h1, OIR.FI h2⟩
def cnt_Dyadic (d : DY) : Nat := d.2.1.length
def mk_Dyadic (k : Int) (d : DY) : DY := (d.1, mkI k d.2.1.length, d.2.2)
theorem Dyadic_agg {d : DY} (h : I_Dyadic w v d) : ∃ cs : List Value, v = .agg cs.toArray ∧ cs.length = 3 ∧ ∀ x ∈ cs, x.oneCell' = true := by
  obtain ⟨s, h1, h2⟩ := h
  exact ⟨[.int .i64 d.1, s, .int .i64 d.2.2], h1, rfl, one_3 rfl h2.one rfl⟩

theorem c_eqWhole {n : Int} {s t : Value} {l : List Int} (h1 : FI w s l) (h2 : FI w t l) (H : ∀ w', Ext w w' → K (.bool true) w') : call P f_laws_eqWhole [.agg #[.int .i64 n, s], .agg #[.int .i64 n, t]] w K := by
  refine I_laws_eqWhole ?_
  unfold D_laws_eqWhole
  refine bx_Wh fun p w1 p1 e1 => ?_
  refine bx_Wh fun q w2 p2 e2 => ?_
  have p1 := p1.ext e2
  have E := e1.trans e2
  refine wh_s p1 ?_
  refine wh_s p2 ?_
  refine neq_no rfl ?_
  rw [cnd_false]
  refine wh_l p1 ?_
  refine wh_l p2 ?_
  refine c_eqInt64S (h1.ext E) (h2.ext E) ?_
  rw [una_not, Bool.not_true, cnd_false]
  exact H _ E
theorem c_eq_Dyadic {u : Value} {d : DY} (h1 : I_Dyadic w u d) (h2 : I_Dyadic w v d) (H : ∀ w', Ext w w' → K (.bool true) w') : call P f_laws_eqDyadic [u, v] w K := by
  obtain ⟨s, rfl, a1⟩ := h1
  obtain ⟨t, rfl, a2⟩ := h2
  refine I_laws_eqDyadic ?_
  unfold D_laws_eqDyadic
  refine bx_Dy fun p w1 p1 e1 => ?_
  refine bx_Dy fun q w2 p2 e2 => ?_
  have p1 := p1.ext e2
  have E := e1.trans e2
  refine dy_w p1 ?_
  refine dy_w p2 ?_
  refine c_eqWhole (a1.ext E) (a2.ext E) fun w3 e3 => ?_
  rw [una_not, Bool.not_true, cnd_false]
  refine dy_e (p1.ext e3) ?_
  refine dy_e (p2.ext e3) ?_
  refine neq_no rfl ?_
  rw [cnd_false]
  exact H _ (E.trans e3)
theorem c_mark_Dyadic {d : DY} {k : Int} (h : O_Dyadic w lo hi v d) (h0 : 0 ≤ k) (h1 : k + cnt_Dyadic d ≤ 4611686018427387904) (H : ∀ w', O_Dyadic w' lo hi v (mk_Dyadic k d) → Chg lo hi w w' → K (.int .i64 (k + cnt_Dyadic d)) w') :
    call P f_laws_markDyadic [v, .int .i64 k] w K := by
  obtain ⟨s, rfl, a1⟩ := h
  unfold cnt_Dyadic at *
  refine I_laws_markDyadic ?_
  unfold D_laws_markDyadic
  refine bx_Dy fun p w1 p1 e1 => ?_
  refine dy_w p1 ?_
  refine I_laws_markWhole ?_
  unfold D_laws_markWhole
  refine bx_Wh fun q w2 p2 e2 => ?_
  refine wh_l p2 ?_
  have E := e1.trans e2
  have a2 := OwnR.ext a1 E
  refine c_markInt64S a2 h0 h1 fun w3 a3 g3 => ?_
  exact H w3 ⟨s, rfl, a3⟩ ((Chg.of_ext E).trans (OwnR.grown a2 g3))
theorem c_held_Dyadic {d : DY} {k : Int} (h : I_Dyadic w v (mk_Dyadic k d)) (h0 : 0 ≤ k) (h1 : k + cnt_Dyadic d ≤ 4611686018427387904) (H : ∀ w', Ext w w' → K (.int .i64 (k + cnt_Dyadic d)) w') : call P f_laws_heldDyadic [v, .int .i64 k] w K := by
  obtain ⟨s, rfl, a1⟩ := h
  unfold cnt_Dyadic at *
  refine I_laws_heldDyadic ?_
  unfold D_laws_heldDyadic
  refine bx_Dy fun p w1 p1 e1 => ?_
  refine dy_w p1 ?_
  refine I_laws_heldWhole ?_
  unfold D_laws_heldWhole
  refine bx_Wh fun q w2 p2 e2 => ?_
  refine wh_l p2 ?_
  have E := e1.trans e2
  refine c_heldInt64S (a1.ext E) h0 h1 ?_
  refine lss_no (by omega) ?_
  rw [cnd_false]
  refine lss_no (by omega) ?_
  rw [cnd_false]
  exact H _ E

/-! ### the canonical pair of a number, and its limbs -/
open Classical in
noncomputable def cnQ (q : Rat) : Int × Int := if h : ∃ p : Int × Int, Canon p.1 p.2 ∧ q = dy p.1 p.2 then Classical.choose h else (0, 0)
theorem Cn.cnQ {lo hi : Nat} {q : Rat} {m e : Int} (h : Cn lo hi q m e) : cnQ q = (m, e) := by
  have hx : ∃ p : Int × Int, Canon p.1 p.2 ∧ q = dy p.1 p.2 := ⟨(m, e), h.canon, h.val⟩
  unfold Go.Proofs.YtabgkpfcpncmhaaGreat.cnQ
  rw [dif_pos hx]
  obtain ⟨h1, h2⟩ := Classical.choose_spec hx
  obtain ⟨e1, e2⟩ := canon_inj h1 h.canon (h2.symm.trans h.val)
  exact Prod.ext e1 e2
open Classical in
noncomputable def lmb (m : Int) : List Nat := if h : ∃ l, Wl l m then Classical.choose h else []
theorem Wl.lmb {l : List Nat} {m : Int} (h : Wl l m) : lmb m = l := by
  have hx : ∃ l, Wl l m := ⟨l, h⟩
  unfold Go.Proofs.YtabgkpfcpncmhaaGreat.lmb
  rw [dif_pos hx]
  have h1 := Classical.choose_spec hx
  exact Vc.val_inj h1.1 h.1 (h1.2.trans h.2.symm)
theorem lmb_len {m : Int} (h : bl m.natAbs ≤ 2400) : (lmb m).length ≤ 45812984491 := by
  unfold lmb
  split
  · rename_i hx
    exact (Classical.choose_spec hx).len (by omega)
  · simp
noncomputable def dyV (m e : Int) : DY := (m.sign, (lmb m).map (fun (n : Nat) => (n : Int)), e)
theorem Dr.I {m e : Int} (h : Dr w v m e) : I_Dyadic w v (dyV m e) := by
  obtain ⟨s, l, h1, h2, h3⟩ := h
  refine ⟨s, h1, ?_⟩
  unfold dyV
  rw [h3.lmb]
  have := h2.row
  unfold FI
  rw [List.map_map, List.length_map]
  exact this
theorem Do.O {lo hi : Nat} {m e : Int} (h : Do w lo hi v m e) : O_Dyadic w lo hi v (dyV m e) := by
  obtain ⟨s, l, h1, h2, h3⟩ := h
  refine ⟨s, h1, ?_⟩
  unfold dyV
  rw [h3.lmb]
  unfold OIR
  rw [List.map_map, List.length_map]
  exact h2
noncomputable def dyOut (q : Rat) : DY × Int := (dyV (dyR (cnQ q).1 (cnQ q).2).1.1 (dyR (cnQ q).1 (cnQ q).2).1.2, (dyR (cnQ q).1 (cnQ q).2).2)
theorem small_dyOut (q : Rat) : cnt_Dyadic (dyOut q).1 ≤ 45812984491 := by
  unfold dyOut cnt_Dyadic dyV
  simp only [List.length_map]
  unfold dyR
  split
  · rename_i h; exact lmb_len h.1
  · exact lmb_len (by decide)
theorem dyV_zero : dyV 0 0 = (0, [], 0) := by unfold dyV; rw [Wl.zero.lmb]; rfl
end Go.Proofs.YtabgkpfcpncmhaaGreat

/- The contracts of GapOf, as the law wants them. -/
set_option linter.unusedVariables false
namespace Go.Proofs.YtabgkpfcpncmhaaGreat
open Go Go.Vc

variable {w : World} {K : Value → World → Prop}

noncomputable def gapF (m b : List (List Nat)) : DY × Int := if matB m && matB b then (if m.length = b.length then dyOut (gI m b m.length m.length) else ((0, [], 0), 2)) else ((0, [], 0), 1)
theorem small_GapOf_0 (m b : List (List Nat)) : cnt_Dyadic (gapF m b).1 ≤ 45812984491 := by
  unfold gapF
  split
  · split
    · exact small_dyOut _
    · simp [cnt_Dyadic]
  · simp [cnt_Dyadic]
theorem O_zero (w : World) (lo hi : Nat) : O_Dyadic w lo hi (.agg #[.int .i64 0, .slice none 0 0, .int .i64 0]) (0, [], 0) := by
  have := (Do.zero w lo hi).O
  rw [dyV_zero] at this; exact this

/-- Two matrices: the checks. -/
theorem p_GapOf {a v : Value} {m b : List (List Nat)} (ha : I_Float32SS w a m) (hv : I_Float32SS w v b)
    (H : ∀ u w', Ext w w' → O_Dyadic w' w.heap.size w'.heap.size u (gapF m b).1 → K (.tuple #[u, .int .i64 (gapF m b).2]) w') : call P f_impl_GapOf [a, v] w K := by
  refine I_impl_GapOf ?_
  unfold D_impl_GapOf
  refine alc_Dy fun x4 w1 ⟨cs, hcs, b1⟩ e1 => ?_
  have h1 := ha.1.ext e1
  have h2 := hv.1.ext e1
  refine c_impl_IsMatrix h1 ?_
  rw [una_not]
  have bad : ∀ c : Int, gapF m b = ((0, [], 0), c) → bld P t_impl_Dyadic [] w1 fun x => sto P t_impl_Dyadic x4 x w1 fun w2 => ldc P t_impl_Dyadic x4 w2 fun r => K (.tuple #[r, .int .i64 c]) w2 := fun c hc => by
    rw [bld_Dyadic0]
    refine dy_ret b1 hcs rfl fun w2 g2 => ?_
    have e2 : Ext w w2 := ext_of_grown e1 (fun g hg => (b1.blk_lt hg).1) g2
    rw [hc] at H
    exact H _ _ e2 (O_zero _ _ _)
  refine ⟨fun y w' => w' = w1 ∧ (matB m = true → y = .bool (! matB b)), ?_, ?_⟩
  · rintro y junk w2 ⟨rfl, hy⟩
    by_cases hm : matB m = true
    · rw [hy hm, hm, Bool.not_true, pick_bool, cond_false]
      by_cases hb : matB b = true
      · rw [hb, Bool.not_true, cnd_false, h1.len, h2.len, bin_neq]
        refine cnd_dec (fun hne => bad 2 ?_) (fun heq => ?_)
        · unfold gapF; rw [hm, hb]; simp only [Bool.and_self, if_true]; rw [if_neg (by omega)]
        · have hl : m.length = b.length := by omega
          have hg : gapF m b = dyOut (gI m b m.length m.length) := by unfold gapF; rw [hm, hb]; simp only [Bool.and_self, if_true]; rw [if_pos hl]
          rw [hg] at H
          refine c_impl_gap h1 h2 hm hb hl fun u w3 e3 hq => ?_
          refine c_num_dyadic hq (by decide) (by decide) fun v4 w4 n e e4 hc hd => ?_
          rw [xtr_0, xtr_1]
          have E4 := e1.trans (e3.trans e4)
          obtain ⟨s, l, hv4, ho, hw⟩ := hd
          have b4 := (b1.ext e3).ext e4
          subst hv4
          refine dy_ret b4 hcs (own_one ho) fun w5 g5 => ?_
          have e5 : Ext w w5 := ext_of_grown E4 (fun g hg => (b4.blk_lt hg).1) g5
          have o5 := keep_row ho.own g5 (Ty.box b4) (by decide)
          unfold dyOut at H
          rw [hc.cnQ] at H
          exact H _ _ e5 (Do.O ⟨s, l, rfl, ⟨owns_base o5 (e1.trans e3).size, fun k hk => Nat.lt_of_lt_of_le (ho.top k hk) g5.size⟩, hw⟩)
      · rw [Bool.not_eq_true] at hb
        rw [hb, Bool.not_false, cnd_true]
        exact bad 1 (by unfold gapF; rw [hm, hb]; rfl)
    · rw [Bool.not_eq_true] at hm
      rw [hm, Bool.not_false, pick_bool, cond_true, cnd_true]
      exact bad 1 (by unfold gapF; rw [hm]; rfl)
  · refine grd_split (fun h3 => ?_) (fun h3 => ?_)
    · refine c_impl_IsMatrix h2 ?_
      rw [una_not]
      exact ⟨rfl, fun _ => rfl⟩
    · exact ⟨rfl, fun hm => by rw [hm] at h3; cases h3⟩

theorem s_GapOf {a v : Value} {m b : List (List Nat)} (ha : I_Float32SS w a m) (hv : I_Float32SS w v b)
    (H : ∀ u w', Ext w w' → I_Dyadic w' u (gapF m b).1 → K (.tuple #[u, .int .i64 (gapF m b).2]) w') : call P f_spec_GapOf [a, v] w K := by
  refine I_spec_GapOf ?_
  unfold D_spec_GapOf
  refine alc_Dy fun x4 w1 ⟨cs, hcs, b1⟩ e1 => ?_
  have h1 := ha.1.ext e1
  have h2 := hv.1.ext e1
  refine c_spec_l10Is h1 ?_
  rw [una_not]
  have bad : ∀ c : Int, gapF m b = ((0, [], 0), c) → bld P t_impl_Dyadic [] w1 fun x => sto P t_impl_Dyadic x4 x w1 fun w2 => ldc P t_impl_Dyadic x4 w2 fun r => K (.tuple #[r, .int .i64 c]) w2 := fun c hc => by
    rw [bld_Dyadic0]
    refine dy_ret b1 hcs rfl fun w2 g2 => ?_
    have e2 : Ext w w2 := ext_of_grown e1 (fun g hg => (b1.blk_lt hg).1) g2
    rw [hc] at H
    exact H _ _ e2 (O_zero _ 0 0).I
  refine ⟨fun y w' => w' = w1 ∧ (matB m = true → y = .bool (! matB b)), ?_, ?_⟩
  · rintro y junk w2 ⟨rfl, hy⟩
    by_cases hm : matB m = true
    · rw [hy hm, hm, Bool.not_true, pick_bool, cond_false]
      by_cases hb : matB b = true
      · rw [hb, Bool.not_true, cnd_false, h1.len, h2.len, bin_neq]
        refine cnd_dec (fun hne => bad 2 ?_) (fun heq => ?_)
        · unfold gapF; rw [hm, hb]; simp only [Bool.and_self, if_true]; rw [if_neg (by omega)]
        · have hl : m.length = b.length := by omega
          have hg : gapF m b = dyOut (gI m b m.length m.length) := by unfold gapF; rw [hm, hb]; simp only [Bool.and_self, if_true]; rw [if_pos hl]
          rw [hg] at H
          refine c_spec_l10Gap h1 h2 hm hb hl fun u w3 e3 hq => ?_
          obtain ⟨n, e, hd, hc⟩ := hq
          refine c_l03Fit hd hc.canon fun v4 w4 e4 hd4 => ?_
          rw [xtr_0, xtr_1]
          have E4 := e1.trans (e3.trans e4)
          refine alc_Dy fun x6 w5 ⟨cs', hcs', b6⟩ e5 => ?_
          refine (hd4.ext e5).put b6 hcs' fun w6 ⟨s6, hv6, b6'⟩ g6 => ?_
          have hd6 := (hd4.ext e5).kt g6 (Ty.box b6) (by decide)
          have e6 : Ext w4 w6 := ext_of_grown e5 (fun g hg => (b6.blk_lt hg).1) g6
          rw [hv6] at hd6
          refine dy_all b6' ?_
          have b4 := ((b1.ext e3).ext e4).ext e6
          refine hd6.put b4 hcs fun w7 ⟨s7, hv7, b7⟩ g7 => ?_
          have hd7 := hd6.kt g7 (Ty.box b4) (by decide)
          rw [hv7] at hd7
          refine b7.getc u_impl_Dyadic rfl i_impl_Dyadic rfl ?_
          have e7 : Ext w w7 := ext_of_grown (E4.trans e6) (fun g hg => (b4.blk_lt hg).1) g7
          unfold dyOut at H
          rw [hc.cnQ] at H
          exact H _ _ e7 hd7.I
      · rw [Bool.not_eq_true] at hb
        rw [hb, Bool.not_false, cnd_true]
        exact bad 1 (by unfold gapF; rw [hm, hb]; rfl)
    · rw [Bool.not_eq_true] at hm
      rw [hm, Bool.not_false, pick_bool, cond_true, cnd_true]
      exact bad 1 (by unfold gapF; rw [hm]; rfl)
  · refine grd_split (fun h3 => ?_) (fun h3 => ?_)
    · refine c_spec_l10Is h2 ?_
      rw [una_not]
      exact ⟨rfl, fun _ => rfl⟩
    · exact ⟨rfl, fun hm => by rw [hm] at h3; cases h3⟩
end Go.Proofs.YtabgkpfcpncmhaaGreat

/- No function of a list calls itself, if the list has an order. -/
set_option linter.unusedVariables false
namespace Go.Proofs.YtabgkpfcpncmhaaGreat
open Go

theorem closureVia_sub {P : Program} {Q : FuncId → Prop} (hQ : ∀ g, Q g → ∀ h ∈ (P.funcs[g]?).elim [] P.leadsTo, Q h) :
    ∀ (n : Nat) (todo seen : List FuncId), (∀ x ∈ todo, Q x) → (∀ x ∈ seen, Q x) → ∀ x ∈ P.closureVia n todo seen, Q x
  | 0, todo, seen, _, h2, x, hx => h2 x (by simpa [Program.closureVia] using hx)
  | n + 1, [], seen, _, h2, x, hx => h2 x (by simpa [Program.closureVia] using hx)
  | n + 1, f :: todo, seen, h1, h2, x, hx => by
    rw [Program.closureVia] at hx
    split at hx
    · exact closureVia_sub hQ n todo seen (fun y hy => h1 y (List.mem_cons_of_mem _ hy)) h2 x hx
    · refine closureVia_sub hQ n _ _ (fun y hy => ?_) (fun y hy => ?_) x hx
      · rcases List.mem_append.1 hy with hy | hy
        · exact hQ f (h1 f List.mem_cons_self) y hy
        · exact h1 y (List.mem_cons_of_mem _ hy)
      · rcases List.mem_cons.1 hy with rfl | hy
        · exact h1 _ List.mem_cons_self
        · exact h2 y hy

theorem norec_of {P : Program} {S L : List FuncId} (h : (S.all fun g => ((P.funcs[g]?).elim [] P.leadsTo).all fun h => S.contains h && decide (L.idxOf h < L.idxOf g)) = true) :
    S.any (fun g => ((P.funcs[g]?).elim [] P.leadsTo).any fun h => (P.closure h).contains g) = false := by
  simp only [List.all_eq_true, Bool.and_eq_true, decide_eq_true_eq, List.contains_iff_mem] at h
  refine Bool.eq_false_iff.2 fun hc => ?_
  simp only [List.any_eq_true, List.contains_iff_mem] at hc
  obtain ⟨g, hg, x, hx, hm⟩ := hc
  have h0 := h g hg x hx
  have := closureVia_sub (P := P) (Q := fun y => y ∈ S ∧ L.idxOf y < L.idxOf g) (fun a ha b hb => ?_) _ [x] [] (fun y hy => ?_) (fun y hy => by cases hy) g hm
  · exact Nat.lt_irrefl _ this.2
  · have h1 := h a ha.1 b hb
    exact ⟨h1.1, Nat.lt_trans h1.2 ha.2⟩
  · rw [List.mem_singleton] at hy
    rw [hy]; exact h0
end Go.Proofs.YtabgkpfcpncmhaaGreat

/- The closed facts of FnExactGapOf's row. -/
set_option linter.unusedVariables false
namespace Go.Proofs.YtabgkpfcpncmhaaGreat
open Go Go.Vc
theorem reach_FnExactGapOf : Tryz.pinned.checked.prog.closure 3 = [3, 14, 87, 16, 27, 15, 88, 161, 131, 90, 164, 242, 284, 163, 240, 271, 241, 97, 177, 98, 209, 166, 243, 165, 211, 273, 96, 176, 175, 246, 247, 248, 167, 99, 89, 162, 239, 127, 17, 59, 135, 226, 229, 91, 101, 103, 181, 182, 250, 251, 285, 169, 212, 274, 168, 214, 276, 252, 102, 178, 191, 180, 188, 256, 179, 249, 259, 260, 287, 305, 288, 306, 258, 104, 183, 105, 92, 170, 244, 184, 253, 193, 189, 257, 171, 245, 195, 263, 18, 93, 172, 19, 29, 25, 20, 30, 21, 94, 173, 22, 95, 174] := by kernel_rfl
theorem norec_FnExactGapOf : ([3, 14, 87, 16, 27, 15, 88, 161, 131, 90, 164, 242, 284, 163, 240, 271, 241, 97, 177, 98, 209, 166, 243, 165, 211, 273, 96, 176, 175, 246, 247, 248, 167, 99, 89, 162, 239, 127, 17, 59, 135, 226, 229, 91, 101, 103, 181, 182, 250, 251, 285, 169, 212, 274, 168, 214, 276, 252, 102, 178, 191, 180, 188, 256, 179, 249, 259, 260, 287, 305, 288, 306, 258, 104, 183, 105, 92, 170, 244, 184, 253, 193, 189, 257, 171, 245, 195, 263, 18, 93, 172, 19, 29, 25, 20, 30, 21, 94, 173, 22, 95, 174] : List FuncId).any (fun g => ((Tryz.pinned.checked.prog.funcs[g]?).elim [] Tryz.pinned.checked.prog.leadsTo).any fun h => (Tryz.pinned.checked.prog.closure h).contains g) = false :=
  norec_of (L := [87, 14, 27, 16, 131, 161, 88, 284, 242, 164, 271, 240, 241, 163, 98, 209, 177, 97, 243, 166, 273, 211, 176, 246, 247, 248, 175, 96, 165, 167, 99, 90, 127, 239, 162, 89, 15, 229, 226, 135, 59, 101, 181, 285, 251, 250, 182, 103, 274, 212, 169, 252, 276, 214, 191, 178, 256, 188, 180, 259, 305, 287, 306, 288, 260, 258, 249, 179, 102, 168, 183, 104, 105, 91, 253, 184, 193, 244, 257, 189, 170, 245, 263, 195, 171, 92, 17, 172, 93, 18, 25, 29, 19, 30, 20, 173, 94, 21, 174, 95, 22, 3]) (by kernel_rfl)
theorem joined_FnExactGapOf : joinedFacts Tryz.pinned.checked.prog 3 Tryz.f3 Rows.fnExactGapOfSpec Rows.fnExactGapOfRow = true := by
  unfold joinedFacts Program.recurses Program.inPlace Program.varsNamed Program.unfollowed
  rw [reach_FnExactGapOf]
  rw [norec_FnExactGapOf]
  kernel_rfl
end Go.Proofs.YtabgkpfcpncmhaaGreat
