import Derived.ProofKit
import Derived.Test.YtabgkpfcpncmhaaGreatRows
import Derived.Test.YtabgkpfcpncmhaaGreatQRoundedDeterminant4
set_option linter.unusedSimpArgs false
set_option linter.unusedVariables false
/- Contracts: the program's determinant. -/
set_option linter.unusedVariables false
set_option linter.unusedSimpArgs false
namespace Go.Proofs.YtabgkpfcpncmhaaGreat
open Go Go.Vc

variable {w : World} {K : Value → World → Prop}

/-- Where a step begins. -/
structure DSt (w2 : World) (lo hi n k : Nat) (v x16 : Value) (d : Rat) (s : Int) (w' : World) (T : List (List Int)) (vs : List Value) (b : Int) : Prop where
  tm : TM w' lo hi v T vs
  sq : Sq n T
  bi : BI n k (tf T) b s d
  sg : s = 1 ∨ s = -1
  bd : ∀ p q, bl (tf T p q).natAbs + 1 ≤ 2 ^ k * 310
  bb : bl b.natAbs ≤ 100000
  ib : IntR w' x16 b
  ex : Ext w2 w'
def DPv (w2 : World) (lo hi n k : Nat) (v x16 : Value) (d : Rat) (b : Int) (y : Value) (w' : World) : Prop :=
  ∃ (s' : Int) (T' : List (List Int)) (vs' : List Value), y = .int .i64 s' ∧ DSt w2 lo hi n k v x16 d s' w' T' vs' b ∧ tf T' k k ≠ 0
theorem two_k {k : Nat} (h : k ≤ 7) : 2 ^ k * 310 ≤ 39680 := by
  have : 2 ^ k ≤ 2 ^ 7 := Nat.pow_le_pow_right (by decide) h
  omega
theorem t0_bl {m : List (List Nat)} {L : Int} {i j : Nat} (hf : Vc.Fin Ieee.single (en m i j)) (hL : -149 ≤ L) : bl (t0 m L i j).natAbs + 1 ≤ 310 := by
  have h1 := ibl_shl_le (fM (en m i j)) (fE (en m i j) - L).toNat
  have h2 : bl (fM (en m i j)).natAbs ≤ 24 := bl_le.2 (fM_abs _)
  have h3 := (f_bd hf).top
  unfold t0
  omega
theorem tab_bd {m : List (List Nat)} {L : Int} (hm : matB m = true) (hL : -149 ≤ L) (p q : Nat) : bl (tf (tabT m L m.length) p q).natAbs + 1 ≤ 2 ^ 0 * 310 := by
  obtain ⟨hrow, _, h8⟩ := matB_parts hm
  by_cases h : m.length ≤ p ∨ m.length ≤ q
  · rw [tf_out (tabT_sq m L) h]; simp [bl_zero]
  · have hp : p < m.length := by omega
    have hq : q < m.length := by omega
    rw [tf_tabT hp hq]
    have hl := (hrow m[p] (List.getElem_mem hp)).1
    have hf := finB_iff.1 (List.all_eq_true.1 (hrow m[p] (List.getElem_mem hp)).2 m[p][q] (List.getElem_mem (by omega)))
    rw [en_eq hp (by omega)] at hf
    have := t0_bl (L := L) hf hL
    omega
theorem det_tab {m : List (List Nat)} {L : Int} (hall : ∀ i j, i < m.length → j < m.length → L ≤ fE (en m i j)) :
    det m.length (dA m) = det m.length (fun i j => (tf (tabT m L m.length) i j : Rat)) * (2 : Rat) ^ ((m.length : Int) * L) := by
  refine det_dy fun i j hi hj => ?_
  rw [tf_tabT hi hj]
  unfold dA fq t0
  have := hall i j hi hj
  exact (dy_shift' (by omega)).symm

set_option maxRecDepth 20000 in
theorem c_impl_determinant {a : Value} {m : List (List Nat)} (ha : FSS w a m) (hm : matB m = true)
    (H : ∀ u w', Ext w w' → NQ w' u 1192 50000 (det m.length (dA m)) → K u w') : call P f_impl_determinant [a] w K := by
  obtain ⟨hrow, h1n, h8⟩ := matB_parts hm
  refine I_impl_determinant ?_
  unfold D_impl_determinant
  refine alc_NC fun x2 w2 c2 e2 => ?_
  have ha2 := ha.ext e2
  rw [ha2.len, ha2.len]
  refine det_least ha2 hm fun L w3 e3 hL1 hL2 hall => ?_
  have ha3 := ha2.ext e3
  refine det_table ha3 hm hL1 hL2 hall fun v w4 hi vs e4 t4 => ?_
  have e24 := e3.trans e4
  have hd := det_tab hall
  generalize hdet : det m.length (dA m) = D at *
  have fin : ∀ {u : Value} {w' : World}, Ext w2 w' → NQ w' u 1192 50000 D → sto P t_impl_num x2 u w' fun w'' => ldc P t_impl_num x2 w'' fun r => K r w'' := by
    intro u w' he hu
    refine (c2.ext he).put hu fun w5 v5 g5 _ => ?_
    refine v5.getc fun r nr => ?_
    exact H r w5 (ext_gr (e2.trans he) (Nat.le_refl _) g5) nr
  have hlo : w2.heap.size ≤ w3.heap.size := e3.size
  refine c_newInt (by decide) (by decide) fun p5 w5 e5 z5 i5 => ?_
  have hb0 : det m.length (fun i j => (tf (tabT m L m.length) i j : Rat)) = det m.length (fun i j => (tf (tabT m L m.length) i j : Rat)) := rfl
  generalize hd0 : det m.length (fun i j => (tf (tabT m L m.length) i j : Rat)) = d at *
  have hI0 : BI m.length 0 (tf (tabT m L m.length)) 1 1 d := by rw [← hd0]; exact BI.init _ _
  refine ⟨fun g y z x w' => ∃ (k : Nat) (s b : Int) (T : List (List Int)) (vs : List Value), y = .int .i64 s ∧ x = .int .i64 (k : Int) ∧ g + k = m.length ∧ k < m.length ∧ DSt w2 w3.heap.size hi m.length k v z d s w' T vs b,
    ⟨m.length, 0, 1, 1, _, vs, rfl, rfl, rfl, h1n, t4.ext e5, tabT_sq m L, hI0, .inl rfl, tab_bd hm hL1, by decide, i5, e24.trans e5⟩, ?_⟩
  rintro g y z x junk w6 ⟨k, s, b, T, vs6, rfl, rfl, hg, hk, st⟩
  rw [bin_subI1 (b := 1) (by omega) (by omega), bin_lss]
  refine cnd_dec (fun hlt => ?_) (fun hge => ?_)
  · have hk1 : k + 1 < m.length := by omega
    have h2k := two_k (k := k) (by omega)
    refine ⟨DPv w2 w3.heap.size hi m.length k v z d b, ?_, ?_⟩
    · rintro y junk w7 ⟨s', T', vs', rfl, st', hp⟩
      have h2k' := two_k (k := k + 1) (by omega)
      rw [Nat.pow_succ] at h2k'
      refine det_step st'.tm st'.sq hk1 h8 st'.ib st'.bi hp st'.bd (by omega) st'.bb fun w8 T8 t8 sq8 bi8 hkk bd8 E8 => ?_
      refine TM.get t8 sq8 (by omega) (by omega) fun p9 i9 => ?_
      rw [bin_addI1 (b := 1) (by omega)]
      rw [hkk] at i9
      refine ⟨g - 1, by omega, k + 1, s', _, T8, vs', rfl, rfl, by omega, hk1, t8, sq8, bi8, st'.sg, fun p q => ?_, ?_, i9, E8 st'.ex hlo⟩
      · have := bd8 p q
        rw [Nat.pow_succ]; omega
      · have := st'.bd k k; omega
    · refine det_pivot (Next := DPv w2 w3.heap.size hi m.length k v z d b) st.tm st.sq hk1 h8 st.ib st.sg st.bi st.bd (fun h0 => ?_) fun w7 T7 vs7 s7 t7 sq7 bi7 sg7 hp7 bd7 ib7 E7 => ?_
      · refine c_num_zero fun u w7 e7 n7 => ?_
        refine fin (st.ex.trans e7) ?_
        have : D = 0 := by rw [hd, h0]; grind
        rw [this]
        exact n7.mono (by decide) (by decide)
      · exact ⟨s7, T7, vs7, rfl, ⟨t7, sq7, bi7, sg7, bd7, st.bb, ib7, E7 st.ex hlo⟩, hp7⟩
  · have hk1 : k + 1 = m.length := by omega
    have hl := st.sq.len
    have hlast := st.bi
    rw [← hk1] at hlast
    have hlast := hlast.last
    rw [bin_subI1 (b := 1) (by omega) (by omega)]
    obtain ⟨r, hr, hpr, _⟩ := st.tm.rows (m.length - 1) (by omega)
    refine st.tm.row (i := m.length - 1) (by omega) fun r' hr' => ?_
    rw [hr] at hr'
    cases hr'
    rw [bin_subI1 (b := 1) (by omega) (by omega)]
    have hrl := st.sq.row (m.length - 1) (by omega)
    rw [getD_at _ (by omega : m.length - 1 < T.length)] at hrl
    refine hpr.at (i := m.length - 1) (by omega) fun p7 i7 => ?_
    have e7 : T[m.length - 1][m.length - 1] = tf T k k := by
      have e8 : tf T (m.length - 1) (m.length - 1) = T[m.length - 1][m.length - 1] := by
        unfold tf
        rw [getD_at _ (by omega : m.length - 1 < T.length), getD_at _ (by omega : m.length - 1 < T[m.length - 1].length)]
      rw [← e8, show m.length - 1 = k by omega]
    rw [e7] at i7
    have a1 : (m.length : Int) * L ≤ 0 := by
      have := Int.mul_le_mul_of_nonpos_right (show (0 : Int) ≤ (m.length : Int) by omega) hL2
      omega
    have a2 : -1192 ≤ (m.length : Int) * L := by
      have := Int.mul_le_mul_of_nonpos_right (show (m.length : Int) ≤ 8 by omega) hL2
      omega
    rw [bin_mul, wrap_i64 (by omega) (by omega)]
    rw [bld_num i7.ptr]
    have hbd := st.bd k k
    have h2k := two_k (k := k) (by omega)
    have nq : NQ w6 (.agg #[p7, .int .i64 ((m.length : Int) * L)]) 1192 50000 (dy (tf T k k) ((m.length : Int) * L)) :=
      ⟨_, _, ⟨p7, rfl, i7⟩, ⟨by omega, by omega, fun _ => by omega⟩, rfl⟩
    refine alc_NC fun x8 w8 c8 e8 => ?_
    refine c8.put (nq.ext e8) fun w9 v9 g9 _ => ?_
    have e9 : Ext w6 w9 := ext_gr e8 (Nat.le_refl _) g9
    have E9 := st.ex.trans e9
    rcases st.sg with rfl | rfl
    · refine lss_no (by omega) ?_
      rw [cnd_false]
      refine v9.get fun u nu => ?_
      refine fin E9 ?_
      have : D = dy (tf T k k) ((m.length : Int) * L) := by
        rw [hd, hlast]; unfold dy; grind
      rw [this]; exact nu
    · rw [bin_lss, decide_eq_true (by omega), cnd_true]
      refine v9.get fun u nu => ?_
      refine c_num_neg nu (by decide) (by decide) fun u2 w10 e10 n10 => ?_
      refine fin (E9.trans e10) ?_
      have : D = - dy (tf T k k) ((m.length : Int) * L) := by
        rw [hd, hlast]; unfold dy
        have : (((-1 : Int) : Int) : Rat) = -1 := by simp
        rw [this]; grind
      rw [this]; exact n10
end Go.Proofs.YtabgkpfcpncmhaaGreat

/- Contracts: the reference's determinant, whole. -/
set_option linter.unusedVariables false
set_option linter.unusedSimpArgs false
namespace Go.Proofs.YtabgkpfcpncmhaaGreat
open Go Go.Vc

variable {w : World} {K : Value → World → Prop}

theorem bin_shlJ {t : TypeId} {cx cy : Bool} {j : Nat} {K : Value → Prop} (hj : j ≤ 60) : bin P .shl t cx cy (.int .i64 1) (.int .u64 (j : Int)) w K = K (.int .i64 ((2 ^ j : Nat) : Int)) := by
  have hp : 2 ^ j ≤ 2 ^ 60 := Nat.pow_le_pow_right (by decide) hj
  have h := bin_shlN (w := w) (t := t) (cx := cx) (cy := cy) (k := .i64) (yk := .u64) (a := 1) (s := j) (K := K) (by show j ≤ 64; omega) (by
    rw [Nat.one_mul, max_i64]
    have : (2 : Nat) ^ 60 = 1152921504606846976 := by decide
    omega)
  rw [Nat.one_mul] at h
  exact h
theorem dF_len_le (m : List (List Nat)) (s : Nat) : (dF m s).1 ≤ m.length := cols_le _ _
theorem sgn_part (c : Nat) (x : Rat) : (if c % 2 = 1 then -x else x) = sgn c * x := by
  unfold sgn
  rcases Nat.mod_two_eq_zero_or_one c with h | h
  · rw [if_neg (by omega), if_pos h]; grind
  · rw [if_pos h, if_neg (by omega)]; grind

theorem c_spec_l10Determinant {a : Value} {m : List (List Nat)} (ha : FSS w a m) (hm : matB m = true)
    (H : ∀ u w', Ext w w' → DQ w' u 1192 1089 (det m.length (dA m)) → K u w') : call P f_spec_l10Determinant [a] w K := by
  obtain ⟨hrow, h1, h8⟩ := matB_parts hm
  have hp8 := pow_le8 h8
  have hp0 := Nat.two_pow_pos m.length
  refine I_spec_l10Determinant ?_
  unfold D_spec_l10Determinant
  refine alc_DC fun x2 w1 c2 e1 => ?_
  rw [(ha.ext e1).len]
  refine c_l02Of (by decide) (by decide) fun p1 w2 e2 np1 => ?_
  refine c_l03Make (lo := 0) (hi := 1) np1.Wr ⟨by decide, by decide, fun _ => by decide⟩ (by decide) (by decide) fun p2 w3 m' e' e3 hd hc => ?_
  have e13 := e2.trans e3
  have hd0 : DQ w3 p2 (149 * (dF m 0).1) (136 * (dF m 0).1 + 1) (dF m 0).2 := by
    rw [dF_zero]
    refine ⟨m', e', hd.Dr, ?_⟩
    rw [dy_one] at hc
    exact hc
  refine RS.one (f := dF m) hd0 fun x16 w4 l4 e4 => ?_
  refine ⟨fun g x y w' => ∃ s : Nat, y = .int .i64 (s : Int) ∧ g + s = 2 ^ m.length ∧ 1 ≤ s ∧ Ext w3 w' ∧ SL (RS (dF m)) 3 t_impl_Dyadic w' w3.heap.size x (List.range s), ⟨2 ^ m.length - 1, 1, rfl, by omega, Nat.le_refl _, e4, l4⟩, ?_⟩
  rintro g x4 y junk w5 ⟨s, rfl, hg, hs1, e5, l5⟩
  rw [cnv_int_uint (by omega), bin_shlJ (by omega), bin_lss]
  refine cnd_dec (fun hlt => ?_) (fun hge => ?_)
  · have hs : s < 2 ^ m.length := by omega
    have hkp := cols_pos hs1 hs
    have hkl := cols_le s m.length
    rw [bld_Dyadic0]
    refine alc_DC fun x7 w6 c7 e6 => ?_
    refine c7.put ((DQ.zero _).mono (lo' := 149 * (cols s m.length).length) (hi' := 136 * ((cols s m.length).length - 1) + 129) (Nat.zero_le _) (Nat.zero_le _)) fun w7 v7 g7 _ => ?_
    have e7 : Ext w5 w7 := ext_gr e6 (Nat.le_refl _) g7
    refine ⟨fun g x y w' => w' = w7 ∧ ∃ j : Nat, y = .int .i64 (j : Int) ∧ x = .int .i64 ((cols s j).length : Nat) ∧ g + j = m.length, ⟨m.length, rfl, 0, rfl, rfl, rfl⟩, ?_⟩
    rintro g1 x y junk w8 ⟨rfl, j, rfl, rfl, hg1⟩
    have hcj := cols_le s j
    rw [bin_lss]
    refine cnd_dec (fun hj => ?_) (fun hj => ?_)
    · rw [cnv_int_uint (by omega), bin_shrN (s := j) (by show j ≤ 64; omega), bin_and1 (Nat.le_trans (Nat.div_le_self _ _) (by omega)), bin_addI (by omega), bin_addI1 (b := 1) (by omega)]
      refine ⟨g1 - 1, by omega, rfl, j + 1, rfl, ?_, by omega⟩
      rw [cols_succ]
      by_cases hb : s.testBit j = true
      · rw [if_pos hb, bit_iff.2 hb]; simp
      · rw [if_neg hb]
        have : s / 2 ^ j % 2 = 0 := by
          have : ¬ s / 2 ^ j % 2 = 1 := fun h => hb (bit_iff.1 h)
          omega
        rw [this]; simp
    · have hjn : j = m.length := by omega
      subst hjn
      refine ⟨fun g x y w' => ∃ j : Nat, y = .int .i64 (j : Int) ∧ g + j = m.length ∧ x = .bool (decide ((cols s j).length % 2 = 1)) ∧ Ext w5 w' ∧ DV w' w5.heap.size x7 (149 * (cols s m.length).length) (136 * ((cols s m.length).length - 1) + 129 + j) (sumN (cols s j).length (dP m s)), ⟨m.length, 0, rfl, rfl, rfl, e7, v7⟩, ?_⟩
      rintro g2 x y junk w9 ⟨j, rfl, hg2, rfl, e9, v9⟩
      rw [bin_lss]
      refine cnd_dec (fun hj => ?_) (fun hj => ?_)
      · have hjn : j < m.length := by omega
        have E9 := e13.trans (e5.trans e9)
        rw [cnv_int_uint (by omega), bin_shrN (s := j) (by show j ≤ 64; omega), bin_and1 (Nat.le_trans (Nat.div_le_self _ _) (by omega)), bin_eql]
        by_cases hb : s.testBit j = true
        · have hd1 : decide (((s / 2 ^ j % 2 : Nat) : Int) = 0) = false := decide_eq_false (by have := bit_iff.2 hb; omega)
          have hle := two_le hb
          have hsl := cols_sub_len hb hjn
          have hget := cols_get hb hjn
          have hsb := cols_sub hb hjn
          have hcs : (cols s (j + 1)).length = (cols s j).length + 1 := by rw [cols_succ, if_pos hb]; simp
          rw [hd1, cnd_false]
          generalize hk : (cols s m.length).length = k at *
          generalize hc : (cols s j).length = c at *
          have hdp : dP m s c = sgn c * (dA m (m.length - k) j * sub (dA m) m.length ((cols s m.length).eraseIdx c)) := by
            unfold dP
            rw [hk, hget, Rat.mul_assoc]
          generalize hpart : dA m (m.length - k) j * sub (dA m) m.length ((cols s m.length).eraseIdx c) = part at *
          refine ⟨fun x11 w' => ∃ g11, Ext w9 w' ∧ w9.heap.size ≤ g11 ∧ DV w' g11 x11 (149 * k) (136 * (k - 1) + 129) part, ?_, ?_⟩
          · rintro x11 junk w10 ⟨g11, e10, hg11, v11⟩
            refine ⟨fun w' => Ext w9 w' ∧ DV w' g11 x11 (149 * k) (136 * (k - 1) + 129) (dP m s c), ?_, ?_⟩
            · rintro junk w11 ⟨e11, v11⟩
              refine (v9.ext e11).get fun u7 nu7 => ?_
              refine v11.get fun u11 nu11 => ?_
              refine c_l03Add nu7 (nu11.mono (Nat.le_refl _) (by omega)) (by omega) (by omega) fun u12 w12 e12 nu12 => ?_
              refine (v9.DC.ext (e11.trans e12)).put nu12 fun w13 v13 g13 _ => ?_
              rw [una_not, bin_addI1 (b := 1) (by omega)]
              refine ⟨g2 - 1, by omega, j + 1, rfl, by omega, ?_, ext_gr (e9.trans (e11.trans e12)) (Nat.le_refl _) g13, ?_⟩
              · rw [hcs]
                congr 1
                rcases Nat.mod_two_eq_zero_or_one c with h | h
                · rw [decide_eq_false (by omega), decide_eq_true (by omega)]; rfl
                · rw [decide_eq_true h, decide_eq_false (by omega)]; rfl
              · rw [hcs]; exact v13
            · refine cnd_dec (fun hodd => ?_) (fun heven => ?_)
              · refine v11.get fun u11 nu11 => ?_
                refine c_l03Neg nu11 (by omega) (by omega) fun u12 w12 e12 nu12 => ?_
                refine (v11.DC.ext e12).put nu12 fun w13 v13 g13 _ => ?_
                refine ⟨ext_gr (e10.trans e12) hg11 g13, ?_⟩
                rw [hdp, ← sgn_part, if_pos hodd]; exact v13
              · refine ⟨e10, ?_⟩
                rw [hdp, ← sgn_part, if_neg heven]; exact v11
          · have s59 := e9.size
            rw [bin_sub, wrap_i64 (by omega) (by omega), show (m.length : Int) - (k : Int) = ((m.length - k : Nat) : Int) by omega]
            refine (ha.ext (e1.trans E9)).entry hm (by omega) hjn fun hb1 hf1 => ?_
            have hsub : (s : Int) - ((2 ^ j : Nat) : Int) = ((s - 2 ^ j : Nat) : Int) := (Int.ofNat_sub hle).symm
            have hsle : s - 2 ^ j ≤ s := Nat.sub_le _ _
            rw [cnv_int_uint (by omega), bin_shlJ (by omega), bin_sub, hsub]
            generalize hs2 : s - 2 ^ j = s2 at *
            rw [wrap_i64 (by omega) (by omega)]
            refine SL.at (RS.ext l5 e9) (i := s2) (by rw [List.length_range, ← hs2]; have := Nat.two_pow_pos j; omega) u_s_impl_Dyadic i_impl_Dyadic u_impl_Dyadic rfl fun cc hcc => ?_
            rw [List.getElem_range] at hcc
            have hcc' : DQ w9 (.agg cc.toArray) (149 * (k - 1)) (136 * (k - 1) + 1) (sub (dA m) m.length ((cols s m.length).eraseIdx c)) := by
              have h9 : DQ w9 (.agg cc.toArray) (149 * (dF m s2).1) (136 * (dF m s2).1 + 1) (dF m s2).2 := hcc
              have a1 : (dF m s2).1 = k - 1 := hsl
              have a2 : (dF m s2).2 = sub (dA m) m.length ((cols s m.length).eraseIdx c) := by
                unfold dF; simp only; rw [hsb]
              rw [a1, a2] at h9
              exact h9
            have mulp : ∀ {w10 : World} {p57 : Value} {KM : Value → World → Prop}, Ext w9 w10 → DQ w10 p57 149 128 (fq (en m (m.length - k) j)) → (∀ p66 w11, Ext w10 w11 → DQ w11 p66 (149 * k) (136 * (k - 1) + 129) part → KM p66 w11) → call P f_spec_l03Mul [p57, .agg cc.toArray] w10 KM := by
              intro w10 p57 KM e10 h57 hK
              refine c_l03Mul h57 (hcc'.ext e10) (by decide) (by decide) (by omega) (by omega) fun p66 w11 e11 n11 => ?_
              have hx : fq (en m (m.length - k) j) * sub (dA m) m.length ((cols s m.length).eraseIdx c) = part := hpart
              rw [hx] at n11
              exact hK p66 w11 e11 (n11.mono (by omega) (by omega))
            refine ⟨?_, ?_⟩
            · refine c_l03Of hf1 hb1 fun p57 w10 e10 n57 => ?_
              refine ⟨e10, ?_, ?_⟩
              · refine mulp e10 n57 fun p66 w11 e11 n66 => ?_
                refine alc_DC fun x11 w12 c11 e12 => ?_
                refine ⟨e12, ?_⟩
                refine c11.put (n66.ext e12) fun w13 v13 g13 _ => ?_
                have E := e10.trans (e11.trans e12)
                have hsz : w9.heap.size ≤ w11.heap.size := (e10.trans e11).size
                exact ⟨_, ext_gr E hsz g13, hsz, v13⟩
              · refine alc_DC fun x11 w12 c11 e12 => ?_
                refine ⟨e12, ?_⟩
                refine mulp (e10.trans e12) (n57.ext e12) fun p66 w13 e13 n66 => ?_
                refine (c11.ext e13).put n66 fun w14 v14 g14 _ => ?_
                exact ⟨_, ext_gr (e10.trans (e12.trans e13)) e10.size g14, e10.size, v14⟩
            · refine alc_DC fun x11 w10 c11 e10 => ?_
              refine ⟨e10, ?_⟩
              refine c_l03Of hf1 hb1 fun p57 w12 e12 n57 => ?_
              refine ⟨e12, ?_⟩
              refine mulp (e10.trans e12) n57 fun p66 w13 e13 n66 => ?_
              refine ((c11.ext e12).ext e13).put n66 fun w14 v14 g14 _ => ?_
              exact ⟨_, ext_gr (e10.trans (e12.trans e13)) (Nat.le_refl _) g14, Nat.le_refl _, v14⟩
        · have hd1 : decide (((s / 2 ^ j % 2 : Nat) : Int) = 0) = true := decide_eq_true (by
            have : ¬ s / 2 ^ j % 2 = 1 := fun h => hb (bit_iff.1 h)
            omega)
          rw [hd1, cnd_true, bin_addI1 (b := 1) (by omega)]
          have hcs : cols s (j + 1) = cols s j := by rw [cols_succ, if_neg hb]; simp
          refine ⟨g2 - 1, by omega, j + 1, rfl, by omega, ?_, e9, ?_⟩
          · rw [hcs]
          · rw [hcs]; exact v9.mono (Nat.le_refl _) (by omega)
      · have hjn : j = m.length := by omega
        subst hjn
        refine v9.get fun u9 nu9 => ?_
        have hval : sumN (cols s m.length).length (dP m s) = (dF m s).2 := by
          unfold dF
          simp only
          rw [sub_step _ _ hkp hkl]
          rfl
        rw [hval] at nu9
        refine RS.push (n := s) (RS.ext l5 e9) (nu9.mono (Nat.le_refl _) (by show _ ≤ 136 * (cols s m.length).length + 1; omega)) (e5.trans e9).size (by omega) fun v' w10 l10 hE => ?_
        rw [bin_addI1 (b := 1) (by omega)]
        refine ⟨g - 1, by omega, s + 1, rfl, by omega, by omega, hE (e5.trans e9) (Nat.le_refl _), l10⟩
  · have hs : s = 2 ^ m.length := by
      have : ¬ (s : Int) < ((2 ^ m.length : Nat) : Int) := hge
      omega
    subst hs
    rw [SL.len l5 u_s_impl_Dyadic, List.length_range, bin_sub, wrap_i64 (by omega) (by omega), show ((2 ^ m.length : Nat) : Int) - 1 = ((2 ^ m.length - 1 : Nat) : Int) by omega]
    refine SL.at l5 (i := 2 ^ m.length - 1) (by rw [List.length_range]; omega) u_s_impl_Dyadic i_impl_Dyadic u_impl_Dyadic rfl fun c hc => ?_
    rw [List.getElem_range] at hc
    have hfin : DQ w5 (.agg c.toArray) 1192 1089 (det m.length (dA m)) := by
      have h9 : DQ w5 (.agg c.toArray) (149 * (dF m (2 ^ m.length - 1)).1) (136 * (dF m (2 ^ m.length - 1)).1 + 1) (dF m (2 ^ m.length - 1)).2 := hc
      have hl := dF_len_le m (2 ^ m.length - 1)
      have hd2 : (dF m (2 ^ m.length - 1)).2 = det m.length (dA m) := by
        unfold dF sub
        simp only
        rw [full_cols, List.length_range]
        refine det_congr fun i k hi hk => ?_
        rw [Nat.sub_self, Nat.zero_add]
        simp [List.getD_eq_getElem?_getD, hk]
      rw [hd2] at h9
      exact h9.mono (by omega) (by omega)
    refine (c2.ext (e13.trans e5)).put hfin fun w6 v6 g6 _ => ?_
    refine v6.getc fun u nu => ?_
    exact H _ _ (ext_gr (e1.trans (e13.trans e5)) (Nat.le_refl _) g6) nu
end Go.Proofs.YtabgkpfcpncmhaaGreat

/- Norms of matrices. -/
set_option linter.unusedVariables false
namespace Go.Proofs.YtabgkpfcpncmhaaGreat
open Go Go.Vc

variable {w : World} {K : Value → World → Prop}

theorem c_dq_round {v : Value} {lo hi : Nat} {q : Rat} {md : Int} (h : DQ w v lo hi q) (hl : lo ≤ 1000000000) (hh : hi ≤ 1000000000)
    (H : ∀ w', Ext w w' → K (.tuple #[fl (rndQ md q).1, .int .i64 (rndQ md q).2]) w') : call P f_spec_l03Round [v, .int .i64 md] w K := by
  obtain ⟨m, e, hd, hc⟩ := h
  rw [hc.val, rndQ_dy] at H
  exact c_l03Round hd hc.bd hl hh hc.canon H
theorem fq_abs {a b : Nat} (hf : Vc.Fin Ieee.single a) (ha : a < 4294967296) (hr : Ieee.single.read a = .number false (fM b).natAbs (fE b)) : fq a = absQ (fq b) := by
  have h1 := read_f hf ha
  rw [hr] at h1
  simp only [Ieee.Datum.number.injEq] at h1
  obtain ⟨h2, h3, h4⟩ := h1
  have h5 : ¬ fM a < 0 := by
    intro h
    have h6 := (sgn_f ha).1 h
    have : a / 2147483648 % 2 = 1 := by omega
    rw [this] at h2
    cases h2
  unfold fq
  rw [absQ_dy, h3, h4]
  congr 1
  omega

def nJ (m : List (List Nat)) (i : Nat) : Nat → Rat
  | 0 => 0
  | j + 1 => nJ m i j + absQ (fq (en m i j))
def nI (m : List (List Nat)) (n : Nat) : Nat → Rat
  | 0 => 0
  | i + 1 => if 0 < cmpQ (nJ m i n) (nI m n i) then nJ m i n else nI m n i
noncomputable def normF (m : List (List Nat)) : Nat × Int := if matB m then ((rndQ 2 (nI m m.length m.length)).1, 0) else (0, 1)

end Go.Proofs.YtabgkpfcpncmhaaGreat

/- The interface for scalars. -/
set_option linter.unusedVariables false
namespace Go.Proofs.YtabgkpfcpncmhaaGreat
open Go Go.Vc

set_option maxRecDepth 20000
def A_int64 (d : Int) : Prop := -9223372036854775808 ≤ d ∧ d ≤ 9223372036854775807
theorem okWide_int64 {w : World} {r : Reach} {base : Nat} {v : Value} (h : Value.okWide P w r base t_int64 v) : ∃ d, A_int64 d ∧ v = .int .i64 d := by
  simp only [Value.okWide, u_int64, Cell.okWide] at h
  cases v <;> simp only [Cell.ok, u_int64] at h
  obtain ⟨rfl, h⟩ := h
  refine ⟨_, ?_, rfl⟩
  unfold A_int64
  simpa [IntKind.has, IntKind.min, IntKind.max, IntKind.bits, IntKind.signed] using h
end Go.Proofs.YtabgkpfcpncmhaaGreat

/- The contracts of RoundedDeterminant, as the law wants them. -/
set_option linter.unusedVariables false
namespace Go.Proofs.YtabgkpfcpncmhaaGreat
open Go Go.Vc

variable {w : World} {K : Value → World → Prop}

def modeB (md : Int) : Bool := decide (0 ≤ md) && decide (md ≤ 4)
theorem c_isMode {md : Int} (H : K (.bool (modeB md)) w) : call P f_impl_isMode [.int .i64 md] w K := by
  refine I_impl_isMode ?_
  unfold D_impl_isMode
  rw [bin_geq]
  unfold modeB at H
  refine ⟨fun y w' => w' = w ∧ (0 ≤ md → y = .bool (decide (md ≤ 4))), ?_, ?_⟩
  · rintro y junk w2 ⟨rfl, hy⟩
    by_cases h : 0 ≤ md
    · rw [hy h, decide_eq_true h, pick_bool, cond_true]
      rw [decide_eq_true h, Bool.true_and] at H; exact H
    · rw [decide_eq_false h, pick_bool, cond_false]
      rw [decide_eq_false h, Bool.false_and] at H; exact H
  · refine grd_split (fun h => ?_) (fun h => ?_)
    · rw [bin_leq]; exact ⟨rfl, fun _ => rfl⟩
    · exact ⟨rfl, fun h0 => by rw [decide_eq_true h0] at h; cases h⟩
theorem c_l03Mode {md : Int} (H : K (.bool (modeB md)) w) : call P f_spec_l03Mode [.int .i64 md] w K := by
  refine I_spec_l03Mode ?_
  unfold D_spec_l03Mode
  refine c_l01In ?_
  have e : decide (0 ≤ md ∧ md ≤ 4) = modeB md := by unfold modeB; by_cases h1 : 0 ≤ md <;> by_cases h2 : md ≤ 4 <;> simp [h1, h2]
  rw [e]; exact H

noncomputable def rdetF (m : List (List Nat)) (md : Int) : Nat × Int × Int :=
  if matB m then (if modeB md then ((rndQ md (det m.length (dA m))).1, (rndQ md (det m.length (dA m))).2, 0) else (0, 0, 2)) else (0, 0, 1)

theorem p_RoundedDeterminant {a : Value} {m : List (List Nat)} {md : Int} (ha : I_Float32SS w a m) (hd : A_int64 md)
    (H : ∀ w', Ext w w' → K (.tuple #[fl (rdetF m md).1, .int .i64 (rdetF m md).2.1, .int .i64 (rdetF m md).2.2]) w') : call P f_impl_RoundedDeterminant [a, .int .i64 md] w K := by
  refine I_impl_RoundedDeterminant ?_
  unfold D_impl_RoundedDeterminant
  unfold rdetF at H
  refine c_impl_IsMatrix ha.1 ?_
  rw [una_not]
  by_cases hm : matB m = true
  · rw [hm, Bool.not_true, cnd_false]
    rw [if_pos hm] at H
    refine c_isMode ?_
    rw [una_not]
    by_cases hb : modeB md = true
    · rw [hb, Bool.not_true, cnd_false]
      rw [if_pos hb] at H
      refine c_impl_determinant ha.1 hm fun u w1 e1 n1 => ?_
      refine c_num_round n1 (by decide) (by decide) fun w2 e2 => ?_
      rw [xtr_0, xtr_1]
      exact H _ (e1.trans e2)
    · rw [Bool.not_eq_true] at hb
      rw [hb, Bool.not_false, cnd_true]
      rw [if_neg (by rw [hb]; decide)] at H
      exact H _ (Ext.refl _)
  · rw [Bool.not_eq_true] at hm
    rw [hm, Bool.not_false, cnd_true]
    rw [if_neg (by rw [hm]; decide)] at H
    exact H _ (Ext.refl _)
theorem s_RoundedDeterminant {a : Value} {m : List (List Nat)} {md : Int} (ha : I_Float32SS w a m) (hd : A_int64 md)
    (H : ∀ w', Ext w w' → K (.tuple #[fl (rdetF m md).1, .int .i64 (rdetF m md).2.1, .int .i64 (rdetF m md).2.2]) w') : call P f_spec_RoundedDeterminant [a, .int .i64 md] w K := by
  refine I_spec_RoundedDeterminant ?_
  unfold D_spec_RoundedDeterminant
  unfold rdetF at H
  refine c_spec_l10Is ha.1 ?_
  rw [una_not]
  by_cases hm : matB m = true
  · rw [hm, Bool.not_true, cnd_false]
    rw [if_pos hm] at H
    refine c_l03Mode ?_
    rw [una_not]
    by_cases hb : modeB md = true
    · rw [hb, Bool.not_true, cnd_false]
      rw [if_pos hb] at H
      refine c_spec_l10Determinant ha.1 hm fun u w1 e1 n1 => ?_
      refine c_dq_round n1 (by decide) (by decide) fun w2 e2 => ?_
      rw [xtr_0, xtr_1]
      exact H _ (e1.trans e2)
    · rw [Bool.not_eq_true] at hb
      rw [hb, Bool.not_false, cnd_true]
      rw [if_neg (by rw [hb]; decide)] at H
      exact H _ (Ext.refl _)
  · rw [Bool.not_eq_true] at hm
    rw [hm, Bool.not_false, cnd_true]
    rw [if_neg (by rw [hm]; decide)] at H
    exact H _ (Ext.refl _)
end Go.Proofs.YtabgkpfcpncmhaaGreat

/- No function of a list calls itself, if the list has an order. -/
set_option linter.unusedVariables false
namespace Go.Proofs.YtabgkpfcpncmhaaGreat
open Go

theorem closureVia_sub {P : Program} {Q : FuncId → Prop} (hQ : ∀ g, Q g → ∀ h ∈ (P.funcs[g]?).elim [] P.leadsTo, Q h) :
    ∀ (n : Nat) (todo seen : List FuncId), (∀ x ∈ todo, Q x) → (∀ x ∈ seen, Q x) → ∀ x ∈ P.closureVia n todo seen, Q x
  | 0, todo, seen, _, h2, x, hx => h2 x (by simpa [Program.closureVia] using hx)
  | n + 1, [], seen, _, h2, x, hx => h2 x (by simpa [Program.closureVia] using hx)
  | n + 1, f :: todo, seen, h1, h2, x, hx => by
    rw [Program.closureVia] at hx
    split at hx
    · exact closureVia_sub hQ n todo seen (fun y hy => h1 y (List.mem_cons_of_mem _ hy)) h2 x hx
    · refine closureVia_sub hQ n _ _ (fun y hy => ?_) (fun y hy => ?_) x hx
      · rcases List.mem_append.1 hy with hy | hy
        · exact hQ f (h1 f List.mem_cons_self) y hy
        · exact h1 y (List.mem_cons_of_mem _ hy)
      · rcases List.mem_cons.1 hy with rfl | hy
        · exact h1 _ List.mem_cons_self
        · exact h2 y hy

theorem norec_of {P : Program} {S L : List FuncId} (h : (S.all fun g => ((P.funcs[g]?).elim [] P.leadsTo).all fun h => S.contains h && decide (L.idxOf h < L.idxOf g)) = true) :
    S.any (fun g => ((P.funcs[g]?).elim [] P.leadsTo).any fun h => (P.closure h).contains g) = false := by
  simp only [List.all_eq_true, Bool.and_eq_true, decide_eq_true_eq, List.contains_iff_mem] at h
  refine Bool.eq_false_iff.2 fun hc => ?_
  simp only [List.any_eq_true, List.contains_iff_mem] at hc
  obtain ⟨g, hg, x, hx, hm⟩ := hc
  have h0 := h g hg x hx
  have := closureVia_sub (P := P) (Q := fun y => y ∈ S ∧ L.idxOf y < L.idxOf g) (fun a ha b hb => ?_) _ [x] [] (fun y hy => ?_) (fun y hy => by cases hy) g hm
  · exact Nat.lt_irrefl _ this.2
  · have h1 := h a ha.1 b hb
    exact ⟨h1.1, Nat.lt_trans h1.2 ha.2⟩
  · rw [List.mem_singleton] at hy
    rw [hy]; exact h0
end Go.Proofs.YtabgkpfcpncmhaaGreat

/- The closed facts of FnExactRoundedDeterminant's row. -/
set_option linter.unusedVariables false
namespace Go.Proofs.YtabgkpfcpncmhaaGreat
open Go Go.Vc
theorem reach_FnExactRoundedDeterminant : Tryz.pinned.checked.prog.closure 7 = [7, 14, 87, 16, 27, 39, 88, 161, 131, 117, 127, 119, 164, 242, 284, 163, 240, 271, 241, 97, 177, 98, 209, 166, 243, 211, 273, 96, 176, 175, 246, 247, 248, 118, 206, 167, 207, 208, 218, 272, 210, 40, 59, 135, 226, 229, 120, 121, 103, 181, 182, 250, 251, 285, 180, 188, 256, 191, 101, 212, 274, 190, 249, 259, 260, 287, 305, 288, 306, 258, 213, 275, 299, 252, 253, 257, 214, 276, 106, 178, 184, 185, 186, 254, 187, 255, 286, 183, 189, 192, 193, 179, 195, 263, 194, 261, 262, 289, 307, 292, 290, 291, 293, 25, 19, 29] := by kernel_rfl
theorem joined_FnExactRoundedDeterminant : joinedFacts Tryz.pinned.checked.prog 7 Tryz.f7 Rows.fnExactRoundedDeterminantSpec Rows.fnExactRoundedDeterminantRow = true := by
  unfold joinedFacts Program.recurses Program.inPlace Program.varsNamed Program.unfollowed
  rw [reach_FnExactRoundedDeterminant]
  kernel_rfl
end Go.Proofs.YtabgkpfcpncmhaaGreat
