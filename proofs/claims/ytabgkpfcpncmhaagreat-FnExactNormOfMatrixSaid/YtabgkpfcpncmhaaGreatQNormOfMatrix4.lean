import Derived.ProofKit
import Derived.Test.YtabgkpfcpncmhaaGreatRows
import Derived.Test.YtabgkpfcpncmhaaGreatQNormOfMatrix3
set_option linter.unusedSimpArgs false
set_option linter.unusedVariables false
/- Contracts: the reference's rounding: the multiple. -/
set_option linter.unusedVariables false
set_option linter.unusedSimpArgs false
namespace Go.Proofs.YtabgkpfcpncmhaaGreat
open Go Go.Vc Ieee

variable {w : World} {K : Value → World → Prop} {g : Nat} {x v : Value} {m : Int}

/-! ### variables of whole numbers -/
def WC (w : World) (g : Nat) (x : Value) : Prop := blk x = some g ∧ ∃ cs, cs.length = 2 ∧ Bx w g t_impl_Whole x cs
def WV (w : World) (g : Nat) (x : Value) (m : Int) : Prop := blk x = some g ∧ ∃ s, Bx w g t_impl_Whole x [.int .i64 m.sign, s] ∧ Wr w (.agg #[.int .i64 m.sign, s]) m
theorem WC.ext {w' : World} (h : WC w g x) (he : Ext w w') : WC w' g x := let ⟨a, cs, b, c⟩ := h; ⟨a, cs, b, c.ext he⟩
theorem Wr.kt {w' : World} {row : Option Nat} {e' : TypeId} (h : Wr w v m) (hg : w.grownBy w' row) (ht : Ty w row e') (h1 : t_int64 ≠ e') : Wr w' v m := let ⟨s, l, a, b, c⟩ := h; ⟨s, l, a, b.kt hg ht h1, c⟩
theorem WV.ext {w' : World} (h : WV w g x m) (he : Ext w w') : WV w' g x m := let ⟨a, s, b, c⟩ := h; ⟨a, s, b.ext he, c.ext he⟩
theorem WV.WC (h : WV w g x m) : WC w g x := let ⟨a, _, b, _⟩ := h; ⟨a, _, rfl, b⟩
theorem WV.get {K : Value → Prop} (h : WV w g x m) (H : ∀ v, Wr w v m → K v) : ld P t_impl_Whole x w K := let ⟨_, _, b, c⟩ := h; wh_all b (H _ c)
theorem WV.getc {K : Value → Prop} (h : WV w g x m) (H : ∀ v, Wr w v m → K v) : ldc P t_impl_Whole x w K := let ⟨_, _, b, c⟩ := h; b.getc u_impl_Whole rfl i_impl_Whole rfl (H _ c)
theorem WC.put {K : World → Prop} (h : WC w g x) (hv : Wr w v m) (H : ∀ w', WV w' g x m → w.grownBy w' (some g) → Ty w (some g) t_impl_Whole → K w') : sto P t_impl_Whole x v w K := by
  obtain ⟨hg, cs, hl, b⟩ := h
  have t := Ty.box b
  obtain ⟨s, l, rfl, hr, hw⟩ := hv
  refine b.put i_impl_Whole (ds := [.int .i64 m.sign, s]) rfl hl (one_2 rfl (sl_one (IR.sl hr.toIR))) fun w' b' g' => ?_
  rw [hg] at g' t
  exact H w' ⟨hg, s, b', s, l, rfl, hr.kt g' t (by decide), hw⟩ g' t
theorem alc_WC {KW : Value → World → Prop} (H : ∀ x w', WC w' w.heap.size x → Ext w w' → KW x w') : alc P t_impl_Whole w KW :=
  alc_bx i_impl_Whole fun x w' b e hp => H x w' ⟨hp, _, rfl, b⟩ e
theorem WV.ty (h : WV w g x m) : Ty w (some g) t_impl_Whole := let ⟨a, _, b, _⟩ := h; a ▸ Ty.box b

/-! ### the plain law: an odd number's half -/
theorem up_canon {neg : Bool} {a d : Nat} (ha : a % 2 = 1) : upB 0 neg (a / 2 ^ (d + 1)) (a % 2 ^ (d + 1)) (2 ^ (d + 1)) = (decide (a / 2 ^ d % 2 = 1) && (decide (1 < d + 1) || decide (a / 2 ^ (d + 1) % 2 = 1))) := by
  unfold upB
  rw [if_pos rfl]
  have hp := Nat.two_pow_pos d
  have h1 : 2 ^ (d + 1) = 2 ^ d * 2 := Nat.pow_succ ..
  have hm := Nat.mod_mul (x := a) (a := 2 ^ d) (b := 2)
  rw [← h1] at hm
  have hr := Nat.mod_lt a hp
  have hb := Nat.mod_lt (a / 2 ^ d) (show 0 < 2 by decide)
  generalize hB : a / 2 ^ d % 2 = B at *
  generalize hR : a % 2 ^ d = R at *
  rw [hm, h1]
  by_cases hB1 : B = 1
  · subst hB1
    have e1 : decide ((1 : Nat) = 1) = true := rfl
    rw [e1, Bool.true_and, Nat.mul_one]
    by_cases hd : d = 0
    · subst hd
      have : R = 0 := by have : R < 1 := hr; omega
      subst this
      rfl
    · have h2 : decide (1 < d + 1) = true := decide_eq_true (by omega)
      have hRp : 0 < R := by
        obtain ⟨k, rfl⟩ : ∃ k, d = k + 1 := ⟨d - 1, by omega⟩
        have h3 := Nat.mod_mul (x := a) (a := 2) (b := 2 ^ k)
        rw [show 2 * 2 ^ k = 2 ^ (k + 1) by rw [Nat.pow_succ, Nat.mul_comm], hR, ha] at h3
        omega
      have h3 : decide (2 ^ d * 2 < 2 * (R + 2 ^ d)) = true := decide_eq_true (by omega)
      rw [h2, h3, Bool.true_or, Bool.true_or]
  · have hB0 : B = 0 := by omega
    subst hB0
    have e1 : decide ((0 : Nat) = 1) = false := rfl
    rw [e1, Bool.false_and, Nat.mul_zero, Nat.add_zero]
    have h3 : decide (2 ^ d * 2 < 2 * R) = false := decide_eq_false (by omega)
    have h4 : decide (2 * R = 2 ^ d * 2) = false := decide_eq_false (by omega)
    rw [h3, h4]; rfl

theorem natAbs_odd {m : Int} (h : m % 2 = 1) : m.natAbs % 2 = 1 := by omega

theorem c_l03Multiple {m e : Int} {lo hi : Nat} {md : Int} (h : Dr w v m e) (hb : Bd lo hi m e) (hl : lo ≤ 1000000000) (hh : hi ≤ 1000000000) (hodd : m % 2 = 1)
    (H : ∀ u w', Ext w w' → Wr w' u ((cutT md (decide (m < 0)) m.natAbs e).1 : Int) → K (.tuple #[u, .int .i64 (qOf m.natAbs e), .bool (cutT md (decide (m < 0)) m.natAbs e).2]) w') : call P f_spec_l03Multiple [v, .int .i64 md] w K := by
  obtain ⟨s, l, rfl, h1, wl⟩ := h
  have hbl := hb.bl
  have := hb.low; have := hb.top
  have hm : m ≠ 0 := by rintro rfl; cases hodd
  have hao := natAbs_odd hodd
  refine I_spec_l03Multiple ?_
  unfold D_spec_l03Multiple
  refine bx_Dy fun x1 w1 b1 e1 => ?_
  refine alc_WC fun x4 w2 c4 e2 => ?_
  have b1 := b1.ext e2
  have E2 := e1.trans e2
  refine dy_w b1 ?_
  refine c_l02Abs ⟨s, l, rfl, h1.ext E2, wl⟩ (by omega) fun u3 w3 e3 h3 => ?_
  refine alc_WC fun x7 w4 c7 e4 => ?_
  refine c7.put (h3.Wr.ext e4) fun w5 v7 g5 _ => ?_
  have e5 : Ext w2 w5 := ext_gr (e3.trans e4) e3.size g5
  have b1 := b1.ext e5
  have c4 := c4.ext e5
  refine v7.get fun u7 hu7 => ?_
  refine dy_e b1 ?_
  refine c_l02Length hu7 (by rw [Int.natAbs_natCast]; omega) fun w6 e6 => ?_
  refine ⟨e6, ?_⟩
  have b1 := b1.ext e6
  have c4 := c4.ext e6
  have v7 := v7.ext e6
  have E6 := E2.trans (e5.trans e6)
  have s1 := e1.size
  have s3 := e3.size
  rw [Int.natAbs_natCast, bin_add, wrap_i64 (by omega) (by omega), bin_sub, wrap_i64 (by omega) (by omega), bl0_max_i64]
  rw [show max (((bl m.natAbs : Nat) : Int) + e - 24) (-149) = qOf m.natAbs e from rfl]
  have hq1 : -149 ≤ qOf m.natAbs e ∧ qOf m.natAbs e ≤ 3000000000 := by unfold qOf; omega
  generalize hqd : qOf m.natAbs e = Q at *
  refine dy_e b1 ?_
  rw [bin_sub, wrap_i64 (by omega) (by omega), bin_leq]
  refine cnd_dec (fun hle => ?_) (fun hgt => ?_)
  · refine v7.get fun u8 hu8 => ?_
    rw [una_neg_int, wrap_i64 (by omega) (by omega), show (0 : Int) - (Q - e) = (((e - Q).toNat : Nat) : Int) by omega]
    refine c_l02Left hu8 (by rw [Int.natAbs_natCast]; omega) (by omega) fun u9 w9 e9 h9 => ?_
    refine (c4.ext e9).put h9.Wr fun w10 v4 g10 _ => ?_
    refine v4.getc fun u10 hu10 => ?_
    have := H u10 w10 (ext_gr (E6.trans e9) e1.size g10)
    rw [cutT_exact (by rw [hqd]; omega), hqd] at this
    refine this ?_
    rw [Int.natCast_mul, Int.natCast_pow]; exact hu10
  · obtain ⟨d, hdd⟩ : ∃ d : Nat, Q - e = ((d + 1 : Nat) : Int) := ⟨(Q - e).toNat - 1, by omega⟩
    have hcut := cutT_rest (md := md) (neg := decide (m < 0)) (a := m.natAbs) (e := e) (by rw [hqd]; omega)
    rw [hqd, show (Q - e).toNat = d + 1 by omega] at hcut
    have hr : m.natAbs % 2 ^ (d + 1) ≠ 0 := by
      intro hc
      have : m.natAbs % 2 = m.natAbs % 2 ^ (d + 1) % 2 := by rw [Nat.mod_mod_of_dvd _ ⟨2 ^ d, by rw [Nat.pow_succ, Nat.mul_comm]⟩]
      rw [hc] at this; omega
    rw [if_neg hr] at hcut
    refine v7.get fun u8 hu8 => ?_
    rw [hdd]
    refine c_l02Cut (m' := ((m.natAbs / 2 ^ (d + 1) : Nat) : Int)) hu8 (by rw [Int.natAbs_natCast]; omega) (by omega) (by rw [Int.natAbs_natCast, Int.natAbs_natCast]) (fun hne => ?_) fun u9 w9 e9 h9 => ?_
    · have hp : 0 < m.natAbs / 2 ^ (d + 1) := Nat.pos_of_ne_zero fun hc => hne (by rw [hc]; rfl)
      rw [Int.sign_eq_one_of_pos (Int.natCast_pos.2 hp), Int.sign_eq_one_of_pos (Int.natCast_pos.2 (by omega))]
    refine alc_WC fun x10 w10 c10 e10 => ?_
    refine c10.put (h9.Wr.ext e10) fun w11 v10 g11 _ => ?_
    have e11 : Ext w6 w11 := ext_gr (e9.trans e10) e9.size g11
    have s9 := e9.size
    have hbt : bl (m.natAbs / 2 ^ (d + 1)) ≤ bl m.natAbs := bl_mono (Nat.div_le_self _ _)
    have fin : ∀ (up : Bool) (w12 : World), up = upB md (decide (m < 0)) (m.natAbs / 2 ^ (d + 1)) (m.natAbs % 2 ^ (d + 1)) (2 ^ (d + 1)) → Ext w11 w12 →
        cnd (.bool up)
        (ld P 26 x10 w12 fun x68_43 =>
        call P f_spec_l02Of [(.int .i64 1)] w12 fun x69_44 w45 =>
        Ext w12 w45 ∧ call P f_spec_l02Add [x68_43, x69_44] w45 fun x70_46 w47 =>
        sto P 26 x10 x70_46 w47 fun w49 =>
        ld P 26 x10 w49 fun x71_50 =>
        sto P 26 x4 x71_50 w49 fun w52 =>
        ldc P 26 x4 w52 fun r53 =>
        K (.tuple #[r53, .int .i64 Q, (.bool false)]) w52)
        (ld P 26 x10 w12 fun x71_54 =>
        sto P 26 x4 x71_54 w12 fun w56 =>
        ldc P 26 x4 w56 fun r57 =>
        K (.tuple #[r57, .int .i64 Q, (.bool false)]) w56) := by
      intro up w12 hup e12
      have v10 := v10.ext e12
      have c4 := (c4.ext e11).ext e12
      have E12 := E6.trans (e11.trans e12)
      have H := H
      rw [hcut] at H
      refine cnd_split (fun hu => ?_) (fun hu => ?_)
      · refine v10.get fun u12 hu12 => ?_
        refine c_l02Of (by decide) (by decide) fun u13 w13 e13 h13 => ?_
        refine ⟨e13, ?_⟩
        refine c_l02Add (hu12.ext e13) h13.Wr (by rw [Int.natAbs_natCast]; omega) (by decide) fun u14 w14 e14 h14 => ?_
        refine ((v10.WC.ext e13).ext e14).put h14.Wr fun w15 v15 g15 _ => ?_
        have e15 : Ext w6 w15 := ext_gr (e11.trans (e12.trans (e13.trans e14))) e9.size g15
        refine v15.get fun u15 hu15 => ?_
        refine (((‹WC w6 w1.heap.size x4›).ext e15)).put hu15 fun w16 v16 g16 _ => ?_
        refine v16.getc fun u16 hu16 => ?_
        have := H u16 w16 (ext_gr (E6.trans e15) e1.size g16)
        rw [← hup, hu] at this
        exact this hu16
      · refine v10.get fun u12 hu12 => ?_
        refine c4.put hu12 fun w16 v16 g16 _ => ?_
        refine v16.getc fun u16 hu16 => ?_
        have := H u16 w16 (ext_gr E12 e1.size g16)
        rw [← hup, hu] at this
        exact this hu16
    refine ⟨fun x11 w' => Ext w11 w' ∧ x11 = .bool (upB md (decide (m < 0)) (m.natAbs / 2 ^ (d + 1)) (m.natAbs % 2 ^ (d + 1)) (2 ^ (d + 1))), ?_, ?_⟩
    · rintro x11 junk w12 ⟨e12, rfl⟩
      exact fin _ w12 rfl e12
    · rw [bin_eql]
      have b1 := b1.ext e11
      have v7 := v7.ext e11
      by_cases m0 : md = 0
      · rw [decide_eq_true m0, cnd_true, m0, up_canon hao]
        refine v7.get fun u12 hu12 => ?_
        rw [bin_sub, wrap_i64 (by omega) (by omega), show ((d + 1 : Nat) : Int) - 1 = (d : Int) by omega]
        refine c_l02Bit hu12 (by omega) fun w12 e12 => ?_
        rw [Int.natAbs_natCast, bin_eql]
        have e : (((m.natAbs / 2 ^ d % 2 : Nat) : Int) = 1) = (m.natAbs / 2 ^ d % 2 = 1) := propext ⟨fun h => by omega, fun h => by omega⟩
        simp only [e]
        by_cases c1 : m.natAbs / 2 ^ d % 2 = 1
        · rw [decide_eq_true c1, Bool.true_and]
          by_cases c2 : 1 < d + 1
          · have p1 : decide (1 < ((d + 1 : Nat) : Int)) = true := decide_eq_true (by omega)
            rw [decide_eq_true c2, Bool.true_or]
            repeat (first | (refine ⟨_, fun _ _ _ h => h, ?_⟩) | simp only [bin_gtr, p1, grd_true_true, grd_true_false, grd_false_false, grd_false_true, pick_bool, cond_true, cond_false])
            exact ⟨e12, trivial⟩
          · have p1 : decide (1 < ((d + 1 : Nat) : Int)) = false := decide_eq_false (by omega)
            rw [decide_eq_false c2, Bool.false_or]
            repeat (first | (refine ⟨_, fun _ _ _ h => h, ?_⟩) | simp only [bin_gtr, p1, grd_true_true, grd_true_false, grd_false_false, grd_false_true, pick_bool, cond_true, cond_false])
            refine (v10.ext e12).get fun u13 hu13 => ?_
            refine c_l02Bit (i := 0) hu13 (by decide) fun w13 e13 => ?_
            rw [Int.natAbs_natCast, Nat.pow_zero, Nat.div_one]
            have e' : (((m.natAbs / 2 ^ (d + 1) % 2 : Nat) : Int) = 1) = (m.natAbs / 2 ^ (d + 1) % 2 = 1) := propext ⟨fun h => by omega, fun h => by omega⟩
            simp only [bin_eql, e']
            repeat (first | (refine ⟨_, fun _ _ _ h => h, ?_⟩) | simp only [bin_gtr, p1, grd_true_true, grd_true_false, grd_false_false, grd_false_true, pick_bool, cond_true, cond_false])
            exact ⟨e12.trans e13, trivial⟩
        · rw [decide_eq_false c1, Bool.false_and]
          repeat (first | (refine ⟨_, fun _ _ _ h => h, ?_⟩) | simp only [bin_gtr, grd_true_true, grd_true_false, grd_false_false, grd_false_true, pick_bool, cond_true, cond_false])
          exact ⟨e12, trivial⟩
      · rw [decide_eq_false m0, cnd_false, bin_eql]
        unfold upB
        rw [if_neg m0]
        by_cases m1 : md = 1
        · rw [decide_eq_true m1, cnd_true, if_pos m1]
          refine dy_ws b1 ?_
          rw [bin_lss, dec_sign]
          exact ⟨Ext.refl _, rfl⟩
        · rw [decide_eq_false m1, cnd_false, if_neg m1, bin_eql]
          by_cases m2 : md = 2
          · rw [decide_eq_true m2, cnd_true, if_pos m2]
            refine dy_ws b1 ?_
            rw [bin_gtr]
            refine ⟨Ext.refl _, ?_⟩
            congr 1
            rcases sign_cases hm with hs | hs
            · rw [hs, ← dec_sign, hs]; rfl
            · rw [hs, ← dec_sign, hs]; rfl
          · rw [decide_eq_false m2, cnd_false, if_neg m2, bin_eql]
            by_cases m4 : md = 4
            · rw [decide_eq_true m4, cnd_true, if_pos m4]
              exact ⟨Ext.refl _, rfl⟩
            · rw [decide_eq_false m4, cnd_false, if_neg m4]
              exact ⟨Ext.refl _, rfl⟩
end Go.Proofs.YtabgkpfcpncmhaaGreat

/- Contracts: the reference's rounding, whole. -/
set_option linter.unusedVariables false
set_option linter.unusedSimpArgs false
namespace Go.Proofs.YtabgkpfcpncmhaaGreat
open Go Go.Vc Ieee

variable {w : World} {K : Value → World → Prop}

theorem c_l01Huge (H : K (fl 2139095040) w) : call P f_spec_l01Huge [] w K := by
  refine I_spec_l01Huge ?_
  unfold D_spec_l01Huge
  refine rbin_float (by simp) fun r hr => ?_
  have := FR_some hr (r' := 2139095040) (by decide +kernel)
  subst this
  exact H
set_option maxRecDepth 20000 in
theorem c_l01At_max (H : K (fl 2139095039) w) : call P f_spec_l01At [.int .i64 2139095039] w K := by
  refine I_spec_l01At ?_
  unfold D_spec_l01At
  rw [bin_lss]
  refine cnd_no (by decide) ?_
  have e1 : ∀ KK : Value → Prop, bin P .shr 2 false true (.int .i64 2139095039) (.int .u64 23) w KK = KK (.int .i64 254) := fun KK => by
    have := bin_shrN (w := w) (t := t_int64) (cx := false) (cy := true) (k := .i64) (yk := .u64) (a := 2139095039) (s := 23) (K := KK) (by decide)
    exact this
  have e2 : ∀ KK : Value → Prop, bin P .and 2 false true (.int .i64 2139095039) (.int .i64 8388607) w KK = KK (.int .i64 8388607) := fun KK => by rw [bin_and]; rfl
  rw [e1, e2, bin_eql]
  refine cnd_no (by decide) ?_
  rw [bin_eql]
  refine cnd_no (by decide) ?_
  have hf : floatOfInt .f64 (8388607 + 8388608) = W64 false 16777215 0 := by decide
  rw [bin_add, wrap_i64 (by decide) (by decide), cnv_int_float u_int64 u_float64, hf, bin_sub, wrap_i64 (by decide) (by decide), show (254 : Int) - 150 = 104 from rfl]
  refine c_l01Twos (by decide) (by decide) (by decide) (by decide) (by decide) ?_
  refine rcnv_cut (t := 16777215) (q := 104) (sg := false) u_float64 u_float32 ⟨by decide, by decide, by decide⟩ ?_
  have : W single false 16777215 104 = 2139095039 := by decide
  rw [this]
  exact H

theorem c_l03Over {md sg : Int} (hs : sg = 1 ∨ sg = -1) (H : K (fl (overB md (decide (sg < 0)))) w) : call P f_spec_l03Over [.int .i64 sg, .int .i64 md] w K := by
  refine I_spec_l03Over ?_
  unfold D_spec_l03Over
  refine c_l01Huge ?_
  have fin : ∀ (b : Nat) (hb : b = 2139095039 ∨ b = 2139095040), (overB md (decide (sg < 0)) = if sg < 0 then b + 2147483648 else b) → bin P .lss 2 false true (.int .i64 sg) (.int .i64 0) w fun x27_7 =>
      cnd x27_7 (una P .neg (fl b) w fun x29_8 => K x29_8 w) (K (fl b) w) := by
    intro b hb ho
    rw [bin_lss]
    refine cnd_dec (fun hlt => ?_) (fun hge => ?_)
    · rw [una_neg_float, neg32 b (by omega), if_pos (by omega)]
      rw [if_pos hlt] at ho
      rw [ho] at H; exact H
    · rw [if_neg hge] at ho
      rw [ho] at H; exact H
  refine ⟨fun x w' => w' = w ∧ ∃ b, x = fl b ∧ (b = 2139095039 ∨ b = 2139095040) ∧ (overB md (decide (sg < 0)) = if sg < 0 then b + 2147483648 else b), ?_, ?_⟩
  · rintro x junk w' ⟨rfl, b, rfl, hb, ho⟩
    exact fin b hb ho
  · have yes : (md = 3 ∨ (md = 1 ∧ sg = 1) ∨ (md = 2 ∧ sg = -1)) → overB md (decide (sg < 0)) = if sg < 0 then 2139095039 + 2147483648 else 2139095039 := by
      intro h
      rcases hs with rfl | rfl
      · rw [overB_pos, if_pos (by omega)]; rfl
      · rw [overB_neg, if_pos (by omega)]; rfl
    have no : ¬ (md = 3 ∨ (md = 1 ∧ sg = 1) ∨ (md = 2 ∧ sg = -1)) → overB md (decide (sg < 0)) = if sg < 0 then 2139095040 + 2147483648 else 2139095040 := by
      intro h
      rcases hs with rfl | rfl
      · rw [overB_pos, if_neg (by omega)]; rfl
      · rw [overB_neg, if_neg (by omega)]; rfl
    rw [bin_eql]
    by_cases m3 : md = 3
    · have d3 : decide (md = 3) = true := decide_eq_true m3
      rw [d3]
      repeat (first | (refine ⟨_, fun _ _ _ h => h, ?_⟩) | simp only [bin_eql, bin_gtr, bin_lss, d3, grd_true_true, grd_true_false, grd_false_false, grd_false_true, pick_bool, cond_true, cond_false, cnd_true, cnd_false])
      refine c_l01At_max ⟨rfl, _, rfl, .inl rfl, yes (.inl m3)⟩
    · have d3 : decide (md = 3) = false := decide_eq_false m3
      rw [d3]
      by_cases m1 : md = 1
      · have d1 : decide (md = 1) = true := decide_eq_true m1
        have d2 : decide (md = 2) = false := decide_eq_false (by omega)
        have p1 : decide (0 < (1 : Int)) = true := rfl
        have p2 : decide (0 < (-1 : Int)) = false := rfl
        rcases hs with rfl | rfl
        · repeat (first | (refine ⟨_, fun _ _ _ h => h, ?_⟩) | simp only [bin_eql, bin_gtr, bin_lss, d1, d2, d3, p1, grd_true_true, grd_true_false, grd_false_false, grd_false_true, pick_bool, cond_true, cond_false, cnd_true, cnd_false])
          refine c_l01At_max ⟨rfl, _, rfl, .inl rfl, yes (.inr (.inl ⟨m1, rfl⟩))⟩
        · repeat (first | (refine ⟨_, fun _ _ _ h => h, ?_⟩) | simp only [bin_eql, bin_gtr, bin_lss, d1, d2, d3, p2, grd_true_true, grd_true_false, grd_false_false, grd_false_true, pick_bool, cond_true, cond_false, cnd_true, cnd_false])
          exact ⟨trivial, _, rfl, .inr rfl, no (by omega)⟩
      · have d1 : decide (md = 1) = false := decide_eq_false m1
        by_cases m2 : md = 2
        · have d2 : decide (md = 2) = true := decide_eq_true m2
          have p1 : decide ((1 : Int) < 0) = false := rfl
          have p2 : decide ((-1 : Int) < 0) = true := rfl
          rcases hs with rfl | rfl
          · repeat (first | (refine ⟨_, fun _ _ _ h => h, ?_⟩) | simp only [bin_eql, bin_gtr, bin_lss, d1, d2, d3, p1, grd_true_true, grd_true_false, grd_false_false, grd_false_true, pick_bool, cond_true, cond_false, cnd_true, cnd_false])
            exact ⟨trivial, _, rfl, .inr rfl, no (by omega)⟩
          · repeat (first | (refine ⟨_, fun _ _ _ h => h, ?_⟩) | simp only [bin_eql, bin_gtr, bin_lss, d1, d2, d3, p2, grd_true_true, grd_true_false, grd_false_false, grd_false_true, pick_bool, cond_true, cond_false, cnd_true, cnd_false])
            refine c_l01At_max ⟨rfl, _, rfl, .inl rfl, yes (.inr (.inr ⟨m2, rfl⟩))⟩
        · have d2 : decide (md = 2) = false := decide_eq_false m2
          repeat (first | (refine ⟨_, fun _ _ _ h => h, ?_⟩) | simp only [bin_eql, bin_gtr, bin_lss, d1, d2, d3, grd_true_true, grd_true_false, grd_false_false, grd_false_true, pick_bool, cond_true, cond_false, cnd_true, cnd_false])
          exact ⟨trivial, _, rfl, .inr rfl, no (by omega)⟩

theorem c_l01Turned {t : Nat} {q : Int} (h : Cut t q) (H : K (fl (W single true t q)) w) : call P f_spec_l01Turned [fl (W single false t q)] w K := by
  refine I_spec_l01Turned ?_
  unfold D_spec_l01Turned
  have e1 : (3212836864 : Nat) = W single true 1 0 := by decide
  refine rbin_float (by simp) fun r hr => ?_
  have hm := mul_W (s := false) (t := true) hss h.has (Has32 (m := 1) (e := 0) (by decide) (by decide) (by decide))
  rw [← e1] at hm
  have := FR_some hr (show floatBits .mul .f32 _ _ = some _ from hm)
  subst this
  rw [Bool.false_xor, Nat.mul_one, Int.add_zero]
  exact H

theorem val_drop_le {l : List Nat} {t : Nat} (h : val 16777216 l = t) (i : Nat) : val 16777216 (l.drop i) * 16777216 ^ i ≤ t := by
  induction i generalizing l t with
  | zero => rw [List.drop_zero, Nat.pow_zero, Nat.mul_one, h]; exact Nat.le_refl _
  | succ i ih =>
    cases l with
    | nil => simp [val]
    | cons a l =>
      rw [List.drop_succ_cons, Nat.pow_succ, ← Nat.mul_assoc]
      have := ih (l := l) rfl
      simp only [val] at h
      have h2 := Nat.mul_le_mul_right 16777216 this
      omega

set_option maxRecDepth 20000 in
theorem c_l03Round {v : Value} {m e : Int} {lo hi : Nat} {md : Int} (h : Dr w v m e) (hb : Bd lo hi m e) (hl : lo ≤ 1000000000) (hh : hi ≤ 1000000000) (hcn : Canon m e)
    (H : ∀ w', Ext w w' → K (.tuple #[fl (roundF md m e).1, .int .i64 (roundF md m e).2]) w') : call P f_spec_l03Round [v, .int .i64 md] w K := by
  obtain ⟨s, l, rfl, h1, wl⟩ := h
  have hbl := hb.bl
  have := hb.low; have := hb.top
  refine I_spec_l03Round ?_
  unfold D_spec_l03Round
  refine bx_Dy fun x1 w1 b1 e1 => ?_
  refine dy_ws b1 ?_
  rw [bin_eql]
  refine cnd_dec (fun h0 => ?_) (fun h0 => ?_)
  · have hm : m = 0 := Int.sign_eq_zero_iff_zero.1 h0
    have : roundF md m e = (0, 0) := by unfold roundF; rw [if_pos hm]
    rw [this] at H
    exact H _ e1
  have hm : m ≠ 0 := by rintro rfl; exact h0 rfl
  have hodd : m % 2 = 1 := by rcases hcn with ⟨h, _⟩ | h <;> omega
  refine dy_all b1 ?_
  refine c_l03Multiple (md := md) ⟨s, l, rfl, h1.ext e1, wl⟩ hb hl hh hodd fun u2 w2 e2 h2 => ?_
  rw [xtr_0, xtr_1, xtr_2]
  have hcl := cutT_le md (decide (m < 0)) m.natAbs e
  have hq1 : -149 ≤ qOf m.natAbs e ∧ qOf m.natAbs e ≤ 3000000000 := by unfold qOf; omega
  have H1 := fun ho => roundF_over (md := md) (e := e) hm ho
  have H2 := fun ho => roundF_in (md := md) (e := e) hm ho
  generalize hqd : qOf m.natAbs e = Q at *
  generalize hT : cutT md (decide (m < 0)) m.natAbs e = T at *
  obtain ⟨t, ex⟩ := T
  simp only at h2 hcl H1 H2
  have hc25 : bl t ≤ 25 := bl_le.2 (by show _ < 33554432; omega)
  refine alc_WC fun x6 w3 c6 e3 => ?_
  refine c6.put (h2.ext e3) fun w4 v6 g4 _ => ?_
  have e4 : Ext w2 w4 := ext_gr e3 (Nat.le_refl _) g4
  have E4 := e1.trans (e2.trans e4)
  have b1 := (b1.ext e2).ext e4
  refine v6.get fun u6 hu6 => ?_
  refine c_l02Length hu6 (by rw [Int.natAbs_natCast]; omega) fun w5 e5 => ?_
  have b1 := b1.ext e5
  have v6 := v6.ext e5
  have E5 := E4.trans e5
  rw [Int.natAbs_natCast, bin_add, wrap_i64 (by omega) (by omega), bin_gtr]
  refine cnd_dec (fun hbig => ?_) (fun hin => ?_)
  · refine dy_ws b1 ?_
    have HH := H w5 E5
    rw [H1 hbig] at HH
    refine c_l03Over (sign_cases hm) ?_
    rw [dec_sign]
    exact HH
  · have HH := fun w' he => H w' he
    rw [H2 hin] at HH
    have cut : Cut t Q := ⟨hcl, hq1.1, by omega⟩
    obtain ⟨hblk, s6, b6, s6', l6, hv6, hr6, hw6⟩ := v6
    simp only [Value.agg.injEq, Array.mk.injEq, List.cons.injEq, true_and, and_true] at hv6
    subst hv6
    have hval : val 16777216 l6 = t := by have := hw6.2; rw [Int.natAbs_natCast] at this; exact this
    have hlen : l6.length ≤ 45812984491 := hw6.len (by rw [Int.natAbs_natCast]; omega)
    refine wh_l b6 ?_
    rw [hr6.row.len u_s_int64]
    rw [bin_sub, wrap_i64 (by omega) (by omega)]
    refine ⟨fun k x y w' => w' = w5 ∧ k ≤ l6.length ∧ x = .float .f64 (W64 false (val 16777216 (l6.drop k)) 0) ∧ y = .int .i64 ((k : Int) - 1), ⟨l6.length, rfl, Nat.le_refl _, ?_, rfl⟩, ?_⟩
    · rw [List.drop_of_length_le (Nat.le_refl _)]
      exact congrArg (Value.float .f64) zero64
    rintro k x y junk w6 ⟨rfl, hk, rfl, rfl⟩
    rw [bin_geq]
    refine cnd_dec (fun hge => ?_) (fun hlt => ?_)
    · obtain ⟨i, rfl⟩ : ∃ i, k = i + 1 := ⟨k - 1, by omega⟩
      have hi : i < l6.length := by omega
      have hdrop : val 16777216 (l6.drop i) = l6[i] + 16777216 * val 16777216 (l6.drop (i + 1)) := by
        rw [List.drop_eq_getElem_cons hi]; rfl
      have hle1 := val_drop_le hval i
      have hle2 := val_drop_le hval (i + 1)
      have hp1 : 1 ≤ 16777216 ^ i := Nat.pow_pos (by decide)
      have hp2 : 16777216 ≤ 16777216 ^ (i + 1) := by rw [Nat.pow_succ]; omega
      have hvi : val 16777216 (l6.drop i) ≤ t := Nat.le_trans (Nat.le_mul_of_pos_right _ hp1) hle1
      have hlim := hw6.1.1 l6[i] (List.getElem_mem hi)
      generalize hP : val 16777216 (l6.drop (i + 1)) = p at *
      have hp : 16777216 * p ≤ t := by omega
      have bp : bl p ≤ 25 := bl_le.2 (by show p < 33554432; omega)
      have bp2 : bl (p * 16777216) ≤ 25 := bl_le.2 (by show p * 16777216 < 33554432; omega)
      have bl1 : bl l6[i] ≤ 25 := bl_le.2 (by show l6[i] < 33554432; omega)
      refine rbin_float (by simp) fun r hr => ?_
      have hm1 := mul_W (s := false) (t := false) hsd (Has64 (m := p) (e := 0) (by omega) (by omega) (by omega)) (Has64 (m := 16777216) (e := 0) (by decide) (by decide) (by decide))
      rw [← p2464] at hm1
      have := FR_some hr (show floatBits .mul .f64 _ _ = some _ from hm1)
      subst this
      refine wh_l b6 ?_
      rw [show (((i + 1 : Nat) : Int) - 1) = (i : Int) by omega]
      refine IR.at (i := i) hr6.toIR hi u_s_int64 i_int64 u_int64 ?_
      rw [cnv_int_float u_int64 u_float64]
      have hf : floatOfInt .f64 ((l6[i] : Nat) : Int) = W64 false l6[i] 0 := by
        show double.write (.number (decide (((l6[i] : Nat) : Int) < 0)) ((l6[i] : Nat) : Int).natAbs 0) = _
        rw [decide_eq_false (by omega), Int.natAbs_natCast]
        rfl
      rw [hf]
      refine rbin_float (by simp) fun r hr => ?_
      have hm2 := add_W (f := double) hsd (Has64 (m := p * 16777216) (e := 0 + 0) (by omega) (by omega) (by omega)) (Has64 (m := l6[i]) (e := 0) (by omega) (by omega) (by omega)) (val 16777216 (l6.drop i)) 0 (by
        rw [hdrop, Int.add_zero, dy_add]
        congr 1
        rw [Int.natCast_add, Int.natCast_mul, Int.natCast_mul, Int.add_comm, Int.mul_comm])
      rw [Bool.xor_false] at hr
      have := FR_some hr (show floatBits .add .f64 _ _ = some _ from hm2)
      subst this
      rw [bin_sub, wrap_i64 (by omega) (by omega)]
      exact ⟨i, by omega, rfl, by omega, rfl, rfl⟩
    · have hk0 : k = 0 := by omega
      subst hk0
      rw [List.drop_zero, hval]
      refine c_l01Twos (by omega) (by omega) (by omega) (by omega) (by have := cut.top; have := bl_pos (n := t); omega) ?_
      rw [Int.zero_add]
      refine rcnv_cut u_float64 u_float32 cut ?_
      have fin : ∀ (f : Int) (w7 : World), Ext w w7 → f = (if ex then 0 else if (bl m.natAbs : Int) + e ≤ -126 then 3 else 1) → Bx w7 w.heap.size t_impl_Dyadic x1 (dv3 m.sign s e) →
          fda P t_impl_Dyadic x1 0 w7 fun x66_54 => fda P t_impl_Whole x66_54 0 w7 fun x67_55 => ld P t_int64 x67_55 w7 fun x68_56 => bin P .lss 2 false true x68_56 (.int .i64 0) w7 fun x69_57 =>
            cnd x69_57 (call P f_spec_l01Turned [.float .f32 (W single false t Q)] w7 fun x71_58 w59 => K (.tuple #[x71_58, .int .i64 f]) w59) (K (.tuple #[.float .f32 (W single false t Q), .int .i64 f]) w7) := by
        intro f w7 he hf hb7
        have HH := HH w7 he
        rw [← hf] at HH
        refine dy_ws hb7 ?_
        rw [bin_lss, dec_sign]
        refine cnd_dec (fun hlt => ?_) (fun hge => ?_)
        · refine c_l01Turned cut ?_
          rw [decide_eq_true hlt] at HH
          exact HH
        · rw [decide_eq_false hge] at HH
          exact HH
      refine ⟨fun x w' => Ext w6 w' ∧ x = .int .i64 (if ex then 0 else if (bl m.natAbs : Int) + e ≤ -126 then 3 else 1), ?_, ?_⟩
      · rintro x junk w7 ⟨e7, rfl⟩
        exact fin _ w7 (E5.trans e7) rfl (b1.ext e7)
      · rw [una_not]
        cases ex with
        | true => exact ⟨Ext.refl _, rfl⟩
        | false =>
          rw [Bool.not_false, cnd_true]
          refine dy_w b1 ?_
          refine dy_e b1 ?_
          refine c_l02Length ⟨s, l, rfl, h1.ext E5, wl⟩ (by omega) fun w7 e7 => ?_
          refine ⟨e7, ?_⟩
          rw [bin_add, wrap_i64 (by omega) (by omega), bin_leq]
          refine cnd_dec (fun hle => ?_) (fun hgt => ?_)
          · rw [bin_add, wrap_i64 (by decide) (by decide)]
            refine ⟨e7, ?_⟩
            rw [if_pos hle]; rfl
          · refine ⟨e7, ?_⟩
            rw [if_neg hgt]; rfl
end Go.Proofs.YtabgkpfcpncmhaaGreat

/- Norms of matrices. -/
set_option linter.unusedVariables false
namespace Go.Proofs.YtabgkpfcpncmhaaGreat
open Go Go.Vc

variable {w : World} {K : Value → World → Prop}

theorem c_dq_round {v : Value} {lo hi : Nat} {q : Rat} {md : Int} (h : DQ w v lo hi q) (hl : lo ≤ 1000000000) (hh : hi ≤ 1000000000)
    (H : ∀ w', Ext w w' → K (.tuple #[fl (rndQ md q).1, .int .i64 (rndQ md q).2]) w') : call P f_spec_l03Round [v, .int .i64 md] w K := by
  obtain ⟨m, e, hd, hc⟩ := h
  rw [hc.val, rndQ_dy] at H
  exact c_l03Round hd hc.bd hl hh hc.canon H
theorem c_l06Up {v : Value} {lo hi : Nat} {q : Rat} (h : DQ w v lo hi q) (hl : lo ≤ 1000000000) (hh : hi ≤ 1000000000) (H : ∀ w', Ext w w' → K (fl (rndQ 2 q).1) w') : call P f_spec_l06Up [v] w K := by
  obtain ⟨m, e, ⟨s, l, rfl, h1, wl⟩, hc⟩ := h
  refine I_spec_l06Up ?_
  unfold D_spec_l06Up
  refine bx_Dy fun x1 w1 b1 e1 => ?_
  refine dy_all b1 ?_
  refine c_dq_round (md := 2) ⟨m, e, ⟨s, l, rfl, h1.ext e1, wl⟩, hc⟩ hl hh fun w2 e2 => ?_
  rw [xtr_0, xtr_1]
  exact H _ (e1.trans e2)
theorem fq_abs {a b : Nat} (hf : Vc.Fin Ieee.single a) (ha : a < 4294967296) (hr : Ieee.single.read a = .number false (fM b).natAbs (fE b)) : fq a = absQ (fq b) := by
  have h1 := read_f hf ha
  rw [hr] at h1
  simp only [Ieee.Datum.number.injEq] at h1
  obtain ⟨h2, h3, h4⟩ := h1
  have h5 : ¬ fM a < 0 := by
    intro h
    have h6 := (sgn_f ha).1 h
    have : a / 2147483648 % 2 = 1 := by omega
    rw [this] at h2
    cases h2
  unfold fq
  rw [absQ_dy, h3, h4]
  congr 1
  omega

def nJ (m : List (List Nat)) (i : Nat) : Nat → Rat
  | 0 => 0
  | j + 1 => nJ m i j + absQ (fq (en m i j))
def nI (m : List (List Nat)) (n : Nat) : Nat → Rat
  | 0 => 0
  | i + 1 => if 0 < cmpQ (nJ m i n) (nI m n i) then nJ m i n else nI m n i
noncomputable def normF (m : List (List Nat)) : Nat × Int := if matB m then ((rndQ 2 (nI m m.length m.length)).1, 0) else (0, 1)

theorem p_NormOfMatrix {a : Value} {m : List (List Nat)} (ha : I_Float32SS w a m)
    (H : ∀ w', Ext w w' → K (.tuple #[fl (normF m).1, .int .i64 (normF m).2]) w') : call P f_impl_NormOfMatrix [a] w K := by
  refine I_impl_NormOfMatrix ?_
  unfold D_impl_NormOfMatrix
  have ha1 := ha.1
  refine c_impl_IsMatrix ha1 ?_
  rw [una_not]
  by_cases hm : matB m = true
  · rw [hm, Bool.not_true, cnd_false]
    have hn : normF m = ((rndQ 2 (nI m m.length m.length)).1, 0) := by unfold normF; rw [if_pos hm]
    rw [hn] at H
    obtain ⟨hrow, _, h8⟩ := matB_parts hm
    refine c_num_zero fun v2 w2 e2 n2 => ?_
    refine alc_NC fun x4 w3 n4 e3 => ?_
    refine n4.put (n2.ext e3) fun w4 v4 g4 _ => ?_
    have e4 : Ext w w4 := ext_gr (e2.trans e3) e2.size g4
    have s2 := e2.size
    rw [(ha1.ext e4).len]
    refine ⟨fun g x w' => ∃ i : Nat, x = .int .i64 i ∧ g + i = m.length ∧ Ext w w' ∧ NV w' w2.heap.size x4 149 136 (nI m m.length i), ⟨m.length, 0, rfl, rfl, e4, v4.mono (by decide) (by decide)⟩, ?_⟩
    rintro g x junk w5 ⟨i, rfl, hg, e5, v4⟩
    rw [bin_lss]
    refine cnd_dec (fun hlt => ?_) (fun hge => ?_)
    · have hi : i < m.length := by omega
      refine (ha1.ext e5).at hi fun r hr => ?_
      have hrl : m[i].length = m.length := (hrow m[i] (List.getElem_mem hi)).1
      refine c_num_zero fun v6 w6 e6 n6 => ?_
      refine alc_NC fun x7 w7 n7 e7 => ?_
      refine n7.put (n6.ext e7) fun w8 v7 g8 _ => ?_
      have e8 : Ext w5 w8 := ext_gr (e6.trans e7) e6.size g8
      have s6 := e6.size
      rw [(hr.ext e8).row.len u_s_float32]
      refine ⟨fun g x w' => ∃ j : Nat, x = .int .i64 j ∧ g + j = m.length ∧ Ext w5 w' ∧ NV w' w6.heap.size x7 149 (128 + j) (nJ m i j), ⟨m.length, 0, rfl, rfl, e8, v7.mono (by decide) (by decide)⟩, ?_⟩
      rintro g' x junk w9 ⟨j, rfl, hg', e9, v7⟩
      rw [bin_lss]
      refine cnd_dec (fun hlt' => ?_) (fun hge' => ?_)
      · have hj : j < m[i].length := by omega
        refine (hr.ext e9).at hj ?_
        have hb1 := hr.lt m[i][j] (List.getElem_mem hj)
        have hf1 := finB_iff.1 (List.all_eq_true.1 (hrow m[i] (List.getElem_mem hi)).2 m[i][j] (List.getElem_mem hj))
        rw [en_eq hi hj] at hb1 hf1 ⊢
        refine v7.get fun u7 nu7 => ?_
        refine c_numOf hb1 hf1 fun p1 w10 e10 np1 => ?_
        refine ⟨e10, ?_⟩
        refine c_num_abs np1 (by decide) (by decide) fun p2 w11 e11 np2 => ?_
        refine ⟨e11, ?_⟩
        have E11 := e10.trans e11
        refine c_num_add (nu7.ext E11) (np2.mono (Nat.le_refl _) (show 128 ≤ 128 + j by omega)) (by decide) (by omega) fun p3 w12 e12 np3 => ?_
        refine (v7.NC.ext (E11.trans e12)).put np3 fun w13 v7' g13 _ => ?_
        rw [bin_add, wrap_i64 (by omega) (by omega)]
        refine ⟨g' - 1, by omega, j + 1, rfl, by omega, ?_, v7'⟩
        exact ext_gr (e9.trans (E11.trans e12)) s6 g13
      · have hj : j = m.length := by omega
        subst hj
        refine v7.get fun u7 nu7 => ?_
        refine (v4.ext e9).get fun u5 nu5 => ?_
        refine c_num_cmp (nu7.mono (Nat.le_refl _) (show 128 + m.length ≤ 136 by omega)) nu5 (by decide) (by decide) fun w10 e10 => ?_
        have E10 := e9.trans e10
        rw [bin_gtr]
        refine cnd_dec (fun hgt => ?_) (fun hle => ?_)
        · refine (v7.ext e10).get fun u7 nu7 => ?_
          refine (v4.NC.ext E10).put (nu7.mono (Nat.le_refl _) (show 128 + m.length ≤ 136 by omega)) fun w11 v5' g11 _ => ?_
          rw [bin_add, wrap_i64 (by omega) (by omega)]
          refine ⟨g - 1, by omega, i + 1, rfl, by omega, ext_gr (e5.trans E10) s2 g11, ?_⟩
          rw [nI, if_pos hgt]
          exact v5'
        · rw [bin_add, wrap_i64 (by omega) (by omega)]
          refine ⟨g - 1, by omega, i + 1, rfl, by omega, e5.trans E10, ?_⟩
          rw [nI, if_neg hle]
          exact v4.ext E10
    · have hi : i = m.length := by omega
      subst hi
      refine v4.get fun u5 nu5 => ?_
      refine c_num_round (md := 2) nu5 (by decide) (by decide) fun w6 e6 => ?_
      rw [xtr_0, xtr_1]
      exact H _ (e5.trans e6)
  · rw [Bool.not_eq_true] at hm
    rw [hm, Bool.not_false, cnd_true]
    have hn : normF m = (0, 1) := by unfold normF; rw [hm]; rfl
    rw [hn] at H
    exact H _ (Ext.refl _)

theorem s_NormOfMatrix {a : Value} {m : List (List Nat)} (ha : I_Float32SS w a m)
    (H : ∀ w', Ext w w' → K (.tuple #[fl (normF m).1, .int .i64 (normF m).2]) w') : call P f_spec_NormOfMatrix [a] w K := by
  refine I_spec_NormOfMatrix ?_
  unfold D_spec_NormOfMatrix
  have ha1 := ha.1
  refine c_spec_l10Is ha1 ?_
  rw [una_not]
  by_cases hm : matB m = true
  · rw [hm, Bool.not_true, cnd_false]
    have hn : normF m = ((rndQ 2 (nI m m.length m.length)).1, 0) := by unfold normF; rw [if_pos hm]
    rw [hn] at H
    obtain ⟨hrow, _, h8⟩ := matB_parts hm
    rw [bld_Dyadic0]
    refine alc_DC fun x4 w3 n4 e3 => ?_
    refine n4.put ((DQ.zero _).mono (lo' := 149) (hi' := 136) (by decide) (by decide)) fun w4 v4 g4 _ => ?_
    have e4 : Ext w w4 := ext_gr e3 (Nat.le_refl _) g4
    refine ⟨fun g x w' => ∃ i : Nat, x = .int .i64 i ∧ g + i = m.length ∧ Ext w w' ∧ DV w' w.heap.size x4 149 136 (nI m m.length i), ⟨m.length, 0, rfl, rfl, e4, v4⟩, ?_⟩
    rintro g x junk w5 ⟨i, rfl, hg, e5, v4⟩
    rw [(ha1.ext e5).len, bin_lss]
    refine cnd_dec (fun hlt => ?_) (fun hge => ?_)
    · have hi : i < m.length := by omega
      rw [bld_Dyadic0]
      refine alc_DC fun x7 w7 n7 e7 => ?_
      refine n7.put ((DQ.zero _).mono (lo' := 149) (hi' := 128) (by decide) (by decide)) fun w8 v7 g8 _ => ?_
      have e8 : Ext w5 w8 := ext_gr e7 (Nat.le_refl _) g8
      refine ⟨fun g x w' => ∃ j : Nat, x = .int .i64 j ∧ g + j = m.length ∧ Ext w5 w' ∧ DV w' w5.heap.size x7 149 (128 + j) (nJ m i j), ⟨m.length, 0, rfl, rfl, e8, v7⟩, ?_⟩
      rintro g' x junk w9 ⟨j, rfl, hg', e9, v7⟩
      rw [(ha1.ext (e5.trans e9)).len, bin_lss]
      refine cnd_dec (fun hlt' => ?_) (fun hge' => ?_)
      · have hj : j < m.length := by omega
        refine v7.get fun u7 nu7 => ?_
        refine (ha1.ext (e5.trans e9)).entry hm hi hj fun hb1 hf1 => ?_
        refine c_l01Abs hf1 hb1 fun b hb hfb hrb => ?_
        refine ⟨Ext.refl _, ?_⟩
        refine c_l03Of hfb hb fun p1 w10 e10 np1 => ?_
        rw [fq_abs hfb hb hrb] at np1
        refine ⟨e10, ?_⟩
        refine c_l03Add (nu7.ext e10) (np1.mono (Nat.le_refl _) (show 128 ≤ 128 + j by omega)) (by decide) (by omega) fun p3 w12 e12 np3 => ?_
        refine (v7.DC.ext (e10.trans e12)).put np3 fun w13 v7' g13 _ => ?_
        rw [bin_add, wrap_i64 (by omega) (by omega)]
        refine ⟨g' - 1, by omega, j + 1, rfl, by omega, ?_, v7'⟩
        exact ext_gr (e9.trans (e10.trans e12)) (Nat.le_refl _) g13
      · have hj : j = m.length := by omega
        subst hj
        refine v7.get fun u7 nu7 => ?_
        refine (v4.ext e9).get fun u5 nu5 => ?_
        refine c_l03Compare (nu7.mono (Nat.le_refl _) (show 128 + m.length ≤ 136 by omega)) nu5 (by decide) (by decide) fun w10 e10 => ?_
        have E10 := e9.trans e10
        rw [bin_gtr]
        refine cnd_dec (fun hgt => ?_) (fun hle => ?_)
        · refine (v7.ext e10).get fun u7 nu7 => ?_
          refine (v4.DC.ext E10).put (nu7.mono (Nat.le_refl _) (show 128 + m.length ≤ 136 by omega)) fun w11 v5' g11 _ => ?_
          rw [bin_add, wrap_i64 (by omega) (by omega)]
          refine ⟨g - 1, by omega, i + 1, rfl, by omega, ext_gr (e5.trans E10) (Nat.le_refl _) g11, ?_⟩
          rw [nI, if_pos hgt]
          exact v5'
        · rw [bin_add, wrap_i64 (by omega) (by omega)]
          refine ⟨g - 1, by omega, i + 1, rfl, by omega, e5.trans E10, ?_⟩
          rw [nI, if_neg hle]
          exact v4.ext E10
    · have hi : i = m.length := by omega
      subst hi
      refine v4.get fun u5 nu5 => ?_
      refine c_l06Up nu5 (by decide) (by decide) fun w6 e6 => ?_
      exact H _ (e5.trans e6)
  · rw [Bool.not_eq_true] at hm
    rw [hm, Bool.not_false, cnd_true]
    have hn : normF m = (0, 1) := by unfold normF; rw [hm]; rfl
    rw [hn] at H
    exact H _ (Ext.refl _)
end Go.Proofs.YtabgkpfcpncmhaaGreat

/- No function of a list calls itself, if the list has an order. -/
set_option linter.unusedVariables false
namespace Go.Proofs.YtabgkpfcpncmhaaGreat
open Go

theorem closureVia_sub {P : Program} {Q : FuncId → Prop} (hQ : ∀ g, Q g → ∀ h ∈ (P.funcs[g]?).elim [] P.leadsTo, Q h) :
    ∀ (n : Nat) (todo seen : List FuncId), (∀ x ∈ todo, Q x) → (∀ x ∈ seen, Q x) → ∀ x ∈ P.closureVia n todo seen, Q x
  | 0, todo, seen, _, h2, x, hx => h2 x (by simpa [Program.closureVia] using hx)
  | n + 1, [], seen, _, h2, x, hx => h2 x (by simpa [Program.closureVia] using hx)
  | n + 1, f :: todo, seen, h1, h2, x, hx => by
    rw [Program.closureVia] at hx
    split at hx
    · exact closureVia_sub hQ n todo seen (fun y hy => h1 y (List.mem_cons_of_mem _ hy)) h2 x hx
    · refine closureVia_sub hQ n _ _ (fun y hy => ?_) (fun y hy => ?_) x hx
      · rcases List.mem_append.1 hy with hy | hy
        · exact hQ f (h1 f List.mem_cons_self) y hy
        · exact h1 y (List.mem_cons_of_mem _ hy)
      · rcases List.mem_cons.1 hy with rfl | hy
        · exact h1 _ List.mem_cons_self
        · exact h2 y hy

theorem norec_of {P : Program} {S L : List FuncId} (h : (S.all fun g => ((P.funcs[g]?).elim [] P.leadsTo).all fun h => S.contains h && decide (L.idxOf h < L.idxOf g)) = true) :
    S.any (fun g => ((P.funcs[g]?).elim [] P.leadsTo).any fun h => (P.closure h).contains g) = false := by
  simp only [List.all_eq_true, Bool.and_eq_true, decide_eq_true_eq, List.contains_iff_mem] at h
  refine Bool.eq_false_iff.2 fun hc => ?_
  simp only [List.any_eq_true, List.contains_iff_mem] at hc
  obtain ⟨g, hg, x, hx, hm⟩ := hc
  have h0 := h g hg x hx
  have := closureVia_sub (P := P) (Q := fun y => y ∈ S ∧ L.idxOf y < L.idxOf g) (fun a ha b hb => ?_) _ [x] [] (fun y hy => ?_) (fun y hy => by cases hy) g hm
  · exact Nat.lt_irrefl _ this.2
  · have h1 := h a ha.1 b hb
    exact ⟨h1.1, Nat.lt_trans h1.2 ha.2⟩
  · rw [List.mem_singleton] at hy
    rw [hy]; exact h0
end Go.Proofs.YtabgkpfcpncmhaaGreat

/- The closed facts of FnExactNormOfMatrix's row. -/
set_option linter.unusedVariables false
namespace Go.Proofs.YtabgkpfcpncmhaaGreat
open Go Go.Vc
theorem reach_FnExactNormOfMatrix : Tryz.pinned.checked.prog.closure 4 = [4, 14, 87, 16, 27, 23, 88, 161, 131, 98, 97, 177, 209, 164, 242, 284, 163, 240, 271, 241, 96, 176, 175, 246, 247, 248, 99, 165, 211, 273, 100, 118, 206, 167, 207, 208, 218, 272, 210, 24, 59, 135, 226, 229, 101, 103, 181, 182, 250, 251, 285, 104, 183, 252, 102, 178, 191, 180, 188, 256, 179, 249, 259, 260, 287, 305, 288, 306, 258, 105, 168, 214, 276, 106, 184, 253, 185, 186, 254, 187, 255, 286, 189, 257, 190, 192, 193, 195, 263, 194, 261, 262, 289, 307, 292, 290, 291, 293, 25, 19, 29] := by kernel_rfl
theorem joined_FnExactNormOfMatrix : joinedFacts Tryz.pinned.checked.prog 4 Tryz.f4 Rows.fnExactNormOfMatrixSpec Rows.fnExactNormOfMatrixRow = true := by
  unfold joinedFacts Program.recurses Program.inPlace Program.varsNamed Program.unfollowed
  rw [reach_FnExactNormOfMatrix]
  kernel_rfl
end Go.Proofs.YtabgkpfcpncmhaaGreat
