import Derived.Test.YtjompmflommadaaGreatDoorVcO
import Derived.Test.YtjompmflommadaaGreatDoorVcK
import Derived.Test.YtjompmflommadaaGreatDoorVcP
import Derived.LaidMore
import Derived.LaidOnce
import Derived.LaidHandle
import Derived.Test.YtjompmflommadaaGreatDoorRows
import Derived.Lay
import Derived.SevenTiedAt
import Derived.Laws.IdiomStrings
import Derived.ProofKit
import Derived.Test.YtjompmflommadaaGreatDoorQRunExact4
set_option linter.unusedSimpArgs false
set_option linter.unusedVariables false
/- Contracts: texts of exact numbers and of floats (the reference). -/
set_option linter.unusedVariables false
set_option linter.unusedSimpArgs false
namespace Go.Proofs.YtjompmflommadaaGreatDoor
open Go Go.Vc

variable {w : World} {K : Value → World → Prop}

theorem c_l03IsG {v : Value} {m e : Int} (h : Dr w v m e) (H : ∀ w', Ext w w' → K (.bool (isDyB m e)) w') : call P f_spec_l03Is [v] w K := by
  obtain ⟨s, l, rfl, h1, wl⟩ := h
  refine I_spec_l03Is ?_
  unfold D_spec_l03Is
  refine bx_Dy fun x1 w1 b1 e1 => ?_
  refine dy_w b1 ?_
  refine c_l02Is ⟨s, l, rfl, h1.ext e1, wl⟩ fun w2 e2 => ?_
  have b1 := b1.ext e2
  have h1 := h1.ext (e1.trans e2)
  have HH := H w2 (e1.trans e2)
  unfold isDyB at HH
  rw [una_not]
  refine orJ (fun hb => ?_) (fun hb => ?_)
  · have hb : ¬ bl m.natAbs ≤ 2400 := by simpa using hb
    rw [decide_eq_false hb] at HH
    rw [cnd_true]; exact HH
  have hb : bl m.natAbs ≤ 2400 := by simpa using hb
  rw [decide_eq_true hb, Bool.true_and] at HH
  refine dy_e b1 ?_
  refine c_l01In ?_
  rw [una_not]
  by_cases he : -3000 ≤ e ∧ e ≤ 3000
  · rw [decide_eq_true he]
    refine cnd_no rfl ?_
    rw [decide_eq_true he.1, decide_eq_true he.2, Bool.true_and, Bool.true_and] at HH
    refine dy_ws b1 ?_
    rw [bin_eql]
    refine cnd_dec (fun h0 => ?_) (fun h0 => ?_)
    · have hm : m = 0 := Int.sign_eq_zero_iff_zero.1 h0
      subst hm
      refine dy_e b1 ?_
      rw [bin_eql]
      have : (decide ((0 : Int) = 0 ∧ e = 0) || decide ((0 : Int) % 2 = 1)) = decide (e = 0) := by simp
      rw [this] at HH; exact HH
    · have hm : m ≠ 0 := by rintro rfl; exact h0 rfl
      have hl0 : 0 < l.length := by
        refine Nat.pos_of_ne_zero fun hz => ?_
        have hlnil : l = [] := List.length_eq_zero_iff.1 hz
        have hv := wl.2
        rw [hlnil] at hv
        simp only [val] at hv
        omega
      refine dy_wl b1 ?_
      refine IR.at (i := 0) h1.toIR hl0 u_s_int64 i_int64 u_int64 ?_
      rw [bin_remI (b := 2) (by decide)]
      rw [bin_eql]
      have hv := wl.2
      have h5 : (decide (m = 0 ∧ e = 0) || decide (m % 2 = 1)) = decide (((l[0] % 2 : Nat) : Int) = 1) := by
        rw [decide_eq_false (fun h => hm h.1), Bool.false_or, decide_eq_decide]
        cases l with
        | nil => cases hl0
        | cons a t =>
          simp only [val] at hv
          simp only [List.getElem_cons_zero]
          omega
      rw [h5] at HH; exact HH
  · have h6 : (decide (-3000 ≤ e) && decide (e ≤ 3000)) = false := by
      refine Bool.eq_false_iff.2 fun h => he ?_
      simpa using h
    rw [decide_eq_false he]
    refine cnd_yes rfl ?_
    rw [h6, Bool.false_and] at HH; exact HH

theorem c_l02Read' {l : List UInt8} (hl : l.length ≤ 4611686018427387904)
    (H : ∀ (m : Int) v w', Ext w w' → Wr w' v m → (isNum l = true → m = numR l) → K (.tuple #[v, .bool (isNum l)]) w') : call P f_spec_l02Read [str l] w K := by
  refine c_l02Read hl (fun h v w' he hv => ?_) (fun h v w' he hv => ?_)
  · have := H 0 v w' he hv (fun q => by rw [q] at h; cases h)
    rw [h] at this; exact this
  · have := H _ v w' he hv (fun _ => rfl)
    rw [h] at this; exact this
theorem Wl.short {l : List Nat} {m : Int} (h : Wl l m) : (l.length ≤ 1 ↔ m.natAbs < 16777216) := by
  obtain ⟨hn, hv⟩ := h
  constructor
  · intro h1
    have := val_lt hn.1
    have h2 : 16777216 ^ l.length ≤ 16777216 ^ 1 := Nat.pow_le_pow_right (by decide) h1
    rw [Nat.pow_one] at h2
    omega
  · intro h1
    refine Nat.le_of_not_lt fun hc => ?_
    have h2 := Norm.ge hn (by intro e; rw [e] at hc; simp at hc)
    have h3 : 16777216 ^ 1 ≤ 16777216 ^ (l.length - 1) := Nat.pow_le_pow_right (by decide) (by omega)
    rw [Nat.pow_one] at h3
    omega
theorem Dr.zero0 (w : World) : Dr w (.agg #[.int .i64 0, .slice none 0 0, .int .i64 0]) 0 0 := Dr.zero w
theorem bld_Dy1 {n : Int} {s : Value} {K : Value → Prop} (hs : ∃ a l c, s = .slice a l c) : bld P t_impl_Dyadic [(0, .agg #[.int .i64 n, s])] w K = K (.agg #[.int .i64 n, s, .int .i64 0]) := by
  obtain ⟨a, l, c, rfl⟩ := hs
  exact bld_of (by kernel_rfl)
theorem sto_dye {base : Nat} {x s : Value} {n e e' : Int} {KW : World → Prop} (h : Bx w base t_impl_Dyadic x (dv3 n s e)) (H : ∀ w', Bx w' base t_impl_Dyadic x (dv3 n s e') → w.grownBy w' (blk x) → KW w') :
    fda P t_impl_Dyadic x 1 w (fun a => sto P t_int64 a (.int .i64 e') w KW) :=
  h.fput (off := 2) (show 2 < 3 by decide) u_impl_Dyadic rfl i_int64 rfl H

set_option maxRecDepth 20000 in
theorem c_l03Read {l : List UInt8} (hl : l.length ≤ 4611686018427387904)
    (H0 : parseD l = none → ∀ v w', Ext w w' → (∃ m e, Dr w' v m e) → K (.tuple #[v, .bool false]) w')
    (H1 : ∀ m e, parseD l = some (m, e) → ∀ v w', Ext w w' → Dr w' v m e → K (.tuple #[v, .bool true]) w') : call P f_spec_l03Read [str l] w K := by
  refine I_spec_l03Read ?_
  unfold D_spec_l03Read
  refine alc_Dy fun x w1 ⟨cs, hcs, b1⟩ e1 => ?_
  have ret0 : parseD l = none → ∀ w2, Ext w1 w2 → bld P t_impl_Dyadic [] w2 fun x59_58 =>
                  sto P t_impl_Dyadic x x59_58 w2 fun w60 =>
                  ldc P t_impl_Dyadic x w60 fun r61 =>
                  K (.tuple #[r61, (.bool false)]) w60 := fun h0 w2 e2 => by
    rw [bld_Dyadic0]
    have b2 := b1.ext e2
    refine b2.put i_impl_Dyadic (ds := [.int .i64 0, .slice none 0 0, .int .i64 0]) rfl hcs (one_3 rfl rfl rfl) fun w3 b3 g3 => ?_
    refine b3.getc u_impl_Dyadic rfl i_impl_Dyadic rfl ?_
    exact H0 h0 _ _ (ext_of_grown (e1.trans e2) (fun g hg => (b2.blk_lt hg).1) g3) ⟨0, 0, Dr.zero0 _⟩
  refine ⟨fun m y w' => w' = w1 ∧ ∃ i : Nat, y = .int .i64 i ∧ m + i = l.length ∧ 112 ∉ l.take i, ⟨l.length, rfl, 0, rfl, by omega, by simp⟩, ?_⟩
  rintro m y junk w5 ⟨rfl, i, rfl, hm, hno⟩
  rw [len_str u_string, bin_lss]
  refine andJ (fun h1 => ?_) (fun h1 => ?_)
  rotate_left
  · simp only [decide_eq_false_iff_not] at h1
    have hi : i = l.length := by omega
    rw [cnd_false, len_str u_string, bin_eql]
    refine cnd_yes (by simp [hi]) ?_
    refine ret0 (parse_none ?_) _ (Ext.refl _)
    rw [hi, List.take_length] at hno
    exact hno
  simp only [decide_eq_true_eq] at h1
  have hi : i < l.length := by omega
  rw [idx_str u_string hi, bin_neq]
  refine cnd_dec (fun h2 => ?_) (fun h2 => ?_)
  · rw [bin_add, wrap_i64 (by omega) (by omega)]
    refine ⟨m - 1, by omega, rfl, i + 1, rfl, by omega, ?_⟩
    rw [List.take_succ_eq_append_getElem hi]
    intro hmem
    rcases List.mem_append.1 hmem with h | h
    · exact hno h
    · simp only [List.mem_singleton] at h
      rw [← h] at h2
      exact h2 rfl
  -- it is cut here
  have hp : l[i] = 112 := UInt8.toNat_inj.1 (show l[i].toNat = 112 by omega)
  have hsplit : l = l.take i ++ 112 :: l.drop (i + 1) := by
    conv => lhs; rw [← List.take_append_drop i l, List.drop_eq_getElem_cons hi, hp]
  have hpar := parse_of (a := l.take i) (b := l.drop (i + 1)) hno
  rw [← hsplit] at hpar
  rw [len_str u_string, bin_eql]
  refine cnd_no (by simp; omega) ?_
  rw [sli_strH u_string (by omega)]
  have la : (l.take i).length ≤ 4611686018427387904 := by rw [List.length_take]; omega
  have lb : (l.drop (i + 1)).length ≤ 4611686018427387904 := by rw [List.length_drop]; omega
  refine c_l02Read' la fun m1 v1 w2 e2 r1 hm1 => ?_
  rw [xtr_0, xtr_1]
  refine alc_Wh fun x5 w3 ⟨cs3, hcs3, b3⟩ e3 => ?_
  obtain ⟨s1, q1, rfl, lr1, wl1⟩ := r1
  refine b3.put i_impl_Whole (ds := [.int .i64 m1.sign, s1]) rfl hcs3 (one_2 rfl (sl_one (IR.sl lr1.toIR))) fun w4 b4 g4 => ?_
  have e4 : Ext w2 w4 := ext_of_grown e3 (fun g hg => (b3.blk_lt hg).1) g4
  have lr1 := lr1.ext e4
  rw [bin_add, wrap_i64 (by omega) (by omega), show ((i : Nat) : Int) + 1 = ((i + 1 : Nat) : Int) by omega, sli_strL u_string (by omega)]
  generalize l.take i = a at *
  generalize l.drop (i + 1) = b at *
  refine c_l02Read' lb fun m2 v2 w6 e6 r2 hm2 => ?_
  rw [xtr_0, xtr_1]
  refine alc_Wh fun x7 w7 ⟨cs7, hcs7, b7⟩ e7 => ?_
  obtain ⟨s2, q2, rfl, lr2, wl2⟩ := r2
  refine b7.put i_impl_Whole (ds := [.int .i64 m2.sign, s2]) rfl hcs7 (one_2 rfl (sl_one (IR.sl lr2.toIR))) fun w8 b8 g8 => ?_
  have e8 : Ext w6 w8 := ext_of_grown e7 (fun g hg => (b7.blk_lt hg).1) g8
  have lr1 := (lr1.ext e6).ext e8
  have lr2 := lr2.ext e8
  have b4 := (b4.ext e6).ext e8
  have E8 : Ext w5 w8 := e2.trans (e4.trans (e6.trans e8))
  have sz := wl2.short
  rw [una_not]
  refine orJ (fun hn => ?_) (fun hn => ?_)
  · have ha : isNum a = false := by simpa using hn
    refine orJ (fun _ => ?_) (fun h => by cases h)
    refine orJ (fun _ => ?_) (fun h => by cases h)
    rw [cnd_true]
    exact ret0 (by rw [hpar, ha]; rfl) _ E8
  have ha : isNum a = true := by simpa using hn
  rw [una_not]
  refine orJ (fun hn => ?_) (fun hn => ?_)
  · have hb : isNum b = false := by simpa using hn
    refine orJ (fun _ => ?_) (fun h => by cases h)
    rw [cnd_true]
    exact ret0 (by rw [hpar, ha, hb]; rfl) _ E8
  have hb : isNum b = true := by simpa using hn
  have hm1 := hm1 ha
  have hm2 := hm2 hb
  refine wh_all b4 ?_
  refine c_l02Is ⟨s1, q1, rfl, lr1, wl1⟩ fun w9 e9 => ?_
  have E9 := E8.trans e9
  have lr1 := lr1.ext e9
  have lr2 := lr2.ext e9
  have lr9 := lr1
  have b4 := b4.ext e9
  have b8 := b8.ext e9
  rw [una_not]
  refine orJ (fun hn => ?_) (fun hn => ?_)
  · have hbig : 2400 < bl (numR a).natAbs := by rw [← hm1]; simp at hn; omega
    rw [cnd_true]
    exact ret0 (by rw [hpar, ha, hb, isDyB_not ha hb (.inl hbig)]; rfl) _ E9
  have hsm : bl (numR a).natAbs ≤ 2400 := by rw [← hm1]; simp at hn; omega
  refine wh_l b8 ?_
  rw [lr2.toIR.row.len u_s_int64, bin_gtr]
  refine cnd_dec (fun h3 => ?_) (fun h3 => ?_)
  · have hbig : 16777216 ≤ (numR b).natAbs := by
      rw [← hm2]
      exact Nat.le_of_not_lt fun h => by have := sz.2 h; omega
    exact ret0 (by rw [hpar, ha, hb, isDyB_not ha hb (.inr hbig)]; rfl) _ E9
  have hq2 : q2.length ≤ 1 := by omega
  obtain ⟨n1, n2⟩ := parseD_alt ha hb hsm (by rw [← hm2]; exact sz.1 hq2)
  rw [n1] at hm1
  rw [n2] at hm2
  rw [ha, hb, Bool.true_and, Bool.true_and, ← hm1, ← hm2] at hpar
  refine wh_all b4 ?_
  rw [bld_Dy1 (IR.sl lr1.toIR)]
  refine alc_Dy fun x9 w10 ⟨cs10, hcs10, b10⟩ e10 => ?_
  refine b10.put i_impl_Dyadic (ds := dv3 m1.sign s1 0) rfl hcs10 (one_3 rfl (sl_one (IR.sl lr1.toIR)) rfl) fun w11 b11 g11 => ?_
  have e11 : Ext w9 w11 := ext_of_grown e10 (fun g hg => (b10.blk_lt hg).1) g11
  have E11 := E9.trans e11
  have lr1 := lr1.ext e11
  have lr2 := lr2.ext e11
  have b8 := b8.ext e11
  -- the end
  have fin : ∀ w12, Ext w9 w12 → Bx w12 w9.heap.size t_impl_Dyadic x9 (dv3 m1.sign s1 m2) → ld P t_impl_Dyadic x9 w12 fun x74_89 =>
                    ld P t_impl_Dyadic x9 w12 fun x75_90 =>
                    call P f_spec_l03Is [x75_90] w12 fun x76_91 w92 =>
                    Ext w12 w92 ∧ sto P t_impl_Dyadic x x74_89 w92 fun w94 =>
                    ldc P t_impl_Dyadic x w94 fun r95 =>
                    K (.tuple #[r95, x76_91]) w94 := fun w12 e12 b12 => by
    have lr1' := lr9
    have hd : Dr w12 (.agg #[.int .i64 m1.sign, s1, .int .i64 m2]) m1 m2 := ⟨s1, q1, rfl, lr9.ext e12, wl1⟩
    refine dy_all b12 ?_
    refine dy_all b12 ?_
    refine c_l03IsG hd fun w13 e13 => ?_
    refine ⟨e13, ?_⟩
    have E13 := E9.trans (e12.trans e13)
    have b1 := b1.ext E13
    have hd := hd.ext e13
    obtain ⟨s', l', hv, h1', h2'⟩ := hd
    refine b1.put i_impl_Dyadic (ds := dv3 m1.sign s1 m2) rfl hcs (one_3 rfl (sl_one (IR.sl lr1'.toIR)) rfl) fun w14 b14 g14 => ?_
    refine b14.getc u_impl_Dyadic rfl i_impl_Dyadic rfl ?_
    have e14 : Ext w w14 := ext_of_grown (e1.trans E13) (fun g hg => (b1.blk_lt hg).1) g14
    have hd14 : Dr w14 (.agg #[.int .i64 m1.sign, s1, .int .i64 m2]) m1 m2 := Dr.kt ⟨s', l', hv, h1', h2'⟩ g14 (Ty.box b1) (by decide)
    cases hdy : isDyB m1 m2
    · rw [hdy] at hpar
      exact H0 hpar _ _ e14 ⟨m1, m2, hd14⟩
    · rw [hdy] at hpar
      exact H1 m1 m2 hpar _ _ e14 hd14
  refine wh_l b8 ?_
  rw [lr2.toIR.row.len u_s_int64, bin_eql]
  refine cnd_dec (fun h4 => ?_) (fun h4 => ?_)
  · refine wh_s b8 ?_
    refine wh_l b8 ?_
    have hq : 0 < q2.length := by omega
    refine IR.at (i := 0) lr2.toIR hq u_s_int64 i_int64 u_int64 ?_
    have hval : m2.natAbs = q2[0] := by
      have := wl2.2
      match q2, hq2, hq with
      | [d], _, _ => simp only [val] at this; simpa using this.symm
    have hmul : m2.sign * ((q2[0] : Nat) : Int) = m2 := by rw [← hval]; exact Int.sign_mul_natAbs m2
    have hsz := sz.1 hq2
    rw [bin_mul, hmul, wrap_i64 (by omega) (by omega)]
    refine sto_dye b11 fun w12 b12 g12 => ?_
    exact fin w12 (ext_of_grown e11 (fun g hg => (b11.blk_lt hg).1) g12) b12
  · have hq0 : q2 = [] := List.length_eq_zero_iff.1 (by omega)
    have hm0 : m2 = 0 := by
      have := wl2.2
      rw [hq0] at this
      simp only [val] at this
      omega
    refine fin w11 e11 ?_
    rw [hm0]; exact b11
/-- The float of a text. -/
noncomputable def pF (l : List UInt8) : Option Nat := match parseD l with
  | none => none
  | some p => if (rndQ 0 (dy p.1 p.2)).2 = 0 then some (rndQ 0 (dy p.1 p.2)).1 else none
theorem c_l06Float {l : List UInt8} (hl : l.length ≤ 4611686018427387904) (H : ∀ b w', Ext w w' → (∀ x, pF l = some x → b = x) → K (.tuple #[fl b, .bool (pF l).isSome]) w') : call P f_spec_l06Float [str l] w K := by
  refine I_spec_l06Float ?_
  unfold D_spec_l06Float
  refine c_l03Read hl (fun h0 v w1 e1 ⟨m, e, hd⟩ => ?_) (fun m e hp v w1 e1 hd => ?_)
  · rw [xtr_0, xtr_1]
    refine alc_Dy fun x4 w2 ⟨cs, hcs, b2⟩ e2 => ?_
    refine (hd.ext e2).put b2 hcs fun w3 ⟨s, hv, b3⟩ g3 => ?_
    have e3 : Ext w1 w3 := ext_of_grown e2 (fun g hg => (b2.blk_lt hg).1) g3
    rw [una_not, Bool.not_false, cnd_true]
    have hpf : pF l = none := by unfold pF; rw [h0]
    have := H 0 w3 (e1.trans e3) (fun x hx => by rw [hpf] at hx; cases hx)
    rw [hpf] at this; exact this
  · rw [xtr_0, xtr_1]
    have hdy := parse_some hp
    refine alc_Dy fun x4 w2 ⟨cs, hcs, b2⟩ e2 => ?_
    refine (hd.ext e2).put b2 hcs fun w3 ⟨s, hv, b3⟩ g3 => ?_
    have hd3 := (hd.ext e2).kt g3 (Ty.box b2) (by decide)
    have e3 : Ext w1 w3 := ext_of_grown e2 (fun g hg => (b2.blk_lt hg).1) g3
    rw [una_not, Bool.not_true, cnd_false]
    rw [hv] at hd3
    refine dy_all b3 ?_
    refine c_dq_round (q := dy m e) (lo := 3000) (hi := 5400) ⟨m, e, hd3, isDyB_canon hdy, isDyB_bd hdy, rfl⟩ (by decide) (by decide) fun w4 e4 => ?_
    rw [xtr_0, xtr_1, bin_eql]
    have hpf : pF l = if (rndQ 0 (dy m e)).2 = 0 then some (rndQ 0 (dy m e)).1 else none := by unfold pF; rw [hp]
    have := H (rndQ 0 (dy m e)).1 w4 (e1.trans (e3.trans e4)) (fun x hx => by
      rw [hpf] at hx
      split at hx
      · exact Option.some.inj hx
      · cases hx)
    rw [hpf] at this
    have hs : (if (rndQ 0 (dy m e)).2 = 0 then some (rndQ 0 (dy m e)).1 else none).isSome = decide ((rndQ 0 (dy m e)).2 = 0) := by
      split
      · rename_i h; rw [h]; rfl
      · rename_i h; simp [h]
    rw [hs] at this; exact this
end Go.Proofs.YtjompmflommadaaGreatDoor

/- Contracts: whole numbers of the program, read from their limbs. -/
set_option linter.unusedVariables false
set_option linter.unusedSimpArgs false
namespace Go.Proofs.YtjompmflommadaaGreatDoor
open Go Go.Vc

variable {w : World} {K : Value → World → Prop}

theorem or_both {a b x y k : Nat} (ha : a < 2 ^ k) (hb : b < 2 ^ k) : (a + 2 ^ k * x) ||| (b + 2 ^ k * y) = (a ||| b) + 2 ^ k * (x ||| y) := by
  have hab : a ||| b < 2 ^ k := Nat.or_lt_two_pow ha hb
  apply Nat.eq_of_testBit_eq
  intro j
  rw [Nat.testBit_or, Nat.add_comm a, Nat.add_comm b, Nat.add_comm (a ||| b), Nat.testBit_two_pow_mul_add _ ha, Nat.testBit_two_pow_mul_add _ hb, Nat.testBit_two_pow_mul_add _ hab]
  split <;> rw [Nat.testBit_or]
set_option maxRecDepth 20000 in
theorem c_Or {z x y : Value} {a b : Int} {base : Nat} (hz : ZO w base z) (hx : IntR w x a) (hy : IntR w y b) (ba : bl a.natAbs ≤ 1099511627776) (bb : bl b.natAbs ≤ 1099511627776)
    (H : ∀ w', ZO w' base z → IntR w' z (a.natAbs ||| b.natAbs : Nat) → w.grownBy w' (blk z) → K z w') : call P f_impl_integer_Or [z, x, y] w K := by
  obtain ⟨s1, hb1, l, h1, n1, v1, _⟩ := hx
  obtain ⟨s2, hb2, r, h2, n2, v2, _⟩ := hy
  have d1 := n1.1
  have d2 := n2.1
  have l1 := dig_len n1 (by rw [v1]; exact ba)
  have l2 := dig_len n2 (by rw [v2]; exact bb)
  refine I_impl_integer_Or ?_
  unfold D_impl_integer_Or
  rw [nch_bx hb1]
  refine IntR.mag hb1 ?_
  rw [h1.row.len u_s_uint32, nch_bx hb2]
  refine IntR.mag hb2 ?_
  rw [h2.row.len u_s_uint32, bl0_max_i64, show max (l.length : Int) (r.length : Int) = ((max l.length r.length : Nat) : Int) by omega]
  generalize hn : max l.length r.length = n
  refine OD.make (k := .u32) u_s_uint32 i_uint32 (by omega) (by simp only [maxLen]; omega) fun w1 v o1 e1 => ?_
  rw [nch_bx hb1]
  refine IntR.mag (hb1.ext e1) ?_
  refine copy_intro (n := n) (m := l.length) (by simpa [OD] using o1) (h1.ext e1).row (by omega) (by
    intro u hu
    simp only [List.mem_map] at hu
    obtain ⟨d, _, rfl⟩ := hu; rfl) u_s_uint32 i_uint32 fun w2 o2 g2 => ?_
  have e2 : Ext w w2 := ext_of_grown e1 (fun g hg => (o1.lt g hg).1) g2
  rw [nch_bx hb2]
  refine IntR.mag (hb2.ext e2) ?_
  rw [(h2.ext e2).row.len u_s_uint32]
  generalize hL : l ++ List.replicate (n - l.length) 0 = L
  have hLl : L.length = n := by rw [← hL]; simp; omega
  have hLv : val 4294967296 L = val 4294967296 l := by rw [← hL, val_append, val_replicate]; simp
  have hLd : Dig 4294967296 L := by
    intro d hd
    rw [← hL] at hd
    rcases List.mem_append.1 hd with h | h
    · exact d1 d h
    · rw [List.eq_of_mem_replicate h]; decide
  have o2 : OD .u32 t_uint32 w2 w.heap.size v L := by
    unfold OD
    rw [hLl, ← hL, List.map_append]
    rw [List.drop_replicate] at o2
    rw [List.map_replicate]
    exact o2
  refine ⟨fun g x w' => ∃ (i : Nat) (q : List Nat), g + i = r.length ∧ x = .int .i64 (i : Int) ∧ Ext w w' ∧ OD .u32 t_uint32 w' w.heap.size v q ∧ q.length = n ∧ Dig 4294967296 q ∧ q.drop i = L.drop i ∧
    val 4294967296 (q.take i) = val 4294967296 (L.take i) ||| val 4294967296 (r.take i), ⟨r.length, 0, L, rfl, rfl, e2, o2, hLl, hLd, rfl, by simp [val]⟩, ?_⟩
  rintro g x' junk w3 ⟨i, q, hg, rfl, e3, oq, hq, dq, hdrop, hv⟩
  rw [bin_lss]
  refine cnd_dec (fun hlt => ?_) (fun hge => ?_)
  · have hi2 : i < r.length := by omega
    have hiq : i < q.length := by omega
    have hiL : i < L.length := by omega
    have heq : q[i] = L[i] := by
      have := congrArg (fun t : List Nat => t[0]?) hdrop
      simp only [List.getElem?_drop, Nat.add_zero] at this
      rw [List.getElem?_eq_getElem hiq, List.getElem?_eq_getElem hiL] at this
      exact Option.some.inj this
    refine (h2.ext e3).at hi2 u_s_uint32 i_uint32 u_uint32 ?_
    refine oq.IR.at hiq u_s_uint32 i_uint32 u_uint32 ?_
    have g1 := Dig_get dq hiq
    have g2 := Dig_get d2 hi2
    rw [bin_orN (b := r[i]) (by simpa [IntKind.bits] using g1) (by simpa [IntKind.bits] using g2) rfl]
    refine OD.set oq hiq u_s_uint32 i_uint32 fun w4 o4 g4 => ?_
    rw [bin_addI1 (b := 1) (by omega)]
    have hor : q[i] ||| r[i] < 4294967296 := Nat.or_lt_two_pow (n := 32) g1 g2
    refine ⟨g - 1, by omega, i + 1, _, by omega, rfl, ext_of_grown e3 (fun g hg => (oq.lt g hg).1) g4, o4, by simp [hq], fun d hd => ?_, ?_, ?_⟩
    · rcases List.mem_or_eq_of_mem_set hd with h | h
      · exact dq d h
      · rw [h]; exact hor
    · rw [List.drop_set_of_lt (by omega), ← List.drop_drop (i := 1) (j := i), ← List.drop_drop (i := 1) (j := i), hdrop]
    · rw [val_take_succ _ (by simpa using hiq), List.take_set_of_le (Nat.le_refl _), List.getElem_set_self, val_take_succ _ hiL, val_take_succ _ hi2, hv, heq, p32]
      refine (or_both ?_ ?_).symm
      · have := val_lt (hLd.take i)
        rw [List.length_take, Nat.min_eq_left (by omega), p32] at this; exact this
      · have := val_lt (d2.take i)
        rw [List.length_take, Nat.min_eq_left (by omega), p32] at this; exact this
  · have hi : i = r.length := by omega
    have e : val 4294967296 q = a.natAbs ||| b.natAbs := by
      have s1 := val_split 4294967296 q (i := i) (by omega)
      have s2 := val_split 4294967296 L (i := i) (by omega)
      rw [s1, hdrop, hv, ← v1, ← v2, ← hLv, s2]
      have t1 := val_lt (hLd.take i)
      rw [List.length_take, Nat.min_eq_left (by omega), p32] at t1
      have t2 := val_lt (d2.take i)
      rw [List.length_take, Nat.min_eq_left (by omega), p32] at t2
      have hr : r.take i = r := by rw [hi, List.take_length]
      have := or_both (x := val 4294967296 (L.drop i)) (y := 0) t1 t2
      rw [Nat.mul_zero, Nat.add_zero, Nat.or_zero, hr] at this
      rw [p32, hr, this]
    have hz2 := hz.ext e3
    refine c_put hz2 oq.IR (Ty.owns oq) dq fun w3 z3 i3 g3 => H w3 z3 ?_ (grown_ext e3 g3)
    rw [e] at i3; exact i3

set_option maxRecDepth 20000 in
theorem c_toBig {v : Value} {m : Int} (h : Wr w v m) (hb : bl m.natAbs ≤ 2400) (H : ∀ p w', Ext w w' → IntR w' p m → K p w') : call P f_impl_toBig [v] w K := by
  obtain ⟨s, l, rfl, h1, n1, v1⟩ := h
  have hlen : l.length ≤ 100 := (len100 n1).2 (by rw [v1]; exact hb)
  refine I_impl_toBig ?_
  unfold D_impl_toBig
  refine bx_Wh fun x1 w1 b1 e1 => ?_
  refine alc_Z fun z w2 z2 i2 e2 => ?_
  have b1 := b1.ext e2
  have E2 := e1.trans e2
  refine wh_l b1 ?_
  rw [(h1.ext E2).row.len u_s_int64, bin_sub, wrap_i64 (by omega) (by omega)]
  refine ⟨fun g x w' => g ≤ l.length ∧ x = .int .i64 ((g : Int) - 1) ∧ Ext w1 w' ∧ ZO w' w1.heap.size z ∧ IntR w' z (val 16777216 (l.drop g) : Nat), ⟨l.length, Nat.le_refl _, rfl, e2, z2, by rw [List.drop_length]; exact i2⟩, ?_⟩
  rintro g x junk w3 ⟨hg, rfl, e3, z3, i3⟩
  have b1' : Bx w3 w.heap.size t_impl_Whole x1 [.int .i64 m.sign, s] := by
    have := (‹Bx w1 w.heap.size t_impl_Whole x1 [.int .i64 m.sign, s]›).ext e3
    exact this
  have E3 := e1.trans e3
  have hbl : bl (val 16777216 (l.drop g)) ≤ 2400 := by
    refine Nat.le_trans (bl_mono ?_) hb
    have := val_drop_le v1 g
    exact Nat.le_trans (Nat.le_mul_of_pos_right _ (Nat.pow_pos (by decide))) this
  rw [bin_geq]
  refine cnd_dec (fun hge => ?_) (fun hlt => ?_)
  · obtain ⟨k, rfl⟩ : ∃ k, g = k + 1 := ⟨g - 1, by omega⟩
    have hk : k < l.length := by omega
    have hd := Dig_get n1.1 hk
    rw [show (24 : Int) = ((24 : Nat) : Int) from rfl]
    refine c_Lsh z3 i3 (by rw [Int.natAbs_natCast]; omega) (by decide) fun w4 z4 i4 g4 => ?_
    have e4 : Ext w1 w4 := ext_of_grown e3 (fun g hg => z3.blk_ge hg) g4
    have b4 := (‹Bx w1 w.heap.size t_impl_Whole x1 [.int .i64 m.sign, s]›).ext e4
    refine wh_l b4 ?_
    rw [show (((k + 1 : Nat) : Int) - 1) = ((k : Nat) : Int) by omega]
    refine (h1.ext (e1.trans e4)).toIR.at hk u_s_int64 i_int64 u_int64 ?_
    refine c_newInt (by omega) (by omega) fun p w5 e5 z5 i5 => ?_
    have hv2 : (((val 16777216 (l.drop (k + 1)) : Nat) : Int) * 2 ^ 24).natAbs = 2 ^ 24 * val 16777216 (l.drop (k + 1)) := by
      rw [Int.natAbs_mul, Int.natAbs_natCast]
      rw [Nat.mul_comm]; rfl
    have hbl2 : bl (((val 16777216 (l.drop (k + 1)) : Nat) : Int) * 2 ^ 24).natAbs ≤ 2424 := by
      have := ibl_shl_le (val 16777216 (l.drop (k + 1)) : Nat) 24
      rw [Int.natAbs_natCast] at this
      omega
    refine c_Or (z4.ext e5) (i4.ext e5) i5 (by omega) (by rw [Int.natAbs_natCast]; have : bl l[k] ≤ 24 := bl_le.2 hd; omega) fun w6 z6 i6 g6 => ?_
    rw [hv2, Int.natAbs_natCast, ← Nat.two_pow_add_eq_or_of_lt (i := 24) hd] at i6
    rw [bin_sub, wrap_i64 (by omega) (by omega)]
    refine ⟨k, by omega, by omega, rfl, ext_of_grown (e4.trans e5) (fun g hg => (z4.ext e5).blk_ge hg) g6, z6, ?_⟩
    rw [List.drop_eq_getElem_cons hk]
    show IntR w6 z (((l[k] + 16777216 * val 16777216 (l.drop (k + 1)) : Nat)) : Int)
    rw [Nat.add_comm]; exact i6
  · have hg0 : g = 0 := by omega
    subst hg0
    rw [List.drop_zero, v1] at i3
    refine wh_s b1' ?_
    rw [bin_lss]
    refine cnd_dec (fun hneg => ?_) (fun hpos => ?_)
    · have hm : m < 0 := Int.sign_neg_iff.1 hneg
      refine c_Neg z3 i3 (by rw [Int.natAbs_natCast]; omega) fun w4 z4 i4 g4 => ?_
      refine H z w4 (ext_of_grown (e1.trans e3) (fun g hg => Nat.le_trans e1.size (z3.blk_ge hg)) g4) ?_
      rw [show -((m.natAbs : Nat) : Int) = m by omega] at i4; exact i4
    · have hm : ¬ m < 0 := fun h => hpos (Int.sign_neg_iff.2 h)
      refine H z w3 E3 ?_
      rw [show ((m.natAbs : Nat) : Int) = m by omega] at i3; exact i3

theorem c_numberOf {v : Value} {m e : Int} (h : Dr w v m e) (hd : isDyB m e = true) (H : ∀ v' w', Ext w w' → NQ w' v' 3000 5400 (dy m e) → K v' w') : call P f_impl_numberOf [v] w K := by
  obtain ⟨s, l, rfl, h1, wl⟩ := h
  have hbd := isDyB_bd hd
  have hb : bl m.natAbs ≤ 2400 := by
    simp only [isDyB, Bool.and_eq_true, decide_eq_true_eq] at hd; exact hd.1.1.1
  refine I_impl_numberOf ?_
  unfold D_impl_numberOf
  refine bx_Dy fun x1 w1 b1 e1 => ?_
  refine alc_num fun x2 w2 ⟨cs, hcs, b2⟩ e2 => ?_
  have b1 := b1.ext e2
  refine dy_w b1 ?_
  refine dy_e b1 ?_
  refine c_toBig ⟨s, l, rfl, h1.ext (e1.trans e2), wl⟩ hb fun p w3 e3 i3 => ?_
  refine ⟨e3, ?_⟩
  rw [bld_num i3.ptr]
  have b2 := b2.ext e3
  refine num_ret b2 hcs i3.one fun w4 g4 => ?_
  have e4 : Ext w w4 := ext_of_grown (e1.trans (e2.trans e3)) (fun g hg => Nat.le_trans e1.size (b2.blk_lt hg).1) g4
  exact H _ _ e4 ⟨m, e, ⟨p, rfl, Nm.grown i3 b2 g4⟩, hbd, rfl⟩

set_option maxRecDepth 20000 in
theorem c_impl_IsWhole {v : Value} {m : Int} (h : Wr w v m) (H : ∀ w', Ext w w' → K (.bool (decide (bl m.natAbs ≤ 2400))) w') : call P f_impl_IsWhole [v] w K := by
  obtain ⟨s, l, rfl, h1, n1, v1⟩ := h
  have hb := h1.bound
  refine I_impl_IsWhole ?_
  unfold D_impl_IsWhole
  refine bx_Wh fun x1 w1 b1 e1 => ?_
  have h1 := h1.ext e1
  have H1 := H w1 e1
  have hl100 := len100 n1
  rw [v1] at hl100
  have hsg : m.sign = 0 ∨ m.sign = 1 ∨ m.sign = -1 := by
    rcases Int.lt_trichotomy m 0 with h | h | h
    · exact .inr (.inr (Int.sign_eq_neg_one_of_neg h))
    · exact .inl (by rw [h]; rfl)
    · exact .inr (.inl (Int.sign_eq_one_of_pos h))
  have hz0 : (m.sign = 0) ↔ l = [] := by
    rw [Int.sign_eq_zero_iff_zero]
    constructor
    · intro h
      refine (n1.eq_nil (by decide)).2 ?_
      rw [v1, h]; rfl
    · intro h
      rw [h] at v1
      simp only [val] at v1
      omega
  refine wh_l b1 ?_
  rw [h1.row.len u_s_int64, bin_gtr]
  refine orJ (fun hbig => ?_) (fun hsm => ?_)
  · have hbig : ¬ bl m.natAbs ≤ 2400 := fun h => by
      have := hl100.2 h
      simp only [decide_eq_true_eq] at hbig
      omega
    rw [decide_eq_false hbig] at H1
    refine orJ (fun _ => ?_) (fun h => by cases h)
    refine orJ (fun _ => ?_) (fun h => by cases h)
    exact cnd_yes rfl H1
  have hsm : bl m.natAbs ≤ 2400 := hl100.1 (by simp only [decide_eq_false_iff_not] at hsm; omega)
  rw [decide_eq_true hsm] at H1
  refine wh_s b1 ?_
  rw [bin_lss]
  refine orJ (fun h => by simp only [decide_eq_true_eq] at h; omega) (fun _ => ?_)
  refine wh_s b1 ?_
  rw [bin_gtr]
  refine orJ (fun h => by simp only [decide_eq_true_eq] at h; omega) (fun _ => ?_)
  refine wh_s b1 ?_
  rw [bin_eql, bin_eql, bin_bneq _ _ _ _ _ _ u_bool]
  have hsame : decide (m.sign = 0) = decide (((l.length : Nat) : Int) = 0) := by
    rw [decide_eq_decide, hz0]
    constructor
    · rintro rfl; rfl
    · intro h; exact List.length_eq_zero_iff.1 (by omega)
  rw [hsame]
  refine cnd_no (by simp) ?_
  refine wh_l b1 ?_
  rw [h1.row.len u_s_int64]
  refine ⟨fun g x w' => w' = w1 ∧ ∃ i : Nat, x = .int .i64 (i : Int) ∧ g + i = l.length, ⟨l.length, rfl, 0, rfl, by omega⟩, ?_⟩
  rintro g x junk w' ⟨rfl, i, rfl, hg⟩
  rw [bin_lss]
  refine cnd_dec (fun hlt => ?_) (fun hge => ?_)
  · have hi : i < l.length := by omega
    refine h1.at hi u_s_int64 i_int64 u_int64 ?_
    have g1 := Dig_get n1.1 hi
    rw [bin_lss]
    refine orJ (fun h => by simp only [decide_eq_true_eq] at h; omega) (fun _ => ?_)
    rw [bin_gtr]
    refine cnd_no (by simp; omega) ?_
    rw [bin_addI1 (b := 1) (by omega)]
    exact ⟨g - 1, by omega, rfl, i + 1, rfl, by omega⟩
  · rw [bin_eql]
    refine orJ (fun h0 => H1) (fun h0 => ?_)
    have hl : 0 < l.length := by simp only [decide_eq_false_iff_not] at h0; omega
    have hz : l[l.length - 1] ≠ 0 := by
      intro hz
      have := n1.2
      rw [List.getLast?_eq_getElem?, List.getElem?_eq_getElem (by omega), hz] at this
      exact this rfl
    refine wh_l b1 ?_
    rw [bin_sub, wrap_i64 (by omega) (by omega), show ((l.length : Nat) : Int) - 1 = ((l.length - 1 : Nat) : Int) by omega]
    refine h1.at (i := l.length - 1) (by omega) u_s_int64 i_int64 u_int64 ?_
    rw [bin_neq]
    have : decide (((l[l.length - 1] : Nat) : Int) ≠ 0) = true := decide_eq_true (by omega)
    rw [this]; exact H1
theorem c_impl_IsDyadic {v : Value} {m e : Int} (h : Dr w v m e) (H : ∀ w', Ext w w' → K (.bool (isDyB m e)) w') : call P f_impl_IsDyadic [v] w K := by
  obtain ⟨s, l, rfl, h1, wl⟩ := h
  refine I_impl_IsDyadic ?_
  unfold D_impl_IsDyadic
  refine bx_Dy fun x1 w1 b1 e1 => ?_
  refine dy_w b1 ?_
  refine c_impl_IsWhole ⟨s, l, rfl, h1.ext e1, wl⟩ fun w2 e2 => ?_
  have b1 := b1.ext e2
  have h1 := h1.ext (e1.trans e2)
  have HH := H w2 (e1.trans e2)
  unfold isDyB at HH
  rw [una_not]
  refine cnd_split (fun hb => ?_) (fun hb => ?_)
  · have hb : ¬ bl m.natAbs ≤ 2400 := by simpa using hb
    rw [decide_eq_false hb] at HH
    exact HH
  have hb : bl m.natAbs ≤ 2400 := by simpa using hb
  rw [decide_eq_true hb, Bool.true_and] at HH
  refine dy_ws b1 ?_
  rw [bin_eql]
  refine cnd_dec (fun h0 => ?_) (fun h0 => ?_)
  · have hm : m = 0 := Int.sign_eq_zero_iff_zero.1 h0
    subst hm
    refine dy_e b1 ?_
    rw [bin_eql]
    have : (decide (-3000 ≤ e) && decide (e ≤ 3000) && (decide ((0 : Int) = 0 ∧ e = 0) || decide ((0 : Int) % 2 = 1))) = decide (e = 0) := by
      by_cases he : e = 0
      · subst he; rfl
      · simp [he]
    rw [this] at HH; exact HH
  · have hm : m ≠ 0 := by rintro rfl; exact h0 rfl
    have hl0 : 0 < l.length := by
      refine Nat.pos_of_ne_zero fun hz => ?_
      have hlnil : l = [] := List.length_eq_zero_iff.1 hz
      have hv := wl.2
      rw [hlnil] at hv
      simp only [val] at hv
      omega
    refine dy_wl b1 ?_
    refine IR.at (i := 0) h1.toIR hl0 u_s_int64 i_int64 u_int64 ?_
    rw [bin_remI (b := 2) (by decide)]
    rw [bin_eql]
    have hv := wl.2
    have h5 : (decide (m = 0 ∧ e = 0) || decide (m % 2 = 1)) = decide (((l[0] % 2 : Nat) : Int) = 1) := by
      rw [decide_eq_false (fun h => hm h.1), Bool.false_or, decide_eq_decide]
      cases l with
      | nil => cases hl0
      | cons a t =>
        simp only [val] at hv
        simp only [List.getElem_cons_zero]
        omega
    rw [h5] at HH
    generalize decide (((l[0] % 2 : Nat) : Int) = 1) = B at HH
    refine andJ (fun hB => ?_) (fun hB => ?_)
    · rw [hB, Bool.and_true] at HH
      refine dy_e b1 ?_
      rw [bin_geq]
      refine andJ (fun h6 => ?_) (fun h6 => ?_)
      · rw [h6, Bool.true_and] at HH
        refine dy_e b1 ?_
        rw [bin_leq]; exact HH
      · rw [h6, Bool.false_and] at HH; exact HH
    · rw [hB, Bool.and_false] at HH
      refine andJ (fun h => by cases h) (fun _ => ?_)
      exact HH
end Go.Proofs.YtjompmflommadaaGreatDoor

/- Contracts: texts of exact numbers and of floats (the program). -/
set_option linter.unusedVariables false
set_option linter.unusedSimpArgs false
namespace Go.Proofs.YtjompmflommadaaGreatDoor
open Go Go.Vc

variable {w : World} {K : Value → World → Prop}

/-- A whole number that is read, put into a variable. -/
theorem Wr.put {v x : Value} {m : Int} {base : Nat} {cs : List Value} {KW : World → Prop} (h : Wr w v m) (hb : Bx w base t_impl_Whole x cs) (hcs : cs.length = 2) (H : ∀ w', w.grownBy w' (blk x) → Wr w' v m → (∃ s, v = .agg #[.int .i64 m.sign, s] ∧ Bx w' base t_impl_Whole x [.int .i64 m.sign, s]) → KW w') : sto P t_impl_Whole x v w KW := by
  obtain ⟨s, l, rfl, h1, wl⟩ := h
  exact hb.put i_impl_Whole (ds := [.int .i64 m.sign, s]) rfl hcs (one_2 rfl (sl_one (IR.sl h1.toIR))) fun w' b' g' => H w' g' ⟨s, l, rfl, h1.kt g' (Ty.box hb) (by decide), wl⟩ ⟨s, rfl, b'⟩
theorem c_whole {p : Value} {m : Int} (h : IntR w p m) (hb : bl m.natAbs ≤ 1099511627775) (H : ∀ v c w', Ext w w' → (bl m.natAbs ≤ 2400 → c = 0 ∧ Wr w' v m) → (2400 < bl m.natAbs → c = 3 ∧ Wr w' v 0) → K (.tuple #[v, .int .i64 c]) w') : call P f_impl_whole [p] w K := by
  refine I_impl_whole ?_
  unfold D_impl_whole
  refine alc_Wh fun x w1 ⟨cs, hcs, b1⟩ e1 => ?_
  refine c_fromBig (h.ext e1) hb (fun hbig w2 e2 => ?_) (fun hsm v w2 e2 hv => ?_)
  · rw [xtr_0, xtr_1]
    refine alc_Wh fun y w3 ⟨cs3, hcs3, b3⟩ e3 => ?_
    refine (Wr.zero w3).put b3 hcs3 fun w4 g4 _ _ => ?_
    have e4 : Ext w2 w4 := ext_of_grown e3 (fun g hg => (b3.blk_lt hg).1) g4
    rw [una_not, Bool.not_false, cnd_true, bld_Whole0]
    have b1 := b1.ext (e2.trans e4)
    refine (Wr.zero w4).put b1 hcs fun w5 g5 h5 ⟨s, hs, b5⟩ => ?_
    refine b5.getc u_impl_Whole rfl i_impl_Whole rfl ?_
    have := H _ 3 w5 (ext_of_grown (e1.trans (e2.trans e4)) (fun g hg => (b1.blk_lt hg).1) g5) (fun h => by omega) (fun _ => ⟨rfl, h5⟩)
    rw [hs] at this; exact this
  · rw [xtr_0, xtr_1]
    have hv := hv.Wr
    refine alc_Wh fun y w3 ⟨cs3, hcs3, b3⟩ e3 => ?_
    refine (hv.ext e3).put b3 hcs3 fun w4 g4 h4 ⟨s, hs, b4⟩ => ?_
    have e4 : Ext w2 w4 := ext_of_grown e3 (fun g hg => (b3.blk_lt hg).1) g4
    rw [una_not, Bool.not_true, cnd_false]
    subst hs
    refine wh_all b4 ?_
    have b1 := b1.ext (e2.trans e4)
    refine h4.put b1 hcs fun w5 g5 h5 ⟨s', hs', b5⟩ => ?_
    refine b5.getc u_impl_Whole rfl i_impl_Whole rfl ?_
    have := H _ 0 w5 (ext_of_grown (e1.trans (e2.trans e4)) (fun g hg => (b1.blk_lt hg).1) g5) (fun _ => ⟨rfl, h5⟩) (fun h => by omega)
    rw [hs'] at this; exact this
/-- Whether a text is that of a whole number that is not too large. -/
def okW (l : List UInt8) : Bool := isNum l && decide (l.length ≤ 800) && decide (bl (numI l).natAbs ≤ 2400)
theorem c_ParseWhole {l : List UInt8} (hl : l.length ≤ 4611686018427387904) (H : ∀ v c m w', Ext w w' → Wr w' v m → (okW l = true → c = 0 ∧ m = numI l) → (okW l = false → c ≠ 0) → K (.tuple #[v, .int .i64 c]) w') : call P f_impl_ParseWhole [str l] w K := by
  refine I_impl_ParseWhole ?_
  unfold D_impl_ParseWhole
  refine alc_Wh fun x w1 ⟨cs, hcs, b1⟩ e1 => ?_
  have bad : okW l = false → ∀ c : Int, c ≠ 0 → bld P t_impl_Whole [] w1 fun x9_6 =>
      sto P t_impl_Whole x x9_6 w1 fun w8 =>
      ldc P t_impl_Whole x w8 fun r9 =>
      K (.tuple #[r9, (.int .i64 c)]) w8 := fun h0 c hc => by
    rw [bld_Whole0]
    refine (Wr.zero w1).put b1 hcs fun w5 g5 h5 ⟨s, hs, b5⟩ => ?_
    refine b5.getc u_impl_Whole rfl i_impl_Whole rfl ?_
    have := H _ c 0 w5 (ext_of_grown e1 (fun g hg => (b1.blk_lt hg).1) g5) h5 (fun h => by rw [h0] at h; cases h) (fun _ => hc)
    rw [hs] at this; exact this
  refine c_isNumeral hl ?_
  rw [una_not]
  refine cnd_split (fun hn => ?_) (fun hn => ?_)
  · have : isNum l = false := by simpa using hn
    exact bad (by unfold okW; rw [this]; rfl) 6 (by decide)
  have hn : isNum l = true := by simpa using hn
  rw [len_str u_string, bin_gtr]
  refine cnd_dec (fun h8 => ?_) (fun h8 => ?_)
  · exact bad (by unfold okW; rw [decide_eq_false (by omega : ¬ l.length ≤ 800)]; simp) 3 (by decide)
  have h8 : l.length ≤ 800 := by omega
  refine alc_Z fun z w2 z2 i2 e2 => ?_
  refine c_SetString z2 hn h8 fun w2' w3 e2' z2' g3 z3 i3 => ?_
  rw [xtr_0, xtr_1]
  have e3 : Ext w1 w3 := ext_of_grown (e2.trans e2') (fun g hg => z2'.blk_ge hg) g3
  have hbig : bl (numI l).natAbs ≤ 3200 := by
    rw [numI_abs]
    have hb := isNum_parts hn
    unfold numB at hb
    simp only [Bool.and_eq_true] at hb
    have := dec_bl hb.1.2 (body l).length
    rw [List.take_length] at this
    have := body_le l
    omega
  refine c_whole i3 (by omega) fun v c w4 e4 h1 h2 => ?_
  rw [xtr_0, xtr_1]
  have b1 := b1.ext (e3.trans e4)
  by_cases hb : bl (numI l).natAbs ≤ 2400
  · obtain ⟨rfl, hv⟩ := h1 hb
    refine hv.put b1 hcs fun w5 g5 h5 ⟨s, hs, b5⟩ => ?_
    refine b5.getc u_impl_Whole rfl i_impl_Whole rfl ?_
    have := H _ 0 _ w5 (ext_of_grown (e1.trans (e3.trans e4)) (fun g hg => (b1.blk_lt hg).1) g5) h5 (fun _ => ⟨rfl, rfl⟩) (fun h => by unfold okW at h; rw [hn, decide_eq_true h8, decide_eq_true hb] at h; cases h)
    rw [hs] at this; exact this
  · obtain ⟨rfl, hv⟩ := h2 (by omega)
    refine hv.put b1 hcs fun w5 g5 h5 ⟨s, hs, b5⟩ => ?_
    refine b5.getc u_impl_Whole rfl i_impl_Whole rfl ?_
    have := H _ 3 _ w5 (ext_of_grown (e1.trans (e3.trans e4)) (fun g hg => (b1.blk_lt hg).1) g5) h5 (fun h => by unfold okW at h; rw [decide_eq_false hb] at h; simp at h) (fun _ => by decide)
    rw [hs] at this; exact this
theorem bld_Dy2 {n e : Int} {s : Value} {K : Value → Prop} (hs : ∃ a l c, s = .slice a l c) : bld P t_impl_Dyadic [(0, .agg #[.int .i64 n, s]), (1, .int .i64 e)] w K = K (.agg #[.int .i64 n, s, .int .i64 e]) := by
  obtain ⟨a, l, c, rfl⟩ := hs
  exact bld_of (by kernel_rfl)
theorem okW_dy {a b : List UInt8} (ha : okW a = false) (hb : isNum b = true) : (isNum a && isNum b && isDyB (numI a) (numI b)) = false := by
  refine Bool.eq_false_iff.2 fun h => ?_
  rw [Bool.and_eq_true, Bool.and_eq_true] at h
  obtain ⟨⟨h1, _⟩, h3⟩ := h
  have h4 := h3
  simp only [isDyB, Bool.and_eq_true, decide_eq_true_eq] at h4
  have h5 := num_short h1 h4.1.1.1
  unfold okW at ha
  rw [h1, decide_eq_true h5, decide_eq_true h4.1.1.1] at ha
  cases ha
set_option maxRecDepth 20000 in
theorem c_ParseDyadic {l : List UInt8} (hl : l.length ≤ 4611686018427387904)
    (H0 : parseD l = none → ∀ v w', Ext w w' → (∃ m e, Dr w' v m e) → K (.tuple #[v, .int .i64 6]) w')
    (H1 : ∀ m e, parseD l = some (m, e) → ∀ v w', Ext w w' → Dr w' v m e → K (.tuple #[v, .int .i64 0]) w') : call P f_impl_ParseDyadic [str l] w K := by
  refine I_impl_ParseDyadic ?_
  unfold D_impl_ParseDyadic
  refine alc_Dy fun x w1 ⟨cs, hcs, b1⟩ e1 => ?_
  have ret0 : parseD l = none → ∀ w2, Ext w1 w2 → bld P t_impl_Dyadic [] w2 fun x59_58 =>
                  sto P t_impl_Dyadic x x59_58 w2 fun w60 =>
                  ldc P t_impl_Dyadic x w60 fun r61 =>
                  K (.tuple #[r61, (.int .i64 6)]) w60 := fun h0 w2 e2 => by
    rw [bld_Dyadic0]
    have b2 := b1.ext e2
    refine b2.put i_impl_Dyadic (ds := [.int .i64 0, .slice none 0 0, .int .i64 0]) rfl hcs (one_3 rfl rfl rfl) fun w3 b3 g3 => ?_
    refine b3.getc u_impl_Dyadic rfl i_impl_Dyadic rfl ?_
    exact H0 h0 _ _ (ext_of_grown (e1.trans e2) (fun g hg => (b2.blk_lt hg).1) g3) ⟨0, 0, Dr.zero0 _⟩
  refine c_Cut (c := 112) hl (fun hno => ?_) (fun a b hab hno => ?_)
  · rw [xtr_0, xtr_1, xtr_2, una_not]
    refine orJ (fun _ => ?_) (fun h => by cases h)
    refine orJ (fun _ => ?_) (fun h => by cases h)
    exact cnd_yes rfl (ret0 (parse_none hno) _ (Ext.refl _))
  have hpar := parse_of (b := b) hno
  rw [← hab] at hpar
  have hla : a.length ≤ 4611686018427387904 ∧ b.length ≤ 4611686018427387904 := by
    rw [hab, List.length_append, List.length_cons] at hl; omega
  rw [xtr_0, xtr_1, xtr_2, una_not, Bool.not_true]
  refine orJ (fun h => by cases h) (fun _ => ?_)
  refine c_isNumeral hla.2 ?_
  rw [una_not]
  refine orJ (fun hn => ?_) (fun hn => ?_)
  · have hb : isNum b = false := by simpa using hn
    exact cnd_yes rfl (ret0 (by rw [hpar, hb]; simp) _ (Ext.refl _))
  have hb : isNum b = true := by simpa using hn
  rw [len_str u_string, bin_gtr]
  refine cnd_dec (fun h6 => ?_) (fun h6 => ?_)
  · refine ret0 ?_ _ (Ext.refl _)
    rw [hpar]
    refine if_neg fun h => ?_
    rw [Bool.and_eq_true, Bool.and_eq_true] at h
    have h3 := h.2
    simp only [isDyB, Bool.and_eq_true, decide_eq_true_eq] at h3
    have := exp_short hb h3.1.1.2 h3.1.2
    omega
  have h6 : b.length ≤ 6 := by omega
  refine c_ParseWhole hla.1 fun v c m w2 e2 hv h1 h2 => ?_
  rw [xtr_0, xtr_1]
  refine alc_Wh fun y w3 ⟨cs3, hcs3, b3⟩ e3 => ?_
  refine (hv.ext e3).put b3 hcs3 fun w4 g4 h4 ⟨s, hs, b4⟩ => ?_
  subst hs
  have e4 : Ext w2 w4 := ext_of_grown e3 (fun g hg => (b3.blk_lt hg).1) g4
  refine c_ParseInt hb h6 fun w5 e5 => ?_
  rw [xtr_0, xtr_1]
  refine wh_all (b4.ext e5) ?_
  have h5 := h4.ext e5
  obtain ⟨s', q, hs', lr, wl⟩ := h5
  simp only [Value.agg.injEq, Array.mk.injEq, List.cons.injEq, true_and, and_true] at hs'
  subst hs'
  rw [bld_Dy2 (IR.sl lr.toIR)]
  have hd5 : Dr w5 (.agg #[.int .i64 m.sign, s, .int .i64 (numI b)]) m (numI b) := ⟨s, q, rfl, lr, wl⟩
  refine alc_Dy fun z w6 ⟨cs6, hcs6, b6⟩ e6 => ?_
  refine (hd5.ext e6).put b6 hcs6 fun w7 ⟨s7, hs7, b7⟩ g7 => ?_
  have hd7 := (hd5.ext e6).kt g7 (Ty.box b6) (by decide)
  rw [hs7] at hd7
  have e7 : Ext w5 w7 := ext_of_grown e6 (fun g hg => (b6.blk_lt hg).1) g7
  have E7 : Ext w1 w7 := e2.trans (e4.trans (e5.trans e7))
  rw [bin_neq]
  by_cases hok : okW a = true
  · obtain ⟨rfl, rfl⟩ := h1 hok
    refine orJ (fun h => by simp at h) (fun _ => ?_)
    rw [nil_err u_error]
    refine orJ (fun h => by cases h) (fun _ => ?_)
    refine dy_all b7 ?_
    refine c_impl_IsDyadic hd7 fun w8 e8 => ?_
    have hna : isNum a = true := by unfold okW at hok; rw [Bool.and_eq_true, Bool.and_eq_true] at hok; exact hok.1.1
    rw [hna, hb, Bool.true_and, Bool.true_and] at hpar
    rw [una_not]
    have E8 := E7.trans e8
    cases hdy : isDyB (numI a) (numI b)
    · rw [hdy] at hpar
      exact cnd_yes rfl (ret0 hpar _ E8)
    · rw [hdy] at hpar
      refine cnd_no rfl ?_
      refine dy_all (b7.ext e8) ?_
      have b1 := b1.ext E8
      have hd8 := hd7.ext e8
      refine hd8.put b1 hcs fun w9 ⟨s9, hs9, b9⟩ g9 => ?_
      have hd9 := hd8.kt g9 (Ty.box b1) (by decide)
      refine b9.getc u_impl_Dyadic rfl i_impl_Dyadic rfl ?_
      rw [hs9] at hd9
      exact H1 _ _ hpar _ _ (ext_of_grown (e1.trans E8) (fun g hg => (b1.blk_lt hg).1) g9) hd9
  · rw [Bool.not_eq_true] at hok
    have hc := h2 hok
    refine orJ (fun _ => ?_) (fun h => by simp at h; exact absurd h hc)
    refine orJ (fun _ => ?_) (fun h => by cases h)
    exact cnd_yes rfl (ret0 (by rw [hpar, okW_dy hok hb]; rfl) _ E7)
theorem c_isMode0 (H : K (.bool true) w) : call P f_impl_isMode [.int .i64 0] w K := by
  refine I_impl_isMode ?_
  unfold D_impl_isMode
  rw [bin_geq]
  refine andJ (fun _ => ?_) (fun h => by simp at h)
  rw [bin_leq]; exact H
theorem c_RoundDyadic {v : Value} {m e : Int} (h : Dr w v m e) (hd : isDyB m e = true) (H : ∀ w', Ext w w' → K (.tuple #[fl (rndQ 0 (dy m e)).1, .int .i64 (rndQ 0 (dy m e)).2, .int .i64 0]) w') : call P f_impl_RoundDyadic [v, .int .i64 0] w K := by
  obtain ⟨s, l, rfl, h1, wl⟩ := h
  refine I_impl_RoundDyadic ?_
  unfold D_impl_RoundDyadic
  refine bx_Dy fun x1 w1 b1 e1 => ?_
  have hd1 : Dr w1 (.agg #[.int .i64 m.sign, s, .int .i64 e]) m e := ⟨s, l, rfl, h1.ext e1, wl⟩
  refine dy_all b1 ?_
  refine c_impl_IsDyadic hd1 fun w2 e2 => ?_
  rw [hd, una_not, Bool.not_true, cnd_false]
  refine c_isMode0 ?_
  rw [una_not, Bool.not_true, cnd_false]
  refine dy_all (b1.ext e2) ?_
  refine c_numberOf (hd1.ext e2) hd fun u w3 e3 n3 => ?_
  refine c_num_round n3 (by decide) (by decide) fun w4 e4 => ?_
  rw [xtr_0, xtr_1]
  exact H _ (e1.trans (e2.trans (e3.trans e4)))
theorem c_parseFloat {l : List UInt8} (hl : l.length ≤ 4611686018427387904) (H : ∀ b w', Ext w w' → (∀ x, pF l = some x → b = x) → K (.tuple #[fl b, .bool (pF l).isSome]) w') : call P f_impl_parseFloat [str l] w K := by
  refine I_impl_parseFloat ?_
  unfold D_impl_parseFloat
  refine c_ParseDyadic hl (fun h0 v w1 e1 ⟨m, e, hd⟩ => ?_) (fun m e hp v w1 e1 hd => ?_)
  · rw [xtr_0, xtr_1]
    refine alc_Dy fun x4 w2 ⟨cs, hcs, b2⟩ e2 => ?_
    refine (hd.ext e2).put b2 hcs fun w3 ⟨s, hv, b3⟩ g3 => ?_
    have e3 : Ext w1 w3 := ext_of_grown e2 (fun g hg => (b2.blk_lt hg).1) g3
    rw [bin_neq]
    refine cnd_yes rfl ?_
    have hpf : pF l = none := by unfold pF; rw [h0]
    have := H 0 w3 (e1.trans e3) (fun x hx => by rw [hpf] at hx; cases hx)
    rw [hpf] at this; exact this
  · rw [xtr_0, xtr_1]
    have hdy := parse_some hp
    refine alc_Dy fun x4 w2 ⟨cs, hcs, b2⟩ e2 => ?_
    refine (hd.ext e2).put b2 hcs fun w3 ⟨s, hv, b3⟩ g3 => ?_
    have hd3 := (hd.ext e2).kt g3 (Ty.box b2) (by decide)
    have e3 : Ext w1 w3 := ext_of_grown e2 (fun g hg => (b2.blk_lt hg).1) g3
    rw [bin_neq]
    refine cnd_no rfl ?_
    rw [hv] at hd3
    refine dy_all b3 ?_
    refine c_RoundDyadic hd3 hdy fun w4 e4 => ?_
    rw [xtr_0, xtr_1, xtr_2, bin_eql]
    have hpf : pF l = if (rndQ 0 (dy m e)).2 = 0 then some (rndQ 0 (dy m e)).1 else none := by unfold pF; rw [hp]
    have := H (rndQ 0 (dy m e)).1 w4 (e1.trans (e3.trans e4)) (fun x hx => by
      rw [hpf] at hx
      split at hx
      · exact Option.some.inj hx
      · cases hx)
    rw [hpf] at this
    have hs : (if (rndQ 0 (dy m e)).2 = 0 then some (rndQ 0 (dy m e)).1 else none).isSome = decide ((rndQ 0 (dy m e)).2 = 0) := by
      split
      · rename_i h; rw [h]; rfl
      · rename_i h; simp [h]
    rw [hs] at this; exact this
end Go.Proofs.YtjompmflommadaaGreatDoor

/- Contracts: words, depths, programs. -/
set_option linter.unusedVariables false
set_option linter.unusedSimpArgs false
namespace Go.Proofs.YtjompmflommadaaGreatDoor
open Go Go.Vc

variable {w : World} {K : Value → World → Prop}

/-! ### lists of texts -/
structure SS (w : World) (v : Value) (l : List (List UInt8)) : Prop where
  row : Row 1 w v l.length (l.map str)
  lt : ∀ s ∈ l, s.length ≤ 1048576
  cap : CapOk v
theorem SS.ext {w' : World} {v : Value} {l : List (List UInt8)} (h : SS w v l) (he : Ext w w') : SS w' v l := ⟨h.row.ext he, h.lt, h.cap⟩
theorem SS.bound {v : Value} {l : List (List UInt8)} (h : SS w v l) : l.length ≤ 9223372036854775807 := by have := h.row.bound; simp only [maxLen] at this; omega
theorem SS.len {v : Value} {l : List (List UInt8)} {ty : TypeId} {K : Value → Prop} (h : SS w v l) : bl0 P .len #[t_s_string] ty [v] w K = K (.int .i64 l.length) := h.row.len u_s_string
theorem SS.at {v : Value} {l : List (List UInt8)} {k : IntKind} {i : Nat} {K : Value → Prop} (h : SS w v l) (hi : i < l.length) (H : K (str l[i])) : ixa P t_s_string v (.int k (i : Int)) w (fun a => ld P t_string a w K) :=
  h.row.at1 (by rw [List.getElem?_map, List.getElem?_eq_getElem hi]; rfl) u_s_string i_string u_string rfl H
theorem SS.le {v : Value} {l : List (List UInt8)} {i : Nat} (h : SS w v l) (hi : i < l.length) : l[i].length ≤ 4611686018427387904 := by
  have := h.lt _ (List.getElem_mem hi); omega

/-! ### programs -/
def I_Program (w : World) (v : Value) (l : List (List UInt8)) : Prop := ∃ s, v = .agg #[s] ∧ SS w s l
theorem I_Program.ext {w' : World} {v : Value} {l : List (List UInt8)} (h : I_Program w v l) (he : Ext w w') : I_Program w' v l := let ⟨s, h1, h2⟩ := h; ⟨s, h1, h2.ext he⟩
theorem bx_pr {t : TypeId} {s : Value} {KW : Value → World → Prop} (H : ∀ x w', Bx w' w.heap.size t x [s] → Ext w w' → KW x w') : bx P t (.agg #[s]) w KW :=
  bx_bx fun x w' b e _ => H x w' b e
theorem pr_w {base : Nat} {x s : Value} {K : Value → Prop} (h : Bx w base t_impl_Program x [s]) (H : K s) : fda P t_impl_Program x 0 w (fun y => ld P t_s_string y w K) :=
  h.fld (off := 0) rfl u_impl_Program rfl i_s_string u_s_string rfl H
theorem pr_all {base : Nat} {x s : Value} {K : Value → Prop} (h : Bx w base t_impl_Program x [s]) (H : K (.agg #[s])) : ld P t_impl_Program x w K :=
  h.get u_impl_Program rfl i_impl_Program rfl H

/-! ### words -/
noncomputable def form3 (l : List UInt8) : Int := if (pF l).isSome then 0 else -1
noncomputable def form2 (l : List UInt8) : Int :=
  if l = [43] then 2 else if l = [45] then 2 else if l = [42] then 2 else if l = [47] then 2 else if l = [109, 105, 110] then 2 else if l = [109, 97, 120] then 2 else form3 l
noncomputable def form1 (l : List UInt8) : Int :=
  if l = [110, 101, 103] then 1 else if l = [115, 113, 114] then 1 else if l = [97, 98, 115] then 1 else if l = [114, 111, 111, 116] then 1 else if l = [101, 120, 112] then 1 else
  if l = [108, 111, 103] then 1 else if l = [97, 116, 97, 110] then 1 else if l = [115, 105, 110] then 1 else form2 l
noncomputable def form0 (l : List UInt8) : Int := if l = [120] then 0 else if l = [121] then 0 else if l = [122] then 0 else form1 l
def varF (l : List UInt8) : Int := if l = [120] then 0 else if l = [121] then 1 else if l = [122] then 2 else -1
set_option maxRecDepth 20000 in
theorem c_form {l : List UInt8} (hl : l.length ≤ 4611686018427387904) (H : ∀ w', Ext w w' → K (.int .i64 (form0 l)) w') : call P f_impl_form [str l] w K := by
  refine I_impl_form ?_
  unfold D_impl_form
  have H0 := H w (Ext.refl _)
  refine ⟨fun w' => w' = w ∧ form0 l = form3 l, ?_, ?_⟩
  · rintro junk w3 ⟨rfl, hf⟩
    rw [hf] at H
    unfold form3 at H
    refine c_parseFloat hl fun b w4 e4 _ => ?_
    rw [xtr_0, xtr_1]
    refine cnd_split (fun h => ?_) (fun h => ?_)
    · have := H w4 e4
      rw [h] at this; exact this
    · have := H w4 e4
      rw [h] at this; exact this
  refine ⟨fun x w' => w' = w ∧ ∃ b, x = .bool b ∧ (b = true → form0 l = 0) ∧ (b = false → form0 l = form1 l), ?_, ?_⟩
  rotate_left
  · have T : form0 l = 0 → (w = w ∧ ∃ b, Value.bool true = .bool b ∧ (b = true → form0 l = 0) ∧ (b = false → form0 l = form1 l)) := fun h => ⟨rfl, true, rfl, fun _ => h, fun h => by cases h⟩
    rw [eql_str]
    refine cnd_dec (fun h => ?_) (fun n1 => ?_)
    · rw [decide_eq_true h]; exact T (by unfold form0; rw [if_pos h])
    rw [eql_str]
    refine cnd_dec (fun h => ?_) (fun n2 => ?_)
    · rw [decide_eq_true h]; exact T (by unfold form0; rw [if_neg n1, if_pos h])
    rw [eql_str]
    refine ⟨rfl, _, rfl, fun h => ?_, fun h => ?_⟩
    · unfold form0; rw [if_neg n1, if_neg n2, if_pos (by simpa using h)]
    · unfold form0; rw [if_neg n1, if_neg n2, if_neg (by simpa using h)]
  rintro x junk w1 ⟨rfl, b, rfl, hb1, hb2⟩
  refine cnd_split (fun h => ?_) (fun h => ?_)
  · rw [hb1 h] at H0; exact H0
  have hf := hb2 h
  refine ⟨fun x w' => w' = w1 ∧ ∃ b, x = .bool b ∧ (b = true → form0 l = 1) ∧ (b = false → form0 l = form2 l), ?_, ?_⟩
  rotate_left
  · have T : form1 l = 1 → ∀ b : Bool, b = true → (w1 = w1 ∧ ∃ c, Value.bool b = .bool c ∧ (c = true → form0 l = 1) ∧ (c = false → form0 l = form2 l)) := fun h b hb => ⟨rfl, b, rfl, fun _ => by rw [hf, h], fun h => by rw [hb] at h; cases h⟩
    rw [eql_str]
    refine cnd_dec (fun h => T (by unfold form1; rw [if_pos h]) _ (decide_eq_true h)) (fun n1 => ?_)
    rw [eql_str]
    refine cnd_dec (fun h => T (by unfold form1; rw [if_neg n1, if_pos h]) _ (decide_eq_true h)) (fun n2 => ?_)
    rw [eql_str]
    refine cnd_dec (fun h => T (by unfold form1; rw [if_neg n1, if_neg n2, if_pos h]) _ (decide_eq_true h)) (fun n3 => ?_)
    rw [eql_str]
    refine cnd_dec (fun h => T (by unfold form1; rw [if_neg n1, if_neg n2, if_neg n3, if_pos h]) _ (decide_eq_true h)) (fun n4 => ?_)
    rw [eql_str]
    refine cnd_dec (fun h => T (by unfold form1; rw [if_neg n1, if_neg n2, if_neg n3, if_neg n4, if_pos h]) _ (decide_eq_true h)) (fun n5 => ?_)
    rw [eql_str]
    refine cnd_dec (fun h => T (by unfold form1; rw [if_neg n1, if_neg n2, if_neg n3, if_neg n4, if_neg n5, if_pos h]) _ (decide_eq_true h)) (fun n6 => ?_)
    rw [eql_str]
    refine cnd_dec (fun h => T (by unfold form1; rw [if_neg n1, if_neg n2, if_neg n3, if_neg n4, if_neg n5, if_neg n6, if_pos h]) _ (decide_eq_true h)) (fun n7 => ?_)
    rw [eql_str]
    refine ⟨rfl, _, rfl, fun h => ?_, fun h => ?_⟩
    · rw [hf]; unfold form1; rw [if_neg n1, if_neg n2, if_neg n3, if_neg n4, if_neg n5, if_neg n6, if_neg n7, if_pos (by simpa using h)]
    · rw [hf]; unfold form1; rw [if_neg n1, if_neg n2, if_neg n3, if_neg n4, if_neg n5, if_neg n6, if_neg n7, if_neg (by simpa using h)]
  rintro x junk w2 ⟨rfl, b2, rfl, hc1, hc2⟩
  refine cnd_split (fun h => ?_) (fun h => ?_)
  · rw [hc1 h] at H0; exact H0
  have hf2 := hc2 h
  have T : form2 l = 2 → K (.int .i64 2) w2 := fun h => by rw [hf2, h] at H0; exact H0
  rw [eql_str]
  refine cnd_dec (fun h => cnd_yes (decide_eq_true h) (T (by unfold form2; rw [if_pos h]))) (fun n1 => ?_)
  rw [eql_str]
  refine cnd_dec (fun h => cnd_yes (decide_eq_true h) (T (by unfold form2; rw [if_neg n1, if_pos h]))) (fun n2 => ?_)
  rw [eql_str]
  refine cnd_dec (fun h => cnd_yes (decide_eq_true h) (T (by unfold form2; rw [if_neg n1, if_neg n2, if_pos h]))) (fun n3 => ?_)
  rw [eql_str]
  refine cnd_dec (fun h => cnd_yes (decide_eq_true h) (T (by unfold form2; rw [if_neg n1, if_neg n2, if_neg n3, if_pos h]))) (fun n4 => ?_)
  rw [eql_str]
  refine cnd_dec (fun h => cnd_yes (decide_eq_true h) (T (by unfold form2; rw [if_neg n1, if_neg n2, if_neg n3, if_neg n4, if_pos h]))) (fun n5 => ?_)
  rw [eql_str]
  refine cnd_dec (fun h => (T (by unfold form2; rw [if_neg n1, if_neg n2, if_neg n3, if_neg n4, if_neg n5, if_pos h]))) (fun n6 => ?_)
  exact ⟨rfl, by rw [hf2]; unfold form2; rw [if_neg n1, if_neg n2, if_neg n3, if_neg n4, if_neg n5, if_neg n6]⟩
theorem c_variable {l : List UInt8} (H : K (.int .i64 (varF l)) w) : call P f_impl_variable [str l] w K := by
  refine I_impl_variable ?_
  unfold D_impl_variable
  unfold varF at H
  rw [eql_str]
  refine cnd_dec (fun h => by rw [if_pos h] at H; exact H) (fun n1 => ?_)
  rw [eql_str]
  refine cnd_dec (fun h => by rw [if_neg n1, if_pos h] at H; exact H) (fun n2 => ?_)
  rw [eql_str]
  refine cnd_dec (fun h => by rw [if_neg n1, if_neg n2, if_pos h] at H; exact H) (fun n3 => ?_)
  rw [if_neg n1, if_neg n2, if_neg n3] at H; exact H
theorem c_l08Variable {l : List UInt8} (H : K (.int .i64 (varF l)) w) : call P f_spec_l08Variable [str l] w K := by
  refine I_spec_l08Variable ?_
  unfold D_spec_l08Variable
  unfold varF at H
  rw [eql_str]
  refine cnd_dec (fun h => by rw [if_pos h] at H; exact H) (fun n1 => ?_)
  rw [eql_str]
  refine cnd_dec (fun h => by rw [if_neg n1, if_pos h] at H; exact H) (fun n2 => ?_)
  rw [eql_str]
  refine cnd_dec (fun h => by rw [if_neg n1, if_neg n2, if_pos h] at H; exact H) (fun n3 => ?_)
  rw [if_neg n1, if_neg n2, if_neg n3] at H; exact H

/-! ### depths -/
theorem form_range (l : List UInt8) : -1 ≤ form0 l ∧ form0 l ≤ 2 := by
  unfold form0 form1 form2 form3
  constructor <;> repeat (first | omega | split)
theorem var_range (l : List UInt8) : -1 ≤ varF l ∧ varF l ≤ 2 := by
  unfold varF
  constructor <;> repeat (first | omega | split)
noncomputable def dpS (ws : List (List UInt8)) : Nat → Option (Int × Int)
  | 0 => some (0, 0)
  | i + 1 => match dpS ws i with
    | none => none
    | some (h, m) => if form0 (ws.getD i []) < 0 ∨ h < form0 (ws.getD i []) then none else some (h + 1 - form0 (ws.getD i []), max m (h + 1 - form0 (ws.getD i [])))
theorem dpS_range (ws : List (List UInt8)) : ∀ (i : Nat) (h m : Int), dpS ws i = some (h, m) → 0 ≤ h ∧ h ≤ m ∧ m ≤ i
  | 0, h, m, e => by
    simp only [dpS, Option.some.injEq, Prod.mk.injEq] at e
    omega
  | i + 1, h, m, e => by
    unfold dpS at e
    split at e
    · cases e
    · rename_i h0 m0 e0
      have := dpS_range ws i h0 m0 e0
      split at e
      · cases e
      · simp only [Option.some.injEq, Prod.mk.injEq] at e
        obtain ⟨rfl, rfl⟩ := e
        omega
theorem dpS_none (ws : List (List UInt8)) : ∀ (i j : Nat), dpS ws i = none → dpS ws (i + j) = none
  | i, 0, h => h
  | i, j + 1, h => by
    rw [show i + (j + 1) = (i + j) + 1 by omega]
    unfold dpS
    rw [dpS_none ws i j h]
noncomputable def depF (ws : List (List UInt8)) : Option Int :=
  if 1 ≤ ws.length ∧ ws.length ≤ 60 then (match dpS ws ws.length with
    | none => none
    | some (h, m) => if h = 1 ∧ m ≤ 16 then some m else none) else none
theorem depF_pos {ws : List (List UInt8)} {m : Int} (h : depF ws = some m) : 0 < m ∧ m ≤ 16 ∧ 1 ≤ ws.length ∧ ws.length ≤ 60 := by
  unfold depF at h
  split at h
  · rename_i h1
    split at h
    · cases h
    · rename_i a b e
      have := dpS_range ws _ _ _ e
      split at h
      · rename_i h2
        simp only [Option.some.injEq] at h
        omega
      · cases h
  · cases h
theorem getD_w {l : List (List UInt8)} {i : Nat} (h : i < l.length) : l.getD i [] = l[i] := by simp [h]
theorem dp_bad {ws : List (List UInt8)} {i : Nat} (hi : i < ws.length) {h m : Int} (e : dpS ws i = some (h, m)) (hb : form0 ws[i] < 0 ∨ h < form0 ws[i]) : depF ws = none := by
  have h1 : dpS ws (i + 1) = none := by
    unfold dpS
    rw [e]
    simp only [getD_w hi]
    rw [if_pos hb]
  have h2 := dpS_none ws (i + 1) (ws.length - (i + 1)) h1
  rw [show i + 1 + (ws.length - (i + 1)) = ws.length by omega] at h2
  unfold depF
  rw [h2]
  split <;> rfl
theorem dp_step {ws : List (List UInt8)} {i : Nat} (hi : i < ws.length) {h m : Int} (e : dpS ws i = some (h, m)) (hb : ¬ (form0 ws[i] < 0 ∨ h < form0 ws[i])) : dpS ws (i + 1) = some (h + 1 - form0 ws[i], max m (h + 1 - form0 ws[i])) := by
  conv => lhs; unfold dpS
  rw [e]
  simp only [getD_w hi]
  rw [if_neg hb]

theorem c_depthOf {v : Value} {ws : List (List UInt8)} (h : SS w v ws) (H : ∀ n w', Ext w w' → (∀ m, depF ws = some m → n = m) → K (.tuple #[.int .i64 n, .bool (depF ws).isSome]) w') : call P f_impl_depthOf [v] w K := by
  refine I_impl_depthOf ?_
  unfold D_impl_depthOf
  have none0 : depF ws = none → ∀ w', Ext w w' → K (.tuple #[.int .i64 0, .bool false]) w' := fun h0 w' he => by
    have := H 0 w' he (fun m hm => by rw [h0] at hm; cases hm)
    rw [h0] at this; exact this
  rw [h.len, bin_lss]
  have hb := h.bound
  refine orJ (fun h1 => ?_) (fun h1 => ?_)
  · rw [cnd_true]
    exact none0 (by unfold depF; rw [if_neg (by simp only [decide_eq_true_eq] at h1; omega)]) _ (Ext.refl _)
  rw [h.len, bin_gtr]
  refine cnd_dec (fun h2 => ?_) (fun h2 => ?_)
  · exact none0 (by unfold depF; rw [if_neg (by omega)]) _ (Ext.refl _)
  have hlen : 1 ≤ ws.length ∧ ws.length ≤ 60 := by simp only [decide_eq_false_iff_not] at h1; omega
  rw [h.len]
  refine ⟨fun g x4 x5 x w' => ∃ (i : Nat) (a b : Int), x = .int .i64 i ∧ g + i = ws.length ∧ x4 = .int .i64 a ∧ x5 = .int .i64 b ∧ dpS ws i = some (a, b) ∧ Ext w w', ⟨ws.length, 0, 0, 0, rfl, by omega, rfl, rfl, rfl, Ext.refl _⟩, ?_⟩
  rintro g x4 x5 x junk w1 ⟨i, a, b, rfl, hg, rfl, rfl, hdp, e1⟩
  have hr := dpS_range ws i a b hdp
  rw [bin_lss]
  refine cnd_dec (fun hlt => ?_) (fun hge => ?_)
  · have hi : i < ws.length := by omega
    refine (h.ext e1).at hi ?_
    refine c_form (h.le hi) fun w2 e2 => ?_
    have E := e1.trans e2
    have hf := form_range ws[i]
    rw [bin_lss]
    refine orJ (fun h3 => ?_) (fun h3 => ?_)
    · rw [cnd_true]
      exact none0 (dp_bad hi hdp (.inl (by simpa using h3))) _ E
    rw [bin_lss]
    refine cnd_dec (fun h4 => none0 (dp_bad hi hdp (.inr h4)) _ E) (fun h4 => ?_)
    have hs := dp_step hi hdp (by simp only [decide_eq_false_iff_not] at h3; omega)
    rw [bin_sub, wrap_i64 (by omega) (by omega), bin_add, wrap_i64 (by omega) (by omega), bl0_max_i64, bin_add, wrap_i64 (by omega) (by omega)]
    refine ⟨g - 1, by omega, i + 1, _, _, rfl, by omega, rfl, rfl, ?_, E⟩
    rw [hs, show a + (1 - form0 ws[i]) = a + 1 - form0 ws[i] by omega]
  · have hi : i = ws.length := by omega
    subst hi
    have hdF : depF ws = if a = 1 ∧ b ≤ 16 then some b else none := by unfold depF; rw [if_pos hlen, hdp]
    have HH := H b w1 e1 (fun m hm => by
      rw [hdF] at hm
      split at hm
      · exact Option.some.inj hm
      · cases hm)
    rw [bin_eql]
    refine andJ (fun h3 => ?_) (fun h3 => ?_)
    · rw [bin_leq]
      simp only [decide_eq_true_eq] at h3
      have : (depF ws).isSome = decide (b ≤ 16) := by
        rw [hdF]
        by_cases h4 : b ≤ 16
        · rw [if_pos ⟨h3, h4⟩, decide_eq_true h4]; rfl
        · rw [if_neg (fun h => h4 h.2), decide_eq_false h4]; rfl
      rw [this] at HH; exact HH
    · simp only [decide_eq_false_iff_not] at h3
      have : (depF ws).isSome = false := by rw [hdF, if_neg (fun h => h3 h.1)]; rfl
      rw [this] at HH; exact HH
theorem c_impl_IsProgram {v : Value} {ws : List (List UInt8)} (h : I_Program w v ws) (H : ∀ w', Ext w w' → K (.bool (depF ws).isSome) w') : call P f_impl_IsProgram [v] w K := by
  obtain ⟨s, rfl, hs⟩ := h
  refine I_impl_IsProgram ?_
  unfold D_impl_IsProgram
  refine bx_pr fun x w1 b1 e1 => ?_
  refine pr_w b1 ?_
  refine c_depthOf (hs.ext e1) fun n w2 e2 _ => ?_
  rw [xtr_0, xtr_1]
  exact H _ (e1.trans e2)
noncomputable def ndS (ws : List (List UInt8)) : Nat → Int
  | 0 => 0
  | i + 1 => max (ndS ws i) (varF (ws.getD i []) + 1)
theorem ndS_range (ws : List (List UInt8)) : ∀ i, 0 ≤ ndS ws i ∧ ndS ws i ≤ 3
  | 0 => by simp [ndS]
  | i + 1 => by
    have h1 := ndS_range ws i
    have h2 := var_range (ws.getD i [])
    simp only [ndS]
    omega
theorem c_needs {v : Value} {ws : List (List UInt8)} (h : I_Program w v ws) (H : ∀ w', Ext w w' → K (.int .i64 (ndS ws ws.length)) w') : call P f_impl_needs [v] w K := by
  obtain ⟨s, rfl, hs⟩ := h
  refine I_impl_needs ?_
  unfold D_impl_needs
  refine bx_pr fun x w1 b1 e1 => ?_
  refine pr_w b1 ?_
  have h1 := hs.ext e1
  have hb := h1.bound
  rw [h1.len]
  refine ⟨fun g y x w' => w' = w1 ∧ ∃ i : Nat, x = .int .i64 i ∧ g + i = ws.length ∧ y = .int .i64 (ndS ws i), ⟨ws.length, rfl, 0, rfl, by omega, rfl⟩, ?_⟩
  rintro g y x junk w2 ⟨rfl, i, rfl, hg, rfl⟩
  rw [bin_lss]
  refine cnd_dec (fun hlt => ?_) (fun hge => ?_)
  · have hi : i < ws.length := by omega
    refine h1.at hi ?_
    refine c_variable ?_
    have hv := var_range ws[i]
    have hn := ndS_range ws i
    rw [bin_add, wrap_i64 (by omega) (by omega), bl0_max_i64, bin_add, wrap_i64 (by omega) (by omega)]
    refine ⟨g - 1, by omega, rfl, i + 1, rfl, by omega, ?_⟩
    simp only [ndS, getD_w hi]
  · have hi : i = ws.length := by omega
    subst hi
    exact H _ e1
end Go.Proofs.YtjompmflommadaaGreatDoor

/- Contracts: words, depths, programs (the reference); IsProgram, DepthOf, VariablesOf. -/
set_option linter.unusedVariables false
set_option linter.unusedSimpArgs false
namespace Go.Proofs.YtjompmflommadaaGreatDoor
open Go Go.Vc

variable {w : World} {K : Value → World → Prop}

set_option maxRecDepth 20000 in
theorem c_l08Needs {l : List UInt8} (hl : l.length ≤ 4611686018427387904) (H : ∀ w', Ext w w' → K (.int .i64 (form0 l)) w') : call P f_spec_l08Needs [str l] w K := by
  refine I_spec_l08Needs ?_
  unfold D_spec_l08Needs
  have H0 := H w (Ext.refl _)
  refine ⟨fun w' => w' = w ∧ form0 l = form3 l, ?_, ?_⟩
  · rintro junk w3 ⟨rfl, hf⟩
    rw [hf] at H
    unfold form3 at H
    refine c_l06Float hl fun b w4 e4 _ => ?_
    rw [xtr_0, xtr_1]
    refine cnd_split (fun h => ?_) (fun h => ?_)
    · have := H w4 e4
      rw [h] at this; exact this
    · have := H w4 e4
      rw [h] at this; exact this
  refine ⟨fun x w' => w' = w ∧ ∃ b, x = .bool b ∧ (b = true → form0 l = 0) ∧ (b = false → form0 l = form1 l), ?_, ?_⟩
  rotate_left
  · have T : form0 l = 0 → (w = w ∧ ∃ b, Value.bool true = .bool b ∧ (b = true → form0 l = 0) ∧ (b = false → form0 l = form1 l)) := fun h => ⟨rfl, true, rfl, fun _ => h, fun h => by cases h⟩
    rw [eql_str]
    refine cnd_dec (fun h => ?_) (fun n1 => ?_)
    · rw [decide_eq_true h]; exact T (by unfold form0; rw [if_pos h])
    rw [eql_str]
    refine cnd_dec (fun h => ?_) (fun n2 => ?_)
    · rw [decide_eq_true h]; exact T (by unfold form0; rw [if_neg n1, if_pos h])
    rw [eql_str]
    refine ⟨rfl, _, rfl, fun h => ?_, fun h => ?_⟩
    · unfold form0; rw [if_neg n1, if_neg n2, if_pos (by simpa using h)]
    · unfold form0; rw [if_neg n1, if_neg n2, if_neg (by simpa using h)]
  rintro x junk w1 ⟨rfl, b, rfl, hb1, hb2⟩
  refine cnd_split (fun h => ?_) (fun h => ?_)
  · rw [hb1 h] at H0; exact H0
  have hf := hb2 h
  refine ⟨fun x w' => w' = w1 ∧ ∃ b, x = .bool b ∧ (b = true → form0 l = 1) ∧ (b = false → form0 l = form2 l), ?_, ?_⟩
  rotate_left
  · have T : form1 l = 1 → ∀ b : Bool, b = true → (w1 = w1 ∧ ∃ c, Value.bool b = .bool c ∧ (c = true → form0 l = 1) ∧ (c = false → form0 l = form2 l)) := fun h b hb => ⟨rfl, b, rfl, fun _ => by rw [hf, h], fun h => by rw [hb] at h; cases h⟩
    rw [eql_str]
    refine cnd_dec (fun h => T (by unfold form1; rw [if_pos h]) _ (decide_eq_true h)) (fun n1 => ?_)
    rw [eql_str]
    refine cnd_dec (fun h => T (by unfold form1; rw [if_neg n1, if_pos h]) _ (decide_eq_true h)) (fun n2 => ?_)
    rw [eql_str]
    refine cnd_dec (fun h => T (by unfold form1; rw [if_neg n1, if_neg n2, if_pos h]) _ (decide_eq_true h)) (fun n3 => ?_)
    rw [eql_str]
    refine cnd_dec (fun h => T (by unfold form1; rw [if_neg n1, if_neg n2, if_neg n3, if_pos h]) _ (decide_eq_true h)) (fun n4 => ?_)
    rw [eql_str]
    refine cnd_dec (fun h => T (by unfold form1; rw [if_neg n1, if_neg n2, if_neg n3, if_neg n4, if_pos h]) _ (decide_eq_true h)) (fun n5 => ?_)
    rw [eql_str]
    refine cnd_dec (fun h => T (by unfold form1; rw [if_neg n1, if_neg n2, if_neg n3, if_neg n4, if_neg n5, if_pos h]) _ (decide_eq_true h)) (fun n6 => ?_)
    rw [eql_str]
    refine cnd_dec (fun h => T (by unfold form1; rw [if_neg n1, if_neg n2, if_neg n3, if_neg n4, if_neg n5, if_neg n6, if_pos h]) _ (decide_eq_true h)) (fun n7 => ?_)
    rw [eql_str]
    refine ⟨rfl, _, rfl, fun h => ?_, fun h => ?_⟩
    · rw [hf]; unfold form1; rw [if_neg n1, if_neg n2, if_neg n3, if_neg n4, if_neg n5, if_neg n6, if_neg n7, if_pos (by simpa using h)]
    · rw [hf]; unfold form1; rw [if_neg n1, if_neg n2, if_neg n3, if_neg n4, if_neg n5, if_neg n6, if_neg n7, if_neg (by simpa using h)]
  rintro x junk w2 ⟨rfl, b2, rfl, hc1, hc2⟩
  refine cnd_split (fun h => ?_) (fun h => ?_)
  · rw [hc1 h] at H0; exact H0
  have hf2 := hc2 h
  have T : form2 l = 2 → K (.int .i64 2) w2 := fun h => by rw [hf2, h] at H0; exact H0
  rw [eql_str]
  refine cnd_dec (fun h => cnd_yes (decide_eq_true h) (T (by unfold form2; rw [if_pos h]))) (fun n1 => ?_)
  rw [eql_str]
  refine cnd_dec (fun h => cnd_yes (decide_eq_true h) (T (by unfold form2; rw [if_neg n1, if_pos h]))) (fun n2 => ?_)
  rw [eql_str]
  refine cnd_dec (fun h => cnd_yes (decide_eq_true h) (T (by unfold form2; rw [if_neg n1, if_neg n2, if_pos h]))) (fun n3 => ?_)
  rw [eql_str]
  refine cnd_dec (fun h => cnd_yes (decide_eq_true h) (T (by unfold form2; rw [if_neg n1, if_neg n2, if_neg n3, if_pos h]))) (fun n4 => ?_)
  rw [eql_str]
  refine cnd_dec (fun h => cnd_yes (decide_eq_true h) (T (by unfold form2; rw [if_neg n1, if_neg n2, if_neg n3, if_neg n4, if_pos h]))) (fun n5 => ?_)
  rw [eql_str]
  refine cnd_dec (fun h => (T (by unfold form2; rw [if_neg n1, if_neg n2, if_neg n3, if_neg n4, if_neg n5, if_pos h]))) (fun n6 => ?_)
  exact ⟨rfl, by rw [hf2]; unfold form2; rw [if_neg n1, if_neg n2, if_neg n3, if_neg n4, if_neg n5, if_neg n6]⟩

theorem c_l08Depth {v : Value} {ws : List (List UInt8)} (h : I_Program w v ws) (H : ∀ w', Ext w w' → K (.int .i64 ((depF ws).getD 0)) w') : call P f_spec_l08Depth [v] w K := by
  obtain ⟨s, rfl, hs⟩ := h
  refine I_spec_l08Depth ?_
  unfold D_spec_l08Depth
  refine bx_pr fun x w1 b1 e1 => ?_
  have h1 := hs.ext e1
  have hb := h1.bound
  have none0 : depF ws = none → ∀ w', Ext w1 w' → K (.int .i64 0) w' := fun h0 w' he => by
    have := H w' (e1.trans he)
    rw [h0] at this; exact this
  refine pr_w b1 ?_
  rw [h1.len, bin_lss]
  refine orJ (fun h2 => ?_) (fun h2 => ?_)
  · rw [cnd_true]
    exact none0 (by unfold depF; rw [if_neg (by simp only [decide_eq_true_eq] at h2; omega)]) _ (Ext.refl _)
  refine pr_w b1 ?_
  rw [h1.len, bin_gtr]
  refine cnd_dec (fun h3 => ?_) (fun h3 => ?_)
  · exact none0 (by unfold depF; rw [if_neg (by omega)]) _ (Ext.refl _)
  have hlen : 1 ≤ ws.length ∧ ws.length ≤ 60 := by simp only [decide_eq_false_iff_not] at h2; omega
  refine ⟨fun g x4 x5 x w' => ∃ (i : Nat) (a b : Int), x = .int .i64 i ∧ g + i = ws.length ∧ x4 = .int .i64 a ∧ x5 = .int .i64 b ∧ dpS ws i = some (a, b) ∧ Ext w1 w', ⟨ws.length, 0, 0, 0, rfl, by omega, rfl, rfl, rfl, Ext.refl _⟩, ?_⟩
  rintro g x4 x5 y junk w2 ⟨i, a, b, rfl, hg, rfl, rfl, hdp, e2⟩
  have hr := dpS_range ws i a b hdp
  refine pr_w (b1.ext e2) ?_
  rw [(h1.ext e2).len, bin_lss]
  refine cnd_dec (fun hlt => ?_) (fun hge => ?_)
  · have hi : i < ws.length := by omega
    refine pr_w (b1.ext e2) ?_
    refine (h1.ext e2).at hi ?_
    refine c_l08Needs (h1.le hi) fun w3 e3 => ?_
    have E := e2.trans e3
    have hf := form_range ws[i]
    rw [bin_lss]
    refine orJ (fun h3 => ?_) (fun h3 => ?_)
    · rw [cnd_true]
      exact none0 (dp_bad hi hdp (.inl (by simpa using h3))) _ E
    rw [bin_lss]
    refine cnd_dec (fun h4 => none0 (dp_bad hi hdp (.inr h4)) _ E) (fun h4 => ?_)
    have hs := dp_step hi hdp (by simp only [decide_eq_false_iff_not] at h3; omega)
    rw [bin_sub, wrap_i64 (by omega) (by omega), bin_add, wrap_i64 (by omega) (by omega), bl0_max_i64, bin_add, wrap_i64 (by omega) (by omega)]
    refine ⟨g - 1, by omega, i + 1, _, _, rfl, by omega, rfl, rfl, ?_, E⟩
    rw [hs, show a - form0 ws[i] + 1 = a + 1 - form0 ws[i] by omega]
  · have hi : i = ws.length := by omega
    subst hi
    have hdF : depF ws = if a = 1 ∧ b ≤ 16 then some b else none := by unfold depF; rw [if_pos hlen, hdp]
    have HH := H w2 (e1.trans e2)
    rw [bin_neq]
    refine orJ (fun h3 => ?_) (fun h3 => ?_)
    · simp only [decide_eq_true_eq] at h3
      rw [hdF, if_neg (fun h => h3 h.1)] at HH
      rw [cnd_true]; exact HH
    · simp only [decide_eq_false_iff_not, Decidable.not_not] at h3
      rw [bin_gtr]
      refine cnd_dec (fun h4 => ?_) (fun h4 => ?_)
      · rw [hdF, if_neg (fun h => by omega)] at HH; exact HH
      · rw [hdF, if_pos (by omega)] at HH; exact HH
theorem c_l08Is {v : Value} {ws : List (List UInt8)} (h : I_Program w v ws) (H : ∀ w', Ext w w' → K (.bool (depF ws).isSome) w') : call P f_spec_l08Is [v] w K := by
  obtain ⟨s, rfl, hs⟩ := h
  refine I_spec_l08Is ?_
  unfold D_spec_l08Is
  refine bx_pr fun x w1 b1 e1 => ?_
  refine pr_all b1 ?_
  refine c_l08Depth ⟨s, rfl, hs.ext e1⟩ fun w2 e2 => ?_
  rw [bin_gtr]
  have HH := H w2 (e1.trans e2)
  cases hd : depF ws with
  | none => rw [hd] at HH; exact HH
  | some m =>
    rw [hd] at HH
    have := (depF_pos hd).1
    rw [show decide ((some m).getD 0 > 0) = true from decide_eq_true (by simpa using this)]
    exact HH
theorem c_l08Variables {v : Value} {ws : List (List UInt8)} (h : I_Program w v ws) (H : ∀ w', Ext w w' → K (.int .i64 (ndS ws ws.length)) w') : call P f_spec_l08Variables [v] w K := by
  obtain ⟨s, rfl, hs⟩ := h
  refine I_spec_l08Variables ?_
  unfold D_spec_l08Variables
  refine bx_pr fun x w1 b1 e1 => ?_
  have h1 := hs.ext e1
  have hb := h1.bound
  refine ⟨fun g y x w' => w' = w1 ∧ ∃ i : Nat, x = .int .i64 i ∧ g + i = ws.length ∧ y = .int .i64 (ndS ws i), ⟨ws.length, rfl, 0, rfl, by omega, rfl⟩, ?_⟩
  rintro g y x' junk w2 ⟨rfl, i, rfl, hg, rfl⟩
  refine pr_w b1 ?_
  rw [h1.len, bin_lss]
  refine cnd_dec (fun hlt => ?_) (fun hge => ?_)
  · have hi : i < ws.length := by omega
    refine pr_w b1 ?_
    refine h1.at hi ?_
    refine c_l08Variable ?_
    have hv := var_range ws[i]
    have hn := ndS_range ws i
    rw [bin_add, wrap_i64 (by omega) (by omega), bl0_max_i64, bin_add, wrap_i64 (by omega) (by omega)]
    refine ⟨g - 1, by omega, rfl, i + 1, rfl, by omega, ?_⟩
    simp only [ndS, getD_w hi]
  · have hi : i = ws.length := by omega
    subst hi
    exact H _ e1

/-! ### as the laws want them -/
noncomputable def isPF (ws : List (List UInt8)) : Bool := (depF ws).isSome
end Go.Proofs.YtjompmflommadaaGreatDoor

/- Lists of exact numbers. -/
set_option linter.unusedVariables false
namespace Go.Proofs.YtjompmflommadaaGreatDoor
open Go Go.Vc

variable {w : World} {K : Value → World → Prop}

theorem heap_new {o : Obj} : (w.alloc o).heap[w.heap.size]? = some o := by
  show (w.heap.push o)[w.heap.size]? = some o
  simp
/-- A list of one's own whose elements take s cells. -/
def SL {α : Type} (R : World → List Value → α → Prop) (s : Nat) (e : TypeId) (w : World) (base : Nat) (v : Value) (ls : List α) : Prop :=
  ∃ cs : List (List Value), cs.length = ls.length ∧ (∀ c ∈ cs, c.length = s) ∧ w.ownsRow base e s v ls.length cs.flatten ∧ ∀ i (h : i < cs.length) (h' : i < ls.length), R w cs[i] ls[i]

theorem flatten_get {s : Nat} : ∀ {cs : List (List Value)}, (∀ c ∈ cs, c.length = s) → ∀ {i j : Nat} (hi : i < cs.length) {u : Value}, cs[i][j]? = some u → cs.flatten[i * s + j]? = some u
  | [], _, i, j, hi, _, _ => absurd hi (Nat.not_lt_zero _)
  | c :: cs, h, 0, j, hi, u, hu => by
    rw [Nat.zero_mul, Nat.zero_add, List.flatten_cons]
    simp only [List.getElem_cons_zero] at hu
    have hj := (List.getElem?_eq_some_iff.1 hu).1
    rw [List.getElem?_append_left hj]; exact hu
  | c :: cs, h, i + 1, j, hi, u, hu => by
    have hc := h c List.mem_cons_self
    simp only [List.getElem_cons_succ] at hu
    have := flatten_get (s := s) (fun c' hc' => h c' (List.mem_cons_of_mem _ hc')) (i := i) (j := j) (by simpa using hi) hu
    rw [List.flatten_cons, List.getElem?_append_right (by rw [hc, Nat.succ_mul]; omega), hc]
    rw [show (i + 1) * s + j - s = i * s + j by rw [Nat.succ_mul]; omega]
    exact this

theorem Row.atA {s n : Nat} {v : Value} {xs cs : List Value} {t e : TypeId} {z : Value} {b : Nat} {d : TypeDesc} {K : Value → Prop} {k : IntKind} {i : Nat} (h : Row s w v n xs) (hi : i < n) (hl : cs.length = s) (hx : ∀ j u, cs[j]? = some u → xs[i * s + j]? = some u)
    (hu : P.underlying t = some (.slice e)) (ht : TI P e z s b) (hue : P.underlying e = some d) (hd : aggB d = true) (H : K (.agg cs.toArray)) :
    ixa P t v (.int k (i : Int)) w (fun a => ld P e a w K) := by
  obtain ⟨h1, h2, a, cap, rfl, h3⟩ := h
  obtain ⟨bl, o, rfl, hc⟩ := h3 (by omega)
  rw [ixa_slice hu ht (by omega) (by omega)]
  rw [ld_agg hue hd ht hl (fun j u hj => ?_)]
  · exact H
  · rw [Addr.add_lit, Int.toNat_natCast, Nat.add_assoc]
    exact hc _ u (hx j u hj)

set_option maxRecDepth 20000 in
theorem bsl_num {KW : Value → World → Prop} {a b : Value} (ha : a.oneCell' = true) (hb : b.oneCell' = true) (h : KW (.slice (some ⟨w.heap.size, 0, none⟩) 1 1) (w.alloc (.cells #[a, b] t_impl_num))) : bsl P t_s_impl_num 1 [(0, .agg #[a, b])] w KW := by
  unfold bsl Instr.buildSlice
  refine SemA_rv (rv_underlying u_s_impl_num) ?_
  refine SemA_rv (sm := sizeOf t_impl_num) (rv_sizeOf i_impl_num) ?_
  simp only [Nat.one_mul]
  rw [if_neg (by omega), if_neg (by omega)]
  refine SemA_bind (s := zeroValue t_impl_num) ?_
  refine SemA_of_rd (rd_of_rv _ (rv_zeroValue i_impl_num) ?_)
  refine SemA_bind (SemA_pure ?_)
  have : Instr.fill (fun i => some (i * 2, 2)) ((Array.range 2).map (fun i => ((Value.agg #[(.pointer none), (.int .i64 0)]).cells)[i % ((Value.agg #[(.pointer none), (.int .i64 0)]).cells).size]!)) [(0, .agg #[a, b])].toArray.toList = some #[a, b] := by
    have hr : Array.range 2 = #[0, 1] := rfl
    simp [Instr.fill, hr, Value.cells]
  simp only [this]
  exact SemA_bind (SemA_bind (SemA_new (SemA_pure (SemA_pure h))))
set_option maxRecDepth 20000 in
theorem bsl_Dy {KW : Value → World → Prop} {a b c : Value} (h : KW (.slice (some ⟨w.heap.size, 0, none⟩) 1 1) (w.alloc (.cells #[a, b, c] t_impl_Dyadic))) : bsl P t_s_impl_Dyadic 1 [(0, .agg #[a, b, c])] w KW := by
  unfold bsl Instr.buildSlice
  refine SemA_rv (rv_underlying u_s_impl_Dyadic) ?_
  refine SemA_rv (sm := sizeOf t_impl_Dyadic) (rv_sizeOf i_impl_Dyadic) ?_
  simp only [Nat.one_mul]
  rw [if_neg (by omega), if_neg (by omega)]
  refine SemA_bind (s := zeroValue t_impl_Dyadic) ?_
  refine SemA_of_rd (rd_of_rv _ (rv_zeroValue i_impl_Dyadic) ?_)
  refine SemA_bind (SemA_pure ?_)
  have : Instr.fill (fun i => some (i * 3, 3)) ((Array.range 3).map (fun i => ((Value.agg #[(.int .i64 0), (.slice none 0 0), (.int .i64 0)]).cells)[i % ((Value.agg #[(.int .i64 0), (.slice none 0 0), (.int .i64 0)]).cells).size]!)) [(0, .agg #[a, b, c])].toArray.toList = some #[a, b, c] := by
    have hr : Array.range 3 = #[0, 1, 2] := rfl
    simp [Instr.fill, hr, Value.cells]
  simp only [this]
  exact SemA_bind (SemA_bind (SemA_new (SemA_pure (SemA_pure h))))

section
variable {α : Type} {R : World → List Value → α → Prop} {s : Nat} {e t : TypeId} {base : Nat} {v : Value} {ls : List α} {z : Value} {b : Nat} {d : TypeDesc}
theorem SL.ext {w' : World} (hR : ∀ c a, R w c a → R w' c a) (h : SL R s e w base v ls) (he : Ext w w') : SL R s e w' base v ls := by
  obtain ⟨cs, h1, h2, h3, h4⟩ := h
  exact ⟨cs, h1, h2, owns_ext h3 he, fun i hi hi' => hR _ _ (h4 i hi hi')⟩
theorem SL.len {ty : TypeId} {K : Value → Prop} (h : SL R s e w base v ls) (hu : P.underlying t = some (.slice e)) : bl0 P .len #[t] ty [v] w K = K (.int .i64 ls.length) := by
  obtain ⟨cs, h1, h2, h3, h4⟩ := h
  exact (owns_Row h3).len hu
theorem SL.at {K : Value → Prop} {k : IntKind} {i : Nat} (h : SL R s e w base v ls) (hi : i < ls.length) (hu : P.underlying t = some (.slice e)) (ht : TI P e z s b) (hue : P.underlying e = some d) (hd : aggB d = true)
    (H : ∀ c, R w c ls[i] → K (.agg c.toArray)) : ixa P t v (.int k (i : Int)) w (fun a => ld P e a w K) := by
  obtain ⟨cs, h1, h2, h3, h4⟩ := h
  have hi' : i < cs.length := by omega
  exact Row.atA (owns_Row h3) hi (h2 _ (List.getElem_mem hi')) (fun j u hj => flatten_get h2 hi' hj) hu ht hue hd (H _ (h4 i hi' hi))
theorem SL.nil {KW : Value → World → Prop} (hu : P.underlying t = some (.slice e)) (ht : TI P e z s b) (H : ∀ v w', Ext w w' → SL R s e w' w.heap.size v ([] : List α) → KW v w') : bsl P t 0 [] w KW := by
  refine bsl_nil hu ht (H _ _ (Ext_alloc w _) ⟨[], rfl, (fun c hc => by cases hc), ?_, fun i hi => by cases hi⟩)
  have := World.ownsRow_lit (w := w) (base := w.heap.size) (e := e) (size := s) #[] 0 (Nat.le_refl _) (by decide) (by simp)
  simpa using this
/-- One more element. -/
theorem SL.push {KW : Value → World → Prop} {ty : TypeId} {c : List Value} {a : α} {w0 : World} {x : Value} (h : SL R s e w0 base v ls) (hx : Row s w x 1 c) (hc : c.length = s) (h1 : ∀ u ∈ c, u.oneCell' = true) (he : Ext w0 w) (hbase : base ≤ w0.heap.size)
    (hR : ∀ w' c a row, R w0 c a → (∀ k, row = some k → base ≤ k) → w.grownBy w' row → Ty w row e → R w' c a) (ha : R w0 c a)
    (hu : P.underlying t = some (.slice e)) (ht : TI P e z s b) (hzs : z.cells.size = s) (hs : 0 < s) (hn : ls.length ≤ 1048576) (hb : b ≤ 1024)
    (H : ∀ v' w', SL R s e w' base v' (ls ++ [a]) → w.grownBy w' v.ownBlock → (∀ k, v.ownBlock = some k → base ≤ k) → KW v' w') : bl2 P .append #[t, t] ty [v, x] w KW := by
  obtain ⟨cs, g1, g2, g3, g4⟩ := h
  have g3' := owns_ext g3 he
  have hby : (ls.length + 1) * b ≤ 140737488355328 := by
    have : (ls.length + 1) * b ≤ 1048577 * 1024 := Nat.mul_le_mul (by omega) hb
    omega
  refine append_intro g3' hx h1 hu ht hzs hs (by simp only [maxLen]; omega) hby (Nat.le_trans hbase he.size) fun v' w' ho hg => ?_
  have hk : ∀ k, v.ownBlock = some k → base ≤ k := fun k hk => (g3'.lt k hk).1
  refine H v' w' ⟨cs ++ [c], by simp [g1], fun c' hc' => ?_, ?_, fun i hi hi' => ?_⟩ hg hk
  · rcases List.mem_append.1 hc' with hc' | hc'
    · exact g2 c' hc'
    · rw [List.mem_singleton] at hc'; rw [hc']; exact hc
  · rw [List.flatten_append, List.length_append]
    simpa using ho
  · have ty' := Ty.owns g3'
    by_cases hlt : i < cs.length
    · have hlt' : i < ls.length := by omega
      rw [List.getElem_append_left hlt, List.getElem_append_left hlt']
      exact hR w' _ _ _ (g4 i hlt hlt') hk hg ty'
    · have hi0 : i = cs.length := by simp at hi; omega
      subst hi0
      rw [List.getElem_append_right (Nat.le_refl _), List.getElem_append_right (by omega)]
      simp only [Nat.sub_self, g1, List.getElem_cons_zero]
      exact hR w' _ _ _ ha hk hg ty'
end

/-! ### numbers of the program; of the reference -/
def RN (lo hi : Nat) (w : World) (c : List Value) (q : Rat) : Prop := NQ w (.agg c.toArray) lo hi q
def RD (lo hi : Nat) (w : World) (c : List Value) (q : Rat) : Prop := DQ w (.agg c.toArray) lo hi q
abbrev NL (w : World) (base : Nat) (v : Value) (lo hi : Nat) (qs : List Rat) : Prop := SL (RN lo hi) 2 t_impl_num w base v qs
abbrev DL (w : World) (base : Nat) (v : Value) (lo hi : Nat) (qs : List Rat) : Prop := SL (RD lo hi) 3 t_impl_Dyadic w base v qs
section
variable {base : Nat} {v : Value} {lo hi : Nat} {qs : List Rat}
theorem NL.ext {w' : World} (h : NL w base v lo hi qs) (he : Ext w w') : NL w' base v lo hi qs := SL.ext (fun c a (h : NQ _ _ _ _ _) => (h.ext he : NQ _ _ _ _ _)) h he
theorem DL.ext {w' : World} (h : DL w base v lo hi qs) (he : Ext w w') : DL w' base v lo hi qs := SL.ext (fun c a (h : DQ _ _ _ _ _) => (h.ext he : DQ _ _ _ _ _)) h he
theorem NL.push {KW : Value → World → Prop} {ty : TypeId} {u : Value} {q : Rat} (h : NL w base v lo hi qs) (hu : NQ w u lo hi q) (hbase : base ≤ w.heap.size) (hn : qs.length ≤ 1048576)
    (H : ∀ v' w', NL w' base v' lo hi (qs ++ [q]) → (∀ {w0}, Ext w0 w → w0.heap.size ≤ base → Ext w0 w') → KW v' w') : bsl P t_s_impl_num 1 [(0, u)] w fun x w1 => bl2 P .append #[t_s_impl_num, t_s_impl_num] ty [v, x] w1 KW := by
  have hu0 := hu
  obtain ⟨m, e, ⟨p, rfl, ip⟩, hb, hq⟩ := hu
  refine bsl_num ip.one rfl ?_
  have he := Ext_alloc w (.cells #[p, .int .i64 e] t_impl_num)
  have hrow : Row 2 (w.alloc (.cells #[p, .int .i64 e] t_impl_num)) (.slice (some ⟨w.heap.size, 0, none⟩) 1 1) 1 [p, .int .i64 e] := by
    refine ⟨rfl, by decide, _, _, rfl, fun _ => ⟨w.heap.size, 0, rfl, fun j u hj => ?_⟩⟩
    match j, hj with
    | 0, hj => cases hj; simp only [World.cell?, heap_new]; rfl
    | 1, hj => cases hj; simp only [World.cell?, heap_new]; rfl
    | _ + 2, hj => simp at hj
  refine SL.push (a := q) h hrow rfl (one_2 ip.one rfl) he hbase (fun w' c a row hr hk hg ht => ?_) hu0 u_s_impl_num i_impl_num rfl (by decide) hn (by decide) fun v' w' h' hg hk => ?_
  · exact NQ.kt (NQ.ext hr he) hg ht (by decide) (by decide)
  · exact H v' w' h' fun he0 hs => ext_of_grown (he0.trans he) (fun k hk' => Nat.le_trans hs (hk k hk')) hg
theorem DL.push {KW : Value → World → Prop} {ty : TypeId} {u : Value} {q : Rat} (h : DL w base v lo hi qs) (hu : DQ w u lo hi q) (hbase : base ≤ w.heap.size) (hn : qs.length ≤ 1048576)
    (H : ∀ v' w', DL w' base v' lo hi (qs ++ [q]) → (∀ {w0}, Ext w0 w → w0.heap.size ≤ base → Ext w0 w') → KW v' w') : bsl P t_s_impl_Dyadic 1 [(0, u)] w fun x w1 => bl2 P .append #[t_s_impl_Dyadic, t_s_impl_Dyadic] ty [v, x] w1 KW := by
  have hu0 := hu
  obtain ⟨m, e, ⟨s, l, rfl, hl, hw⟩, hc⟩ := hu
  refine bsl_Dy ?_
  have he := Ext_alloc w (.cells #[.int .i64 m.sign, s, .int .i64 e] t_impl_Dyadic)
  have hrow : Row 3 (w.alloc (.cells #[.int .i64 m.sign, s, .int .i64 e] t_impl_Dyadic)) (.slice (some ⟨w.heap.size, 0, none⟩) 1 1) 1 [.int .i64 m.sign, s, .int .i64 e] := by
    refine ⟨rfl, by decide, _, _, rfl, fun _ => ⟨w.heap.size, 0, rfl, fun j u hj => ?_⟩⟩
    match j, hj with
    | 0, hj => cases hj; simp only [World.cell?, heap_new]; rfl
    | 1, hj => cases hj; simp only [World.cell?, heap_new]; rfl
    | 2, hj => cases hj; simp only [World.cell?, heap_new]; rfl
    | _ + 3, hj => simp at hj
  refine SL.push (a := q) h hrow rfl (one_3 rfl (sl_one (IR.sl hl.toIR)) rfl) he hbase (fun w' c a row hr hk hg ht => ?_) hu0 u_s_impl_Dyadic i_impl_Dyadic rfl (by decide) hn (by decide) fun v' w' h' hg hk => ?_
  · exact DQ.kt (DQ.ext hr he) hg ht (by decide)
  · exact H v' w' h' fun he0 hs => ext_of_grown (he0.trans he) (fun k hk' => Nat.le_trans hs (hk k hk')) hg
end
end Go.Proofs.YtjompmflommadaaGreatDoor

/- The contracts of the exported functions, as the laws want them. -/
set_option linter.unusedVariables false
namespace Go.Proofs.YtjompmflommadaaGreatDoor
open Go Go.Vc

variable {w : World} {K : Value → World → Prop}

end Go.Proofs.YtjompmflommadaaGreatDoor

/- The contracts of EliminationOf, as the law wants them. -/
set_option linter.unusedVariables false
namespace Go.Proofs.YtjompmflommadaaGreatDoor
open Go Go.Vc

variable {w : World} {K : Value → World → Prop}

theorem OI.OIR {w : World} {lo hi : Nat} {v : Value} {o : List Nat} (h : OI w lo v o) (ht : ∀ k, v.ownBlock = some k → k < hi) : OIR w lo hi v (o.map Int.ofNat) := by
  refine ⟨?_, ht⟩
  rw [List.length_map, List.map_map]
  exact h

end Go.Proofs.YtjompmflommadaaGreatDoor

/- The solution by an elimination: what is computed; the reference's. -/
set_option linter.unusedVariables false
namespace Go.Proofs.YtjompmflommadaaGreatDoor
open Go Go.Vc

variable {w : World} {K : Value → World → Prop}

/-- An elimination that is read. -/
structure ER (w : World) (v ov tv : Value) (o : List Nat) (t : List (List Nat)) (n : Nat) : Prop where
  val : v = .agg #[ov, tv]
  ord : FI w ov (o.map Int.ofNat)
  tab : FSS w tv t
  good : Good n t
  len : o.length = n
  lt : ∀ x ∈ o, x < n
theorem ER.ext {w' : World} {v ov tv : Value} {o : List Nat} {t : List (List Nat)} {n : Nat} (h : ER w v ov tv o t n) (he : Ext w w') : ER w' v ov tv o t n := ⟨h.val, h.ord.ext he, h.tab.ext he, h.good, h.len, h.lt⟩
theorem ER.at {w' : World} {v ov tv : Value} {o : List Nat} {t : List (List Nat)} {n : Nat} (h : ER w v ov tv o t n) (he : Ext w w') {i : Nat} (hi : i < o.length) {K : Value → Prop} (H : K (ivN o[i])) : ixa P t_s_int64 ov (.int .i64 (i : Int)) w' (fun a => ld P t_int64 a w' K) := by
  refine Row.at1 (h.ord.ext he) (i := i) (x := ivN o[i]) ?_ u_s_int64 i_int64 u_int64 rfl H
  simp [hi]

structure FinL (n : Nat) (b : List Nat) : Prop where
  len : b.length = n
  fin : b.all finB = true
  lt : ∀ x ∈ b, x < 4294967296

theorem FinL.get {n : Nat} {b : List Nat} (h : FinL n b) {i : Nat} (hi : i < b.length) : finB b[i] = true := all_get h.fin hi
theorem FinL.set {n : Nat} {b : List Nat} (h : FinL n b) {i x : Nat} (h1 : finB x = true) (h2 : x < 4294967296) : FinL n (b.set i x) := ⟨by rw [List.length_set]; exact h.len, all_set h.fin h1, lt_set h.lt h2⟩

end Go.Proofs.YtjompmflommadaaGreatDoor

/- The solution by an elimination: the program's, with its closure. -/
set_option linter.unusedVariables false
namespace Go.Proofs.YtjompmflommadaaGreatDoor
open Go Go.Vc

variable {w : World} {K : Value → World → Prop}

theorem callv_call {f : FuncId} {cap : Array Value} {args : List Value} (H : call P f (args ++ cap.toList) w K) : callv P (.func (.func f) #[] cap) args w K := by
  unfold callv
  have e : (do let d ← Deferred.ofValue (.func (.func f) #[] cap) args.toArray; invoke d.target d.args) = callFunc f (args ++ cap.toList).toArray := by
    show callFunc f ((#[] ++ args.toArray) ++ cap) = _
    congr 1
    simp
  rw [e]; exact H

end Go.Proofs.YtjompmflommadaaGreatDoor

/- The contracts of SolveSystem, as the law wants them. -/
set_option linter.unusedVariables false
namespace Go.Proofs.YtjompmflommadaaGreatDoor
open Go Go.Vc

variable {w : World} {K : Value → World → Prop}

theorem FinL.of {m : List (List Nat)} {b : List Nat} {v : Value} (h : codeF m [b] = 0) (hv : FS w v b) : FinL m.length b := by
  obtain ⟨h1, h2, h3⟩ := code_zero h
  have := h2 b (by simp)
  unfold vecB at this
  simp only [Bool.and_eq_true] at this
  exact ⟨h3 b (by simp), this.1, hv.lt⟩
end Go.Proofs.YtjompmflommadaaGreatDoor

/- Residuals of systems. -/
set_option linter.unusedVariables false
set_option linter.unusedSimpArgs false
namespace Go.Proofs.YtjompmflommadaaGreatDoor
open Go Go.Vc

variable {w : World} {K : Value → World → Prop}

theorem rndQ_lt (md : Int) (q : Rat) : (rndQ md q).1 < 4294967296 := by
  have ho : ∀ b, overB md b < 4294967296 := by
    intro b
    unfold overB
    cases b <;> simp <;> split <;> omega
  have hr : ∀ m e, (roundF md m e).1 < 4294967296 := by
    intro m e
    unfold roundF
    split
    · decide
    · simp only
      split
      · exact ho _
      · exact W32_lt _ _ _
  unfold rndQ
  split
  · exact hr _ _
  · decide
/-! ### the plain law -/
end Go.Proofs.YtjompmflommadaaGreatDoor

/- Contracts: runs of programs: what a run computes; stacks; the checks ahead of a run. -/
set_option linter.unusedVariables false
set_option linter.unusedSimpArgs false
namespace Go.Proofs.YtjompmflommadaaGreatDoor
open Go Go.Vc

variable {w : World} {K : Value → World → Prop}

/-! ### the float of a text is finite -/
theorem fin_W {t : Nat} {q : Int} {s : Bool} (h : Cut t q) : Vc.Fin Ieee.single (W Ieee.single s t q) := by
  obtain ⟨k, l, r, _⟩ := read_any (s := s) hss h.has
  rcases fin_inf_nan Ieee.single (W Ieee.single s t q) with h1 | h1 | h1
  · exact h1
  · rw [read_inf (by decide) h1] at r; cases r
  · obtain ⟨x, hx⟩ := read_nan (f := Ieee.single) (by decide) h1
    rw [hx] at r; cases r
theorem roundF_fin {md m e : Int} (h : (roundF md m e).2 ≠ 5) : Vc.Fin Ieee.single (roundF md m e).1 := by
  unfold roundF at *
  split
  · decide
  · rename_i h0
    rw [if_neg h0] at h
    simp only at h ⊢
    split
    · rename_i h1
      rw [if_pos h1] at h
      exact absurd rfl h
    · rename_i h1
      have hq : -149 ≤ qOf m.natAbs e := by unfold qOf; omega
      exact fin_W ⟨cutT_le _ _ _ _, hq, by omega⟩
theorem pF_fin {l : List UInt8} {b : Nat} (h : pF l = some b) : b < 4294967296 ∧ Vc.Fin Ieee.single b := by
  unfold pF at h
  split at h
  · cases h
  · rename_i p hp
    split at h
    · rename_i h0
      simp only [Option.some.injEq] at h
      subst h
      refine ⟨rndQ_lt _ _, ?_⟩
      rw [rndQ_dy] at h0 ⊢
      exact roundF_fin (by rw [h0]; decide)
    · cases h

/-! ### what a run computes -/
structure Mach (α : Type) where
  leaf : List UInt8 → α
  one : List UInt8 → α → α × Int
  two : List UInt8 → α → α → α × Int
  z : α
section
variable {α : Type} (M : Mach α) (ws : List (List UInt8))
noncomputable def Mach.step (l : List UInt8) (st : List α) : List α × Int :=
  if form0 l = 0 then (st ++ [M.leaf l], 0)
  else if form0 l = 1 then (st.take (st.length - 1) ++ [(M.one l (st.getD (st.length - 1) M.z)).1], (M.one l (st.getD (st.length - 1) M.z)).2)
  else (st.take (st.length - 2) ++ [(M.two l (st.getD (st.length - 2) M.z) (st.getD (st.length - 1) M.z)).1], (M.two l (st.getD (st.length - 2) M.z) (st.getD (st.length - 1) M.z)).2)
noncomputable def Mach.run : Nat → List α × Int
  | 0 => ([], 0)
  | i + 1 => if (Mach.run i).2 = 0 then M.step (ws.getD i []) (Mach.run i).1 else Mach.run i
noncomputable def Mach.res : α × Int := if (M.run ws ws.length).2 = 0 then ((M.run ws ws.length).1.getD 0 M.z, 0) else (M.z, (M.run ws ws.length).2)
theorem Mach.stop {i : Nat} (h : (M.run ws i).2 ≠ 0) : ∀ j, M.run ws (i + j) = M.run ws i
  | 0 => rfl
  | j + 1 => by
    rw [← Nat.add_assoc, Mach.run, Mach.stop h j, if_neg h]
theorem Mach.bad {i : Nat} (hi : i ≤ ws.length) (h : (M.run ws i).2 ≠ 0) : M.res ws = (M.z, (M.run ws i).2) := by
  have := M.stop ws h (ws.length - i)
  rw [Nat.add_sub_cancel' hi] at this
  unfold Mach.res
  rw [this, if_neg h]
theorem Mach.succ {i : Nat} {st : List α} (h : M.run ws i = (st, 0)) : M.run ws (i + 1) = M.step (ws.getD i []) st := by
  rw [Mach.run, h, if_pos rfl]
theorem depF_dpS {ws : List (List UInt8)} {m : Int} (h : depF ws = some m) : ∃ m', dpS ws ws.length = some (1, m') ∧ m' = m ∧ ws.length ≤ 60 ∧ 1 ≤ ws.length := by
  unfold depF at h
  split at h
  · rename_i h1
    split at h
    · cases h
    · rename_i a b e
      split at h
      · rename_i h2
        obtain ⟨rfl, _⟩ := h2
        exact ⟨b, e, by simpa using h, h1.2, h1.1⟩
      · cases h
  · cases h
/-- A step finds what it takes. -/
theorem dep_step {ws : List (List UInt8)} {m : Int} (h : depF ws = some m) {i : Nat} (hi : i < ws.length) {a b : Int} (e : dpS ws i = some (a, b)) : 0 ≤ form0 ws[i] ∧ form0 ws[i] ≤ a ∧ dpS ws (i + 1) = some (a + 1 - form0 ws[i], max b (a + 1 - form0 ws[i])) := by
  have : ¬ (form0 ws[i] < 0 ∨ a < form0 ws[i]) := fun hb => by
    rw [dp_bad hi e hb] at h; cases h
  exact ⟨by omega, by omega, dp_step hi e this⟩
end
theorem getA_lt {α : Type} {l : List α} {i : Nat} (h : i < l.length) (d : α) : l.getD i d = l[i] := by
  rw [List.getD_eq_getElem?_getD, List.getElem?_eq_getElem h]; rfl

/-! ### the part of a list ahead -/
theorem flatten_take {s : Nat} : ∀ (k : Nat) {cs : List (List Value)}, (∀ c ∈ cs, c.length = s) → cs.flatten.take (k * s) = (cs.take k).flatten
  | 0, cs, _ => by simp
  | k + 1, [], _ => by simp
  | k + 1, c :: cs, h => by
    have hc := h c List.mem_cons_self
    rw [List.flatten_cons, List.take_succ_cons, List.flatten_cons, ← flatten_take k (fun c' h' => h c' (List.mem_cons_of_mem _ h')), List.take_append, hc,
      List.take_of_length_le (show c.length ≤ (k + 1) * s by rw [hc, Nat.succ_mul]; omega), show (k + 1) * s - s = k * s by rw [Nat.succ_mul]; omega]
section
variable {α : Type} {R : World → List Value → α → Prop} {s : Nat} {e t : TypeId} {base : Nat} {v : Value} {ls : List α} {z : Value} {b : Nat} {d : TypeDesc}
theorem owns_take {n k : Nat} {a : Option Addr} {cap : Nat} {xs : List Value} (h : w.ownsRow base e s (.slice a n cap) n xs) (hk : k ≤ n) : w.ownsRow base e s (.slice a k cap) k (xs.take (k * s)) := by
  obtain ⟨h1, h2⟩ := h
  refine ⟨by rw [List.length_take, h1]; exact Nat.min_eq_left (Nat.mul_le_mul_right _ hk), ?_⟩
  rcases h2 with ⟨h3, h4⟩ | ⟨g, cap', cur, h3, h4, h5, h6, h7, h8, h9⟩
  · simp only [Value.slice.injEq] at h3
    obtain ⟨rfl, _, rfl⟩ := h3
    exact .inl ⟨by rw [show k = 0 by omega], by omega⟩
  · simp only [Value.slice.injEq, true_and] at h3
    obtain ⟨rfl, rfl⟩ := h3
    refine .inr ⟨g, cap, cur, rfl, h4, h5, by omega, h7, h8, ?_⟩
    rw [← h9, List.take_take, Nat.min_eq_left (Nat.mul_le_mul_right _ hk)]
theorem SL.take {K : Value → Prop} {ik : IntKind} {k : Nat} (h : SL R s e w base v ls) (hk : k ≤ ls.length) (hu : P.underlying t = some (.slice e)) (ht : TI P e z s b) (H : ∀ v', SL R s e w base v' (ls.take k) → K v') :
    sli P t v none (some (.int ik (k : Int))) none w K := by
  obtain ⟨cs, h1, h2, h3, h4⟩ := h
  have hv : ∃ a cap, v = .slice a ls.length cap ∧ ls.length ≤ cap := by
    rcases h3.2 with ⟨h5, h6⟩ | ⟨g, cap, cur, h5, _, _, h6, _⟩
    · exact ⟨none, 0, by rw [h5, h6], by omega⟩
    · exact ⟨_, cap, h5, h6⟩
  obtain ⟨a, cap, rfl, hcap⟩ := hv
  rw [sli_h hu ht (by omega)]
  refine H _ ⟨cs.take k, by simp [h1], fun c hc => h2 c (List.mem_of_mem_take hc), ?_, fun i hi hi' => ?_⟩
  · have := owns_take h3 hk
    rw [flatten_take k h2] at this
    rw [List.length_take, Nat.min_eq_left hk]
    exact this
  · have := h4 i (by simp at hi; omega) (by simp at hi'; omega)
    simpa using this
end

/-! ### the checks -/
noncomputable def askF (ws : List (List UInt8)) (fine : Bool) (n : Nat) : Int := if isPF ws = false ∨ fine = false then 1 else if (n : Int) < ndS ws ws.length ∨ 3 < n then 2 else 0
set_option maxRecDepth 20000 in
theorem c_asked {v : Value} {ws : List (List UInt8)} {fine : Bool} {n : Nat} (h : I_Program w v ws) (H : ∀ w', Ext w w' → K (.int .i64 (askF ws fine n)) w') : call P f_impl_asked [v, .bool fine, .int .i64 (n : Nat)] w K := by
  obtain ⟨s, rfl, hs⟩ := h
  refine I_impl_asked ?_
  unfold D_impl_asked
  refine bx_pr fun x w1 b1 e1 => ?_
  refine pr_all b1 ?_
  refine c_impl_IsProgram ⟨s, rfl, hs.ext e1⟩ fun w2 e2 => ?_
  rw [una_not]
  have E2 := e1.trans e2
  have b1 := b1.ext e2
  have hs := hs.ext E2
  refine orJ (fun h1 => ?_) (fun h1 => ?_)
  · rw [cnd_true]
    have : askF ws fine n = 1 := by unfold askF isPF; rw [if_pos (.inl (by simpa using h1))]
    rw [this] at H; exact H _ E2
  rw [una_not]
  refine cnd_split (fun h2 => ?_) (fun h2 => ?_)
  · have : askF ws fine n = 1 := by unfold askF; rw [if_pos (.inr (by simpa using h2))]
    rw [this] at H; exact H _ E2
  refine pr_all b1 ?_
  refine c_needs ⟨s, rfl, hs⟩ fun w3 e3 => ?_
  have E3 := E2.trans e3
  have h0 : ¬ (isPF ws = false ∨ fine = false) := by unfold isPF; simp at h1 h2; simp [h1, h2]
  rw [bin_lss]
  refine orJ (fun h3 => ?_) (fun h3 => ?_)
  · rw [cnd_true]
    have : askF ws fine n = 2 := by unfold askF; rw [if_neg h0, if_pos (.inl (by simpa using h3))]
    rw [this] at H; exact H _ E3
  rw [bin_gtr]
  refine cnd_dec (fun h4 => ?_) (fun h4 => ?_)
  · have : askF ws fine n = 2 := by unfold askF; rw [if_neg h0, if_pos (.inr (by omega))]
    rw [this] at H; exact H _ E3
  · have : askF ws fine n = 0 := by unfold askF; rw [if_neg h0, if_neg (by simp at h3; omega)]
    rw [this] at H; exact H _ E3
set_option maxRecDepth 20000 in
theorem c_l08Code {v u : Value} {ws : List (List UInt8)} {vs : List Nat} (h : I_Program w v ws) (hu : FS w u vs) (H : ∀ w', Ext w w' → K (.int .i64 (askF ws (vs.all finB) vs.length)) w') : call P f_spec_l08Code [v, u] w K := by
  obtain ⟨s, rfl, hs⟩ := h
  refine I_spec_l08Code ?_
  unfold D_spec_l08Code
  refine bx_pr fun x w1 b1 e1 => ?_
  refine pr_all b1 ?_
  refine c_l08Is ⟨s, rfl, hs.ext e1⟩ fun w2 e2 => ?_
  rw [una_not]
  have E2 := e1.trans e2
  have b1 := b1.ext e2
  have hs := hs.ext E2
  have hu := hu.ext E2
  have hb := hu.bound
  refine cnd_split (fun h1 => ?_) (fun h1 => ?_)
  · have : askF ws (vs.all finB) vs.length = 1 := by unfold askF isPF; rw [if_pos (.inl (by simpa using h1))]
    rw [this] at H; exact H _ E2
  refine ⟨fun m x w' => w' = w2 ∧ ∃ i : Nat, x = .int .i64 i ∧ m + i = vs.length ∧ (vs.take i).all finB = true, ⟨vs.length, rfl, 0, rfl, by omega, by simp⟩, ?_⟩
  rintro m x junk w' ⟨rfl, i, rfl, hm, hall⟩
  rw [hu.row.len u_s_float32, bin_lss]
  refine cnd_dec (fun hlt => ?_) (fun hge => ?_)
  · have hi : i < vs.length := by omega
    refine hu.at hi ?_
    refine c_l01Finite ?_
    rw [una_not]
    refine cnd_split (fun hf => ?_) (fun hf => ?_)
    · have : vs.all finB = false := by
        refine Bool.eq_false_iff.2 fun hall' => ?_
        have := List.all_eq_true.1 hall' vs[i] (List.getElem_mem hi)
        rw [this] at hf; cases hf
      have : askF ws (vs.all finB) vs.length = 1 := by unfold askF; rw [if_pos (.inr this)]
      rw [this] at H; exact H _ E2
    · rw [bin_add, wrap_i64 (by omega) (by omega)]
      refine ⟨m - 1, by omega, rfl, i + 1, rfl, by omega, ?_⟩
      rw [List.take_succ_eq_append_getElem hi, List.all_append, hall]
      simpa using hf
  · have ht : vs.take i = vs := List.take_of_length_le (by omega)
    rw [ht] at hall
    rw [hall] at H
    have h0 : ¬ (isPF ws = false ∨ true = false) := by unfold isPF; simp at h1; simp [h1]
    rw [hu.row.len u_s_float32]
    refine pr_all b1 ?_
    refine c_l08Variables ⟨s, rfl, hs⟩ fun w3 e3 => ?_
    have E3 := E2.trans e3
    refine c_l01In ?_
    rw [una_not]
    by_cases hr : ndS ws ws.length ≤ (vs.length : Int) ∧ (vs.length : Int) ≤ 3
    · rw [decide_eq_true hr, Bool.not_true, cnd_false]
      have : askF ws true vs.length = 0 := by unfold askF; rw [if_neg h0, if_neg (by omega)]
      rw [this] at H; exact H _ E3
    · rw [decide_eq_false hr, Bool.not_false, cnd_true]
      have : askF ws true vs.length = 2 := by unfold askF; rw [if_neg h0, if_pos (by omega)]
      rw [this] at H; exact H _ E3

/-! ### leaves -/
noncomputable def leafB (vs : List Nat) (l : List UInt8) : Nat := if 0 ≤ varF l then vs.getD (varF l).toNat 0 else (pF l).getD 0
theorem ndS_mono (ws : List (List UInt8)) : ∀ i j, ndS ws i ≤ ndS ws (i + j)
  | i, 0 => Int.le_refl _
  | i, j + 1 => by
    rw [← Nat.add_assoc]
    have := ndS_mono ws i j
    simp only [ndS]
    omega
theorem var_lt {ws : List (List UInt8)} {n i : Nat} (hn : ndS ws ws.length ≤ n) (hi : i < ws.length) : varF ws[i] < n := by
  have h1 := ndS_mono ws (i + 1) (ws.length - (i + 1))
  rw [Nat.add_sub_cancel' (by omega)] at h1
  simp only [ndS, getD_w hi] at h1
  omega
/-- A word that is no variable and takes nothing is a float's text. -/
theorem pF_of {l : List UInt8} (h : form0 l = 0) (hv : varF l < 0) : ∃ b, pF l = some b := by
  have : ¬ (l = [120]) := fun h => by rw [varF, if_pos h] at hv; omega
  have h2 : ¬ (l = [121]) := fun h => by rw [varF, if_neg (by rw [h]; decide), if_pos h] at hv; omega
  have h3 : ¬ (l = [122]) := fun h => by rw [varF, if_neg (by rw [h]; decide), if_neg (by rw [h]; decide), if_pos h] at hv; omega
  rw [form0, if_neg this, if_neg h2, if_neg h3] at h
  have : form3 l = 0 := by
    unfold form1 form2 at h
    repeat (first | omega | split at h)
  unfold form3 at this
  split at this
  · rename_i hp; exact Option.isSome_iff_exists.1 hp
  · omega
theorem leafB_fin {vs : List Nat} {l : List UInt8} (hv : ∀ b ∈ vs, b < 4294967296 ∧ Vc.Fin Ieee.single b) : leafB vs l < 4294967296 ∧ Vc.Fin Ieee.single (leafB vs l) := by
  unfold leafB
  split
  · by_cases hi : (varF l).toNat < vs.length
    · rw [getA_lt hi]; exact hv _ (List.getElem_mem hi)
    · rw [List.getD_eq_getElem?_getD, List.getElem?_eq_none (by omega)]; exact ⟨by decide, by decide⟩
  · cases hp : pF l with
    | none => exact ⟨by decide, by decide⟩
    | some b =>
      exact pF_fin hp
theorem c_l08Leaf {u : Value} {vs : List Nat} {l : List UInt8} (hu : FS w u vs) (hl : l.length ≤ 4611686018427387904) (hv : varF l < vs.length) (hf : form0 l = 0) (H : ∀ w', Ext w w' → K (fl (leafB vs l)) w') : call P f_spec_l08Leaf [str l, u] w K := by
  refine I_spec_l08Leaf ?_
  unfold D_spec_l08Leaf
  refine c_l08Variable ?_
  have hr := var_range l
  rw [bin_geq]
  unfold leafB at H
  refine cnd_dec (fun h => ?_) (fun h => ?_)
  · rw [if_pos (by omega)] at H
    have hi : (varF l).toNat < vs.length := by omega
    rw [show varF l = (((varF l).toNat : Nat) : Int) by omega]
    refine hu.at hi ?_
    rw [getA_lt hi] at H
    exact H _ (Ext.refl _)
  · rw [if_neg (by omega)] at H
    obtain ⟨b, hb⟩ := pF_of hf (by omega)
    refine c_l06Float hl fun b' w1 e1 hx => ?_
    rw [xtr_0, xtr_1, hx b hb]
    rw [hb] at H
    exact H _ e1
end Go.Proofs.YtjompmflommadaaGreatDoor

/- The interface for exact numbers. -/
set_option linter.unusedVariables false
namespace Go.Proofs.YtjompmflommadaaGreatDoor
open Go Go.Vc

variable {w : World} {K : Value → World → Prop} {lo hi : Nat} {v : Value}

abbrev DY := Int × List Int × Int
def I_Dyadic (w : World) (v : Value) (d : DY) : Prop := ∃ s, v = .agg #[.int .i64 d.1, s, .int .i64 d.2.2] ∧ FI w s d.2.1
theorem I_Dyadic.ext {w' : World} {d : DY} (h : I_Dyadic w v d) (he : Ext w w') : I_Dyadic w' v d := let ⟨s, h1, h2⟩ := h; ⟨s, h1, h2.ext he⟩
def O_Dyadic (w : World) (lo hi : Nat) (v : Value) (d : DY) : Prop := ∃ s, v = .agg #[.int .i64 d.1, s, .int .i64 d.2.2] ∧ OIR w lo hi s d.2.1
theorem O_Dyadic.ext {w' : World} {d : DY} (h : O_Dyadic w lo hi v d) (he : Ext w w') : O_Dyadic w' lo hi v d := let ⟨s, h1, h2⟩ := h; ⟨s, h1, h2.ext he⟩
theorem O_Dyadic.chg {w' : World} {d : DY} {lo' hi' : Nat} (h : O_Dyadic w lo hi v d) (hc : Chg lo' hi' w w') (hd : hi ≤ lo' ∨ hi' ≤ lo) : O_Dyadic w' lo hi v d := let ⟨s, h1, h2⟩ := h; ⟨s, h1, h2.chg hc hd⟩
theorem O_Dyadic.I {d : DY} (h : O_Dyadic w lo hi v d) : I_Dyadic w v d := let ⟨s, h1, h2⟩ := h; ⟨s, h1, OIR.FI h2⟩
def cnt_Dyadic (d : DY) : Nat := d.2.1.length
def mk_Dyadic (k : Int) (d : DY) : DY := (d.1, mkI k d.2.1.length, d.2.2)
theorem Dyadic_agg {d : DY} (h : I_Dyadic w v d) : ∃ cs : List Value, v = .agg cs.toArray ∧ cs.length = 3 ∧ ∀ x ∈ cs, x.oneCell' = true := by
  obtain ⟨s, h1, h2⟩ := h
  exact ⟨[.int .i64 d.1, s, .int .i64 d.2.2], h1, rfl, one_3 rfl h2.one rfl⟩

theorem c_eqWhole {n : Int} {s t : Value} {l : List Int} (h1 : FI w s l) (h2 : FI w t l) (H : ∀ w', Ext w w' → K (.bool true) w') : call P f_laws_eqWhole [.agg #[.int .i64 n, s], .agg #[.int .i64 n, t]] w K := by
  refine I_laws_eqWhole ?_
  unfold D_laws_eqWhole
  refine bx_Wh fun p w1 p1 e1 => ?_
  refine bx_Wh fun q w2 p2 e2 => ?_
  have p1 := p1.ext e2
  have E := e1.trans e2
  refine wh_s p1 ?_
  refine wh_s p2 ?_
  refine neq_no rfl ?_
  rw [cnd_false]
  refine wh_l p1 ?_
  refine wh_l p2 ?_
  refine c_eqInt64S (h1.ext E) (h2.ext E) ?_
  rw [una_not, Bool.not_true, cnd_false]
  exact H _ E
theorem c_eq_Dyadic {u : Value} {d : DY} (h1 : I_Dyadic w u d) (h2 : I_Dyadic w v d) (H : ∀ w', Ext w w' → K (.bool true) w') : call P f_laws_eqDyadic [u, v] w K := by
  obtain ⟨s, rfl, a1⟩ := h1
  obtain ⟨t, rfl, a2⟩ := h2
  refine I_laws_eqDyadic ?_
  unfold D_laws_eqDyadic
  refine bx_Dy fun p w1 p1 e1 => ?_
  refine bx_Dy fun q w2 p2 e2 => ?_
  have p1 := p1.ext e2
  have E := e1.trans e2
  refine dy_w p1 ?_
  refine dy_w p2 ?_
  refine c_eqWhole (a1.ext E) (a2.ext E) fun w3 e3 => ?_
  rw [una_not, Bool.not_true, cnd_false]
  refine dy_e (p1.ext e3) ?_
  refine dy_e (p2.ext e3) ?_
  refine neq_no rfl ?_
  rw [cnd_false]
  exact H _ (E.trans e3)
theorem c_mark_Dyadic {d : DY} {k : Int} (h : O_Dyadic w lo hi v d) (h0 : 0 ≤ k) (h1 : k + cnt_Dyadic d ≤ 4611686018427387904) (H : ∀ w', O_Dyadic w' lo hi v (mk_Dyadic k d) → Chg lo hi w w' → K (.int .i64 (k + cnt_Dyadic d)) w') :
    call P f_laws_markDyadic [v, .int .i64 k] w K := by
  obtain ⟨s, rfl, a1⟩ := h
  unfold cnt_Dyadic at *
  refine I_laws_markDyadic ?_
  unfold D_laws_markDyadic
  refine bx_Dy fun p w1 p1 e1 => ?_
  refine dy_w p1 ?_
  refine I_laws_markWhole ?_
  unfold D_laws_markWhole
  refine bx_Wh fun q w2 p2 e2 => ?_
  refine wh_l p2 ?_
  have E := e1.trans e2
  have a2 := OwnR.ext a1 E
  refine c_markInt64S a2 h0 h1 fun w3 a3 g3 => ?_
  exact H w3 ⟨s, rfl, a3⟩ ((Chg.of_ext E).trans (OwnR.grown a2 g3))
theorem c_held_Dyadic {d : DY} {k : Int} (h : I_Dyadic w v (mk_Dyadic k d)) (h0 : 0 ≤ k) (h1 : k + cnt_Dyadic d ≤ 4611686018427387904) (H : ∀ w', Ext w w' → K (.int .i64 (k + cnt_Dyadic d)) w') : call P f_laws_heldDyadic [v, .int .i64 k] w K := by
  obtain ⟨s, rfl, a1⟩ := h
  unfold cnt_Dyadic at *
  refine I_laws_heldDyadic ?_
  unfold D_laws_heldDyadic
  refine bx_Dy fun p w1 p1 e1 => ?_
  refine dy_w p1 ?_
  refine I_laws_heldWhole ?_
  unfold D_laws_heldWhole
  refine bx_Wh fun q w2 p2 e2 => ?_
  refine wh_l p2 ?_
  have E := e1.trans e2
  refine c_heldInt64S (a1.ext E) h0 h1 ?_
  refine lss_no (by omega) ?_
  rw [cnd_false]
  refine lss_no (by omega) ?_
  rw [cnd_false]
  exact H _ E

/-! ### the canonical pair of a number, and its limbs -/
open Classical in
noncomputable def cnQ (q : Rat) : Int × Int := if h : ∃ p : Int × Int, Canon p.1 p.2 ∧ q = dy p.1 p.2 then Classical.choose h else (0, 0)
theorem Cn.cnQ {lo hi : Nat} {q : Rat} {m e : Int} (h : Cn lo hi q m e) : cnQ q = (m, e) := by
  have hx : ∃ p : Int × Int, Canon p.1 p.2 ∧ q = dy p.1 p.2 := ⟨(m, e), h.canon, h.val⟩
  unfold Go.Proofs.YtjompmflommadaaGreatDoor.cnQ
  rw [dif_pos hx]
  obtain ⟨h1, h2⟩ := Classical.choose_spec hx
  obtain ⟨e1, e2⟩ := canon_inj h1 h.canon (h2.symm.trans h.val)
  exact Prod.ext e1 e2
open Classical in
noncomputable def lmb (m : Int) : List Nat := if h : ∃ l, Wl l m then Classical.choose h else []
theorem Wl.lmb {l : List Nat} {m : Int} (h : Wl l m) : lmb m = l := by
  have hx : ∃ l, Wl l m := ⟨l, h⟩
  unfold Go.Proofs.YtjompmflommadaaGreatDoor.lmb
  rw [dif_pos hx]
  have h1 := Classical.choose_spec hx
  exact Vc.val_inj h1.1 h.1 (h1.2.trans h.2.symm)
theorem lmb_len {m : Int} (h : bl m.natAbs ≤ 2400) : (lmb m).length ≤ 45812984491 := by
  unfold lmb
  split
  · rename_i hx
    exact (Classical.choose_spec hx).len (by omega)
  · simp
noncomputable def dyV (m e : Int) : DY := (m.sign, (lmb m).map (fun (n : Nat) => (n : Int)), e)
theorem Dr.I {m e : Int} (h : Dr w v m e) : I_Dyadic w v (dyV m e) := by
  obtain ⟨s, l, h1, h2, h3⟩ := h
  refine ⟨s, h1, ?_⟩
  unfold dyV
  rw [h3.lmb]
  have := h2.row
  unfold FI
  rw [List.map_map, List.length_map]
  exact this
theorem Do.O {lo hi : Nat} {m e : Int} (h : Do w lo hi v m e) : O_Dyadic w lo hi v (dyV m e) := by
  obtain ⟨s, l, h1, h2, h3⟩ := h
  refine ⟨s, h1, ?_⟩
  unfold dyV
  rw [h3.lmb]
  unfold OIR
  rw [List.map_map, List.length_map]
  exact h2
noncomputable def dyOut (q : Rat) : DY × Int := (dyV (dyR (cnQ q).1 (cnQ q).2).1.1 (dyR (cnQ q).1 (cnQ q).2).1.2, (dyR (cnQ q).1 (cnQ q).2).2)
theorem small_dyOut (q : Rat) : cnt_Dyadic (dyOut q).1 ≤ 45812984491 := by
  unfold dyOut cnt_Dyadic dyV
  simp only [List.length_map]
  unfold dyR
  split
  · rename_i h; exact lmb_len h.1
  · exact lmb_len (by decide)
theorem dyV_zero : dyV 0 0 = (0, [], 0) := by unfold dyV; rw [Wl.zero.lmb]; rfl
end Go.Proofs.YtjompmflommadaaGreatDoor

/- The contracts of GapOf, as the law wants them. -/
set_option linter.unusedVariables false
namespace Go.Proofs.YtjompmflommadaaGreatDoor
open Go Go.Vc

variable {w : World} {K : Value → World → Prop}

theorem O_zero (w : World) (lo hi : Nat) : O_Dyadic w lo hi (.agg #[.int .i64 0, .slice none 0 0, .int .i64 0]) (0, [], 0) := by
  have := (Do.zero w lo hi).O
  rw [dyV_zero] at this; exact this

end Go.Proofs.YtjompmflommadaaGreatDoor

/- Written by a program (gen.py): kinds of runs. -/
namespace Go.Proofs.YtjompmflommadaaGreatDoor
open Go Go.Vc
abbrev t_kind_impl_num : TypeId := 113
theorem u_kind_impl_num : P.underlying 113 = some (.struct #[{ name := "made", type := 106, offset := 0, embedded := false, tag := "", pkgPath := "loop.example/g01172/impl", byteOffset := 0 }, { name := "one", type := 110, offset := 1, embedded := false, tag := "", pkgPath := "loop.example/g01172/impl", byteOffset := 8 }, { name := "two", type := 111, offset := 2, embedded := false, tag := "", pkgPath := "loop.example/g01172/impl", byteOffset := 16 }]) := Tryz.underlying113
abbrev t_kind_impl_num_0 : TypeId := 106
theorem u_kind_impl_num_0 : ∃ d, P.underlying 106 = some d ∧ aggB d = false := ⟨_, Tryz.underlying106, rfl⟩
theorem i_kind_impl_num_0 : TI P 106 .nilFunc 1 8 := TI_of (by kernel_rfl)
abbrev t_kind_impl_num_1 : TypeId := 110
theorem u_kind_impl_num_1 : ∃ d, P.underlying 110 = some d ∧ aggB d = false := ⟨_, Tryz.underlying110, rfl⟩
theorem i_kind_impl_num_1 : TI P 110 .nilFunc 1 8 := TI_of (by kernel_rfl)
abbrev t_kind_impl_num_2 : TypeId := 111
theorem u_kind_impl_num_2 : ∃ d, P.underlying 111 = some d ∧ aggB d = false := ⟨_, Tryz.underlying111, rfl⟩
theorem i_kind_impl_num_2 : TI P 111 .nilFunc 1 8 := TI_of (by kernel_rfl)
end Go.Proofs.YtjompmflommadaaGreatDoor

/- Contracts: exact runs (the program). -/
set_option linter.unusedVariables false
set_option linter.unusedSimpArgs false
namespace Go.Proofs.YtjompmflommadaaGreatDoor
open Go Go.Vc

variable {w : World} {K : Value → World → Prop}

/-! ### the words of exact runs -/
noncomputable def keepQ (q : Rat) : Rat × Int := (q, (dyOut q).2)
noncomputable def exOne (l : List UInt8) (q : Rat) : Rat × Int := if l = [110, 101, 103] then (-q, 0) else if l = [115, 113, 114] then keepQ (q * q) else if l = [97, 98, 115] then (absQ q, 0) else (0, 5)
noncomputable def exTwo (l : List UInt8) (p q : Rat) : Rat × Int :=
  if l = [43] then keepQ (p + q) else if l = [45] then keepQ (p - q) else if l = [42] then keepQ (p * q) else if l = [47] then (0, 5)
  else if 0 < cmpQ p q ∧ l = [109, 105, 110] ∨ cmpQ p q < 0 ∧ l = [109, 97, 120] then (q, 0) else (p, 0)
noncomputable def exM (vs : List Nat) : Mach Rat := ⟨fun l => fq (leafB vs l), exOne, exTwo, 0⟩

theorem bld_nm0 {K : Value → Prop} : bld P t_impl_num [] w K = K (.agg #[.pointer none, .int .i64 0]) := bld_of (by kernel_rfl)
/-- A number in a variable of its own, read back. -/
theorem nm_ret {g : Nat} {x v : Value} {lo hi : Nat} {q : Rat} {KW : Value → World → Prop} (h : NC w g x) (hv : NQ w v lo hi q) (H : ∀ v' w', w.grownBy w' (some g) → NQ w' v' lo hi q → KW v' w') :
    sto P t_impl_num x v w fun w' => ldc P t_impl_num x w' fun r => KW r w' :=
  h.put hv fun w' v' g' _ => v'.getc fun v2 h2 => H v2 w' g' h2
theorem nz_ret {g : Nat} {x : Value} {KW : Value → World → Prop} (h : NC w g x) (H : ∀ v' w', w.grownBy w' (some g) → (∃ p e, v' = .agg #[p, .int .i64 e] ∧ p.oneCell' = true) → KW v' w') :
    bld P t_impl_num [] w fun v => sto P t_impl_num x v w fun w' => ldc P t_impl_num x w' fun r => KW r w' := by
  rw [bld_nm0]
  obtain ⟨hg, cs, hl, b⟩ := h
  refine b.put i_impl_num (ds := [.pointer none, .int .i64 0]) rfl hl (one_2 rfl rfl) fun w' b' g' => ?_
  refine b'.getc u_impl_num rfl i_impl_num rfl ?_
  rw [hg] at g'
  exact H _ w' g' ⟨_, _, rfl, rfl⟩
theorem bx_NV {v : Value} {lo hi : Nat} {q : Rat} {KW : Value → World → Prop} (h : NQ w v lo hi q) (H : ∀ x w', NV w' w.heap.size x lo hi q → Ext w w' → KW x w') : bx P t_impl_num v w KW := by
  obtain ⟨m, e, ⟨p, rfl, ip⟩, hb, hq⟩ := h
  exact bx_bx fun x w' b e hp => H x w' ⟨hp, p, _, b, m, _, ⟨p, rfl, ip.ext e⟩, hb, hq⟩ e
theorem dyOut_eq {lo hi : Nat} {q : Rat} {m e : Int} (h : Cn lo hi q m e) : (dyOut q).2 = (dyR m e).2 := by unfold dyOut; rw [h.cnQ]
theorem fits_bd {lo hi : Nat} {q : Rat} {m e : Int} (h : Cn lo hi q m e) (h0 : (dyR m e).2 = 0) : Bd 3000 5400 m e := by
  unfold dyR at h0
  split at h0
  · rename_i hf
    obtain ⟨f1, f2, f3⟩ := hf
    exact ⟨by omega, by omega, fun _ => by omega⟩
  · cases h0
theorem NC.kept {w' : World} {g g' : Nat} {x : Value} (h : NC w g x) (hg : w.grownBy w' (some g')) (hne : g ≠ g') : NC w' g x := by
  obtain ⟨a, cs, b, c⟩ := h
  exact ⟨a, cs, b, c.kept hg (.inr (by rw [a]; intro e; exact hne (Option.some.inj e).symm))⟩
theorem NV.kept {w' : World} {g g' : Nat} {x : Value} {lo hi : Nat} {q : Rat} (h : NV w g x lo hi q) (hg : w.grownBy w' (some g')) (hne : g ≠ g') (ht : Ty w (some g') t_impl_num) : NV w' g x lo hi q := by
  obtain ⟨a, p, e, b, c⟩ := h
  exact ⟨a, p, e, b.kept hg (.inr (by rw [a]; intro e; exact hne (Option.some.inj e).symm)), c.kt hg ht (by decide) (by decide)⟩
/-- What is kept: small, if the code says so. -/
theorem c_kept {v : Value} {lo hi : Nat} {q : Rat} (h : NQ w v lo hi q) (hl : lo ≤ 1000000000) (hh : hi ≤ 1000000000)
    (H : ∀ v' w', Ext w w' → NQ w' v' (if (keepQ q).2 = 0 then 3000 else lo) (if (keepQ q).2 = 0 then 5400 else hi) q → K (.tuple #[v', .int .i64 (keepQ q).2]) w') : call P f_impl_kept [v] w K := by
  refine I_impl_kept ?_
  unfold D_impl_kept
  refine bx_NV h fun x1 w1 v1 e1 => ?_
  have s1 := v1.lt
  refine alc_NC fun x2 w2 n2 e2 => ?_
  refine (v1.ext e2).get fun u hu => ?_
  obtain ⟨m, e, hm, hb, rfl⟩ := hu
  refine c_num_odd hm hb hl hh fun v3 w3 m' e' e3 hn hc => ?_
  have v1 := (v1.ext e2).ext e3
  have hn3 : NQ w3 v3 (if (keepQ (dy m e)).2 = 0 then 3000 else lo) (if (keepQ (dy m e)).2 = 0 then 5400 else hi) (dy m e) := by
    refine ⟨m', e', hn, ?_, hc.val⟩
    split
    · rename_i h0
      exact fits_bd hc ((dyOut_eq hc).symm.trans h0)
    · exact hc.bd
  have hl' : (if (keepQ (dy m e)).2 = 0 then 3000 else lo) ≤ 1000000000 := by split <;> omega
  have hh' : (if (keepQ (dy m e)).2 = 0 then 5400 else hi) ≤ 1000000000 := by split <;> omega
  generalize (if (keepQ (dy m e)).2 = 0 then 3000 else lo) = lo' at *
  generalize (if (keepQ (dy m e)).2 = 0 then 5400 else hi) = hi' at *
  refine v1.NC.put hn3 fun w4 v4 g4 t4 => ?_
  have n4 := (n2.ext e3).kept g4 (by omega)
  refine v4.get fun u hu => ?_
  refine c_num_dyadic hu hl' hh' fun v5 w5 m5 e5 e5' hc5 hd5 => ?_
  rw [xtr_0, xtr_1]
  have hq : (keepQ (dy m e)).2 = (dyR m5 e5).2 := dyOut_eq hc5
  refine alc_DC fun x6 w6 d6 e6 => ?_
  have v5' := v4.ext e5'
  have hdq : DQ w6 v5 1000000000 1000000000 (dy (dyR m5 e5).1.1 (dyR m5 e5).1.2) := by
    refine ⟨_, _, hd5.Dr.ext e6, ?_⟩
    unfold dyR
    split
    · have := hc5.bd
      exact ⟨hc5.canon, this.mono hl' hh', rfl⟩
    · exact ⟨.inl ⟨rfl, rfl⟩, Bd.zero _ _, rfl⟩
  refine d6.put hdq fun w7 d7 g7 t7 => ?_
  have e7 : Ext w5 w7 := ext_gr e6 (Nat.le_refl _) g7
  have e4 : Ext w w4 := ext_gr (e1.trans (e2.trans e3)) (Nat.le_refl _) g4
  refine (v5'.ext e7).get fun u hu => ?_
  refine ((n4.ext e5').ext e7).put hu fun w8 v8 g8 t8 => ?_
  refine v8.getc fun r hr => ?_
  rw [← hq]
  exact H r w8 (ext_gr (e4.trans (e5'.trans e7)) e1.size g8) hr

/-- A number in a variable of its own. -/
theorem c_exactOne {l : List UInt8} {v : Value} {q : Rat} (h : NQ w v 3000 5400 q)
    (H : ∀ v' w', Ext w w' → (∃ p e, v' = .agg #[p, .int .i64 e] ∧ p.oneCell' = true) → ((exOne l q).2 = 0 → NQ w' v' 3000 5400 (exOne l q).1) → K (.tuple #[v', .int .i64 (exOne l q).2]) w') : call P f_impl_exactOne [str l, v] w K := by
  refine I_impl_exactOne ?_
  unfold D_impl_exactOne
  refine bx_NV h fun x3 w1 v3 e1 => ?_
  refine alc_NC fun x4 w2 n4 e2 => ?_
  have v3 := v3.ext e2
  have E2 := e1.trans e2
  have s1 := e1.size
  unfold exOne at H
  have ret : ∀ {u : Value} {w3 : World} {lo hi : Nat} {r : Rat} {c : Int}, NQ w3 u lo hi r → Ext w2 w3 → (∀ v' w', Ext w w' → NQ w' v' lo hi r → K (.tuple #[v', .int .i64 c]) w') →
      sto P t_impl_num x4 u w3 fun w' => ldc P t_impl_num x4 w' fun r => K (.tuple #[r, .int .i64 c]) w' := fun hu e HH =>
    nm_ret (n4.ext e) hu fun v' w' g hv => HH v' w' (ext_gr (E2.trans e) s1 g) hv
  have nqp : ∀ {v' : Value} {w' : World} {lo hi : Nat} {r : Rat}, NQ w' v' lo hi r → ∃ p e, v' = .agg #[p, .int .i64 e] ∧ p.oneCell' = true := fun hv => by
    obtain ⟨m, e, ⟨p, rfl, ip⟩, _⟩ := hv
    exact ⟨p, e, rfl, ip.one⟩
  rw [eql_str]
  refine cnd_dec (fun h1 => ?_) (fun h1 => ?_)
  · rw [if_pos h1] at H
    refine v3.get fun u hu => ?_
    refine c_num_neg hu (by decide) (by decide) fun u' w3 e3 h3 => ?_
    exact ret h3 e3 fun v' w' E hv => H v' w' E (nqp hv) fun _ => hv
  rw [if_neg h1] at H
  rw [eql_str]
  refine cnd_dec (fun h2 => ?_) (fun h2 => ?_)
  · rw [if_pos h2] at H
    refine v3.get fun u hu => ?_
    refine v3.get fun u2 hu2 => ?_
    refine c_num_mul hu hu2 (by decide) (by decide) (by decide) (by decide) fun u' w3 e3 h3 => ?_
    refine c_kept h3 (by decide) (by decide) fun u4 w4 e4 h4 => ?_
    rw [xtr_0, xtr_1]
    exact ret h4 (e3.trans e4) fun v' w' E hv => H v' w' E (nqp hv) fun h0 => by rw [if_pos h0, if_pos h0] at hv; exact hv
  rw [if_neg h2] at H
  rw [eql_str]
  refine cnd_dec (fun h3 => ?_) (fun h3 => ?_)
  · rw [if_pos h3] at H
    refine v3.get fun u hu => ?_
    refine c_num_abs hu (by decide) (by decide) fun u' w3 e3 h3 => ?_
    exact ret h3 e3 fun v' w' E hv => H v' w' E (nqp hv) fun _ => hv
  rw [if_neg h3] at H
  refine nz_ret n4 fun v' w' g hv => ?_
  exact H v' w' (ext_gr E2 s1 g) hv fun h0 => by cases h0
theorem c_exactTwo {l : List UInt8} {u v : Value} {p q : Rat} (h : NQ w u 3000 5400 p) (h' : NQ w v 3000 5400 q)
    (H : ∀ v' w', Ext w w' → (∃ p e, v' = .agg #[p, .int .i64 e] ∧ p.oneCell' = true) → ((exTwo l p q).2 = 0 → NQ w' v' 3000 5400 (exTwo l p q).1) → K (.tuple #[v', .int .i64 (exTwo l p q).2]) w') : call P f_impl_exactTwo [str l, u, v] w K := by
  refine I_impl_exactTwo ?_
  unfold D_impl_exactTwo
  refine bx_NV h fun x4 w0 v4 e0 => ?_
  refine bx_NV (h'.ext e0) fun x5 w1 v5 e1' => ?_
  have e1 := e0.trans e1'
  have v4 := v4.ext e1'
  refine alc_NC fun x6 w2 n4 e2 => ?_
  have v4 := v4.ext e2
  have v5 := v5.ext e2
  have E2 := e1.trans e2
  have s1 := e1.size
  unfold exTwo at H
  have ret : ∀ {u : Value} {w3 : World} {lo hi : Nat} {r : Rat} {c : Int}, NQ w3 u lo hi r → Ext w2 w3 → (∀ v' w', Ext w w' → NQ w' v' lo hi r → K (.tuple #[v', .int .i64 c]) w') →
      sto P t_impl_num x6 u w3 fun w' => ldc P t_impl_num x6 w' fun r => K (.tuple #[r, .int .i64 c]) w' := fun hu e HH =>
    nm_ret (n4.ext e) hu fun v' w' g hv => HH v' w' (ext_gr (E2.trans e) s1 g) hv
  have nqp : ∀ {v' : Value} {w' : World} {lo hi : Nat} {r : Rat}, NQ w' v' lo hi r → ∃ p e, v' = .agg #[p, .int .i64 e] ∧ p.oneCell' = true := fun hv => by
    obtain ⟨m, e, ⟨p, rfl, ip⟩, _⟩ := hv
    exact ⟨p, e, rfl, ip.one⟩
  rw [eql_str]
  refine cnd_dec (fun h1 => ?_) (fun h1 => ?_)
  · rw [if_pos h1] at H
    refine v4.get fun u hu => ?_
    refine v5.get fun u2 hu2 => ?_
    refine c_num_add hu hu2 (by decide) (by decide) fun u' w3 e3 h3 => ?_
    refine c_kept h3 (by decide) (by decide) fun u4 w4 e4 h4 => ?_
    rw [xtr_0, xtr_1]
    exact ret h4 (e3.trans e4) fun v' w' E hv => H v' w' E (nqp hv) fun h0 => by rw [if_pos h0, if_pos h0] at hv; exact hv
  rw [if_neg h1] at H
  rw [eql_str]
  refine cnd_dec (fun h2 => ?_) (fun h2 => ?_)
  · rw [if_pos h2] at H
    refine v4.get fun u hu => ?_
    refine v5.get fun u2 hu2 => ?_
    refine c_num_sub hu hu2 (by decide) (by decide) fun u' w3 e3 h3 => ?_
    refine c_kept h3 (by decide) (by decide) fun u4 w4 e4 h4 => ?_
    rw [xtr_0, xtr_1]
    exact ret h4 (e3.trans e4) fun v' w' E hv => H v' w' E (nqp hv) fun h0 => by rw [if_pos h0, if_pos h0] at hv; exact hv
  rw [if_neg h2] at H
  rw [eql_str]
  refine cnd_dec (fun h3 => ?_) (fun h3 => ?_)
  · rw [if_pos h3] at H
    refine v4.get fun u hu => ?_
    refine v5.get fun u2 hu2 => ?_
    refine c_num_mul hu hu2 (by decide) (by decide) (by decide) (by decide) fun u' w3 e3 h3 => ?_
    refine c_kept h3 (by decide) (by decide) fun u4 w4 e4 h4 => ?_
    rw [xtr_0, xtr_1]
    exact ret h4 (e3.trans e4) fun v' w' E hv => H v' w' E (nqp hv) fun h0 => by rw [if_pos h0, if_pos h0] at hv; exact hv
  rw [if_neg h3] at H
  rw [eql_str]
  refine cnd_dec (fun h4 => ?_) (fun h4 => ?_)
  · rw [if_pos h4] at H
    refine nz_ret n4 fun v' w' g hv => ?_
    exact H v' w' (ext_gr E2 s1 g) hv fun h0 => by cases h0
  rw [if_neg h4] at H
  refine v4.get fun u hu => ?_
  refine v5.get fun u2 hu2 => ?_
  refine c_num_cmp hu hu2 (by decide) (by decide) fun w3 e3 => ?_
  have v4 := v4.ext e3
  have v5 := v5.ext e3
  rw [bin_gtr]
  have yes : (0 < cmpQ p q ∧ l = [109, 105, 110] ∨ cmpQ p q < 0 ∧ l = [109, 97, 120]) → ld P t_impl_num x5 w3 fun x => sto P t_impl_num x6 x w3 fun w' => ldc P t_impl_num x6 w' fun r => K (.tuple #[r, .int .i64 0]) w' := fun hc => by
    rw [if_pos hc] at H
    refine v5.get fun u hu => ?_
    exact ret hu e3 fun v' w' E hv => H v' w' E (nqp hv) fun _ => hv
  have no : ¬ (0 < cmpQ p q ∧ l = [109, 105, 110] ∨ cmpQ p q < 0 ∧ l = [109, 97, 120]) → ld P t_impl_num x4 w3 fun x => sto P t_impl_num x6 x w3 fun w' => ldc P t_impl_num x6 w' fun r => K (.tuple #[r, .int .i64 0]) w' := fun hc => by
    rw [if_neg hc] at H
    refine v4.get fun u hu => ?_
    exact ret hu e3 fun v' w' E hv => H v' w' E (nqp hv) fun _ => hv
  by_cases hg : 0 < cmpQ p q
  · rw [decide_eq_true (show cmpQ p q > 0 from hg)]
    refine ⟨_, fun _ _ _ h => h, ?_⟩
    simp only [grd_true_true, eql_str, pick_bool, cond_true]
    by_cases hm : l = [109, 105, 110]
    · rw [decide_eq_true hm]
      refine ⟨_, fun _ _ _ h => h, ?_⟩
      simp only [grd_true_false]
      refine ⟨_, fun _ _ _ h => h, ?_⟩
      simp only [grd_undef]
      refine ⟨_, fun _ _ _ h => h, ?_⟩
      simp only [grd_true_false, pick_bool, cond_true, cnd_true]
      exact yes (.inl ⟨hg, hm⟩)
    · rw [decide_eq_false hm]
      refine ⟨_, fun _ _ _ h => h, ?_⟩
      simp only [grd_false_false, bin_lss, decide_eq_false (show ¬ cmpQ p q < 0 by omega)]
      refine ⟨_, fun _ _ _ h => h, ?_⟩
      simp only [grd_false_true]
      refine ⟨_, fun _ _ _ h => h, ?_⟩
      simp only [grd_false_false, pick_bool, cond_false, cnd_false]
      exact no fun hc => hc.elim (fun h => hm h.2) (fun h => absurd h.1 (by omega))
  · rw [decide_eq_false (show ¬ cmpQ p q > 0 from hg)]
    refine ⟨_, fun _ _ _ h => h, ?_⟩
    simp only [grd_false_true, pick_bool, cond_false]
    refine ⟨_, fun _ _ _ h => h, ?_⟩
    simp only [grd_false_false, bin_lss]
    by_cases hlt : cmpQ p q < 0
    · simp only [decide_eq_true hlt]
      refine ⟨_, fun _ _ _ h => h, ?_⟩
      simp only [grd_true_true, eql_str]
      refine ⟨_, fun _ _ _ h => h, ?_⟩
      simp only [grd_false_false, pick_bool, cond_true, cond_false]
      refine cnd_dec (fun hm => yes (.inr ⟨hlt, hm⟩)) (fun hm => no fun hc => hc.elim (fun h => hg h.1) (fun h => hm h.2))
    · simp only [decide_eq_false hlt]
      refine ⟨_, fun _ _ _ h => h, ?_⟩
      simp only [grd_false_true]
      refine ⟨_, fun _ _ _ h => h, ?_⟩
      simp only [grd_false_false, pick_bool, cond_false, cnd_false]
      exact no fun hc => hc.elim (fun h => hg h.1) (fun h => hlt h.1)

/-! ### runs of the program, exact -/
/-- The run's kind: its three functions. -/
theorem kind_num_fld {base : Nat} {x f0 f1 f2 : Value} {K : Value → Prop} (h : Bx w base t_kind_impl_num x [f0, f1, f2]) (H : K f0) : fda P t_kind_impl_num x 0 w (fun y => ld P t_kind_impl_num_0 y w K) := by
  obtain ⟨d, hd, ha⟩ := u_kind_impl_num_0
  exact h.fld (off := 0) rfl u_kind_impl_num rfl i_kind_impl_num_0 hd ha H
theorem kind_num_fld1 {base : Nat} {x f0 f1 f2 : Value} {K : Value → Prop} (h : Bx w base t_kind_impl_num x [f0, f1, f2]) (H : K f1) : fda P t_kind_impl_num x 1 w (fun y => ld P t_kind_impl_num_1 y w K) := by
  obtain ⟨d, hd, ha⟩ := u_kind_impl_num_1
  exact h.fld (off := 1) rfl u_kind_impl_num rfl i_kind_impl_num_1 hd ha H
theorem kind_num_fld2 {base : Nat} {x f0 f1 f2 : Value} {K : Value → Prop} (h : Bx w base t_kind_impl_num x [f0, f1, f2]) (H : K f2) : fda P t_kind_impl_num x 2 w (fun y => ld P t_kind_impl_num_2 y w K) := by
  obtain ⟨d, hd, ha⟩ := u_kind_impl_num_2
  exact h.fld (off := 2) rfl u_kind_impl_num rfl i_kind_impl_num_2 hd ha H
abbrev fnv (f : FuncId) : Value := .func (.func f) #[] #[]
theorem c_RunExact_1 {b : Nat} (hb : b < 4294967296) (hf : Vc.Fin Ieee.single b) (H : ∀ v w', Ext w w' → NQ w' v 3000 5400 (fq b) → K v w') : call P f_impl_RunExact_1 [fl b] w K := by
  refine I_impl_RunExact_1 ?_
  unfold D_impl_RunExact_1
  refine alc_NC fun x2 w1 n2 e1 => ?_
  refine c_numOfm hb fun v1 w2 e2 h2 => ?_
  refine c_num_odd h2 ((f_bd hf).mono (show 149 ≤ 149 by decide) (show 128 ≤ 128 by decide)) (by decide) (by decide) fun v3 w3 m' e' e3 hn hc => ?_
  refine nm_ret (n2.ext (e2.trans e3)) ⟨m', e', hn, hc.bd.mono (show 149 ≤ 3000 by decide) (show 128 ≤ 5400 by decide), hc.val⟩ fun v' w' g hv => ?_
  exact H v' w' (ext_gr (e1.trans (e2.trans e3)) (Nat.le_refl _) g) hv
end Go.Proofs.YtjompmflommadaaGreatDoor

/- Contracts: the program's exact run. -/
set_option linter.unusedVariables false
set_option linter.unusedSimpArgs false
namespace Go.Proofs.YtjompmflommadaaGreatDoor
open Go Go.Vc

variable {w : World} {K : Value → World → Prop}

theorem NL.push2 {base : Nat} {v : Value} {lo hi : Nat} {qs : List Rat} {KW : Value → World → Prop} {ty : TypeId} {u : Value} {q : Rat} (h : NL w base v lo hi qs) (hu : NQ w u lo hi q) (hbase : base ≤ w.heap.size) (hn : qs.length ≤ 1048576)
    (H : ∀ v' w', NL w' base v' lo hi (qs ++ [q]) → (∀ {w0}, Ext w0 w → w0.heap.size ≤ base → Ext w0 w') → KW v' w') : bsl P t_s_impl_num 1 [(0, u)] w fun x w1 => Ext w w1 ∧ bl2 P .append #[t_s_impl_num, t_s_impl_num] ty [v, x] w1 KW := by
  have hu0 := hu
  obtain ⟨m, e, ⟨p, rfl, ip⟩, hb, hq⟩ := hu
  refine bsl_num ip.one rfl ?_
  have he := Ext_alloc w (.cells #[p, .int .i64 e] t_impl_num)
  refine ⟨he, ?_⟩
  have hrow : Row 2 (w.alloc (.cells #[p, .int .i64 e] t_impl_num)) (.slice (some ⟨w.heap.size, 0, none⟩) 1 1) 1 [p, .int .i64 e] := by
    refine ⟨rfl, by decide, _, _, rfl, fun _ => ⟨w.heap.size, 0, rfl, fun j u hj => ?_⟩⟩
    match j, hj with
    | 0, hj => cases hj; simp only [World.cell?, heap_new]; rfl
    | 1, hj => cases hj; simp only [World.cell?, heap_new]; rfl
    | _ + 2, hj => simp at hj
  refine SL.push (a := q) h hrow rfl (one_2 ip.one rfl) he hbase (fun w' c a row hr hk hg ht => ?_) hu0 u_s_impl_num i_impl_num rfl (by decide) hn (by decide) fun v' w' h' hg hk => ?_
  · exact NQ.kt (NQ.ext hr he) hg ht (by decide) (by decide)
  · exact H v' w' h' fun he0 hs => ext_of_grown (he0.trans he) (fun k hk' => Nat.le_trans hs (hk k hk')) hg
theorem NL.at {base : Nat} {v : Value} {lo hi : Nat} {qs : List Rat} {K : Value → Prop} {k : IntKind} {i : Nat} (h : NL w base v lo hi qs) (hi' : i < qs.length) (H : ∀ u, NQ w u lo hi qs[i] → K u) :
    ixa P t_s_impl_num v (.int k (i : Int)) w (fun a => ld P t_impl_num a w K) :=
  SL.at h hi' u_s_impl_num i_impl_num u_impl_num rfl fun c hc => H _ hc
theorem NL.len {base : Nat} {v : Value} {lo hi : Nat} {qs : List Rat} {ty : TypeId} {K : Value → Prop} (h : NL w base v lo hi qs) : bl0 P .len #[t_s_impl_num] ty [v] w K = K (.int .i64 qs.length) := SL.len h u_s_impl_num
theorem NL.nil0 {lo hi : Nat} {KW : Value → World → Prop} (H : ∀ v w', Ext w w' → NL w' w.heap.size v lo hi [] → KW v w') : bsl P t_s_impl_num 0 [] w KW := SL.nil u_s_impl_num i_impl_num H
theorem NL.take {base : Nat} {v : Value} {lo hi : Nat} {qs : List Rat} {K : Value → Prop} {ik : IntKind} {k : Nat} (h : NL w base v lo hi qs) (hk : k ≤ qs.length) (H : ∀ v', NL w base v' lo hi (qs.take k) → K v') :
    sli P t_s_impl_num v none (some (.int ik (k : Int))) none w K := SL.take h hk u_s_impl_num i_impl_num H
/-- A stack is kept when another's variable, of a block of its own, changes. -/
theorem NL.kept {base : Nat} {v : Value} {lo hi : Nat} {qs : List Rat} {w' : World} {g : Nat} (h : NL w base v lo hi qs) (hg : w.grownBy w' (some g)) (hb : ∀ k, v.ownBlock = some k → k ≠ g) (ht : Ty w (some g) t_impl_num) : NL w' base v lo hi qs := by
  obtain ⟨cs, h1, h2, h3, h4⟩ := h
  refine ⟨cs, h1, h2, h3.kept hg ?_, fun i hi hi' => NQ.kt (h4 i hi hi') hg ht (by decide) (by decide)⟩
  cases hv : v.ownBlock with
  | none => exact .inl rfl
  | some k => exact .inr fun e => hb k hv (Option.some.inj e)
theorem NL.block {base : Nat} {v : Value} {lo hi : Nat} {qs : List Rat} (h : NL w base v lo hi qs) : ∀ k, v.ownBlock = some k → base ≤ k ∧ k < w.heap.size := by
  obtain ⟨cs, h1, h2, h3, h4⟩ := h
  exact h3.lt
theorem var_form {l : List UInt8} (h : 0 ≤ varF l) : form0 l = 0 := by
  unfold varF at h
  unfold form0
  split at h
  · rename_i h1; rw [if_pos h1]
  · rename_i h1
    rw [if_neg h1]
    split at h
    · rename_i h2; rw [if_pos h2]
    · rename_i h2
      rw [if_neg h2]
      split at h
      · rename_i h3; rw [if_pos h3]
      · omega
/-- A variable that holds what need not be a number. -/
def ZV (w : World) (g : Nat) (x : Value) : Prop := blk x = some g ∧ Bx w g t_impl_num x [.pointer none, .int .i64 0]
theorem ZV.ext {w' : World} {g : Nat} {x : Value} (h : ZV w g x) (he : Ext w w') : ZV w' g x := ⟨h.1, h.2.ext he⟩
theorem ZV.NC {g : Nat} {x : Value} (h : ZV w g x) : NC w g x := ⟨h.1, _, rfl, h.2⟩
theorem ZV.get {g : Nat} {x : Value} {K : Value → Prop} (h : ZV w g x) (H : K (.agg #[.pointer none, .int .i64 0])) : ld P t_impl_num x w K := h.2.get u_impl_num rfl i_impl_num rfl H
theorem ZV.getc {g : Nat} {x : Value} {K : Value → Prop} (h : ZV w g x) (H : K (.agg #[.pointer none, .int .i64 0])) : ldc P t_impl_num x w K := h.2.getc u_impl_num rfl i_impl_num rfl H
theorem NC.putz {g : Nat} {x : Value} {KW : World → Prop} (h : NC w g x) (H : ∀ w', ZV w' g x → w.grownBy w' (some g) → Ty w (some g) t_impl_num → KW w') : sto P t_impl_num x (.agg #[.pointer none, .int .i64 0]) w KW := by
  obtain ⟨hg, cs, hl, b⟩ := h
  have t := Ty.box b
  refine b.put i_impl_num (ds := [.pointer none, .int .i64 0]) rfl hl (one_2 rfl rfl) fun w' b' g' => ?_
  rw [hg] at g' t
  exact H w' ⟨hg, b'⟩ g' t
theorem alc_ZV {KW : Value → World → Prop} (H : ∀ a w', ZV w' w.heap.size (.pointer (some a)) → Ext w w' → KW (.pointer (some a)) w') : alc P t_impl_num w KW :=
  alc_bx i_impl_num fun x w' b e hp => by
    obtain ⟨g, rfl, h2, h3⟩ := b
    exact H _ w' ⟨hp, ⟨g, rfl, h2, h3⟩⟩ e
theorem map_fq_get {vs : List Nat} {i : Nat} (h : i < (vs.map fq).length) : (vs.map fq)[i] = fq (vs.getD i 0) := by
  have : i < vs.length := by simpa using h
  rw [getA_lt this]; simp

theorem NC.putr {g : Nat} {x v : Value} {KW : World → Prop} (h : NC w g x) (hv : ∃ p e, v = .agg #[p, .int .i64 e] ∧ p.oneCell' = true)
    (H : ∀ w', w.grownBy w' (some g) → Ty w (some g) t_impl_num → NC w' g x → (∀ {lo hi : Nat} {q : Rat}, NQ w v lo hi q → NV w' g x lo hi q) → KW w') : sto P t_impl_num x v w KW := by
  obtain ⟨p, e, rfl, hp⟩ := hv
  obtain ⟨hg, cs, hl, b⟩ := h
  have t := Ty.box b
  refine b.put i_impl_num (ds := nm p e) rfl hl (one_2 hp rfl) fun w' b' g' => ?_
  rw [hg] at g' t
  refine H w' g' t ⟨hg, _, rfl, b'⟩ fun hq => ?_
  obtain ⟨m, e', ⟨p', hv', ip⟩, hb, hq⟩ := hq
  simp only [Value.agg.injEq, Array.mk.injEq, List.cons.injEq, Value.int.injEq, true_and, and_true] at hv'
  obtain ⟨rfl, rfl⟩ := hv'
  exact ⟨hg, p, e, b', m, e, ⟨p, rfl, ip.kt g' t (by decide) (by decide)⟩, hb, hq⟩
theorem NQ.shape {v : Value} {lo hi : Nat} {q : Rat} (h : NQ w v lo hi q) : ∃ p e, v = .agg #[p, .int .i64 e] ∧ p.oneCell' = true := by
  obtain ⟨m, e, ⟨p, rfl, ip⟩, _⟩ := h
  exact ⟨p, e, rfl, ip.one⟩

set_option maxRecDepth 20000 in
theorem c_run_num {v vv : Value} {ws : List (List UInt8)} {vs : List Nat} {m : Int} {vb : Nat} (h : I_Program w v ws) (hd : depF ws = some m) (hv : NL w vb vv 3000 5400 (vs.map fq)) (hfin : ∀ b ∈ vs, b < 4294967296 ∧ Vc.Fin Ieee.single b)
    (hn : ndS ws ws.length ≤ (vs.length : Int))
    (H : ∀ v' w', Ext w w' → (∃ p e, v' = .agg #[p, .int .i64 e] ∧ p.oneCell' = true) → (((exM vs).res ws).2 = 0 → NQ w' v' 3000 5400 ((exM vs).res ws).1) → K (.tuple #[v', .int .i64 ((exM vs).res ws).2]) w') :
    call P f_impl_run_impl_num [v, vv, .agg #[fnv f_impl_RunExact_1, fnv f_impl_exactOne, fnv f_impl_exactTwo]] w K := by
  obtain ⟨s, rfl, hs⟩ := h
  obtain ⟨mm, hdp, rfl, hlen, hlen1⟩ := depF_dpS hd
  refine I_impl_run_impl_num ?_
  unfold D_impl_run_impl_num
  refine bx_pr fun x3 w1 b3 e1 => ?_
  refine bx_bx fun x5 w2 b5 e2 _ => ?_
  have b5 : Bx w2 w1.heap.size t_kind_impl_num x5 [fnv f_impl_RunExact_1, fnv f_impl_exactOne, fnv f_impl_exactTwo] := b5
  refine alc_ZV fun a6 w3 z6 e3 => ?_
  refine alc_ZV fun a19 w4 z19 e4 => ?_
  rw [nch_some]
  refine z19.get ?_
  refine alc_ZV fun a8 w5 z8 e5 => ?_
  refine z8.NC.putz fun w6 z8 g6 _ => ?_
  have e6 : Ext w4 w6 := ext_gr e5 (Nat.le_refl _) g6
  have E2 := e1.trans e2
  have E26 := e3.trans (e4.trans e6)
  have E6 := E2.trans E26
  have b3 := (b3.ext e2).ext E26
  have b5 := b5.ext E26
  have z6 := z6.ext (e4.trans e6)
  have hs := hs.ext E6
  have hv := hv.ext E6
  have s26 := E2.size
  refine NL.nil0 (lo := 3000) (hi := 5400) fun v22 w7 e7 hst => ?_
  refine pr_w (b3.ext e7) ?_
  rw [(hs.ext e7).len]
  refine ⟨fun g x9 x26 w' => ∃ (i : Nat) (st : List Rat) (b : Int), x26 = .int .i64 i ∧ g + i = ws.length ∧ (exM vs).run ws i = (st, 0) ∧ dpS ws i = some ((st.length : Int), b) ∧ Ext w6 w' ∧ NL w' w6.heap.size x9 3000 5400 st,
    ⟨ws.length, 0, [], 0, rfl, by omega, rfl, rfl, e7, hst⟩, ?_⟩
  rintro g x9 x26 junk w8 ⟨i, st, b, rfl, hg, hrun, hdi, e8, hst⟩
  have hrg := dpS_range ws i _ _ hdi
  rw [bin_lss]
  refine cnd_dec (fun hlt => ?_) (fun hge => ?_)
  · have hi : i < ws.length := by omega
    have hs8 := hs.ext e8
    have hv8 := hv.ext e8
    have s8 := e8.size
    refine hs8.at hi ?_
    refine c_variable ?_
    have hvr := var_range ws[i]
    have hvl := var_lt hn hi
    obtain ⟨f0, f1, hd1⟩ := dep_step hd hi hdi
    have hsucc := (exM vs).succ ws hrun
    rw [getD_w hi] at hsucc
    have hl := hs8.le hi
    -- a leaf is put on the stack
    have leaf : ∀ {u : Value} {w' : World}, form0 ws[i] = 0 → Ext w8 w' → NQ w' u 3000 5400 (fq (leafB vs ws[i])) →
        bsl P t_s_impl_num 1 [(0, u)] w' fun x w1 => bl2 P .append #[t_s_impl_num, t_s_impl_num] t_s_impl_num [x9, x] w1 fun x40 w37 =>
          bin P .add t_int false true (.int .i64 i) (.int .i64 1) w37 fun x101 => ∃ m39, m39 < g ∧ ∃ (i : Nat) (st : List Rat) (b : Int), x101 = .int .i64 i ∧ m39 + i = ws.length ∧ (exM vs).run ws i = (st, 0) ∧ dpS ws i = some ((st.length : Int), b) ∧ Ext w6 w37 ∧ NL w37 w6.heap.size x40 3000 5400 st := fun hf e9 hu => by
      refine (hst.ext e9).push hu (Nat.le_trans s8 e9.size) (by omega) fun v' w9 hst' he => ?_
      rw [bin_add, wrap_i64 (by omega) (by omega)]
      refine ⟨g - 1, by omega, i + 1, st ++ [fq (leafB vs ws[i])], max b ((st.length : Int) + 1 - form0 ws[i]), rfl, by omega, ?_, ?_, he (e8.trans e9) (Nat.le_refl _), hst'⟩
      · rw [hsucc]; unfold Mach.step; rw [if_pos hf]; rfl
      · rw [hd1, hf]; simp
    rw [bin_geq]
    refine cnd_dec (fun hx => ?_) (fun hx => ?_)
    · have hf := var_form hx
      obtain ⟨k, hk⟩ : ∃ k : Nat, varF ws[i] = (k : Int) := ⟨(varF ws[i]).toNat, by omega⟩
      have hlb : leafB vs ws[i] = vs.getD k 0 := by unfold leafB; rw [if_pos hx, hk]; rfl
      rw [hk]
      have hk' : k < (vs.map fq).length := by simp; omega
      refine hv8.at hk' fun u hu => ?_
      rw [map_fq_get hk', ← hlb] at hu
      exact leaf hf (Ext.refl _) hu
    · refine c_form hl fun w9 e9 => ?_
      rw [bin_eql]
      refine cnd_dec (fun hf => ?_) (fun hf => ?_)
      · refine c_parseFloat hl fun b w10 e10 hb => ?_
        obtain ⟨b', hb'⟩ := pF_of hf (by omega)
        have hlb : leafB vs ws[i] = b' := by unfold leafB; rw [if_neg (by omega), hb']; rfl
        have hbb := hb b' hb'
        subst hbb
        rw [xtr_0, xtr_1]
        have E := e9.trans e10
        refine kind_num_fld (b5.ext (e8.trans E)) ?_
        refine callv_call ?_
        show call P f_impl_RunExact_1 [fl b] w10 _
        obtain ⟨p1, p2⟩ := pF_fin hb'
        refine c_RunExact_1 p1 p2 fun u w11 e11 hu => ?_
        rw [← hlb] at hu
        exact leaf hf (E.trans e11) hu
      · have hst9 := hst.ext e9
        have hpos : 0 < st.length := by omega
        rw [hst9.len, bin_sub, wrap_i64 (by omega) (by omega), show ((st.length : Int) - 1) = ((st.length - 1 : Nat) : Int) by omega]
        refine hst9.at (i := st.length - 1) (by omega) fun u hu => ?_
        refine alc_ZV fun a16 w10 z16 e10 => ?_
        refine z16.NC.put (hu.ext e10) fun w11 v16 g16 _ => ?_
        have e911 : Ext w9 w11 := ext_gr e10 (Nat.le_refl _) g16
        refine (z8.ext ((e8.trans e9).trans e911)).get ?_
        refine alc_ZV fun a17 w12 z17 e12 => ?_
        refine z17.NC.putz fun w13 z17 g17 _ => ?_
        have e1113 : Ext w11 w13 := ext_gr e12 (Nat.le_refl _) g17
        have E813 := e9.trans (e911.trans e1113)
        have hst13 := hst.ext E813
        have v16 := v16.ext e1113
        have E613 := e8.trans E813
        have hsz : w6.heap.size ≤ w11.heap.size := Nat.le_trans s8 (Nat.le_trans e9.size e911.size)
        have hb5 := b5.ext E613
        generalize hR : (if form0 ws[i] = 1 then exOne ws[i] (st.getD (st.length - 1) 0) else exTwo ws[i] (st.getD (st.length - 2) 0) (st.getD (st.length - 1) 0)) = R
        have hstep : (exM vs).run ws (i + 1) = (st.take (st.length - (form0 ws[i]).toNat) ++ [R.1], R.2) := by
          rw [hsucc]
          unfold Mach.step
          rw [if_neg hf, ← hR]
          split
          · rename_i h1
            rw [h1]; rfl
          · rename_i h1
            have : form0 ws[i] = 2 := by have := form_range ws[i]; omega
            rw [this]; rfl
        refine ⟨fun x18 w' => x18 = .int .i64 R.2 ∧ Ext w11 w' ∧ (R.2 = 0 → NV w' w11.heap.size (.pointer (some a17)) 3000 5400 R.1), ?_, ?_⟩
        · rintro x18 junk w14 ⟨rfl, e14, h17⟩
          have E614 : Ext w6 w14 := (e8.trans (e9.trans e911)).trans e14
          rw [bin_neq]
          refine cnd_dec (fun hc => ?_) (fun hc => ?_)
          · refine (z8.ext E614).get ?_
            refine (z6.ext E614).NC.putz fun w15 z15 g15 _ => ?_
            refine z15.getc ?_
            have hres := (exM vs).bad ws (i := i + 1) (by omega) (by rw [hstep]; exact hc)
            rw [hstep] at hres
            rw [hres] at H
            exact H _ w15 (ext_gr (E6.trans E614) s26 g15) ⟨_, _, rfl, rfl⟩ fun h0 => absurd h0 hc
          · have hc : R.2 = 0 := by simpa using hc
            have v17 := h17 hc
            have hst14 := (hst.ext (e9.trans e911)).ext e14
            have hfn : form0 ws[i] = ((form0 ws[i]).toNat : Int) := by omega
            rw [hst14.len, bin_sub, wrap_i64 (by omega) (by omega), show ((st.length : Int) - form0 ws[i]) = ((st.length - (form0 ws[i]).toNat : Nat) : Int) by omega]
            refine hst14.take (by omega) fun v97 hst97 => ?_
            refine v17.get fun u98 hu98 => ?_
            refine hst97.push2 hu98 (Nat.le_trans hsz e14.size) (by simp; omega) fun v' w15 hst' he => ?_
            rw [bin_add, wrap_i64 (by omega) (by omega)]
            refine ⟨g - 1, by omega, i + 1, st.take (st.length - (form0 ws[i]).toNat) ++ [R.1], max b ((st.length : Int) + 1 - form0 ws[i]), rfl, by omega, ?_, ?_, he E614 (Nat.le_refl _), hst'⟩
            · rw [hstep, hc]
            · have el : (((st.take (st.length - (form0 ws[i]).toNat) ++ [R.1]).length : Nat) : Int) = (st.length : Int) + 1 - form0 ws[i] := by simp; omega
              rw [hd1, el]
        · have put : ∀ {u : Value} {w14 : World} {KW : World → Prop}, Ext w13 w14 → (∃ p e, u = .agg #[p, .int .i64 e] ∧ p.oneCell' = true) → (R.2 = 0 → NQ w14 u 3000 5400 R.1) →
              (∀ w', Ext w11 w' ∧ (R.2 = 0 → NV w' w11.heap.size (.pointer (some a17)) 3000 5400 R.1) → KW w') → sto P t_impl_num (.pointer (some a17)) u w14 KW := fun e14 hsh hq HK => by
            refine (z17.ext e14).NC.putr hsh fun w15 g15 _ _ hnv => ?_
            exact HK w15 ⟨ext_gr (e1113.trans e14) (Nat.le_refl _) g15, fun h0 => hnv (hq h0)⟩
          rw [bin_eql]
          have getD0 : ∀ j, j < st.length → st.getD j 0 = st[j]! := fun j hj => by simp [hj]
          refine cnd_dec (fun h1 => ?_) (fun h1 => ?_)
          · refine kind_num_fld1 hb5 ?_
            refine v16.get fun u' hu' => ?_
            refine callv_call ?_
            show call P f_impl_exactOne [str ws[i], u'] w13 _
            refine c_exactOne hu' fun v' w14 e14 hsh hq => ?_
            rw [xtr_0, xtr_1]
            have hR1 : R = exOne ws[i] st[st.length - 1] := by rw [← hR, if_pos h1, getA_lt]
            rw [← hR1] at hq ⊢
            exact put e14 hsh hq fun w' hw' => ⟨rfl, hw'⟩
          · have h2 : form0 ws[i] = 2 := by have := form_range ws[i]; omega
            refine kind_num_fld2 hb5 ?_
            rw [hst13.len, bin_sub, wrap_i64 (by omega) (by omega), show ((st.length : Int) - 2) = ((st.length - 2 : Nat) : Int) by omega]
            refine hst13.at (i := st.length - 2) (by omega) fun u2 hu2 => ?_
            refine v16.get fun u' hu' => ?_
            refine callv_call ?_
            show call P f_impl_exactTwo [str ws[i], u2, u'] w13 _
            refine c_exactTwo hu2 hu' fun v' w14 e14 hsh hq => ?_
            rw [xtr_0, xtr_1]
            have hR1 : R = exTwo ws[i] st[st.length - 2] st[st.length - 1] := by rw [← hR, if_neg h1, getA_lt, getA_lt]
            rw [← hR1] at hq ⊢
            refine put e14 hsh hq fun w' hw' => ?_
            rw [xtr_1]
            exact ⟨rfl, rfl, hw'⟩
  · have hi : i = ws.length := by omega
    subst hi
    rw [hdp] at hdi
    simp only [Option.some.injEq, Prod.mk.injEq] at hdi
    have h1 : st.length = 1 := by omega
    refine hst.at (k := .i64) (i := 0) (by omega) fun u hu => ?_
    refine (z6.ext e8).NC.put hu fun w9 v9 g9 _ => ?_
    refine v9.getc fun r hr => ?_
    have hres : (exM vs).res ws = (st[0], 0) := by
      unfold Mach.res
      rw [hrun]
      simp only [if_true]
      rw [getA_lt]
    rw [hres] at H
    exact H r w9 (ext_gr (E6.trans e8) s26 g9) hr.shape fun _ => hr
end Go.Proofs.YtjompmflommadaaGreatDoor

/- Contracts: the reference's exact run. -/
set_option linter.unusedVariables false
set_option linter.unusedSimpArgs false
namespace Go.Proofs.YtjompmflommadaaGreatDoor
open Go Go.Vc

variable {w : World} {K : Value → World → Prop}

/-! ### the words, as the reference has them -/
def fitQ (q : Rat) : Prop := (dyOut q).2 = 0
noncomputable def exlR (l : List UInt8) (p q : Rat) : Option Rat :=
  if l = [110, 101, 103] then some (-p) else if l = [115, 113, 114] then some (p * p) else if l = [97, 98, 115] then some (absQ p) else if l = [43] then some (p + q) else if l = [45] then some (p - q)
  else if l = [42] then some (p * q) else if l = [109, 105, 110] then some (if 0 < cmpQ p q then q else p) else if l = [109, 97, 120] then some (if 0 < cmpQ p q then p else q) else none
noncomputable def exlK (l : List UInt8) (p q : Rat) : Rat × Int := match exlR l p q with
  | none => (0, 5)
  | some r => keepQ r
theorem fitQ_keep {q : Rat} (h : fitQ q) : keepQ q = (q, 0) := by unfold keepQ; rw [h]
theorem Cn.fit {lo hi : Nat} {q : Rat} {m e : Int} (h : Cn lo hi q m e) : fitQ q ↔ fitsD m e := by
  unfold fitQ
  rw [dyOut_eq h]
  unfold dyR
  split
  · rename_i hf; exact ⟨fun _ => hf, fun _ => rfl⟩
  · rename_i hf; exact ⟨fun h => by simp at h, fun h => absurd h hf⟩
def Ex (q : Rat) : Prop := ∃ lo hi m e, Cn lo hi q m e
theorem fit_neg {q : Rat} (hx : Ex q) (h : fitQ q) : fitQ (-q) := by
  obtain ⟨lo, hi, m, e, hc⟩ := hx
  have hc' : Cn lo hi (-q) (-m) e := ⟨by rcases hc.canon with ⟨a, b⟩ | a; exact .inl ⟨by omega, b⟩; exact .inr (by omega), hc.bd.neg, by rw [hc.val, dy_neg]⟩
  rw [hc'.fit]
  have := hc.fit.1 h
  unfold fitsD at *
  rw [Int.natAbs_neg]; exact this
theorem fit_abs {q : Rat} (hx : Ex q) (h : fitQ q) : fitQ (absQ q) := by
  unfold absQ
  split
  · exact fit_neg hx h
  · exact h
theorem cmpQ_zero {p q : Rat} (h : cmpQ p q = 0) : p = q := by
  have := sgQ_zero.1 h
  grind
theorem exl_one {l : List UInt8} {q : Rat} (hl : form0 l = 1) (hx : Ex q) (h : fitQ q) : exlK l q q = exOne l q := by
  unfold exlK exlR exOne
  by_cases h1 : l = [110, 101, 103]
  · rw [if_pos h1, if_pos h1]; exact fitQ_keep (fit_neg hx h)
  rw [if_neg h1, if_neg h1]
  by_cases h2 : l = [115, 113, 114]
  · rw [if_pos h2, if_pos h2]
  rw [if_neg h2, if_neg h2]
  by_cases h3 : l = [97, 98, 115]
  · rw [if_pos h3, if_pos h3]; exact fitQ_keep (fit_abs hx h)
  rw [if_neg h3, if_neg h3]
  have a1 : l ≠ [43] := fun h => by rw [h] at hl; simp [form0, form1, form2] at hl
  have a2 : l ≠ [45] := fun h => by rw [h] at hl; simp [form0, form1, form2] at hl
  have a3 : l ≠ [42] := fun h => by rw [h] at hl; simp [form0, form1, form2] at hl
  have a4 : l ≠ [109, 105, 110] := fun h => by rw [h] at hl; simp [form0, form1, form2] at hl
  have a5 : l ≠ [109, 97, 120] := fun h => by rw [h] at hl; simp [form0, form1, form2] at hl
  rw [if_neg a1, if_neg a2, if_neg a3, if_neg a4, if_neg a5]
theorem exl_two {l : List UInt8} {p q : Rat} (hl : form0 l = 2) (hp : fitQ p) (hq : fitQ q) : exlK l p q = exTwo l p q := by
  unfold exlK exlR exTwo
  have a1 : l ≠ [110, 101, 103] := fun h => by rw [h] at hl; simp [form0, form1] at hl
  have a2 : l ≠ [115, 113, 114] := fun h => by rw [h] at hl; simp [form0, form1] at hl
  have a3 : l ≠ [97, 98, 115] := fun h => by rw [h] at hl; simp [form0, form1] at hl
  rw [if_neg a1, if_neg a2, if_neg a3]
  by_cases h1 : l = [43]
  · rw [if_pos h1, if_pos h1]
  rw [if_neg h1, if_neg h1]
  by_cases h2 : l = [45]
  · rw [if_pos h2, if_pos h2]
  rw [if_neg h2, if_neg h2]
  by_cases h3 : l = [42]
  · rw [if_pos h3, if_pos h3]
  rw [if_neg h3, if_neg h3]
  by_cases h6 : l = [47]
  · rw [if_pos h6, if_neg (by rw [h6]; decide), if_neg (by rw [h6]; decide)]
  rw [if_neg h6]
  by_cases h4 : l = [109, 105, 110]
  · rw [if_pos h4]
    have h5 : l ≠ [109, 97, 120] := by rw [h4]; decide
    by_cases hc : 0 < cmpQ p q
    · rw [if_pos hc, if_pos (.inl ⟨hc, h4⟩)]; exact fitQ_keep hq
    · rw [if_neg hc, if_neg (fun h => h.elim (fun a => hc a.1) (fun a => h5 a.2))]; exact fitQ_keep hp
  rw [if_neg h4]
  by_cases h5 : l = [109, 97, 120]
  · rw [if_pos h5]
    by_cases hc : 0 < cmpQ p q
    · rw [if_pos hc, if_neg (fun h => h.elim (fun a => h4 a.2) (fun a => absurd a.1 (by omega)))]; exact fitQ_keep hp
    · rw [if_neg hc]
      by_cases hc2 : cmpQ p q < 0
      · rw [if_pos (.inr ⟨hc2, h5⟩)]; exact fitQ_keep hq
      · have : p = q := cmpQ_zero (by omega)
        rw [if_neg (fun h => h.elim (fun a => h4 a.2) (fun a => hc2 a.1)), this]; exact fitQ_keep hq
  exfalso
  unfold form0 form1 form2 form3 at hl
  simp only [h1, h2, h3, h4, h5, h6, if_false] at hl
  repeat (first | omega | split at hl)

/-! ### variables of the reference -/
theorem bx_DV {v : Value} {lo hi : Nat} {q : Rat} {KW : Value → World → Prop} (h : DQ w v lo hi q) (H : ∀ x w', DV w' w.heap.size x lo hi q → Ext w w' → KW x w') : bx P t_impl_Dyadic v w KW := by
  obtain ⟨m, e, ⟨s, l, rfl, h1, wl⟩, hc⟩ := h
  exact bx_bx fun x w' b e' hp => H x w' ⟨hp, _, s, e, b, m, e, ⟨s, l, rfl, h1.ext e', wl⟩, hc⟩ e'
theorem DV.kept {w' : World} {g g' : Nat} {x : Value} {lo hi : Nat} {q : Rat} {t' : TypeId} (h : DV w g x lo hi q) (hg : w.grownBy w' (some g')) (hne : g ≠ g') (ht : Ty w (some g') t') (htt : t_int64 ≠ t') : DV w' g x lo hi q := by
  obtain ⟨a, n, s, e, b, c⟩ := h
  exact ⟨a, n, s, e, b.kept hg (.inr (by rw [a]; intro e; exact hne (Option.some.inj e).symm)), c.kt hg ht htt⟩
/-- A number in a variable, read back. -/
theorem dv_ret {g : Nat} {x v : Value} {lo hi : Nat} {q : Rat} {KW : Value → World → Prop} (h : DC w g x) (hv : DQ w v lo hi q) (H : ∀ v' w', w.grownBy w' (some g) → DQ w' v' lo hi q → KW v' w') :
    sto P t_impl_Dyadic x v w fun w' => ldc P t_impl_Dyadic x w' fun r => KW r w' :=
  h.put hv fun w' v' g' _ => v'.getc fun v2 h2 => H v2 w' g' h2
theorem dz_ret {g : Nat} {x : Value} {KW : Value → World → Prop} (h : DC w g x) (H : ∀ v' w', w.grownBy w' (some g) → DQ w' v' 0 0 0 → KW v' w') :
    bld P t_impl_Dyadic [] w fun v => sto P t_impl_Dyadic x v w fun w' => ldc P t_impl_Dyadic x w' fun r => KW r w' := by
  rw [bld_Dyadic0]
  exact dv_ret h (DQ.zero w) H
/-- The absolute value, made anew. -/
theorem DV.absR {g : Nat} {x : Value} {lo hi : Nat} {q : Rat} {KW : Value → World → Prop} (h : DV w g x lo hi q) (hl : lo ≤ 1000000000) (hh : hi ≤ 1000000000) (H : ∀ v' w', Ext w w' → DQ w' v' lo hi (absQ q) → KW v' w') :
    fda P t_impl_Dyadic x 0 w fun x20 => ld P t_impl_Whole x20 w fun x21 => fda P t_impl_Dyadic x 1 w fun x23 => ld P t_int64 x23 w fun x24 => call P f_spec_l02Abs [x21] w fun x22 w28 => Ext w w28 ∧ bld P t_impl_Dyadic [(0, x22), (1, x24)] w28 fun x25 => KW x25 w28 := by
  obtain ⟨hg, n, s, e, b, m, e', ⟨s2, l, hv, h1, wl⟩, hc⟩ := h
  simp only [Value.agg.injEq, Array.mk.injEq, List.cons.injEq, Value.int.injEq, true_and, and_true] at hv
  obtain ⟨rfl, rfl, rfl⟩ := hv
  have hbl := hc.bd.bl
  refine dy_w b ?_
  refine dy_e b ?_
  refine c_l02Abs ⟨s, l, rfl, h1, wl⟩ (by omega) fun v2 w2 e2 h2 => ?_
  obtain ⟨s', l', rfl, ho, hw⟩ := h2
  refine ⟨e2, ?_⟩
  rw [bld_Dyadic (own_sl ho)]
  refine H _ w2 e2 ⟨_, e, ⟨s', l', rfl, LR.of ho.own, hw⟩, ?_, hc.bd.abs, ?_⟩
  · rcases hc.canon with ⟨a1, a2⟩ | a1
    · exact .inl ⟨by omega, a2⟩
    · exact .inr (by omega)
  · rw [hc.val, absQ_dy]
set_option maxRecDepth 20000 in
theorem c_l08Exactly {l : List UInt8} {u v : Value} {p q : Rat} (h : DQ w u 3000 5400 p) (h' : DQ w v 3000 5400 q)
    (H : ∀ v' w', Ext w w' → DQ w' v' 6000 10800 ((exlR l p q).getD 0) → K (.tuple #[v', .bool (exlR l p q).isSome]) w') : call P f_spec_l08Exactly [str l, u, v] w K := by
  refine I_spec_l08Exactly ?_
  unfold D_spec_l08Exactly
  refine bx_DV h fun x4 w0 v4 e0 => ?_
  refine bx_DV (h'.ext e0) fun x5 w1 v5 e1' => ?_
  have e1 := e0.trans e1'
  have v4 := v4.ext e1'
  refine alc_DC fun x6 w2 n4 e2 => ?_
  have v4 := v4.ext e2
  have v5 := v5.ext e2
  have E2 := e1.trans e2
  have s1 := e1.size
  unfold exlR at H
  have ret : ∀ {u : Value} {w3 : World} {lo hi : Nat} {r : Rat} {c : Bool}, DQ w3 u lo hi r → Ext w2 w3 → lo ≤ 6000 → hi ≤ 10800 → (∀ v' w', Ext w w' → DQ w' v' 6000 10800 r → K (.tuple #[v', .bool c]) w') →
      sto P t_impl_Dyadic x6 u w3 fun w' => ldc P t_impl_Dyadic x6 w' fun r => K (.tuple #[r, .bool c]) w' := fun hu e h1 h2 HH =>
    dv_ret (n4.ext e) hu fun v' w' g hv => HH v' w' (ext_gr (E2.trans e) s1 g) (hv.mono h1 h2)
  rw [eql_str]
  refine cnd_dec (fun h1 => ?_) (fun h1 => ?_)
  · rw [if_pos h1] at H
    refine v4.get fun u hu => ?_
    refine c_l03Neg hu (by decide) (by decide) fun u' w3 e3 h3 => ?_
    exact ret h3 e3 (by decide) (by decide) H
  rw [if_neg h1, eql_str] at *
  refine cnd_dec (fun h2 => ?_) (fun h2 => ?_)
  · rw [if_pos h2] at H
    refine v4.get fun u hu => ?_
    refine v4.get fun u2 hu2 => ?_
    refine c_l03Mul hu hu2 (by decide) (by decide) (by decide) (by decide) fun u' w3 e3 h3 => ?_
    exact ret h3 e3 (by decide) (by decide) H
  rw [if_neg h2] at H
  rw [eql_str]
  refine cnd_dec (fun h3 => ?_) (fun h3 => ?_)
  · rw [if_pos h3] at H
    refine v4.absR (by decide) (by decide) fun u' w3 e3 h3 => ?_
    exact ret h3 e3 (by decide) (by decide) H
  rw [if_neg h3] at H
  rw [eql_str]
  refine cnd_dec (fun h4 => ?_) (fun h4 => ?_)
  · rw [if_pos h4] at H
    refine v4.get fun u hu => ?_
    refine v5.get fun u2 hu2 => ?_
    refine c_l03Add hu hu2 (by decide) (by decide) fun u' w3 e3 h3 => ?_
    exact ret h3 e3 (by decide) (by decide) H
  rw [if_neg h4] at H
  rw [eql_str]
  refine cnd_dec (fun h5 => ?_) (fun h5 => ?_)
  · rw [if_pos h5] at H
    refine v4.get fun u hu => ?_
    refine v5.get fun u2 hu2 => ?_
    refine c_l03Sub hu hu2 (by decide) (by decide) fun u' w3 e3 h3 => ?_
    exact ret h3 e3 (by decide) (by decide) H
  rw [if_neg h5] at H
  rw [eql_str]
  refine cnd_dec (fun h6 => ?_) (fun h6 => ?_)
  · rw [if_pos h6] at H
    refine v4.get fun u hu => ?_
    refine v5.get fun u2 hu2 => ?_
    refine c_l03Mul hu hu2 (by decide) (by decide) (by decide) (by decide) fun u' w3 e3 h3 => ?_
    exact ret h3 e3 (by decide) (by decide) H
  rw [if_neg h6] at H
  refine ⟨_, fun _ _ _ h => h, ?_⟩
  have mm : ∀ b : Bool, (∀ r, (if decide (0 < cmpQ p q) = b then q else p) = r → ∀ v' w', Ext w w' → DQ w' v' 6000 10800 r → K (.tuple #[v', .bool true]) w') → (decide (l = [109, 105, 110]) = b) →
      ld P t_impl_Dyadic x4 w2 fun x44 => ld P t_impl_Dyadic x5 w2 fun x45 => call P f_spec_l03Compare [x44, x45] w2 fun x46 w64 => bin P .gtr t_int64 false true x46 (.int .i64 0) w64 fun x47 =>
        bin P .eql t_string false true (str l) (.string ⟨#[109, 105, 110]⟩) w64 fun x49 => bin P .eql t_bool false false x47 x49 w64 fun x50 => cnd x50
          (ld P t_impl_Dyadic x5 w64 fun x51 => sto P t_impl_Dyadic x6 x51 w64 fun w70 => ldc P t_impl_Dyadic x6 w70 fun r => K (.tuple #[r, .bool true]) w70)
          (ld P t_impl_Dyadic x4 w64 fun x52 => sto P t_impl_Dyadic x6 x52 w64 fun w74 => ldc P t_impl_Dyadic x6 w74 fun r => K (.tuple #[r, .bool true]) w74) := fun b HH hb => by
    refine v4.get fun u hu => ?_
    refine v5.get fun u2 hu2 => ?_
    refine c_l03Compare hu hu2 (by decide) (by decide) fun w3 e3 => ?_
    rw [bin_gtr, eql_str, hb, Go.Vc.bin_beql (ht := u_bool)]
    refine cnd_split (fun hc => ?_) (fun hc => ?_)
    · have hc : decide (0 < cmpQ p q) = b := by simpa using hc
      refine (v5.ext e3).get fun u hu => ?_
      exact ret hu e3 (by decide) (by decide) (HH _ (by rw [if_pos hc]))
    · have hc : ¬ decide (0 < cmpQ p q) = b := by simpa using hc
      refine (v4.ext e3).get fun u hu => ?_
      exact ret hu e3 (by decide) (by decide) (HH _ (by rw [if_neg hc]))
  rw [eql_str]
  refine cnd_dec (fun h7 => ?_) (fun h7 => ?_)
  · rw [if_pos h7] at H
    rw [decide_eq_true h7, cnd_true]
    refine mm true (fun r hr => ?_) (decide_eq_true h7)
    simp only [decide_eq_true_eq] at hr
    rw [← hr]; exact H
  · rw [if_neg h7] at H
    rw [eql_str]
    by_cases h8 : l = [109, 97, 120]
    · rw [if_pos h8] at H
      rw [decide_eq_true h8, cnd_true]
      refine mm false (fun r hr => ?_) (decide_eq_false h7)
      simp only [decide_eq_false_iff_not] at hr
      have : r = if 0 < cmpQ p q then p else q := by
        rw [← hr]
        by_cases hc : 0 < cmpQ p q
        · rw [if_pos hc, if_neg (fun h => h hc)]
        · rw [if_neg hc, if_pos hc]
      rw [this]; exact H
    · rw [if_neg h8] at H
      rw [decide_eq_false h8, cnd_false, bld_Dyadic0]
      exact ret (DQ.zero w2) (Ext.refl _) (by decide) (by decide) H

/-! ### stacks of the reference's numbers -/
theorem DL.push2 {base : Nat} {v : Value} {lo hi : Nat} {qs : List Rat} {KW : Value → World → Prop} {ty : TypeId} {u : Value} {q : Rat} (h : DL w base v lo hi qs) (hu : DQ w u lo hi q) (hbase : base ≤ w.heap.size) (hn : qs.length ≤ 1048576)
    (H : ∀ v' w', DL w' base v' lo hi (qs ++ [q]) → (∀ {w0}, Ext w0 w → w0.heap.size ≤ base → Ext w0 w') → KW v' w') : bsl P t_s_impl_Dyadic 1 [(0, u)] w fun x w1 => Ext w w1 ∧ bl2 P .append #[t_s_impl_Dyadic, t_s_impl_Dyadic] ty [v, x] w1 KW := by
  have hu0 := hu
  obtain ⟨m, e, ⟨s, l, rfl, hl, hw⟩, hc⟩ := hu
  refine bsl_Dy ?_
  have he := Ext_alloc w (.cells #[.int .i64 m.sign, s, .int .i64 e] t_impl_Dyadic)
  refine ⟨he, ?_⟩
  have hrow : Row 3 (w.alloc (.cells #[.int .i64 m.sign, s, .int .i64 e] t_impl_Dyadic)) (.slice (some ⟨w.heap.size, 0, none⟩) 1 1) 1 [.int .i64 m.sign, s, .int .i64 e] := by
    refine ⟨rfl, by decide, _, _, rfl, fun _ => ⟨w.heap.size, 0, rfl, fun j u hj => ?_⟩⟩
    match j, hj with
    | 0, hj => cases hj; simp only [World.cell?, heap_new]; rfl
    | 1, hj => cases hj; simp only [World.cell?, heap_new]; rfl
    | 2, hj => cases hj; simp only [World.cell?, heap_new]; rfl
    | _ + 3, hj => simp at hj
  refine SL.push (a := q) h hrow rfl (one_3 rfl (sl_one (IR.sl hl.toIR)) rfl) he hbase (fun w' c a row hr hk hg ht => ?_) hu0 u_s_impl_Dyadic i_impl_Dyadic rfl (by decide) hn (by decide) fun v' w' h' hg hk => ?_
  · exact DQ.kt (DQ.ext hr he) hg ht (by decide)
  · exact H v' w' h' fun he0 hs => ext_of_grown (he0.trans he) (fun k hk' => Nat.le_trans hs (hk k hk')) hg
theorem DL.at {base : Nat} {v : Value} {lo hi : Nat} {qs : List Rat} {K : Value → Prop} {k : IntKind} {i : Nat} (h : DL w base v lo hi qs) (hi' : i < qs.length) (H : ∀ u, DQ w u lo hi qs[i] → K u) :
    ixa P t_s_impl_Dyadic v (.int k (i : Int)) w (fun a => ld P t_impl_Dyadic a w K) :=
  SL.at h hi' u_s_impl_Dyadic i_impl_Dyadic u_impl_Dyadic rfl fun c hc => H _ hc
theorem DL.len {base : Nat} {v : Value} {lo hi : Nat} {qs : List Rat} {ty : TypeId} {K : Value → Prop} (h : DL w base v lo hi qs) : bl0 P .len #[t_s_impl_Dyadic] ty [v] w K = K (.int .i64 qs.length) := SL.len h u_s_impl_Dyadic
theorem DL.nil0 {lo hi : Nat} {KW : Value → World → Prop} (H : ∀ v w', Ext w w' → DL w' w.heap.size v lo hi [] → KW v w') : bsl P t_s_impl_Dyadic 0 [] w KW := SL.nil u_s_impl_Dyadic i_impl_Dyadic H
theorem DL.take {base : Nat} {v : Value} {lo hi : Nat} {qs : List Rat} {K : Value → Prop} {ik : IntKind} {k : Nat} (h : DL w base v lo hi qs) (hk : k ≤ qs.length) (H : ∀ v', DL w base v' lo hi (qs.take k) → K v') :
    sli P t_s_impl_Dyadic v none (some (.int ik (k : Int))) none w K := SL.take h hk u_s_impl_Dyadic i_impl_Dyadic H
/-- The whole part of an element, and its exponent. -/
theorem DL.parts {base : Nat} {v : Value} {lo hi : Nat} {qs : List Rat} {i : Nat} (h : DL w base v lo hi qs) (hi' : i < qs.length) : ∃ (u : Value) (m e : Int), Wr w u m ∧ Cn lo hi qs[i] m e ∧
    (∀ {k : IntKind} {K : Value → Prop}, K u → ixa P t_s_impl_Dyadic v (.int k (i : Int)) w (fun a => fda P t_impl_Dyadic a 0 w fun y => ld P t_impl_Whole y w K)) ∧
    (∀ {k : IntKind} {K : Value → Prop}, K (.int .i64 e) → ixa P t_s_impl_Dyadic v (.int k (i : Int)) w (fun a => fda P t_impl_Dyadic a 1 w fun y => ld P t_int64 y w K)) := by
  obtain ⟨cs, h1, h2, h3, h4⟩ := h
  have hi2 : i < cs.length := by omega
  obtain ⟨m, e, ⟨s, l, hv, hl, hw⟩, hc⟩ := h4 i hi2 hi'
  simp only [Value.agg.injEq] at hv
  have hcs : cs[i] = [.int .i64 m.sign, s, .int .i64 e] := by
    have := congrArg Array.toList hv
    simpa using this
  have hx : ∀ j u, cs[i][j]? = some u → cs.flatten[i * 3 + j]? = some u := fun j u hj => flatten_get h2 hi2 hj
  rw [hcs] at hx
  have hr := owns_Row h3
  refine ⟨.agg #[.int .i64 m.sign, s], m, e, ⟨s, l, rfl, hl, hw⟩, hc, fun {k K} H => ?_, fun {k K} H => ?_⟩
  · obtain ⟨r1, r2, a, cap, rfl, r3⟩ := hr
    obtain ⟨bk, o, rfl, hcell⟩ := r3 (by omega)
    rw [ixa_slice u_s_impl_Dyadic i_impl_Dyadic (by omega) (by omega), d_impl_Dyadic_0, addr_zero]
    rw [ld_agg u_impl_Whole rfl i_impl_Whole (cs := [.int .i64 m.sign, s]) rfl (fun j u hj => ?_)]
    · exact H
    · rw [Addr.add_lit, Int.toNat_natCast, Nat.add_assoc]
      match j, hj with
      | 0, hj => exact hcell _ u (hx 0 u hj)
      | 1, hj => exact hcell _ u (hx 1 u hj)
      | _ + 2, hj => simp at hj
  · exact Vc.Row.fld (off := 2) hr hi' (hx 2 _ rfl) u_s_impl_Dyadic i_impl_Dyadic u_impl_Dyadic rfl i_int64 u_int64 rfl H
theorem DQ.fit {v : Value} {lo hi : Nat} {q : Rat} (h : DQ w v lo hi q) (hf : fitQ q) : DQ w v 3000 5400 q := by
  obtain ⟨m, e, hd, hc⟩ := h
  exact ⟨m, e, hd, hc.canon, fits_bd hc ((dyOut_eq hc).symm.trans hf), hc.val⟩
theorem DQ.Ex {v : Value} {lo hi : Nat} {q : Rat} (h : DQ w v lo hi q) : Ex q := let ⟨m, e, _, hc⟩ := h; ⟨lo, hi, m, e, hc⟩
theorem fq_fit {b : Nat} (hf : Vc.Fin Ieee.single b) {lo hi : Nat} {v : Value} (h : DQ w v lo hi (fq b)) (h1 : lo ≤ 3000) (h2 : hi ≤ 2400) (h3 : lo + hi ≤ 2400) : fitQ (fq b) := by
  obtain ⟨m, e, hd, hc⟩ := h
  rw [hc.fit]
  have b1 := hc.bd.bl
  have b2 := hc.bd.low
  have b3 := hc.bd.top
  exact ⟨by omega, by omega, by omega⟩
end Go.Proofs.YtjompmflommadaaGreatDoor

/- Contracts: the reference's exact run; RunExact. -/
set_option linter.unusedVariables false
set_option linter.unusedSimpArgs false
namespace Go.Proofs.YtjompmflommadaaGreatDoor
open Go Go.Vc

variable {w : World} {K : Value → World → Prop}

set_option maxRecDepth 20000 in
theorem c_l08Exact {v vv : Value} {ws : List (List UInt8)} {vs : List Nat} {m : Int} (h : I_Program w v ws) (hd : depF ws = some m) (hv : FS w vv vs) (hfin : ∀ b ∈ vs, b < 4294967296 ∧ Vc.Fin Ieee.single b)
    (hn : ndS ws ws.length ≤ (vs.length : Int))
    (H : ∀ v' w', Ext w w' → (((exM vs).res ws).2 = 0 → fitQ ((exM vs).res ws).1) → DQ w' v' 6000 10800 ((exM vs).res ws).1 → K (.tuple #[v', .int .i64 ((exM vs).res ws).2]) w') :
    call P f_spec_l08Exact [v, vv] w K := by
  obtain ⟨s, rfl, hs⟩ := h
  obtain ⟨mm, hdp, rfl, hlen, hlen1⟩ := depF_dpS hd
  refine I_spec_l08Exact ?_
  unfold D_spec_l08Exact
  refine bx_pr fun x2 w1 b2 e1 => ?_
  refine alc_DC fun x4 w2 d4 e2 => ?_
  have E2 := e1.trans e2
  have b2 := b2.ext e2
  have hs := hs.ext E2
  have hv := hv.ext E2
  have s12 := e1.size
  refine DL.nil0 (lo := 3000) (hi := 5400) fun v13 w3 e3 hst => ?_
  refine ⟨fun g x6 x7 w' => ∃ (i : Nat) (st : List Rat) (b : Int), x7 = .int .i64 i ∧ g + i = ws.length ∧ (exM vs).run ws i = (st, 0) ∧ dpS ws i = some ((st.length : Int), b) ∧ (∀ q ∈ st, fitQ q) ∧ Ext w2 w' ∧ DL w' w2.heap.size x6 3000 5400 st,
    ⟨ws.length, 0, [], 0, rfl, by omega, rfl, rfl, (fun q hq => by cases hq), e3, hst⟩, ?_⟩
  rintro g x6 x7 junk w8 ⟨i, st, b, rfl, hg, hrun, hdi, hfit, e8, hst⟩
  have hrg := dpS_range ws i _ _ hdi
  have hs8 := hs.ext e8
  have hv8 := hv.ext e8
  have b28 := b2.ext e8
  have s8 := e8.size
  refine pr_w b28 ?_
  rw [hs8.len, bin_lss]
  refine cnd_dec (fun hlt => ?_) (fun hge => ?_)
  · have hi : i < ws.length := by omega
    refine pr_w b28 ?_
    refine hs8.at hi ?_
    rw [hst.len]
    have hl := hs8.le hi
    refine c_l08Needs hl fun w9 e9 => ?_
    have hvl := var_lt hn hi
    obtain ⟨f0, f1, hd1⟩ := dep_step hd hi hdi
    have hsucc := (exM vs).succ ws hrun
    rw [getD_w hi] at hsucc
    rw [bin_eql]
    refine cnd_dec (fun hf => ?_) (fun hf => ?_)
    · refine c_l08Leaf (hv8.ext e9) hl hvl hf fun w10 e10 => ?_
      obtain ⟨p1, p2⟩ := leafB_fin (l := ws[i]) hfin
      refine c_l03Of p2 p1 fun u w11 e11 hu => ?_
      have E := e9.trans (e10.trans e11)
      have hf1 := fq_fit p2 hu (by decide) (by decide) (by decide)
      refine (hst.ext E).push (hu.mono (by decide) (by decide)) (Nat.le_trans s8 E.size) (by omega) fun v' w12 hst' he => ?_
      rw [bin_add, wrap_i64 (by omega) (by omega)]
      refine ⟨g - 1, by omega, i + 1, st ++ [fq (leafB vs ws[i])], max b ((st.length : Int) + 1 - form0 ws[i]), rfl, by omega, ?_, ?_, ?_, he (e8.trans E) (Nat.le_refl _), hst'⟩
      · rw [hsucc]; unfold Mach.step; rw [if_pos hf]; rfl
      · rw [hd1, hf]; simp
      · intro q hq
        rcases List.mem_append.1 hq with hq | hq
        · exact hfit q hq
        · rw [List.mem_singleton] at hq; rw [hq]; exact hf1
    · have hpos : 0 < st.length := by omega
      have hfr := form_range ws[i]
      generalize hR : (if form0 ws[i] = 1 then exOne ws[i] (st.getD (st.length - 1) 0) else exTwo ws[i] (st.getD (st.length - 2) 0) (st.getD (st.length - 1) 0)) = R
      have hstep : (exM vs).run ws (i + 1) = (st.take (st.length - (form0 ws[i]).toNat) ++ [R.1], R.2) := by
        rw [hsucc]
        unfold Mach.step
        rw [if_neg hf, ← hR]
        split
        · rename_i h1
          rw [h1]; rfl
        · rename_i h1
          have : form0 ws[i] = 2 := by omega
          rw [this]; rfl
      have ht : st.length - 1 < st.length := by omega
      have hn' : st.length - (form0 ws[i]).toNat < st.length := by omega
      have hst9 := hst.ext e9
      have hRx : Ex st[st.length - 1] → exlK ws[i] st[st.length - (form0 ws[i]).toNat] st[st.length - 1] = R := fun hx => by
        rw [← hR]
        split
        · rename_i h1
          have : st.length - (form0 ws[i]).toNat = st.length - 1 := by rw [h1]; rfl
          simp only [this]
          rw [getA_lt ht]
          exact exl_one h1 hx (hfit _ (List.getElem_mem ht))
        · rename_i h1
          have h2 : form0 ws[i] = 2 := by omega
          have : st.length - (form0 ws[i]).toNat = st.length - 2 := by rw [h2]; rfl
          simp only [this]
          rw [getA_lt ht, getA_lt (by omega)]
          exact exl_two h2 (hfit _ (List.getElem_mem _)) (hfit _ (List.getElem_mem _))
      -- what follows the word's result
      refine ⟨fun x11 x12 w' => ∃ gg, w9.heap.size ≤ gg ∧ Ext w9 w' ∧ Ex st[st.length - 1] ∧ DV w' gg x11 6000 10800 ((exlR ws[i] st[st.length - (form0 ws[i]).toNat] st[st.length - 1]).getD 0) ∧ x12 = .bool (exlR ws[i] st[st.length - (form0 ws[i]).toNat] st[st.length - 1]).isSome, ?_, ?_⟩
      · rintro x11 x12 junk w14 ⟨gg, hgg, e14, hx, v11, rfl⟩
        have hRR := hRx hx
        have E214 := e8.trans (e9.trans e14)
        rw [una_not]
        have fail : ∀ {w15 : World} {c : Int}, Ext w14 w15 → c ≠ 0 → R.2 = c → bld P t_impl_Dyadic [] w15 fun x => sto P t_impl_Dyadic x4 x w15 fun w16 => ldc P t_impl_Dyadic x4 w16 fun r => K (.tuple #[r, .int .i64 c]) w16 := fun e15 hc hRc => by
          refine dz_ret (d4.ext (E214.trans e15)) fun v' w16 g16 hz => ?_
          have hres := (exM vs).bad ws (i := i + 1) (by omega) (by rw [hstep, hRc]; exact hc)
          rw [hstep, hRc] at hres
          rw [hres] at H
          exact H _ w16 (ext_gr (E2.trans (E214.trans e15)) s12 g16) (fun h0 => absurd h0 hc) (hz.mono (by decide) (by decide))
        cases hex : exlR ws[i] st[st.length - (form0 ws[i]).toNat] st[st.length - 1] with
        | none =>
          refine cnd_yes rfl ?_
          refine fail (Ext.refl _) (by decide) ?_
          rw [← hRR]; unfold exlK; rw [hex]
        | some r =>
          rw [hex] at v11
          have hRr : R = keepQ r := by rw [← hRR]; unfold exlK; rw [hex]
          refine cnd_no rfl ?_
          refine v11.get fun u hu => ?_
          obtain ⟨m1, e1', hd1', hc1⟩ := hu
          refine c_l03Is hd1' hc1.canon fun w15 e15 => ?_
          rw [una_not]
          refine cnd_split (fun hb => ?_) (fun hb => ?_)
          · refine fail e15 (by decide) ?_
            have hnf : ¬ fitsD m1 e1' := by simpa using hb
            rw [hRr]
            show (dyOut r).2 = 3
            have hd2 : (dyOut r).2 = (dyR m1 e1').2 := dyOut_eq hc1
            rw [hd2]; unfold dyR; rw [if_neg hnf]
          · have hff : fitQ r := hc1.fit.2 (by simpa using hb)
            have hR0 : R = (r, 0) := by rw [hRr]; exact fitQ_keep hff
            rw [bin_sub, wrap_i64 (by omega) (by omega), show ((st.length : Int) - form0 ws[i]) = ((st.length - (form0 ws[i]).toNat : Nat) : Int) by omega]
            have E15 := e9.trans (e14.trans e15)
            refine (hst.ext E15).take (by omega) fun v97 hst97 => ?_
            refine (v11.ext e15).get fun u98 hu98 => ?_
            refine hst97.push2 (hu98.fit hff) (Nat.le_trans s8 E15.size) (by simp; omega) fun v' w16 hst' he => ?_
            rw [bin_add, wrap_i64 (by omega) (by omega)]
            refine ⟨g - 1, by omega, i + 1, st.take (st.length - (form0 ws[i]).toNat) ++ [r], max b ((st.length : Int) + 1 - form0 ws[i]), rfl, by omega, ?_, ?_, ?_, he (e8.trans E15) (Nat.le_refl _), hst'⟩
            · rw [hstep, hR0]
            · have el : (((st.take (st.length - (form0 ws[i]).toNat) ++ [r]).length : Nat) : Int) = (st.length : Int) + 1 - form0 ws[i] := by simp; omega
              rw [hd1, el]
            · intro q hq
              rcases List.mem_append.1 hq with hq | hq
              · exact hfit q (List.mem_of_mem_take hq)
              · rw [List.mem_singleton] at hq; rw [hq]; exact hff
      · rw [bin_sub, wrap_i64 (by omega) (by omega), show ((st.length : Int) - form0 ws[i]) = ((st.length - (form0 ws[i]).toNat : Nat) : Int) by omega]
        refine hst9.at (i := st.length - (form0 ws[i]).toNat) hn' fun u hu => ?_
        rw [bin_sub, wrap_i64 (by omega) (by omega), show ((st.length : Int) - 1) = ((st.length - 1 : Nat) : Int) by omega]
        refine hst9.at (i := st.length - 1) ht fun u2 hu2 => ?_
        refine ⟨?_, ?_⟩
        · refine c_l08Exactly hu hu2 fun v' w10 e10 hq => ?_
          rw [xtr_0, xtr_1]
          refine alc_DC fun x11 w11 d11 e11 => ?_
          refine ⟨e11, ?_⟩
          refine d11.put (hq.ext e11) fun w12 v12 g12 _ => ?_
          rw [xtr_1]
          exact ⟨rfl, w10.heap.size, e10.size, ext_gr (e10.trans e11) e10.size g12, hu2.Ex, v12, rfl⟩
        · refine alc_DC fun x11 w11 d11 e11 => ?_
          refine ⟨e11, ?_⟩
          refine c_l08Exactly (hu.ext e11) (hu2.ext e11) fun v' w10 e10 hq => ?_
          rw [xtr_0, xtr_1]
          refine (d11.ext e10).put hq fun w12 v12 g12 _ => ?_
          rw [xtr_1]
          exact ⟨rfl, w9.heap.size, Nat.le_refl _, ext_gr (e11.trans e10) (Nat.le_refl _) g12, hu2.Ex, v12, rfl⟩
  · have hi : i = ws.length := by omega
    subst hi
    rw [hdp] at hdi
    simp only [Option.some.injEq, Prod.mk.injEq] at hdi
    have h1 : st.length = 1 := by omega
    obtain ⟨u, m1, e1', hu, hc, hp0, hp1⟩ := hst.parts (i := 0) (by omega)
    refine hp0 ?_
    refine hp1 ?_
    refine c_l03Make hu hc.bd (by decide) (by decide) fun v' w9 m' e' e9 ho hc' => ?_
    rw [← hc.val] at hc'
    have hres : (exM vs).res ws = (st[0], 0) := by
      unfold Mach.res
      rw [hrun]
      simp only [if_true]
      rw [getA_lt]
    rw [hres] at H
    refine dv_ret (d4.ext (e8.trans e9)) ⟨m', e', ho.Dr, hc'⟩ fun v' w10 g10 hq => ?_
    exact H v' w10 (ext_gr (E2.trans (e8.trans e9)) s12 g10) (fun _ => hfit _ (List.getElem_mem _)) (hq.mono (by decide) (by decide))

/-! ### RunExact -/
noncomputable def runEF (ws : List (List UInt8)) (vs : List Nat) : DY × Int :=
  if askF ws (vs.all finB) vs.length = 0 then (if ((exM vs).res ws).2 = 0 then dyOut ((exM vs).res ws).1 else ((0, [], 0), ((exM vs).res ws).2)) else ((0, [], 0), askF ws (vs.all finB) vs.length)
theorem small_RunExact_0 (ws : List (List UInt8)) (vs : List Nat) : cnt_Dyadic (runEF ws vs).1 ≤ 45812984491 := by
  unfold runEF
  split
  · split
    · exact small_dyOut _
    · simp [cnt_Dyadic]
  · simp [cnt_Dyadic]
theorem ask_zero {ws : List (List UInt8)} {vs : List Nat} (h : askF ws (vs.all finB) vs.length = 0) : (∃ m, depF ws = some m) ∧ (∀ b ∈ vs, Vc.Fin Ieee.single b) ∧ ndS ws ws.length ≤ (vs.length : Int) ∧ vs.length ≤ 3 := by
  unfold askF at h
  split at h
  · cases h
  · rename_i h1
    split at h
    · cases h
    · rename_i h2
      have a1 : isPF ws = true := by cases hh : isPF ws; exact absurd (.inl hh) h1; rfl
      have a2 : vs.all finB = true := by cases hh : vs.all finB; exact absurd (.inr hh) h1; rfl
      refine ⟨Option.isSome_iff_exists.1 a1, fun b hb => finB_iff.1 (List.all_eq_true.1 a2 b hb), by omega, by omega⟩
theorem p_RunExact {a v : Value} {ws : List (List UInt8)} {vs : List Nat} (ha : I_Program w a ws) (hv0 : I_Float32S w v vs)
    (H : ∀ u w', Ext w w' → O_Dyadic w' w.heap.size w'.heap.size u (runEF ws vs).1 → K (.tuple #[u, .int .i64 (runEF ws vs).2]) w') : call P f_impl_RunExact [a, v] w K := by
  have hv : FS w v vs := hv0
  obtain ⟨s, rfl, hs⟩ := ha
  refine I_impl_RunExact ?_
  unfold D_impl_RunExact
  refine bx_pr fun x2 w1 b2 e1 => ?_
  refine alc_Dy fun x4 w2 ⟨cs, hcs, b4⟩ e2 => ?_
  have E2 := e1.trans e2
  have s1 := e1.size
  have b2 := b2.ext e2
  have hs := hs.ext E2
  have hv := hv.ext E2
  have hvb := hv.bound
  refine pr_all b2 ?_
  rw [hv.row.len u_s_float32]
  refine c_areFinite hv ?_
  refine ⟨Ext.refl _, ?_⟩
  refine c_asked ⟨s, rfl, hs⟩ fun w3 e3 => ?_
  have E3 := E2.trans e3
  have b2 := b2.ext e3
  have b4 := b4.ext e3
  have hs := hs.ext e3
  have hv := hv.ext e3
  have bad : ∀ {w4 : World} (c : Int), Ext w3 w4 → runEF ws vs = ((0, [], 0), c) → bld P t_impl_Dyadic [] w4 fun x => sto P t_impl_Dyadic x4 x w4 fun w5 => ldc P t_impl_Dyadic x4 w5 fun r => K (.tuple #[r, .int .i64 c]) w5 := fun c e4 hc => by
    rw [bld_Dyadic0]
    refine dy_ret (b4.ext e4) hcs rfl fun w5 g5 => ?_
    have e5 : Ext w w5 := ext_of_grown (E3.trans e4) (fun g hg => Nat.le_trans s1 ((b4.ext e4).blk_lt hg).1) g5
    rw [hc] at H
    exact H _ _ e5 (O_zero _ _ _)
  rw [bin_neq]
  refine cnd_dec (fun hne => bad _ (Ext.refl _) (by unfold runEF; rw [if_neg hne])) (fun heq => ?_)
  have h0 : askF ws (vs.all finB) vs.length = 0 := by simpa using heq
  obtain ⟨⟨m, hd⟩, hfin, hn, hn3⟩ := ask_zero h0
  have hfin' : ∀ b ∈ vs, b < 4294967296 ∧ Vc.Fin Ieee.single b := fun b hb => ⟨hv.lt b hb, hfin b hb⟩
  have hr : runEF ws vs = if ((exM vs).res ws).2 = 0 then dyOut ((exM vs).res ws).1 else ((0, [], 0), ((exM vs).res ws).2) := by unfold runEF; rw [if_pos h0]
  refine NL.nil0 (lo := 3000) (hi := 5400) fun v22 w4 e4 hst => ?_
  rw [(hv.ext e4).row.len u_s_float32]
  refine ⟨fun g x7 x25 w' => ∃ i : Nat, x25 = .int .i64 i ∧ g + i = vs.length ∧ Ext w3 w' ∧ NL w' w3.heap.size x7 3000 5400 ((vs.take i).map fq), ⟨vs.length, 0, rfl, rfl, e4, by simpa using hst⟩, ?_⟩
  rintro g x7 x25 junk w5 ⟨i, rfl, hg, e5, hst⟩
  rw [bin_lss]
  refine cnd_dec (fun hlt => ?_) (fun hge => ?_)
  · have hi : i < vs.length := by omega
    have s5 := e5.size
    refine (hv.ext e5).at hi ?_
    obtain ⟨p1, p2⟩ := hfin' vs[i] (List.getElem_mem hi)
    refine c_numOfm p1 fun u w6 e6 hu => ?_
    refine c_num_odd hu (f_bd p2) (by decide) (by decide) fun u2 w7 m' e' e7 hn' hc => ?_
    have E7 := e6.trans e7
    refine (hst.ext E7).push ⟨m', e', hn', hc.bd.mono (show 149 ≤ 3000 by decide) (show 128 ≤ 5400 by decide), hc.val⟩ (Nat.le_trans s5 E7.size) (by simp; omega) fun v' w8 hst' he => ?_
    rw [bin_add, wrap_i64 (by omega) (by omega)]
    refine ⟨g - 1, by omega, i + 1, rfl, by omega, he (e5.trans E7) (Nat.le_refl _), ?_⟩
    rw [List.take_succ_eq_append_getElem hi, List.map_append]
    exact hst'
  · have hi : i = vs.length := by omega
    subst hi
    rw [List.take_length] at hst
    refine pr_all (b2.ext e5) ?_
    rw [show bld P t_kind_impl_num [(0, (.func (.func f_impl_RunExact_1) #[] #[])), (1, (.func (.func f_impl_exactOne) #[] #[])), (2, (.func (.func f_impl_exactTwo) #[] #[]))] w5 = _ from funext fun K => bld_of (v := .agg #[fnv f_impl_RunExact_1, fnv f_impl_exactOne, fnv f_impl_exactTwo]) (by kernel_rfl)]
    refine c_run_num ⟨s, rfl, hs.ext e5⟩ hd hst hfin' hn fun v' w6 e6 hsh hq => ?_
    rw [xtr_0, xtr_1]
    refine alc_NC fun x10 w7 n10 e7 => ?_
    refine n10.putr hsh fun w8 g8 _ n10' hnv => ?_
    have e8 : Ext w6 w8 := ext_gr e7 (Nat.le_refl _) g8
    have E8 := e5.trans (e6.trans e8)
    rw [bin_neq]
    refine cnd_dec (fun hne => bad _ E8 ?_) (fun heq => ?_)
    · rw [hr, if_neg hne]
    · have hc0 : ((exM vs).res ws).2 = 0 := by simpa using heq
      rw [if_pos hc0] at hr
      refine (hnv ((hq hc0).ext e7)).get fun u hu => ?_
      refine c_num_dyadic hu (by decide) (by decide) fun v9 w9 n e e9 hc hdo => ?_
      rw [xtr_0, xtr_1]
      have E9 := E3.trans (E8.trans e9)
      obtain ⟨s9, l9, hv9, ho9, hw9⟩ := hdo
      have b4 := (b4.ext E8).ext e9
      subst hv9
      refine dy_ret b4 hcs (own_one ho9) fun w10 g10 => ?_
      have e10 : Ext w w10 := ext_of_grown E9 (fun g hg => Nat.le_trans s1 (b4.blk_lt hg).1) g10
      have o10 := keep_row ho9.own g10 (Ty.box b4) (by decide)
      rw [hr] at H
      unfold dyOut at H
      rw [hc.cnQ] at H
      exact H _ _ e10 (Do.O ⟨s9, l9, rfl, ⟨owns_base o10 (E3.trans E8).size, fun k hk => Nat.lt_of_lt_of_le (ho9.top k hk) g10.size⟩, hw9⟩)
theorem s_RunExact {a v : Value} {ws : List (List UInt8)} {vs : List Nat} (ha : I_Program w a ws) (hv0 : I_Float32S w v vs)
    (H : ∀ u w', Ext w w' → I_Dyadic w' u (runEF ws vs).1 → K (.tuple #[u, .int .i64 (runEF ws vs).2]) w') : call P f_spec_RunExact [a, v] w K := by
  have hv : FS w v vs := hv0
  obtain ⟨s, rfl, hs⟩ := ha
  refine I_spec_RunExact ?_
  unfold D_spec_RunExact
  refine bx_pr fun x2 w1 b2 e1 => ?_
  refine alc_DC fun x4 w2 d4 e2 => ?_
  have E2 := e1.trans e2
  have s1 := e1.size
  have b2 := b2.ext e2
  have hs := hs.ext E2
  have hv := hv.ext E2
  refine pr_all b2 ?_
  refine c_l08Code ⟨s, rfl, hs⟩ hv fun w3 e3 => ?_
  have E3 := E2.trans e3
  have b2 := b2.ext e3
  have d4 := d4.ext e3
  have hs := hs.ext e3
  have hv := hv.ext e3
  rw [bin_neq]
  refine cnd_dec (fun hne => ?_) (fun heq => ?_)
  · have hr : runEF ws vs = ((0, [], 0), askF ws (vs.all finB) vs.length) := by unfold runEF; rw [if_neg hne]
    rw [bld_Dyadic0]
    refine d4.put (DQ.zero w3) fun w4 v4 g4 _ => ?_
    refine v4.getc fun u hu => ?_
    rw [hr] at H
    obtain ⟨m, e, hd, hc⟩ := hu
    have := hd.I
    have hz : Cn 0 0 0 0 0 := ⟨.inl ⟨rfl, rfl⟩, Bd.zero _ _, (dy_zero 0).symm⟩
    have h1 := hc.cnQ
    have h2 := hz.cnQ
    rw [h1] at h2
    simp only [Prod.mk.injEq] at h2
    rw [h2.1, h2.2, dyV_zero] at this
    exact H _ _ (ext_gr E3 s1 g4) this
  have h0 : askF ws (vs.all finB) vs.length = 0 := by simpa using heq
  obtain ⟨⟨m, hd⟩, hfin, hn, hn3⟩ := ask_zero h0
  have hfin' : ∀ b ∈ vs, b < 4294967296 ∧ Vc.Fin Ieee.single b := fun b hb => ⟨hv.lt b hb, hfin b hb⟩
  have hr : runEF ws vs = if ((exM vs).res ws).2 = 0 then dyOut ((exM vs).res ws).1 else ((0, [], 0), ((exM vs).res ws).2) := by unfold runEF; rw [if_pos h0]
  refine pr_all b2 ?_
  refine c_l08Exact ⟨s, rfl, hs⟩ hd hv hfin' hn fun v' w4 e4 hfit hq => ?_
  rw [xtr_0, xtr_1]
  refine alc_DC fun x7 w5 d7 e5 => ?_
  refine d7.put (hq.ext e5) fun w6 v6 g6 _ => ?_
  have e6 : Ext w4 w6 := ext_gr e5 (Nat.le_refl _) g6
  refine v6.get fun u hu => ?_
  refine (d4.ext (e4.trans e6)).put hu fun w7 v7 g7 _ => ?_
  refine v7.getc fun u hu => ?_
  have E7 : Ext w w7 := ext_gr (E3.trans (e4.trans e6)) s1 g7
  obtain ⟨mm, ee, hd7, hc7⟩ := hu
  rw [hr] at H
  by_cases hc0 : ((exM vs).res ws).2 = 0
  · rw [if_pos hc0] at H
    have hf := hfit hc0
    have hff := hc7.fit.1 hf
    rw [hc0]
    have h2 : (dyOut ((exM vs).res ws).1).2 = 0 := hf
    have h1 : (dyOut ((exM vs).res ws).1).1 = dyV mm ee := by
      unfold dyOut; rw [hc7.cnQ]; unfold dyR; simp only; rw [if_pos hff]
    rw [h1, h2] at H
    exact H _ _ E7 hd7.I
  · rw [if_neg hc0] at H
    have hz : ((exM vs).res ws).1 = 0 := by
      unfold Mach.res at hc0 ⊢
      split
      · rename_i hx; rw [if_pos hx] at hc0; exact absurd rfl hc0
      · rfl
    rw [hz] at hc7
    have hz : Cn 0 0 0 0 0 := ⟨.inl ⟨rfl, rfl⟩, Bd.zero _ _, (dy_zero 0).symm⟩
    have h1 := hc7.cnQ
    have h2 := hz.cnQ
    rw [h1] at h2
    simp only [Prod.mk.injEq] at h2
    have := hd7.I
    rw [h2.1, h2.2, dyV_zero] at this
    exact H _ _ E7 this
end Go.Proofs.YtjompmflommadaaGreatDoor

/- The interface for lists of texts and programs. -/
set_option linter.unusedVariables false
set_option linter.unusedSimpArgs false
namespace Go.Proofs.YtjompmflommadaaGreatDoor
open Go Go.Vc

variable {w : World} {K : Value → World → Prop} {lo hi : Nat} {v : Value}

/-! ### lists of texts -/
structure A_StringS (w : World) (v : Value) (l : List (List UInt8)) : Prop where
  row : Row 1 w v l.length (l.map str)
  lt : ∀ s ∈ l, s.length ≤ 9223372036854775807
  cap : CapOk v
theorem A_StringS.ext {w' : World} {l : List (List UInt8)} (h : A_StringS w v l) (he : Ext w w') : A_StringS w' v l := ⟨h.row.ext he, h.lt, h.cap⟩
theorem A_StringS.N {l : List (List UInt8)} (h : A_StringS w v l) : A_StringS (Vc.N w) v l := ⟨h.row, h.lt, h.cap⟩
theorem A_StringS.bound {l : List (List UInt8)} (h : A_StringS w v l) : l.length ≤ 9223372036854775807 := by have := h.row.bound; simp only [maxLen] at this; omega
theorem A_StringS.at {l : List (List UInt8)} {k : IntKind} {i : Nat} {K : Value → Prop} (h : A_StringS w v l) (hi : i < l.length) (H : K (str l[i])) : ixa P t_s_string v (.int k (i : Int)) w (fun a => ld P t_string a w K) :=
  h.row.at1 (by rw [List.getElem?_map, List.getElem?_eq_getElem hi]; rfl) u_s_string i_string u_string rfl H
abbrev I_StringS := SS
def O_StringS (w : World) (lo hi : Nat) (v : Value) (l : List (List UInt8)) : Prop := OwnR w lo hi t_string 1 v l.length (l.map str) ∧ ∀ s ∈ l, s.length ≤ 1048576
theorem O_StringS.ext {l : List (List UInt8)} {w' : World} (h : O_StringS w lo hi v l) (he : Ext w w') : O_StringS w' lo hi v l := ⟨h.1.ext he, h.2⟩
theorem O_StringS.chg {l : List (List UInt8)} {w' : World} {lo' hi' : Nat} (h : O_StringS w lo hi v l) (hc : Chg lo' hi' w w') (hd : hi ≤ lo' ∨ hi' ≤ lo) : O_StringS w' lo hi v l := ⟨h.1.chg hc hd, h.2⟩
theorem O_StringS.I {l : List (List UInt8)} (h : O_StringS w lo hi v l) : I_StringS w v l := ⟨owns_Row h.1.own, h.2, owns_cap h.1.own⟩
def totS (l : List (List UInt8)) : Nat := (l.map List.length).sum
def sz_StringS (l : List (List UInt8)) : Nat := l.length + totS l
def cnt_StringS (l : List (List UInt8)) : Nat := l.length
theorem cnt_sz_StringS (l : List (List UInt8)) : cnt_StringS l ≤ sz_StringS l := by unfold cnt_StringS sz_StringS; omega
theorem totS_take {l : List (List UInt8)} {i : Nat} (hi : i < l.length) : totS (l.take (i + 1)) = totS (l.take i) + l[i].length := by
  unfold totS
  rw [List.take_succ_eq_append_getElem hi, List.map_append, List.sum_append]
  simp
theorem totS_ge {l : List (List UInt8)} {s : List UInt8} (h : s ∈ l) : s.length ≤ totS l := by
  unfold totS
  induction l with
  | nil => cases h
  | cons a l ih =>
    rw [List.map_cons, List.sum_cons]
    rcases List.mem_cons.1 h with rfl | h
    · omega
    · have := ih h; omega
theorem len_StringS {l : List (List UInt8)} (h : A_StringS w v l) {ty : TypeId} {K : Value → Prop} : bl0 P .len #[t_s_string] ty [v] w K = K (.int .i64 (l.length : Nat)) := h.row.len u_s_string
theorem c_sz_StringS {l : List (List UInt8)} {left : Int} (h : A_StringS w v l) (h0 : 0 ≤ left) (h1 : left ≤ 1048576) (H : ∀ (r : Int) w', Ext w w' → (r = -1 ∨ ((sz_StringS l : Nat) : Int) ≤ left ∧ r = left - (sz_StringS l : Nat)) → K (.int .i64 r) w') : call P f_laws_szStringS [v, .int .i64 left] w K := by
  have H := fun r hr => H r w (Ext.refl _) hr
  refine I_laws_szStringS ?_
  unfold D_laws_szStringS
  have hb := h.bound
  have hs : sz_StringS l = l.length + totS l := rfl
  rw [len_StringS h, bin_sub, wrap_i64 (by omega) (by omega), bin_lss]
  refine cnd_dec (fun h2 => H _ (.inl rfl)) (fun h2 => ?_)
  refine ⟨fun k x y w' => w' = w ∧ ∃ i : Nat, y = .int .i64 i ∧ k + i = l.length ∧ x = .int .i64 (left - l.length - totS (l.take i)) ∧ 0 ≤ left - l.length - totS (l.take i), ⟨l.length, rfl, 0, rfl, by omega, by simp [totS], by simp [totS]; omega⟩, ?_⟩
  rintro k x y junk w' ⟨rfl, i, rfl, hm, rfl, hpos⟩
  rw [len_StringS h, bin_lss]
  refine cnd_dec (fun hlt => ?_) (fun hge => ?_)
  · have hi : i < l.length := by omega
    have e := totS_take hi
    have hl := h.lt _ (List.getElem_mem hi)
    refine h.at hi ?_
    rw [len_str u_string, bin_sub, wrap_i64 (by omega) (by omega), bin_lss]
    refine cnd_dec (fun h3 => H _ (.inl rfl)) (fun h3 => ?_)
    rw [bin_add, wrap_i64 (by omega) (by omega)]
    exact ⟨k - 1, by omega, rfl, i + 1, rfl, by omega, by congr 1; omega, by omega⟩
  · have ht : l.take i = l := List.take_of_length_le (by omega)
    rw [ht] at hpos ⊢
    exact H _ (.inr ⟨by omega, by omega⟩)
theorem c_to_StringS {l : List (List UInt8)} (h : A_StringS w v l) (hs : sz_StringS l ≤ 1048576) (H : ∀ v' w', Ext w w' → O_StringS w' w.heap.size w'.heap.size v' l → K v' w') : call P f_laws_toStringS [v] w K := by
  unfold sz_StringS at hs
  have hbits : ∀ s ∈ l, s.length ≤ 1048576 := fun s hm => by have := totS_ge hm; omega
  refine I_laws_toStringS ?_
  unfold D_laws_toStringS
  rw [len_StringS h]
  refine mks_intro u_s_string i_string rfl (by omega) (by simp only [maxLen]; omega) fun w1 v1 ho he => ?_
  refine ⟨fun m x w' => Ext w w' ∧ ∃ i : Nat, x = .int .i64 i ∧ m + i = l.length ∧ w'.ownsRow w.heap.size t_string 1 v1 l.length ((l.map str).take i ++ List.replicate (l.length - i) (str [])),
    ⟨l.length, he, 0, rfl, by omega, by simpa using ho⟩, ?_⟩
  rintro m x junk w2 ⟨e2, i, rfl, hm, ho2⟩
  have h2 := h.ext e2
  rw [len_StringS h2, bin_lss]
  refine cnd_dec (fun hlt => ?_) (fun hge => ?_)
  · have hi : i < l.length := by omega
    refine h2.at hi ?_
    refine owns_set ho2 hi rfl u_s_string i_string fun w4 ho4 g4 => ?_
    rw [bin_add, wrap_i64 (by omega) (by omega)]
    refine ⟨m - 1, by omega, ext_of_grown e2 (fun g hg => (ho2.lt g hg).1) g4, i + 1, rfl, by omega, ?_⟩
    have := replicate_set_take (l.map str) (str []) i (by simpa using hi)
    simp only [List.length_map, List.getElem_map] at this
    rw [this] at ho4
    exact ho4
  · have hi : i = l.length := by omega
    subst hi
    have e : (l.map str).take l.length = l.map str := List.take_of_length_le (by simp)
    simp only [Nat.sub_self, List.replicate_zero, List.append_nil, e] at ho2
    exact H _ _ e2 ⟨OwnR.of ho2, hbits⟩
set_option maxRecDepth 20000 in
theorem c_eq_StringS {u : Value} {l : List (List UInt8)} (h1 : I_StringS w u l) (h2 : I_StringS w v l) (H : ∀ w', Ext w w' → K (.bool true) w') : call P f_laws_eqStringS [u, v] w K := by
  refine I_laws_eqStringS ?_
  unfold D_laws_eqStringS
  have hb := h1.bound
  rw [h1.len, h2.len, bin_neq]
  refine cnd_dec (fun h1 => by omega) (fun _ => ?_)
  refine ⟨fun m x w' => w' = w ∧ ∃ i : Nat, x = .int .i64 i ∧ m + i = l.length, ⟨l.length, rfl, 0, rfl, by omega⟩, ?_⟩
  rintro m x junk w' ⟨rfl, i, rfl, hm⟩
  rw [h1.len, bin_lss]
  refine cnd_dec (fun hlt => ?_) (fun hge => H _ (Ext.refl _))
  have hi : i < l.length := by omega
  refine h1.at hi ?_
  refine h2.at hi ?_
  rw [neq_str]
  refine cnd_no (by simp) ?_
  rw [bin_add, wrap_i64 (by omega) (by omega)]
  exact ⟨m - 1, by omega, rfl, i + 1, rfl, by omega⟩

/-! ### programs -/
def A_Program (w : World) (v : Value) (l : List (List UInt8)) : Prop := ∃ s, v = .agg #[s] ∧ A_StringS w s l
theorem A_Program.ext {w' : World} {l : List (List UInt8)} (h : A_Program w v l) (he : Ext w w') : A_Program w' v l := let ⟨s, h1, h2⟩ := h; ⟨s, h1, h2.ext he⟩
theorem A_Program.N {l : List (List UInt8)} (h : A_Program w v l) : A_Program (Vc.N w) v l := let ⟨s, h1, h2⟩ := h; ⟨s, h1, h2.N⟩
def O_Program (w : World) (lo hi : Nat) (v : Value) (l : List (List UInt8)) : Prop := ∃ s, v = .agg #[s] ∧ O_StringS w lo hi s l
theorem O_Program.ext {l : List (List UInt8)} {w' : World} (h : O_Program w lo hi v l) (he : Ext w w') : O_Program w' lo hi v l := let ⟨s, h1, h2⟩ := h; ⟨s, h1, h2.ext he⟩
theorem O_Program.chg {l : List (List UInt8)} {w' : World} {lo' hi' : Nat} (h : O_Program w lo hi v l) (hc : Chg lo' hi' w w') (hd : hi ≤ lo' ∨ hi' ≤ lo) : O_Program w' lo hi v l := let ⟨s, h1, h2⟩ := h; ⟨s, h1, h2.chg hc hd⟩
theorem O_Program.I {l : List (List UInt8)} (h : O_Program w lo hi v l) : I_Program w v l := let ⟨s, h1, h2⟩ := h; ⟨s, h1, h2.I⟩
def sz_Program (l : List (List UInt8)) : Nat := sz_StringS l
def cnt_Program (l : List (List UInt8)) : Nat := l.length
theorem cnt_sz_Program (l : List (List UInt8)) : cnt_Program l ≤ sz_Program l := cnt_sz_StringS l
theorem one_sl1 {s : Value} (h : ∃ a n c, s = .slice a n c) : ∀ x ∈ [s], x.oneCell' = true := by
  intro x hx
  simp only [List.mem_cons, List.not_mem_nil, or_false] at hx
  rw [hx]; exact sl_one h
theorem A_StringS.sl {l : List (List UInt8)} (h : A_StringS w v l) : ∃ a n c, v = .slice a n c := by obtain ⟨_, _, a, c, rfl, _⟩ := h.row; exact ⟨_, _, _, rfl⟩
theorem SS.sl {l : List (List UInt8)} (h : SS w v l) : ∃ a n c, v = .slice a n c := by obtain ⟨_, _, a, c, rfl, _⟩ := h.row; exact ⟨_, _, _, rfl⟩
theorem Program_agg {l : List (List UInt8)} (h : I_Program w v l) : ∃ cs : List Value, v = .agg cs.toArray ∧ cs.length = 1 ∧ ∀ x ∈ cs, x.oneCell' = true := by
  obtain ⟨s, rfl, h1⟩ := h
  exact ⟨[s], rfl, rfl, one_sl1 h1.sl⟩
theorem Program_aggA {l : List (List UInt8)} (h : A_Program w v l) : ∃ cs : List Value, v = .agg cs.toArray ∧ cs.length = 1 ∧ ∀ x ∈ cs, x.oneCell' = true := by
  obtain ⟨s, rfl, h1⟩ := h
  exact ⟨[s], rfl, rfl, one_sl1 h1.sl⟩
/-- A struct made a variable. -/
theorem bx_agg {t : TypeId} {cs : List Value} {KW : Value → World → Prop} (H : ∀ p w', Bx w' w.heap.size t p cs → Ext w w' → KW p w') : bx P t (.agg cs.toArray) w KW :=
  bx_bx fun p w' b e _ => H p w' b e
theorem c_sz_Program {l : List (List UInt8)} {left : Int} (h : A_Program w v l) (h0 : 0 ≤ left) (h1 : left ≤ 1048576) (H : ∀ (r : Int) w', Ext w w' → (r = -1 ∨ ((sz_Program l : Nat) : Int) ≤ left ∧ r = left - (sz_Program l : Nat)) → K (.int .i64 r) w') : call P f_laws_szProgram [v, .int .i64 left] w K := by
  obtain ⟨s, rfl, hs⟩ := h
  refine I_laws_szProgram ?_
  unfold D_laws_szProgram
  refine bx_pr fun x w1 b1 e1 => ?_
  refine b1.fld (off := 0) rfl u_laws_Program rfl i_s_string u_s_string rfl ?_
  refine c_sz_StringS (hs.ext e1) h0 h1 fun r w2 e2 hr => ?_
  rw [bin_lss]
  refine cnd_dec (fun h2 => H _ _ (e1.trans e2) (.inl rfl)) (fun h2 => ?_)
  exact H _ _ (e1.trans e2) hr
theorem c_to_Program {l : List (List UInt8)} (h : A_Program w v l) (hs : sz_Program l ≤ 1048576) (H : ∀ v' w', Ext w w' → O_Program w' w.heap.size w'.heap.size v' l → K v' w') : call P f_laws_toProgram [v] w K := by
  obtain ⟨s, rfl, hss⟩ := h
  refine I_laws_toProgram ?_
  unfold D_laws_toProgram
  refine bx_pr fun x w1 b1 e1 => ?_
  refine alc_bx i_impl_Program fun y w2 b2 e2 _ => ?_
  refine alc_bx i_impl_Program fun z w3 b3 e3 _ => ?_
  have b1 := (b1.ext e2).ext e3
  have b2 := b2.ext e3
  have E3 := e1.trans (e2.trans e3)
  refine b1.fld (off := 0) rfl u_laws_Program rfl i_s_string u_s_string rfl ?_
  refine c_to_StringS (hss.ext E3) hs fun s' w4 e4 o4 => ?_
  have b2 := b2.ext e4
  have b3 := b3.ext e4
  have E4 := E3.trans e4
  have hsl := o4.I.sl
  refine b3.fput (off := 0) (show 0 < 1 by decide) u_impl_Program rfl i_s_string (sl_one hsl) fun w5 b5 g5 => ?_
  have s23 : w.heap.size ≤ w2.heap.size := (e1.trans e2).size
  have E5 : Ext w w5 := ext_of_grown E4 (fun g hg => Nat.le_trans s23 (b3.blk_lt hg).1) g5
  have n23 : blk z ≠ blk y := by
    obtain ⟨g, rfl, h1, h2⟩ := b3
    obtain ⟨g', rfl, h1', h2'⟩ := ‹Bx w2 w1.heap.size t_impl_Program y _›
    have := heap_lt h2'
    simp only [blk, ne_eq, Option.some.injEq]
    omega
  have o5 : O_StringS w5 w3.heap.size w4.heap.size s' l := ⟨⟨keep_row o4.1.own g5 (Ty.box b3) (by decide), o4.1.top⟩, o4.2⟩
  have b2' := b2.kept g5 (.inr n23)
  have b5 : Bx w5 w2.heap.size t_impl_Program z [s'] := b5
  refine b5.get u_impl_Program rfl i_impl_Program rfl ?_
  refine b2'.put i_impl_Program (ds := [s']) rfl rfl (one_sl1 hsl) fun w6 b6 g6 => ?_
  have o6 : O_StringS w6 w3.heap.size w4.heap.size s' l := ⟨⟨keep_row o5.1.own g6 (Ty.box b2') (by decide), o5.1.top⟩, o5.2⟩
  refine b6.getc u_impl_Program rfl i_impl_Program rfl ?_
  have E6 : Ext w w6 := ext_of_grown E5 (fun g hg => Nat.le_trans e1.size (b2'.blk_lt hg).1) g6
  refine H _ w6 E6 ⟨s', rfl, o6.1.mono E3.size ?_, o6.2⟩
  exact Nat.le_trans g5.size g6.size
theorem c_eq_Program {u : Value} {l : List (List UInt8)} (h1 : I_Program w u l) (h2 : I_Program w v l) (H : ∀ w', Ext w w' → K (.bool true) w') : call P f_laws_eqProgram [u, v] w K := by
  obtain ⟨s, rfl, a1⟩ := h1
  obtain ⟨t, rfl, a2⟩ := h2
  refine I_laws_eqProgram ?_
  unfold D_laws_eqProgram
  refine bx_pr fun x w1 b1 e1 => ?_
  refine bx_pr fun y w2 b2 e2 => ?_
  refine pr_w (b1.ext e2) ?_
  refine pr_w b2 ?_
  have E := e1.trans e2
  refine c_eq_StringS (a1.ext E) (a2.ext E) fun w3 e3 => ?_
  rw [una_not, Bool.not_true, cnd_false]
  exact H _ (E.trans e3)
end Go.Proofs.YtjompmflommadaaGreatDoor

/- From a row's reading to what the contracts ask: programs; a start that meets the listed variables. -/
set_option linter.unusedVariables false
namespace Go.Proofs.YtjompmflommadaaGreatDoor
open Go Go.Vc
open Go.ChangeShapes Go.WideShapes Go.ChangeAt

section
variable {H : Type} {enc : TypeId × Value → H} {w : World} {base : Nat} {spare : Nat → Bool} {held : Bool} {fuel : Nat}
theorem open_rowc {t e : TypeId} {v : Value} {x : DataW H × List MemPlace} (hu : P.underlying t = some (.slice e)) (hc : P.cellsOf e = 1) (h : DataW.trod enc P w base (fun _ => true) held fuel t [v] = some x) :
    CapOk v ∧ ∃ (n : Nat) (vs : List Value), Row 1 w v n vs ∧ ∀ (i : Nat) (u : Value), vs[i]? = some u → ∃ m y, DataW.trod enc P w base (fun _ => true) held m e [u] = some y := by
  refine ⟨?_, open_row hu hc h⟩
  rcases Deep.open_slice1 hu hc h with ⟨hcs, _⟩ | ⟨a, len, cap, m, k, V, D, Pl, hcs, hb, hl, hm, hmm, _, hx⟩
  · obtain rfl : v = .slice none 0 0 := by simpa using hcs
    exact Nat.le_refl _
  · obtain rfl : v = .slice (some a) len cap := by simpa using hcs
    exact hl
theorem cells_string : P.cellsOf t_string = 1 := by kernel_rfl
theorem cells_s_string : P.cellsOf t_s_string = 1 := by kernel_rfl
set_option maxRecDepth 20000 in
theorem open_StringS {v : Value} {x : DataW H × List MemPlace} (h : DataW.trod enc P w base (fun _ => true) held fuel t_s_string [v] = some x) : ∃ l, A_StringS w v l := by
  obtain ⟨hcap, n, vs, hrow, hel⟩ := open_rowc u_s_string cells_string h
  obtain ⟨bs, h1, h2⟩ := list_of (p := fun u (b : List UInt8) => u = str b ∧ b.length ≤ 9223372036854775807) (l := vs) (fun i u hu => by
    obtain ⟨m, y, hy⟩ := hel i u hu
    obtain ⟨s, hs, _, hw⟩ := DataW.trod_string u_string hy
    refine ⟨s.data.toList, ?_, ?_⟩
    · simp only [List.cons.injEq, and_true] at hs
      rw [hs]
    · simp only [maxLen] at hw
      have : s.data.toList.length = s.size := Array.length_toList
      omega)
  have hn : bs.length = n := by have := hrow.1; omega
  have hmap : vs = bs.map str := by
    apply List.ext_getElem?
    intro i
    cases hi : vs[i]? with
    | none =>
      rw [List.getElem?_eq_none_iff] at hi
      exact (List.getElem?_eq_none_iff.2 (by simp; omega)).symm
    | some u =>
      obtain ⟨b, hb, rfl, _⟩ := h2 i u hi
      simp [hb]
  refine ⟨bs, ?_, fun b hb => ?_, hcap⟩
  · rw [hn, ← hmap]; exact hrow
  · obtain ⟨i, hi, rfl⟩ := List.getElem_of_mem hb
    have hi' : i < vs.length := by omega
    obtain ⟨b', hb', _, hlt⟩ := h2 i vs[i] (by simp [hi'])
    rw [List.getElem?_eq_getElem hi] at hb'
    cases hb'; exact hlt
theorem cells_laws_Program : P.cellsOf t_laws_Program = 1 := by kernel_rfl
set_option maxRecDepth 20000 in
theorem open_Program {cs : Array Value} {x : DataW H × List MemPlace} (h : DataW.trod enc P w base (fun _ => true) held fuel t_laws_Program cs.toList = some x) : ∃ l, A_Program w (.agg cs) l := by
  obtain ⟨xs, n, _, _, hl, hxs, hf⟩ := DataW.trod_struct u_laws_Program h
  rw [cells_laws_Program] at hl
  obtain ⟨s, hs⟩ : ∃ s, cs = #[s] := by
    match cs, hl with
    | ⟨[s]⟩, _ => exact ⟨s, rfl⟩
  subst hs
  have h0 := hf 0 _ rfl
  have hx : 0 < xs.length := by rw [hxs]; decide
  rw [List.getElem?_eq_getElem hx] at h0
  have h1 : DataW.trod enc P w base (fun _ => true) held n t_s_string [s] = some xs[0] := by
    have e : (([s] : List Value).drop 0).take (P.cellsOf t_s_string) = [s] := by rw [cells_s_string]; rfl
    rw [← e]; exact h0
  obtain ⟨l, hA⟩ := open_StringS h1
  exact ⟨l, s, rfl, hA⟩
end
theorem door_met5 (os : Os) (args : Array Value) : laidMetH Tryz.prog Rows.fnExactIsProgramRow.laid ((World.doorLaid Tryz.prog 72 os).forCall (fun _ _ => 0) ⟨#[], args, []⟩).memory :=
  laidMetH_of_parts3 (fuel := 8) (laidMet_of_run' 8 (by kernel_rfl) (by kernel_rfl)) (by kernel_rfl) (by kernel_rfl)
end Go.Proofs.YtjompmflommadaaGreatDoor

/- Strings as arguments; a start that meets seven listed variables, one of them pinned. -/
set_option linter.unusedVariables false
namespace Go.Proofs.YtjompmflommadaaGreatDoor
open Go Go.Vc
open Go.ChangeShapes Go.WideShapes Go.ChangeAt

end Go.Proofs.YtjompmflommadaaGreatDoor

/- The interface for lists of texts and programs: marks. -/
set_option linter.unusedVariables false
set_option linter.unusedSimpArgs false
namespace Go.Proofs.YtjompmflommadaaGreatDoor
open Go Go.Vc

variable {w : World} {K : Value → World → Prop} {lo hi : Nat} {v : Value}

theorem cnv2_str1 {b : Nat} {x : Value} {KW : Value → World → Prop} (hb : b < 256) (hr : Row 1 w x 1 [.int .u8 (b : Nat)]) (H : KW (str [UInt8.ofNat b]) w) : cnv2 P t_s_uint8 t_string x w KW := by
  intro c hc
  subst hc
  obtain ⟨h1, h2, a, cap, rfl, h3⟩ := hr
  obtain ⟨g, o, rfl, hcell⟩ := h3 (by decide)
  have := run_convert_bytes_back (P := P) c t_s_uint8 t_string t_uint8 ⟨g, o, none⟩ cap [UInt8.ofNat b] u_s_uint8 u_uint8 u_string (fun j hj => by
    have hj0 : j = 0 := by simpa using hj
    subst hj0
    have h4 := hcell 0 _ rfl
    rw [Nat.add_zero] at h4
    have e : ((UInt8.ofNat b).toNat : Int) = (b : Int) := by rw [UInt8.toNat_ofNat_of_lt' (by simpa using hb)]
    simp only [List.getElem_cons_zero]
    rw [e]
    have : (⟨g, o, none⟩ : Addr).add 0 = ⟨g, o, none⟩ := by simp [Addr.add]
    rw [this]
    exact h4)
  exact ⟨_, c, this, H⟩
def dgs (n : Nat) (out : List UInt8) : List UInt8 := if h : n = 0 then out else dgs (n / 10) (UInt8.ofNat (48 + n % 10) :: out)
termination_by n
decreasing_by omega
theorem dgs_zero (out : List UInt8) : dgs 0 out = out := by rw [dgs]; simp
theorem dgs_step {n : Nat} (h : n ≠ 0) (out : List UInt8) : dgs n out = dgs (n / 10) (UInt8.ofNat (48 + n % 10) :: out) := by
  conv => lhs; rw [dgs]
  rw [dif_neg h]
theorem dgs_len : ∀ (j n : Nat) (out : List UInt8), n < 10 ^ j → (dgs n out).length ≤ out.length + j
  | 0, n, out, h => by
    have : n = 0 := by simpa using h
    subst this
    rw [dgs_zero]; omega
  | j + 1, n, out, h => by
    by_cases hn : n = 0
    · subst hn; rw [dgs_zero]; omega
    · rw [dgs_step hn]
      have h1 : n / 10 < 10 ^ j := by rw [Nat.pow_succ] at h; omega
      have := dgs_len j (n / 10) (UInt8.ofNat (48 + n % 10) :: out) h1
      simp only [List.length_cons] at this
      omega
def mtx (k : Int) : List UInt8 := if k ≤ 0 then [109, 48] else 109 :: dgs k.toNat []
theorem mtx_len {k : Int} (h : k ≤ 4611686018427387904) : (mtx k).length ≤ 1048576 := by
  unfold mtx
  split
  · simp
  · have := dgs_len 19 k.toNat [] (by omega)
    simp only [List.length_cons, List.length_nil] at this ⊢
    omega
set_option maxRecDepth 20000 in
theorem c_markText {k : Int} (h1 : k ≤ 4611686018427387904) (H : ∀ w', Ext w w' → K (str (mtx k)) w') : call P f_laws_markText [.int .i64 k] w K := by
  refine I_laws_markText ?_
  unfold D_laws_markText
  unfold mtx at H
  rw [bin_leq]
  refine cnd_dec (fun h => ?_) (fun h => ?_)
  · rw [if_pos h] at H; exact H w (Ext.refl _)
  rw [if_neg h] at H
  refine ⟨fun m x y w' => ∃ (out : List UInt8), x = .int .i64 (m : Int) ∧ y = str out ∧ dgs m out = dgs k.toNat [] ∧ out.length + m ≤ k.toNat ∧ Ext w w', ⟨k.toNat, [], by congr 1; omega, rfl, rfl, by simp, Ext.refl _⟩, ?_⟩
  rintro m x y junk w1 ⟨out, rfl, rfl, hd, hb, e1⟩
  rw [bin_gtr]
  refine cnd_dec (fun hgt => ?_) (fun hle => ?_)
  · have hm : m ≠ 0 := by omega
    rw [bin_remI (b := 10) (by decide), bin_add, wrap_i64 (by omega) (by omega), show (48 : Int) + ((m % 10 : Nat) : Int) = ((48 + m % 10 : Nat) : Int) by omega]
    rw [cnv_int_int u_int u_uint8, wrap_of (k := .u8) (by simp [IntKind.min, IntKind.signed]; omega) (by simp [IntKind.max, IntKind.signed, IntKind.bits]; omega)]
    refine bsl_one u_s_uint8 i_uint8 rfl rfl ?_
    have e2 := Ext_alloc w1 (.cells #[.int .u8 ((48 + m % 10 : Nat) : Int)] t_uint8)
    have ho := owns_lit w1 [.int .u8 ((48 + m % 10 : Nat) : Int)] t_uint8 (show 1 ≤ maxLen by decide)
    refine cnv2_str1 (by omega) (owns_Row ho) ?_
    rw [add_str (by simp; omega), bin_quoI (b := 10) (by omega) (by decide)]
    rw [dgs_step hm] at hd
    exact ⟨m / 10, by omega, UInt8.ofNat (48 + m % 10) :: out, rfl, rfl, hd, by simp only [List.length_cons]; omega, e1.trans e2⟩
  · have hm : m = 0 := by omega
    subst hm
    rw [dgs_zero] at hd
    rw [add_str (a := [109]) (by simp; omega)]
    rw [hd]
    exact H w1 e1

def mk_StringS (k : Int) (l : List (List UInt8)) : List (List UInt8) := (List.range l.length).map (fun i => mtx (k + (i : Nat)))
theorem mkS_len (k : Int) (l : List (List UInt8)) : (mk_StringS k l).length = l.length := by simp [mk_StringS]
theorem mkS_at (k : Int) (l : List (List UInt8)) (i : Nat) (h : i < (mk_StringS k l).length) : (mk_StringS k l)[i] = mtx (k + (i : Nat)) := by simp [mk_StringS]
theorem mkS_lt {k : Int} {l : List (List UInt8)} (h : k + l.length ≤ 4611686018427387904) : ∀ s ∈ mk_StringS k l, s.length ≤ 1048576 := by
  intro s hs
  simp only [mk_StringS, List.mem_map, List.mem_range] at hs
  obtain ⟨j, hj, rfl⟩ := hs
  exact mtx_len (by omega)
theorem mkSt_succ (k : Int) (l : List (List UInt8)) (i : Nat) (hi : i < l.length) : ((mk_StringS k l).take i ++ l.drop i).set i (mtx (k + (i : Nat))) = (mk_StringS k l).take (i + 1) ++ l.drop (i + 1) := by
  have hl : i < (mk_StringS k l).length := by rw [mkS_len]; exact hi
  rw [List.set_append_right _ _ (by simp; omega)]
  have e : min i (mk_StringS k l).length = i := by omega
  rw [List.length_take, e, Nat.sub_self, List.drop_eq_getElem_cons hi, List.set_cons_zero, List.take_succ_eq_append_getElem hl, mkS_at, List.append_assoc]
  rfl
theorem c_mark_StringS {l : List (List UInt8)} {k : Int} (h : O_StringS w lo hi v l) (h0 : 0 ≤ k) (h1 : k + cnt_StringS l ≤ 4611686018427387904) (H : ∀ w', O_StringS w' lo hi v (mk_StringS k l) → Chg lo hi w w' → K (.int .i64 (k + cnt_StringS l)) w') :
    call P f_laws_markStringS [v, .int .i64 k] w K := by
  obtain ⟨ho, hb⟩ := h
  unfold cnt_StringS at *
  refine I_laws_markStringS ?_
  unfold D_laws_markStringS
  refine ⟨fun g x y w' => Chg lo hi w w' ∧ ∃ i : Nat, y = .int .i64 i ∧ x = .int .i64 (k + i) ∧ g + i = l.length ∧ OwnR w' lo hi t_string 1 v l.length (((mk_StringS k l).take i ++ l.drop i).map str),
    ⟨l.length, Chg.refl _ _ _, 0, rfl, by simp, by omega, by simpa using ho⟩, ?_⟩
  rintro g x y junk w2 ⟨hc, i, rfl, rfl, hm, ho2⟩
  rw [(owns_Row ho2.own).len u_s_string, bin_lss]
  refine cnd_dec (fun hlt => ?_) (fun hge => ?_)
  · have hi : i < l.length := by omega
    refine c_markText (by omega) fun w3 e3 => ?_
    have ho3 := ho2.ext e3
    refine owns_set ho3.own hi rfl u_s_string i_string fun w4 ho4 g4 => ?_
    rw [bin_add, wrap_i64 (by omega) (by omega), bin_add, wrap_i64 (by omega) (by omega)]
    refine ⟨g - 1, by omega, (hc.trans (Chg.of_ext e3)).trans (ho3.grown g4), i + 1, rfl, by congr 1; omega, by omega, ?_⟩
    rw [← List.map_set, mkSt_succ k l i hi] at ho4
    exact ⟨ho4, ho3.top⟩
  · have hi : i = l.length := by omega
    subst hi
    have e : (mk_StringS k l).take l.length ++ l.drop l.length = mk_StringS k l := by
      rw [List.drop_length, List.append_nil, List.take_of_length_le (by rw [mkS_len]; exact Nat.le_refl _)]
    rw [e] at ho2
    refine H _ ⟨?_, mkS_lt h1⟩ hc
    rw [mkS_len]; exact ho2
def mk_Program (k : Int) (l : List (List UInt8)) : List (List UInt8) := mk_StringS k l
theorem c_mark_Program {l : List (List UInt8)} {k : Int} (h : O_Program w lo hi v l) (h0 : 0 ≤ k) (h1 : k + cnt_Program l ≤ 4611686018427387904) (H : ∀ w', O_Program w' lo hi v (mk_Program k l) → Chg lo hi w w' → K (.int .i64 (k + cnt_Program l)) w') :
    call P f_laws_markProgram [v, .int .i64 k] w K := by
  obtain ⟨s, rfl, ho⟩ := h
  refine I_laws_markProgram ?_
  unfold D_laws_markProgram
  refine bx_pr fun x w1 b1 e1 => ?_
  refine pr_w b1 ?_
  refine c_mark_StringS (ho.ext e1) h0 h1 fun w2 o2 c2 => ?_
  exact H w2 ⟨s, rfl, o2⟩ ((Chg.of_ext e1).trans c2)
end Go.Proofs.YtjompmflommadaaGreatDoor

/- No function of a list calls itself, if the list has an order. -/
set_option linter.unusedVariables false
namespace Go.Proofs.YtjompmflommadaaGreatDoor
open Go

end Go.Proofs.YtjompmflommadaaGreatDoor

/- The closed facts of FnExactRunExact's row. -/
set_option linter.unusedVariables false
namespace Go.Proofs.YtjompmflommadaaGreatDoor
open Go Go.Vc
theorem reach_FnExactRunExact : Tryz.pinned.checked.prog.closure 9 = [9, 12, 51, 14, 53, 33, 32, 74, 52, 56, 89, 141, 191, 235, 214, 251, 170, 117, 120, 192, 236, 167, 237, 218, 172, 219, 164, 217, 252, 253, 254, 238, 270, 242, 212, 193, 116, 57, 104, 75, 90, 118, 163, 213, 121, 171, 119, 165, 215, 166, 216, 168, 169, 147, 34, 77, 122, 173, 76, 15, 54, 103, 129, 182, 222, 255, 211, 247, 273, 248, 249, 250, 274, 223, 224, 256, 231, 221, 181, 178, 257, 137, 176, 220, 175, 186, 230, 124, 174, 189, 190, 234, 128, 179, 180, 225, 258, 275, 287, 288, 259, 276, 289, 277, 278, 291, 300, 302, 303, 304, 308, 307, 309, 305, 306, 310, 311, 312, 313, 290, 279, 226, 260, 183, 227, 228, 261, 233, 269, 280, 184, 229, 125, 262, 263, 281, 264, 282, 292, 265, 232, 268, 285, 298, 286, 299, 266, 177, 187, 267, 283, 284, 293, 301, 296, 294, 295, 297, 58, 105, 78, 123, 79, 126, 127, 81, 82, 130, 132, 185, 131, 84, 133, 83, 134, 188, 135, 136, 80, 35, 85, 138, 16, 55, 36, 86, 25, 63, 108, 37, 38, 87, 139, 39, 88, 140] := by kernel_rfl
theorem joined_FnExactRunExact : joinedFacts Tryz.pinned.checked.prog 9 Tryz.f9 Rows.fnExactRunExactSpec Rows.fnExactRunExactRow = true := by
  unfold joinedFacts Program.recurses Program.inPlace Program.varsNamed Program.unfollowed
  rw [reach_FnExactRunExact]
  kernel_rfl
end Go.Proofs.YtjompmflommadaaGreatDoor
