import Derived.Test.YtjompmflommadaaGreatDoorVcO
import Derived.Laws.IdiomStrings
import Derived.LaidMore
import Derived.LaidOnce
import Derived.LaidHandle
import Derived.Test.YtjompmflommadaaGreatDoorRows
import Derived.Lay
import Derived.SevenTiedAt
import Derived.ProofKit
import Derived.Test.YtjompmflommadaaGreatDoorQParseProgram4
set_option linter.unusedSimpArgs false
set_option linter.unusedVariables false
/- Contracts: texts of exact numbers and of floats (the reference). -/
set_option linter.unusedVariables false
set_option linter.unusedSimpArgs false
namespace Go.Proofs.YtjompmflommadaaGreatDoor
open Go Go.Vc

variable {w : World} {K : Value → World → Prop}

theorem c_l03IsG {v : Value} {m e : Int} (h : Dr w v m e) (H : ∀ w', Ext w w' → K (.bool (isDyB m e)) w') : call P f_spec_l03Is [v] w K := by
  obtain ⟨s, l, rfl, h1, wl⟩ := h
  refine I_spec_l03Is ?_
  unfold D_spec_l03Is
  refine bx_Dy fun x1 w1 b1 e1 => ?_
  refine dy_w b1 ?_
  refine c_l02Is ⟨s, l, rfl, h1.ext e1, wl⟩ fun w2 e2 => ?_
  have b1 := b1.ext e2
  have h1 := h1.ext (e1.trans e2)
  have HH := H w2 (e1.trans e2)
  unfold isDyB at HH
  rw [una_not]
  refine orJ (fun hb => ?_) (fun hb => ?_)
  · have hb : ¬ bl m.natAbs ≤ 2400 := by simpa using hb
    rw [decide_eq_false hb] at HH
    rw [cnd_true]; exact HH
  have hb : bl m.natAbs ≤ 2400 := by simpa using hb
  rw [decide_eq_true hb, Bool.true_and] at HH
  refine dy_e b1 ?_
  refine c_l01In ?_
  rw [una_not]
  by_cases he : -3000 ≤ e ∧ e ≤ 3000
  · rw [decide_eq_true he]
    refine cnd_no rfl ?_
    rw [decide_eq_true he.1, decide_eq_true he.2, Bool.true_and, Bool.true_and] at HH
    refine dy_ws b1 ?_
    rw [bin_eql]
    refine cnd_dec (fun h0 => ?_) (fun h0 => ?_)
    · have hm : m = 0 := Int.sign_eq_zero_iff_zero.1 h0
      subst hm
      refine dy_e b1 ?_
      rw [bin_eql]
      have : (decide ((0 : Int) = 0 ∧ e = 0) || decide ((0 : Int) % 2 = 1)) = decide (e = 0) := by simp
      rw [this] at HH; exact HH
    · have hm : m ≠ 0 := by rintro rfl; exact h0 rfl
      have hl0 : 0 < l.length := by
        refine Nat.pos_of_ne_zero fun hz => ?_
        have hlnil : l = [] := List.length_eq_zero_iff.1 hz
        have hv := wl.2
        rw [hlnil] at hv
        simp only [val] at hv
        omega
      refine dy_wl b1 ?_
      refine IR.at (i := 0) h1.toIR hl0 u_s_int64 i_int64 u_int64 ?_
      rw [bin_remI (b := 2) (by decide)]
      rw [bin_eql]
      have hv := wl.2
      have h5 : (decide (m = 0 ∧ e = 0) || decide (m % 2 = 1)) = decide (((l[0] % 2 : Nat) : Int) = 1) := by
        rw [decide_eq_false (fun h => hm h.1), Bool.false_or, decide_eq_decide]
        cases l with
        | nil => cases hl0
        | cons a t =>
          simp only [val] at hv
          simp only [List.getElem_cons_zero]
          omega
      rw [h5] at HH; exact HH
  · have h6 : (decide (-3000 ≤ e) && decide (e ≤ 3000)) = false := by
      refine Bool.eq_false_iff.2 fun h => he ?_
      simpa using h
    rw [decide_eq_false he]
    refine cnd_yes rfl ?_
    rw [h6, Bool.false_and] at HH; exact HH

theorem c_l02Read' {l : List UInt8} (hl : l.length ≤ 4611686018427387904)
    (H : ∀ (m : Int) v w', Ext w w' → Wr w' v m → (isNum l = true → m = numR l) → K (.tuple #[v, .bool (isNum l)]) w') : call P f_spec_l02Read [str l] w K := by
  refine c_l02Read hl (fun h v w' he hv => ?_) (fun h v w' he hv => ?_)
  · have := H 0 v w' he hv (fun q => by rw [q] at h; cases h)
    rw [h] at this; exact this
  · have := H _ v w' he hv (fun _ => rfl)
    rw [h] at this; exact this
theorem Wl.short {l : List Nat} {m : Int} (h : Wl l m) : (l.length ≤ 1 ↔ m.natAbs < 16777216) := by
  obtain ⟨hn, hv⟩ := h
  constructor
  · intro h1
    have := val_lt hn.1
    have h2 : 16777216 ^ l.length ≤ 16777216 ^ 1 := Nat.pow_le_pow_right (by decide) h1
    rw [Nat.pow_one] at h2
    omega
  · intro h1
    refine Nat.le_of_not_lt fun hc => ?_
    have h2 := Norm.ge hn (by intro e; rw [e] at hc; simp at hc)
    have h3 : 16777216 ^ 1 ≤ 16777216 ^ (l.length - 1) := Nat.pow_le_pow_right (by decide) (by omega)
    rw [Nat.pow_one] at h3
    omega
theorem Dr.zero0 (w : World) : Dr w (.agg #[.int .i64 0, .slice none 0 0, .int .i64 0]) 0 0 := Dr.zero w
theorem bld_Dy1 {n : Int} {s : Value} {K : Value → Prop} (hs : ∃ a l c, s = .slice a l c) : bld P t_impl_Dyadic [(0, .agg #[.int .i64 n, s])] w K = K (.agg #[.int .i64 n, s, .int .i64 0]) := by
  obtain ⟨a, l, c, rfl⟩ := hs
  exact bld_of (by kernel_rfl)
theorem sto_dye {base : Nat} {x s : Value} {n e e' : Int} {KW : World → Prop} (h : Bx w base t_impl_Dyadic x (dv3 n s e)) (H : ∀ w', Bx w' base t_impl_Dyadic x (dv3 n s e') → w.grownBy w' (blk x) → KW w') :
    fda P t_impl_Dyadic x 1 w (fun a => sto P t_int64 a (.int .i64 e') w KW) :=
  h.fput (off := 2) (show 2 < 3 by decide) u_impl_Dyadic rfl i_int64 rfl H

set_option maxRecDepth 20000 in
theorem c_l03Read {l : List UInt8} (hl : l.length ≤ 4611686018427387904)
    (H0 : parseD l = none → ∀ v w', Ext w w' → (∃ m e, Dr w' v m e) → K (.tuple #[v, .bool false]) w')
    (H1 : ∀ m e, parseD l = some (m, e) → ∀ v w', Ext w w' → Dr w' v m e → K (.tuple #[v, .bool true]) w') : call P f_spec_l03Read [str l] w K := by
  refine I_spec_l03Read ?_
  unfold D_spec_l03Read
  refine alc_Dy fun x w1 ⟨cs, hcs, b1⟩ e1 => ?_
  have ret0 : parseD l = none → ∀ w2, Ext w1 w2 → bld P t_impl_Dyadic [] w2 fun x59_58 =>
                  sto P t_impl_Dyadic x x59_58 w2 fun w60 =>
                  ldc P t_impl_Dyadic x w60 fun r61 =>
                  K (.tuple #[r61, (.bool false)]) w60 := fun h0 w2 e2 => by
    rw [bld_Dyadic0]
    have b2 := b1.ext e2
    refine b2.put i_impl_Dyadic (ds := [.int .i64 0, .slice none 0 0, .int .i64 0]) rfl hcs (one_3 rfl rfl rfl) fun w3 b3 g3 => ?_
    refine b3.getc u_impl_Dyadic rfl i_impl_Dyadic rfl ?_
    exact H0 h0 _ _ (ext_of_grown (e1.trans e2) (fun g hg => (b2.blk_lt hg).1) g3) ⟨0, 0, Dr.zero0 _⟩
  refine ⟨fun m y w' => w' = w1 ∧ ∃ i : Nat, y = .int .i64 i ∧ m + i = l.length ∧ 112 ∉ l.take i, ⟨l.length, rfl, 0, rfl, by omega, by simp⟩, ?_⟩
  rintro m y junk w5 ⟨rfl, i, rfl, hm, hno⟩
  rw [len_str u_string, bin_lss]
  refine andJ (fun h1 => ?_) (fun h1 => ?_)
  rotate_left
  · simp only [decide_eq_false_iff_not] at h1
    have hi : i = l.length := by omega
    rw [cnd_false, len_str u_string, bin_eql]
    refine cnd_yes (by simp [hi]) ?_
    refine ret0 (parse_none ?_) _ (Ext.refl _)
    rw [hi, List.take_length] at hno
    exact hno
  simp only [decide_eq_true_eq] at h1
  have hi : i < l.length := by omega
  rw [idx_str u_string hi, bin_neq]
  refine cnd_dec (fun h2 => ?_) (fun h2 => ?_)
  · rw [bin_add, wrap_i64 (by omega) (by omega)]
    refine ⟨m - 1, by omega, rfl, i + 1, rfl, by omega, ?_⟩
    rw [List.take_succ_eq_append_getElem hi]
    intro hmem
    rcases List.mem_append.1 hmem with h | h
    · exact hno h
    · simp only [List.mem_singleton] at h
      rw [← h] at h2
      exact h2 rfl
  -- it is cut here
  have hp : l[i] = 112 := UInt8.toNat_inj.1 (show l[i].toNat = 112 by omega)
  have hsplit : l = l.take i ++ 112 :: l.drop (i + 1) := by
    conv => lhs; rw [← List.take_append_drop i l, List.drop_eq_getElem_cons hi, hp]
  have hpar := parse_of (a := l.take i) (b := l.drop (i + 1)) hno
  rw [← hsplit] at hpar
  rw [len_str u_string, bin_eql]
  refine cnd_no (by simp; omega) ?_
  rw [sli_strH u_string (by omega)]
  have la : (l.take i).length ≤ 4611686018427387904 := by rw [List.length_take]; omega
  have lb : (l.drop (i + 1)).length ≤ 4611686018427387904 := by rw [List.length_drop]; omega
  refine c_l02Read' la fun m1 v1 w2 e2 r1 hm1 => ?_
  rw [xtr_0, xtr_1]
  refine alc_Wh fun x5 w3 ⟨cs3, hcs3, b3⟩ e3 => ?_
  obtain ⟨s1, q1, rfl, lr1, wl1⟩ := r1
  refine b3.put i_impl_Whole (ds := [.int .i64 m1.sign, s1]) rfl hcs3 (one_2 rfl (sl_one (IR.sl lr1.toIR))) fun w4 b4 g4 => ?_
  have e4 : Ext w2 w4 := ext_of_grown e3 (fun g hg => (b3.blk_lt hg).1) g4
  have lr1 := lr1.ext e4
  rw [bin_add, wrap_i64 (by omega) (by omega), show ((i : Nat) : Int) + 1 = ((i + 1 : Nat) : Int) by omega, sli_strL u_string (by omega)]
  generalize l.take i = a at *
  generalize l.drop (i + 1) = b at *
  refine c_l02Read' lb fun m2 v2 w6 e6 r2 hm2 => ?_
  rw [xtr_0, xtr_1]
  refine alc_Wh fun x7 w7 ⟨cs7, hcs7, b7⟩ e7 => ?_
  obtain ⟨s2, q2, rfl, lr2, wl2⟩ := r2
  refine b7.put i_impl_Whole (ds := [.int .i64 m2.sign, s2]) rfl hcs7 (one_2 rfl (sl_one (IR.sl lr2.toIR))) fun w8 b8 g8 => ?_
  have e8 : Ext w6 w8 := ext_of_grown e7 (fun g hg => (b7.blk_lt hg).1) g8
  have lr1 := (lr1.ext e6).ext e8
  have lr2 := lr2.ext e8
  have b4 := (b4.ext e6).ext e8
  have E8 : Ext w5 w8 := e2.trans (e4.trans (e6.trans e8))
  have sz := wl2.short
  rw [una_not]
  refine orJ (fun hn => ?_) (fun hn => ?_)
  · have ha : isNum a = false := by simpa using hn
    refine orJ (fun _ => ?_) (fun h => by cases h)
    refine orJ (fun _ => ?_) (fun h => by cases h)
    rw [cnd_true]
    exact ret0 (by rw [hpar, ha]; rfl) _ E8
  have ha : isNum a = true := by simpa using hn
  rw [una_not]
  refine orJ (fun hn => ?_) (fun hn => ?_)
  · have hb : isNum b = false := by simpa using hn
    refine orJ (fun _ => ?_) (fun h => by cases h)
    rw [cnd_true]
    exact ret0 (by rw [hpar, ha, hb]; rfl) _ E8
  have hb : isNum b = true := by simpa using hn
  have hm1 := hm1 ha
  have hm2 := hm2 hb
  refine wh_all b4 ?_
  refine c_l02Is ⟨s1, q1, rfl, lr1, wl1⟩ fun w9 e9 => ?_
  have E9 := E8.trans e9
  have lr1 := lr1.ext e9
  have lr2 := lr2.ext e9
  have lr9 := lr1
  have b4 := b4.ext e9
  have b8 := b8.ext e9
  rw [una_not]
  refine orJ (fun hn => ?_) (fun hn => ?_)
  · have hbig : 2400 < bl (numR a).natAbs := by rw [← hm1]; simp at hn; omega
    rw [cnd_true]
    exact ret0 (by rw [hpar, ha, hb, isDyB_not ha hb (.inl hbig)]; rfl) _ E9
  have hsm : bl (numR a).natAbs ≤ 2400 := by rw [← hm1]; simp at hn; omega
  refine wh_l b8 ?_
  rw [lr2.toIR.row.len u_s_int64, bin_gtr]
  refine cnd_dec (fun h3 => ?_) (fun h3 => ?_)
  · have hbig : 16777216 ≤ (numR b).natAbs := by
      rw [← hm2]
      exact Nat.le_of_not_lt fun h => by have := sz.2 h; omega
    exact ret0 (by rw [hpar, ha, hb, isDyB_not ha hb (.inr hbig)]; rfl) _ E9
  have hq2 : q2.length ≤ 1 := by omega
  obtain ⟨n1, n2⟩ := parseD_alt ha hb hsm (by rw [← hm2]; exact sz.1 hq2)
  rw [n1] at hm1
  rw [n2] at hm2
  rw [ha, hb, Bool.true_and, Bool.true_and, ← hm1, ← hm2] at hpar
  refine wh_all b4 ?_
  rw [bld_Dy1 (IR.sl lr1.toIR)]
  refine alc_Dy fun x9 w10 ⟨cs10, hcs10, b10⟩ e10 => ?_
  refine b10.put i_impl_Dyadic (ds := dv3 m1.sign s1 0) rfl hcs10 (one_3 rfl (sl_one (IR.sl lr1.toIR)) rfl) fun w11 b11 g11 => ?_
  have e11 : Ext w9 w11 := ext_of_grown e10 (fun g hg => (b10.blk_lt hg).1) g11
  have E11 := E9.trans e11
  have lr1 := lr1.ext e11
  have lr2 := lr2.ext e11
  have b8 := b8.ext e11
  -- the end
  have fin : ∀ w12, Ext w9 w12 → Bx w12 w9.heap.size t_impl_Dyadic x9 (dv3 m1.sign s1 m2) → ld P t_impl_Dyadic x9 w12 fun x74_89 =>
                    ld P t_impl_Dyadic x9 w12 fun x75_90 =>
                    call P f_spec_l03Is [x75_90] w12 fun x76_91 w92 =>
                    Ext w12 w92 ∧ sto P t_impl_Dyadic x x74_89 w92 fun w94 =>
                    ldc P t_impl_Dyadic x w94 fun r95 =>
                    K (.tuple #[r95, x76_91]) w94 := fun w12 e12 b12 => by
    have lr1' := lr9
    have hd : Dr w12 (.agg #[.int .i64 m1.sign, s1, .int .i64 m2]) m1 m2 := ⟨s1, q1, rfl, lr9.ext e12, wl1⟩
    refine dy_all b12 ?_
    refine dy_all b12 ?_
    refine c_l03IsG hd fun w13 e13 => ?_
    refine ⟨e13, ?_⟩
    have E13 := E9.trans (e12.trans e13)
    have b1 := b1.ext E13
    have hd := hd.ext e13
    obtain ⟨s', l', hv, h1', h2'⟩ := hd
    refine b1.put i_impl_Dyadic (ds := dv3 m1.sign s1 m2) rfl hcs (one_3 rfl (sl_one (IR.sl lr1'.toIR)) rfl) fun w14 b14 g14 => ?_
    refine b14.getc u_impl_Dyadic rfl i_impl_Dyadic rfl ?_
    have e14 : Ext w w14 := ext_of_grown (e1.trans E13) (fun g hg => (b1.blk_lt hg).1) g14
    have hd14 : Dr w14 (.agg #[.int .i64 m1.sign, s1, .int .i64 m2]) m1 m2 := Dr.kt ⟨s', l', hv, h1', h2'⟩ g14 (Ty.box b1) (by decide)
    cases hdy : isDyB m1 m2
    · rw [hdy] at hpar
      exact H0 hpar _ _ e14 ⟨m1, m2, hd14⟩
    · rw [hdy] at hpar
      exact H1 m1 m2 hpar _ _ e14 hd14
  refine wh_l b8 ?_
  rw [lr2.toIR.row.len u_s_int64, bin_eql]
  refine cnd_dec (fun h4 => ?_) (fun h4 => ?_)
  · refine wh_s b8 ?_
    refine wh_l b8 ?_
    have hq : 0 < q2.length := by omega
    refine IR.at (i := 0) lr2.toIR hq u_s_int64 i_int64 u_int64 ?_
    have hval : m2.natAbs = q2[0] := by
      have := wl2.2
      match q2, hq2, hq with
      | [d], _, _ => simp only [val] at this; simpa using this.symm
    have hmul : m2.sign * ((q2[0] : Nat) : Int) = m2 := by rw [← hval]; exact Int.sign_mul_natAbs m2
    have hsz := sz.1 hq2
    rw [bin_mul, hmul, wrap_i64 (by omega) (by omega)]
    refine sto_dye b11 fun w12 b12 g12 => ?_
    exact fin w12 (ext_of_grown e11 (fun g hg => (b11.blk_lt hg).1) g12) b12
  · have hq0 : q2 = [] := List.length_eq_zero_iff.1 (by omega)
    have hm0 : m2 = 0 := by
      have := wl2.2
      rw [hq0] at this
      simp only [val] at this
      omega
    refine fin w11 e11 ?_
    rw [hm0]; exact b11
/-- The float of a text. -/
noncomputable def pF (l : List UInt8) : Option Nat := match parseD l with
  | none => none
  | some p => if (rndQ 0 (dy p.1 p.2)).2 = 0 then some (rndQ 0 (dy p.1 p.2)).1 else none
theorem c_l06Float {l : List UInt8} (hl : l.length ≤ 4611686018427387904) (H : ∀ b w', Ext w w' → (∀ x, pF l = some x → b = x) → K (.tuple #[fl b, .bool (pF l).isSome]) w') : call P f_spec_l06Float [str l] w K := by
  refine I_spec_l06Float ?_
  unfold D_spec_l06Float
  refine c_l03Read hl (fun h0 v w1 e1 ⟨m, e, hd⟩ => ?_) (fun m e hp v w1 e1 hd => ?_)
  · rw [xtr_0, xtr_1]
    refine alc_Dy fun x4 w2 ⟨cs, hcs, b2⟩ e2 => ?_
    refine (hd.ext e2).put b2 hcs fun w3 ⟨s, hv, b3⟩ g3 => ?_
    have e3 : Ext w1 w3 := ext_of_grown e2 (fun g hg => (b2.blk_lt hg).1) g3
    rw [una_not, Bool.not_false, cnd_true]
    have hpf : pF l = none := by unfold pF; rw [h0]
    have := H 0 w3 (e1.trans e3) (fun x hx => by rw [hpf] at hx; cases hx)
    rw [hpf] at this; exact this
  · rw [xtr_0, xtr_1]
    have hdy := parse_some hp
    refine alc_Dy fun x4 w2 ⟨cs, hcs, b2⟩ e2 => ?_
    refine (hd.ext e2).put b2 hcs fun w3 ⟨s, hv, b3⟩ g3 => ?_
    have hd3 := (hd.ext e2).kt g3 (Ty.box b2) (by decide)
    have e3 : Ext w1 w3 := ext_of_grown e2 (fun g hg => (b2.blk_lt hg).1) g3
    rw [una_not, Bool.not_true, cnd_false]
    rw [hv] at hd3
    refine dy_all b3 ?_
    refine c_dq_round (q := dy m e) (lo := 3000) (hi := 5400) ⟨m, e, hd3, isDyB_canon hdy, isDyB_bd hdy, rfl⟩ (by decide) (by decide) fun w4 e4 => ?_
    rw [xtr_0, xtr_1, bin_eql]
    have hpf : pF l = if (rndQ 0 (dy m e)).2 = 0 then some (rndQ 0 (dy m e)).1 else none := by unfold pF; rw [hp]
    have := H (rndQ 0 (dy m e)).1 w4 (e1.trans (e3.trans e4)) (fun x hx => by
      rw [hpf] at hx
      split at hx
      · exact Option.some.inj hx
      · cases hx)
    rw [hpf] at this
    have hs : (if (rndQ 0 (dy m e)).2 = 0 then some (rndQ 0 (dy m e)).1 else none).isSome = decide ((rndQ 0 (dy m e)).2 = 0) := by
      split
      · rename_i h; rw [h]; rfl
      · rename_i h; simp [h]
    rw [hs] at this; exact this
end Go.Proofs.YtjompmflommadaaGreatDoor

/- Contracts: whole numbers of the program, read from their limbs. -/
set_option linter.unusedVariables false
set_option linter.unusedSimpArgs false
namespace Go.Proofs.YtjompmflommadaaGreatDoor
open Go Go.Vc

variable {w : World} {K : Value → World → Prop}

theorem or_both {a b x y k : Nat} (ha : a < 2 ^ k) (hb : b < 2 ^ k) : (a + 2 ^ k * x) ||| (b + 2 ^ k * y) = (a ||| b) + 2 ^ k * (x ||| y) := by
  have hab : a ||| b < 2 ^ k := Nat.or_lt_two_pow ha hb
  apply Nat.eq_of_testBit_eq
  intro j
  rw [Nat.testBit_or, Nat.add_comm a, Nat.add_comm b, Nat.add_comm (a ||| b), Nat.testBit_two_pow_mul_add _ ha, Nat.testBit_two_pow_mul_add _ hb, Nat.testBit_two_pow_mul_add _ hab]
  split <;> rw [Nat.testBit_or]
set_option maxRecDepth 20000 in
theorem c_Or {z x y : Value} {a b : Int} {base : Nat} (hz : ZO w base z) (hx : IntR w x a) (hy : IntR w y b) (ba : bl a.natAbs ≤ 1099511627776) (bb : bl b.natAbs ≤ 1099511627776)
    (H : ∀ w', ZO w' base z → IntR w' z (a.natAbs ||| b.natAbs : Nat) → w.grownBy w' (blk z) → K z w') : call P f_impl_integer_Or [z, x, y] w K := by
  obtain ⟨s1, hb1, l, h1, n1, v1, _⟩ := hx
  obtain ⟨s2, hb2, r, h2, n2, v2, _⟩ := hy
  have d1 := n1.1
  have d2 := n2.1
  have l1 := dig_len n1 (by rw [v1]; exact ba)
  have l2 := dig_len n2 (by rw [v2]; exact bb)
  refine I_impl_integer_Or ?_
  unfold D_impl_integer_Or
  rw [nch_bx hb1]
  refine IntR.mag hb1 ?_
  rw [h1.row.len u_s_uint32, nch_bx hb2]
  refine IntR.mag hb2 ?_
  rw [h2.row.len u_s_uint32, bl0_max_i64, show max (l.length : Int) (r.length : Int) = ((max l.length r.length : Nat) : Int) by omega]
  generalize hn : max l.length r.length = n
  refine OD.make (k := .u32) u_s_uint32 i_uint32 (by omega) (by simp only [maxLen]; omega) fun w1 v o1 e1 => ?_
  rw [nch_bx hb1]
  refine IntR.mag (hb1.ext e1) ?_
  refine copy_intro (n := n) (m := l.length) (by simpa [OD] using o1) (h1.ext e1).row (by omega) (by
    intro u hu
    simp only [List.mem_map] at hu
    obtain ⟨d, _, rfl⟩ := hu; rfl) u_s_uint32 i_uint32 fun w2 o2 g2 => ?_
  have e2 : Ext w w2 := ext_of_grown e1 (fun g hg => (o1.lt g hg).1) g2
  rw [nch_bx hb2]
  refine IntR.mag (hb2.ext e2) ?_
  rw [(h2.ext e2).row.len u_s_uint32]
  generalize hL : l ++ List.replicate (n - l.length) 0 = L
  have hLl : L.length = n := by rw [← hL]; simp; omega
  have hLv : val 4294967296 L = val 4294967296 l := by rw [← hL, val_append, val_replicate]; simp
  have hLd : Dig 4294967296 L := by
    intro d hd
    rw [← hL] at hd
    rcases List.mem_append.1 hd with h | h
    · exact d1 d h
    · rw [List.eq_of_mem_replicate h]; decide
  have o2 : OD .u32 t_uint32 w2 w.heap.size v L := by
    unfold OD
    rw [hLl, ← hL, List.map_append]
    rw [List.drop_replicate] at o2
    rw [List.map_replicate]
    exact o2
  refine ⟨fun g x w' => ∃ (i : Nat) (q : List Nat), g + i = r.length ∧ x = .int .i64 (i : Int) ∧ Ext w w' ∧ OD .u32 t_uint32 w' w.heap.size v q ∧ q.length = n ∧ Dig 4294967296 q ∧ q.drop i = L.drop i ∧
    val 4294967296 (q.take i) = val 4294967296 (L.take i) ||| val 4294967296 (r.take i), ⟨r.length, 0, L, rfl, rfl, e2, o2, hLl, hLd, rfl, by simp [val]⟩, ?_⟩
  rintro g x' junk w3 ⟨i, q, hg, rfl, e3, oq, hq, dq, hdrop, hv⟩
  rw [bin_lss]
  refine cnd_dec (fun hlt => ?_) (fun hge => ?_)
  · have hi2 : i < r.length := by omega
    have hiq : i < q.length := by omega
    have hiL : i < L.length := by omega
    have heq : q[i] = L[i] := by
      have := congrArg (fun t : List Nat => t[0]?) hdrop
      simp only [List.getElem?_drop, Nat.add_zero] at this
      rw [List.getElem?_eq_getElem hiq, List.getElem?_eq_getElem hiL] at this
      exact Option.some.inj this
    refine (h2.ext e3).at hi2 u_s_uint32 i_uint32 u_uint32 ?_
    refine oq.IR.at hiq u_s_uint32 i_uint32 u_uint32 ?_
    have g1 := Dig_get dq hiq
    have g2 := Dig_get d2 hi2
    rw [bin_orN (b := r[i]) (by simpa [IntKind.bits] using g1) (by simpa [IntKind.bits] using g2) rfl]
    refine OD.set oq hiq u_s_uint32 i_uint32 fun w4 o4 g4 => ?_
    rw [bin_addI1 (b := 1) (by omega)]
    have hor : q[i] ||| r[i] < 4294967296 := Nat.or_lt_two_pow (n := 32) g1 g2
    refine ⟨g - 1, by omega, i + 1, _, by omega, rfl, ext_of_grown e3 (fun g hg => (oq.lt g hg).1) g4, o4, by simp [hq], fun d hd => ?_, ?_, ?_⟩
    · rcases List.mem_or_eq_of_mem_set hd with h | h
      · exact dq d h
      · rw [h]; exact hor
    · rw [List.drop_set_of_lt (by omega), ← List.drop_drop (i := 1) (j := i), ← List.drop_drop (i := 1) (j := i), hdrop]
    · rw [val_take_succ _ (by simpa using hiq), List.take_set_of_le (Nat.le_refl _), List.getElem_set_self, val_take_succ _ hiL, val_take_succ _ hi2, hv, heq, p32]
      refine (or_both ?_ ?_).symm
      · have := val_lt (hLd.take i)
        rw [List.length_take, Nat.min_eq_left (by omega), p32] at this; exact this
      · have := val_lt (d2.take i)
        rw [List.length_take, Nat.min_eq_left (by omega), p32] at this; exact this
  · have hi : i = r.length := by omega
    have e : val 4294967296 q = a.natAbs ||| b.natAbs := by
      have s1 := val_split 4294967296 q (i := i) (by omega)
      have s2 := val_split 4294967296 L (i := i) (by omega)
      rw [s1, hdrop, hv, ← v1, ← v2, ← hLv, s2]
      have t1 := val_lt (hLd.take i)
      rw [List.length_take, Nat.min_eq_left (by omega), p32] at t1
      have t2 := val_lt (d2.take i)
      rw [List.length_take, Nat.min_eq_left (by omega), p32] at t2
      have hr : r.take i = r := by rw [hi, List.take_length]
      have := or_both (x := val 4294967296 (L.drop i)) (y := 0) t1 t2
      rw [Nat.mul_zero, Nat.add_zero, Nat.or_zero, hr] at this
      rw [p32, hr, this]
    have hz2 := hz.ext e3
    refine c_put hz2 oq.IR (Ty.owns oq) dq fun w3 z3 i3 g3 => H w3 z3 ?_ (grown_ext e3 g3)
    rw [e] at i3; exact i3

set_option maxRecDepth 20000 in
theorem c_toBig {v : Value} {m : Int} (h : Wr w v m) (hb : bl m.natAbs ≤ 2400) (H : ∀ p w', Ext w w' → IntR w' p m → K p w') : call P f_impl_toBig [v] w K := by
  obtain ⟨s, l, rfl, h1, n1, v1⟩ := h
  have hlen : l.length ≤ 100 := (len100 n1).2 (by rw [v1]; exact hb)
  refine I_impl_toBig ?_
  unfold D_impl_toBig
  refine bx_Wh fun x1 w1 b1 e1 => ?_
  refine alc_Z fun z w2 z2 i2 e2 => ?_
  have b1 := b1.ext e2
  have E2 := e1.trans e2
  refine wh_l b1 ?_
  rw [(h1.ext E2).row.len u_s_int64, bin_sub, wrap_i64 (by omega) (by omega)]
  refine ⟨fun g x w' => g ≤ l.length ∧ x = .int .i64 ((g : Int) - 1) ∧ Ext w1 w' ∧ ZO w' w1.heap.size z ∧ IntR w' z (val 16777216 (l.drop g) : Nat), ⟨l.length, Nat.le_refl _, rfl, e2, z2, by rw [List.drop_length]; exact i2⟩, ?_⟩
  rintro g x junk w3 ⟨hg, rfl, e3, z3, i3⟩
  have b1' : Bx w3 w.heap.size t_impl_Whole x1 [.int .i64 m.sign, s] := by
    have := (‹Bx w1 w.heap.size t_impl_Whole x1 [.int .i64 m.sign, s]›).ext e3
    exact this
  have E3 := e1.trans e3
  have hbl : bl (val 16777216 (l.drop g)) ≤ 2400 := by
    refine Nat.le_trans (bl_mono ?_) hb
    have := val_drop_le v1 g
    exact Nat.le_trans (Nat.le_mul_of_pos_right _ (Nat.pow_pos (by decide))) this
  rw [bin_geq]
  refine cnd_dec (fun hge => ?_) (fun hlt => ?_)
  · obtain ⟨k, rfl⟩ : ∃ k, g = k + 1 := ⟨g - 1, by omega⟩
    have hk : k < l.length := by omega
    have hd := Dig_get n1.1 hk
    rw [show (24 : Int) = ((24 : Nat) : Int) from rfl]
    refine c_Lsh z3 i3 (by rw [Int.natAbs_natCast]; omega) (by decide) fun w4 z4 i4 g4 => ?_
    have e4 : Ext w1 w4 := ext_of_grown e3 (fun g hg => z3.blk_ge hg) g4
    have b4 := (‹Bx w1 w.heap.size t_impl_Whole x1 [.int .i64 m.sign, s]›).ext e4
    refine wh_l b4 ?_
    rw [show (((k + 1 : Nat) : Int) - 1) = ((k : Nat) : Int) by omega]
    refine (h1.ext (e1.trans e4)).toIR.at hk u_s_int64 i_int64 u_int64 ?_
    refine c_newInt (by omega) (by omega) fun p w5 e5 z5 i5 => ?_
    have hv2 : (((val 16777216 (l.drop (k + 1)) : Nat) : Int) * 2 ^ 24).natAbs = 2 ^ 24 * val 16777216 (l.drop (k + 1)) := by
      rw [Int.natAbs_mul, Int.natAbs_natCast]
      rw [Nat.mul_comm]; rfl
    have hbl2 : bl (((val 16777216 (l.drop (k + 1)) : Nat) : Int) * 2 ^ 24).natAbs ≤ 2424 := by
      have := ibl_shl_le (val 16777216 (l.drop (k + 1)) : Nat) 24
      rw [Int.natAbs_natCast] at this
      omega
    refine c_Or (z4.ext e5) (i4.ext e5) i5 (by omega) (by rw [Int.natAbs_natCast]; have : bl l[k] ≤ 24 := bl_le.2 hd; omega) fun w6 z6 i6 g6 => ?_
    rw [hv2, Int.natAbs_natCast, ← Nat.two_pow_add_eq_or_of_lt (i := 24) hd] at i6
    rw [bin_sub, wrap_i64 (by omega) (by omega)]
    refine ⟨k, by omega, by omega, rfl, ext_of_grown (e4.trans e5) (fun g hg => (z4.ext e5).blk_ge hg) g6, z6, ?_⟩
    rw [List.drop_eq_getElem_cons hk]
    show IntR w6 z (((l[k] + 16777216 * val 16777216 (l.drop (k + 1)) : Nat)) : Int)
    rw [Nat.add_comm]; exact i6
  · have hg0 : g = 0 := by omega
    subst hg0
    rw [List.drop_zero, v1] at i3
    refine wh_s b1' ?_
    rw [bin_lss]
    refine cnd_dec (fun hneg => ?_) (fun hpos => ?_)
    · have hm : m < 0 := Int.sign_neg_iff.1 hneg
      refine c_Neg z3 i3 (by rw [Int.natAbs_natCast]; omega) fun w4 z4 i4 g4 => ?_
      refine H z w4 (ext_of_grown (e1.trans e3) (fun g hg => Nat.le_trans e1.size (z3.blk_ge hg)) g4) ?_
      rw [show -((m.natAbs : Nat) : Int) = m by omega] at i4; exact i4
    · have hm : ¬ m < 0 := fun h => hpos (Int.sign_neg_iff.2 h)
      refine H z w3 E3 ?_
      rw [show ((m.natAbs : Nat) : Int) = m by omega] at i3; exact i3

theorem c_numberOf {v : Value} {m e : Int} (h : Dr w v m e) (hd : isDyB m e = true) (H : ∀ v' w', Ext w w' → NQ w' v' 3000 5400 (dy m e) → K v' w') : call P f_impl_numberOf [v] w K := by
  obtain ⟨s, l, rfl, h1, wl⟩ := h
  have hbd := isDyB_bd hd
  have hb : bl m.natAbs ≤ 2400 := by
    simp only [isDyB, Bool.and_eq_true, decide_eq_true_eq] at hd; exact hd.1.1.1
  refine I_impl_numberOf ?_
  unfold D_impl_numberOf
  refine bx_Dy fun x1 w1 b1 e1 => ?_
  refine alc_num fun x2 w2 ⟨cs, hcs, b2⟩ e2 => ?_
  have b1 := b1.ext e2
  refine dy_w b1 ?_
  refine dy_e b1 ?_
  refine c_toBig ⟨s, l, rfl, h1.ext (e1.trans e2), wl⟩ hb fun p w3 e3 i3 => ?_
  refine ⟨e3, ?_⟩
  rw [bld_num i3.ptr]
  have b2 := b2.ext e3
  refine num_ret b2 hcs i3.one fun w4 g4 => ?_
  have e4 : Ext w w4 := ext_of_grown (e1.trans (e2.trans e3)) (fun g hg => Nat.le_trans e1.size (b2.blk_lt hg).1) g4
  exact H _ _ e4 ⟨m, e, ⟨p, rfl, Nm.grown i3 b2 g4⟩, hbd, rfl⟩

set_option maxRecDepth 20000 in
theorem c_impl_IsWhole {v : Value} {m : Int} (h : Wr w v m) (H : ∀ w', Ext w w' → K (.bool (decide (bl m.natAbs ≤ 2400))) w') : call P f_impl_IsWhole [v] w K := by
  obtain ⟨s, l, rfl, h1, n1, v1⟩ := h
  have hb := h1.bound
  refine I_impl_IsWhole ?_
  unfold D_impl_IsWhole
  refine bx_Wh fun x1 w1 b1 e1 => ?_
  have h1 := h1.ext e1
  have H1 := H w1 e1
  have hl100 := len100 n1
  rw [v1] at hl100
  have hsg : m.sign = 0 ∨ m.sign = 1 ∨ m.sign = -1 := by
    rcases Int.lt_trichotomy m 0 with h | h | h
    · exact .inr (.inr (Int.sign_eq_neg_one_of_neg h))
    · exact .inl (by rw [h]; rfl)
    · exact .inr (.inl (Int.sign_eq_one_of_pos h))
  have hz0 : (m.sign = 0) ↔ l = [] := by
    rw [Int.sign_eq_zero_iff_zero]
    constructor
    · intro h
      refine (n1.eq_nil (by decide)).2 ?_
      rw [v1, h]; rfl
    · intro h
      rw [h] at v1
      simp only [val] at v1
      omega
  refine wh_l b1 ?_
  rw [h1.row.len u_s_int64, bin_gtr]
  refine orJ (fun hbig => ?_) (fun hsm => ?_)
  · have hbig : ¬ bl m.natAbs ≤ 2400 := fun h => by
      have := hl100.2 h
      simp only [decide_eq_true_eq] at hbig
      omega
    rw [decide_eq_false hbig] at H1
    refine orJ (fun _ => ?_) (fun h => by cases h)
    refine orJ (fun _ => ?_) (fun h => by cases h)
    exact cnd_yes rfl H1
  have hsm : bl m.natAbs ≤ 2400 := hl100.1 (by simp only [decide_eq_false_iff_not] at hsm; omega)
  rw [decide_eq_true hsm] at H1
  refine wh_s b1 ?_
  rw [bin_lss]
  refine orJ (fun h => by simp only [decide_eq_true_eq] at h; omega) (fun _ => ?_)
  refine wh_s b1 ?_
  rw [bin_gtr]
  refine orJ (fun h => by simp only [decide_eq_true_eq] at h; omega) (fun _ => ?_)
  refine wh_s b1 ?_
  rw [bin_eql, bin_eql, bin_bneq _ _ _ _ _ _ u_bool]
  have hsame : decide (m.sign = 0) = decide (((l.length : Nat) : Int) = 0) := by
    rw [decide_eq_decide, hz0]
    constructor
    · rintro rfl; rfl
    · intro h; exact List.length_eq_zero_iff.1 (by omega)
  rw [hsame]
  refine cnd_no (by simp) ?_
  refine wh_l b1 ?_
  rw [h1.row.len u_s_int64]
  refine ⟨fun g x w' => w' = w1 ∧ ∃ i : Nat, x = .int .i64 (i : Int) ∧ g + i = l.length, ⟨l.length, rfl, 0, rfl, by omega⟩, ?_⟩
  rintro g x junk w' ⟨rfl, i, rfl, hg⟩
  rw [bin_lss]
  refine cnd_dec (fun hlt => ?_) (fun hge => ?_)
  · have hi : i < l.length := by omega
    refine h1.at hi u_s_int64 i_int64 u_int64 ?_
    have g1 := Dig_get n1.1 hi
    rw [bin_lss]
    refine orJ (fun h => by simp only [decide_eq_true_eq] at h; omega) (fun _ => ?_)
    rw [bin_gtr]
    refine cnd_no (by simp; omega) ?_
    rw [bin_addI1 (b := 1) (by omega)]
    exact ⟨g - 1, by omega, rfl, i + 1, rfl, by omega⟩
  · rw [bin_eql]
    refine orJ (fun h0 => H1) (fun h0 => ?_)
    have hl : 0 < l.length := by simp only [decide_eq_false_iff_not] at h0; omega
    have hz : l[l.length - 1] ≠ 0 := by
      intro hz
      have := n1.2
      rw [List.getLast?_eq_getElem?, List.getElem?_eq_getElem (by omega), hz] at this
      exact this rfl
    refine wh_l b1 ?_
    rw [bin_sub, wrap_i64 (by omega) (by omega), show ((l.length : Nat) : Int) - 1 = ((l.length - 1 : Nat) : Int) by omega]
    refine h1.at (i := l.length - 1) (by omega) u_s_int64 i_int64 u_int64 ?_
    rw [bin_neq]
    have : decide (((l[l.length - 1] : Nat) : Int) ≠ 0) = true := decide_eq_true (by omega)
    rw [this]; exact H1
theorem c_impl_IsDyadic {v : Value} {m e : Int} (h : Dr w v m e) (H : ∀ w', Ext w w' → K (.bool (isDyB m e)) w') : call P f_impl_IsDyadic [v] w K := by
  obtain ⟨s, l, rfl, h1, wl⟩ := h
  refine I_impl_IsDyadic ?_
  unfold D_impl_IsDyadic
  refine bx_Dy fun x1 w1 b1 e1 => ?_
  refine dy_w b1 ?_
  refine c_impl_IsWhole ⟨s, l, rfl, h1.ext e1, wl⟩ fun w2 e2 => ?_
  have b1 := b1.ext e2
  have h1 := h1.ext (e1.trans e2)
  have HH := H w2 (e1.trans e2)
  unfold isDyB at HH
  rw [una_not]
  refine cnd_split (fun hb => ?_) (fun hb => ?_)
  · have hb : ¬ bl m.natAbs ≤ 2400 := by simpa using hb
    rw [decide_eq_false hb] at HH
    exact HH
  have hb : bl m.natAbs ≤ 2400 := by simpa using hb
  rw [decide_eq_true hb, Bool.true_and] at HH
  refine dy_ws b1 ?_
  rw [bin_eql]
  refine cnd_dec (fun h0 => ?_) (fun h0 => ?_)
  · have hm : m = 0 := Int.sign_eq_zero_iff_zero.1 h0
    subst hm
    refine dy_e b1 ?_
    rw [bin_eql]
    have : (decide (-3000 ≤ e) && decide (e ≤ 3000) && (decide ((0 : Int) = 0 ∧ e = 0) || decide ((0 : Int) % 2 = 1))) = decide (e = 0) := by
      by_cases he : e = 0
      · subst he; rfl
      · simp [he]
    rw [this] at HH; exact HH
  · have hm : m ≠ 0 := by rintro rfl; exact h0 rfl
    have hl0 : 0 < l.length := by
      refine Nat.pos_of_ne_zero fun hz => ?_
      have hlnil : l = [] := List.length_eq_zero_iff.1 hz
      have hv := wl.2
      rw [hlnil] at hv
      simp only [val] at hv
      omega
    refine dy_wl b1 ?_
    refine IR.at (i := 0) h1.toIR hl0 u_s_int64 i_int64 u_int64 ?_
    rw [bin_remI (b := 2) (by decide)]
    rw [bin_eql]
    have hv := wl.2
    have h5 : (decide (m = 0 ∧ e = 0) || decide (m % 2 = 1)) = decide (((l[0] % 2 : Nat) : Int) = 1) := by
      rw [decide_eq_false (fun h => hm h.1), Bool.false_or, decide_eq_decide]
      cases l with
      | nil => cases hl0
      | cons a t =>
        simp only [val] at hv
        simp only [List.getElem_cons_zero]
        omega
    rw [h5] at HH
    generalize decide (((l[0] % 2 : Nat) : Int) = 1) = B at HH
    refine andJ (fun hB => ?_) (fun hB => ?_)
    · rw [hB, Bool.and_true] at HH
      refine dy_e b1 ?_
      rw [bin_geq]
      refine andJ (fun h6 => ?_) (fun h6 => ?_)
      · rw [h6, Bool.true_and] at HH
        refine dy_e b1 ?_
        rw [bin_leq]; exact HH
      · rw [h6, Bool.false_and] at HH; exact HH
    · rw [hB, Bool.and_false] at HH
      refine andJ (fun h => by cases h) (fun _ => ?_)
      exact HH
end Go.Proofs.YtjompmflommadaaGreatDoor

/- Contracts: texts of exact numbers and of floats (the program). -/
set_option linter.unusedVariables false
set_option linter.unusedSimpArgs false
namespace Go.Proofs.YtjompmflommadaaGreatDoor
open Go Go.Vc

variable {w : World} {K : Value → World → Prop}

theorem Wr.oneCells {v : Value} {m : Int} (h : Wr w v m) : ∃ s, v = .agg #[.int .i64 m.sign, s] ∧ ∀ x ∈ [Value.int .i64 m.sign, s], x.oneCell' = true := by
  obtain ⟨s, l, rfl, h1, wl⟩ := h
  exact ⟨s, rfl, one_2 rfl (sl_one (IR.sl h1.toIR))⟩
/-- A whole number that is read, put into a variable. -/
theorem Wr.put {v x : Value} {m : Int} {base : Nat} {cs : List Value} {KW : World → Prop} (h : Wr w v m) (hb : Bx w base t_impl_Whole x cs) (hcs : cs.length = 2) (H : ∀ w', w.grownBy w' (blk x) → Wr w' v m → (∃ s, v = .agg #[.int .i64 m.sign, s] ∧ Bx w' base t_impl_Whole x [.int .i64 m.sign, s]) → KW w') : sto P t_impl_Whole x v w KW := by
  obtain ⟨s, l, rfl, h1, wl⟩ := h
  exact hb.put i_impl_Whole (ds := [.int .i64 m.sign, s]) rfl hcs (one_2 rfl (sl_one (IR.sl h1.toIR))) fun w' b' g' => H w' g' ⟨s, l, rfl, h1.kt g' (Ty.box hb) (by decide), wl⟩ ⟨s, rfl, b'⟩
theorem c_whole {p : Value} {m : Int} (h : IntR w p m) (hb : bl m.natAbs ≤ 1099511627775) (H : ∀ v c w', Ext w w' → (bl m.natAbs ≤ 2400 → c = 0 ∧ Wr w' v m) → (2400 < bl m.natAbs → c = 3 ∧ Wr w' v 0) → K (.tuple #[v, .int .i64 c]) w') : call P f_impl_whole [p] w K := by
  refine I_impl_whole ?_
  unfold D_impl_whole
  refine alc_Wh fun x w1 ⟨cs, hcs, b1⟩ e1 => ?_
  refine c_fromBig (h.ext e1) hb (fun hbig w2 e2 => ?_) (fun hsm v w2 e2 hv => ?_)
  · rw [xtr_0, xtr_1]
    refine alc_Wh fun y w3 ⟨cs3, hcs3, b3⟩ e3 => ?_
    refine (Wr.zero w3).put b3 hcs3 fun w4 g4 _ _ => ?_
    have e4 : Ext w2 w4 := ext_of_grown e3 (fun g hg => (b3.blk_lt hg).1) g4
    rw [una_not, Bool.not_false, cnd_true, bld_Whole0]
    have b1 := b1.ext (e2.trans e4)
    refine (Wr.zero w4).put b1 hcs fun w5 g5 h5 ⟨s, hs, b5⟩ => ?_
    refine b5.getc u_impl_Whole rfl i_impl_Whole rfl ?_
    have := H _ 3 w5 (ext_of_grown (e1.trans (e2.trans e4)) (fun g hg => (b1.blk_lt hg).1) g5) (fun h => by omega) (fun _ => ⟨rfl, h5⟩)
    rw [hs] at this; exact this
  · rw [xtr_0, xtr_1]
    have hv := hv.Wr
    refine alc_Wh fun y w3 ⟨cs3, hcs3, b3⟩ e3 => ?_
    refine (hv.ext e3).put b3 hcs3 fun w4 g4 h4 ⟨s, hs, b4⟩ => ?_
    have e4 : Ext w2 w4 := ext_of_grown e3 (fun g hg => (b3.blk_lt hg).1) g4
    rw [una_not, Bool.not_true, cnd_false]
    subst hs
    refine wh_all b4 ?_
    have b1 := b1.ext (e2.trans e4)
    refine h4.put b1 hcs fun w5 g5 h5 ⟨s', hs', b5⟩ => ?_
    refine b5.getc u_impl_Whole rfl i_impl_Whole rfl ?_
    have := H _ 0 w5 (ext_of_grown (e1.trans (e2.trans e4)) (fun g hg => (b1.blk_lt hg).1) g5) (fun _ => ⟨rfl, h5⟩) (fun h => by omega)
    rw [hs'] at this; exact this
/-- Whether a text is that of a whole number that is not too large. -/
def okW (l : List UInt8) : Bool := isNum l && decide (l.length ≤ 800) && decide (bl (numI l).natAbs ≤ 2400)
theorem c_ParseWhole {l : List UInt8} (hl : l.length ≤ 4611686018427387904) (H : ∀ v c m w', Ext w w' → Wr w' v m → (okW l = true → c = 0 ∧ m = numI l) → (okW l = false → c ≠ 0) → K (.tuple #[v, .int .i64 c]) w') : call P f_impl_ParseWhole [str l] w K := by
  refine I_impl_ParseWhole ?_
  unfold D_impl_ParseWhole
  refine alc_Wh fun x w1 ⟨cs, hcs, b1⟩ e1 => ?_
  have bad : okW l = false → ∀ c : Int, c ≠ 0 → bld P t_impl_Whole [] w1 fun x9_6 =>
      sto P t_impl_Whole x x9_6 w1 fun w8 =>
      ldc P t_impl_Whole x w8 fun r9 =>
      K (.tuple #[r9, (.int .i64 c)]) w8 := fun h0 c hc => by
    rw [bld_Whole0]
    refine (Wr.zero w1).put b1 hcs fun w5 g5 h5 ⟨s, hs, b5⟩ => ?_
    refine b5.getc u_impl_Whole rfl i_impl_Whole rfl ?_
    have := H _ c 0 w5 (ext_of_grown e1 (fun g hg => (b1.blk_lt hg).1) g5) h5 (fun h => by rw [h0] at h; cases h) (fun _ => hc)
    rw [hs] at this; exact this
  refine c_isNumeral hl ?_
  rw [una_not]
  refine cnd_split (fun hn => ?_) (fun hn => ?_)
  · have : isNum l = false := by simpa using hn
    exact bad (by unfold okW; rw [this]; rfl) 6 (by decide)
  have hn : isNum l = true := by simpa using hn
  rw [len_str u_string, bin_gtr]
  refine cnd_dec (fun h8 => ?_) (fun h8 => ?_)
  · exact bad (by unfold okW; rw [decide_eq_false (by omega : ¬ l.length ≤ 800)]; simp) 3 (by decide)
  have h8 : l.length ≤ 800 := by omega
  refine alc_Z fun z w2 z2 i2 e2 => ?_
  refine c_SetString z2 hn h8 fun w2' w3 e2' z2' g3 z3 i3 => ?_
  rw [xtr_0, xtr_1]
  have e3 : Ext w1 w3 := ext_of_grown (e2.trans e2') (fun g hg => z2'.blk_ge hg) g3
  have hbig : bl (numI l).natAbs ≤ 3200 := by
    rw [numI_abs]
    have hb := isNum_parts hn
    unfold numB at hb
    simp only [Bool.and_eq_true] at hb
    have := dec_bl hb.1.2 (body l).length
    rw [List.take_length] at this
    have := body_le l
    omega
  refine c_whole i3 (by omega) fun v c w4 e4 h1 h2 => ?_
  rw [xtr_0, xtr_1]
  have b1 := b1.ext (e3.trans e4)
  by_cases hb : bl (numI l).natAbs ≤ 2400
  · obtain ⟨rfl, hv⟩ := h1 hb
    refine hv.put b1 hcs fun w5 g5 h5 ⟨s, hs, b5⟩ => ?_
    refine b5.getc u_impl_Whole rfl i_impl_Whole rfl ?_
    have := H _ 0 _ w5 (ext_of_grown (e1.trans (e3.trans e4)) (fun g hg => (b1.blk_lt hg).1) g5) h5 (fun _ => ⟨rfl, rfl⟩) (fun h => by unfold okW at h; rw [hn, decide_eq_true h8, decide_eq_true hb] at h; cases h)
    rw [hs] at this; exact this
  · obtain ⟨rfl, hv⟩ := h2 (by omega)
    refine hv.put b1 hcs fun w5 g5 h5 ⟨s, hs, b5⟩ => ?_
    refine b5.getc u_impl_Whole rfl i_impl_Whole rfl ?_
    have := H _ 3 _ w5 (ext_of_grown (e1.trans (e3.trans e4)) (fun g hg => (b1.blk_lt hg).1) g5) h5 (fun h => by unfold okW at h; rw [decide_eq_false hb] at h; simp at h) (fun _ => by decide)
    rw [hs] at this; exact this
theorem bld_Dy2 {n e : Int} {s : Value} {K : Value → Prop} (hs : ∃ a l c, s = .slice a l c) : bld P t_impl_Dyadic [(0, .agg #[.int .i64 n, s]), (1, .int .i64 e)] w K = K (.agg #[.int .i64 n, s, .int .i64 e]) := by
  obtain ⟨a, l, c, rfl⟩ := hs
  exact bld_of (by kernel_rfl)
theorem okW_dy {a b : List UInt8} (ha : okW a = false) (hb : isNum b = true) : (isNum a && isNum b && isDyB (numI a) (numI b)) = false := by
  refine Bool.eq_false_iff.2 fun h => ?_
  rw [Bool.and_eq_true, Bool.and_eq_true] at h
  obtain ⟨⟨h1, _⟩, h3⟩ := h
  have h4 := h3
  simp only [isDyB, Bool.and_eq_true, decide_eq_true_eq] at h4
  have h5 := num_short h1 h4.1.1.1
  unfold okW at ha
  rw [h1, decide_eq_true h5, decide_eq_true h4.1.1.1] at ha
  cases ha
set_option maxRecDepth 20000 in
theorem c_ParseDyadic {l : List UInt8} (hl : l.length ≤ 4611686018427387904)
    (H0 : parseD l = none → ∀ v w', Ext w w' → (∃ m e, Dr w' v m e) → K (.tuple #[v, .int .i64 6]) w')
    (H1 : ∀ m e, parseD l = some (m, e) → ∀ v w', Ext w w' → Dr w' v m e → K (.tuple #[v, .int .i64 0]) w') : call P f_impl_ParseDyadic [str l] w K := by
  refine I_impl_ParseDyadic ?_
  unfold D_impl_ParseDyadic
  refine alc_Dy fun x w1 ⟨cs, hcs, b1⟩ e1 => ?_
  have ret0 : parseD l = none → ∀ w2, Ext w1 w2 → bld P t_impl_Dyadic [] w2 fun x59_58 =>
                  sto P t_impl_Dyadic x x59_58 w2 fun w60 =>
                  ldc P t_impl_Dyadic x w60 fun r61 =>
                  K (.tuple #[r61, (.int .i64 6)]) w60 := fun h0 w2 e2 => by
    rw [bld_Dyadic0]
    have b2 := b1.ext e2
    refine b2.put i_impl_Dyadic (ds := [.int .i64 0, .slice none 0 0, .int .i64 0]) rfl hcs (one_3 rfl rfl rfl) fun w3 b3 g3 => ?_
    refine b3.getc u_impl_Dyadic rfl i_impl_Dyadic rfl ?_
    exact H0 h0 _ _ (ext_of_grown (e1.trans e2) (fun g hg => (b2.blk_lt hg).1) g3) ⟨0, 0, Dr.zero0 _⟩
  refine c_Cut (c := 112) hl (fun hno => ?_) (fun a b hab hno => ?_)
  · rw [xtr_0, xtr_1, xtr_2, una_not]
    refine orJ (fun _ => ?_) (fun h => by cases h)
    refine orJ (fun _ => ?_) (fun h => by cases h)
    exact cnd_yes rfl (ret0 (parse_none hno) _ (Ext.refl _))
  have hpar := parse_of (b := b) hno
  rw [← hab] at hpar
  have hla : a.length ≤ 4611686018427387904 ∧ b.length ≤ 4611686018427387904 := by
    rw [hab, List.length_append, List.length_cons] at hl; omega
  rw [xtr_0, xtr_1, xtr_2, una_not, Bool.not_true]
  refine orJ (fun h => by cases h) (fun _ => ?_)
  refine c_isNumeral hla.2 ?_
  rw [una_not]
  refine orJ (fun hn => ?_) (fun hn => ?_)
  · have hb : isNum b = false := by simpa using hn
    exact cnd_yes rfl (ret0 (by rw [hpar, hb]; simp) _ (Ext.refl _))
  have hb : isNum b = true := by simpa using hn
  rw [len_str u_string, bin_gtr]
  refine cnd_dec (fun h6 => ?_) (fun h6 => ?_)
  · refine ret0 ?_ _ (Ext.refl _)
    rw [hpar]
    refine if_neg fun h => ?_
    rw [Bool.and_eq_true, Bool.and_eq_true] at h
    have h3 := h.2
    simp only [isDyB, Bool.and_eq_true, decide_eq_true_eq] at h3
    have := exp_short hb h3.1.1.2 h3.1.2
    omega
  have h6 : b.length ≤ 6 := by omega
  refine c_ParseWhole hla.1 fun v c m w2 e2 hv h1 h2 => ?_
  rw [xtr_0, xtr_1]
  refine alc_Wh fun y w3 ⟨cs3, hcs3, b3⟩ e3 => ?_
  refine (hv.ext e3).put b3 hcs3 fun w4 g4 h4 ⟨s, hs, b4⟩ => ?_
  subst hs
  have e4 : Ext w2 w4 := ext_of_grown e3 (fun g hg => (b3.blk_lt hg).1) g4
  refine c_ParseInt hb h6 fun w5 e5 => ?_
  rw [xtr_0, xtr_1]
  refine wh_all (b4.ext e5) ?_
  have h5 := h4.ext e5
  obtain ⟨s', q, hs', lr, wl⟩ := h5
  simp only [Value.agg.injEq, Array.mk.injEq, List.cons.injEq, true_and, and_true] at hs'
  subst hs'
  rw [bld_Dy2 (IR.sl lr.toIR)]
  have hd5 : Dr w5 (.agg #[.int .i64 m.sign, s, .int .i64 (numI b)]) m (numI b) := ⟨s, q, rfl, lr, wl⟩
  refine alc_Dy fun z w6 ⟨cs6, hcs6, b6⟩ e6 => ?_
  refine (hd5.ext e6).put b6 hcs6 fun w7 ⟨s7, hs7, b7⟩ g7 => ?_
  have hd7 := (hd5.ext e6).kt g7 (Ty.box b6) (by decide)
  rw [hs7] at hd7
  have e7 : Ext w5 w7 := ext_of_grown e6 (fun g hg => (b6.blk_lt hg).1) g7
  have E7 : Ext w1 w7 := e2.trans (e4.trans (e5.trans e7))
  rw [bin_neq]
  by_cases hok : okW a = true
  · obtain ⟨rfl, rfl⟩ := h1 hok
    refine orJ (fun h => by simp at h) (fun _ => ?_)
    rw [nil_err u_error]
    refine orJ (fun h => by cases h) (fun _ => ?_)
    refine dy_all b7 ?_
    refine c_impl_IsDyadic hd7 fun w8 e8 => ?_
    have hna : isNum a = true := by unfold okW at hok; rw [Bool.and_eq_true, Bool.and_eq_true] at hok; exact hok.1.1
    rw [hna, hb, Bool.true_and, Bool.true_and] at hpar
    rw [una_not]
    have E8 := E7.trans e8
    cases hdy : isDyB (numI a) (numI b)
    · rw [hdy] at hpar
      exact cnd_yes rfl (ret0 hpar _ E8)
    · rw [hdy] at hpar
      refine cnd_no rfl ?_
      refine dy_all (b7.ext e8) ?_
      have b1 := b1.ext E8
      have hd8 := hd7.ext e8
      refine hd8.put b1 hcs fun w9 ⟨s9, hs9, b9⟩ g9 => ?_
      have hd9 := hd8.kt g9 (Ty.box b1) (by decide)
      refine b9.getc u_impl_Dyadic rfl i_impl_Dyadic rfl ?_
      rw [hs9] at hd9
      exact H1 _ _ hpar _ _ (ext_of_grown (e1.trans E8) (fun g hg => (b1.blk_lt hg).1) g9) hd9
  · rw [Bool.not_eq_true] at hok
    have hc := h2 hok
    refine orJ (fun _ => ?_) (fun h => by simp at h; exact absurd h hc)
    refine orJ (fun _ => ?_) (fun h => by cases h)
    exact cnd_yes rfl (ret0 (by rw [hpar, okW_dy hok hb]; rfl) _ E7)
theorem c_isMode0 (H : K (.bool true) w) : call P f_impl_isMode [.int .i64 0] w K := by
  refine I_impl_isMode ?_
  unfold D_impl_isMode
  rw [bin_geq]
  refine andJ (fun _ => ?_) (fun h => by simp at h)
  rw [bin_leq]; exact H
theorem c_RoundDyadic {v : Value} {m e : Int} (h : Dr w v m e) (hd : isDyB m e = true) (H : ∀ w', Ext w w' → K (.tuple #[fl (rndQ 0 (dy m e)).1, .int .i64 (rndQ 0 (dy m e)).2, .int .i64 0]) w') : call P f_impl_RoundDyadic [v, .int .i64 0] w K := by
  obtain ⟨s, l, rfl, h1, wl⟩ := h
  refine I_impl_RoundDyadic ?_
  unfold D_impl_RoundDyadic
  refine bx_Dy fun x1 w1 b1 e1 => ?_
  have hd1 : Dr w1 (.agg #[.int .i64 m.sign, s, .int .i64 e]) m e := ⟨s, l, rfl, h1.ext e1, wl⟩
  refine dy_all b1 ?_
  refine c_impl_IsDyadic hd1 fun w2 e2 => ?_
  rw [hd, una_not, Bool.not_true, cnd_false]
  refine c_isMode0 ?_
  rw [una_not, Bool.not_true, cnd_false]
  refine dy_all (b1.ext e2) ?_
  refine c_numberOf (hd1.ext e2) hd fun u w3 e3 n3 => ?_
  refine c_num_round n3 (by decide) (by decide) fun w4 e4 => ?_
  rw [xtr_0, xtr_1]
  exact H _ (e1.trans (e2.trans (e3.trans e4)))
theorem c_parseFloat {l : List UInt8} (hl : l.length ≤ 4611686018427387904) (H : ∀ b w', Ext w w' → (∀ x, pF l = some x → b = x) → K (.tuple #[fl b, .bool (pF l).isSome]) w') : call P f_impl_parseFloat [str l] w K := by
  refine I_impl_parseFloat ?_
  unfold D_impl_parseFloat
  refine c_ParseDyadic hl (fun h0 v w1 e1 ⟨m, e, hd⟩ => ?_) (fun m e hp v w1 e1 hd => ?_)
  · rw [xtr_0, xtr_1]
    refine alc_Dy fun x4 w2 ⟨cs, hcs, b2⟩ e2 => ?_
    refine (hd.ext e2).put b2 hcs fun w3 ⟨s, hv, b3⟩ g3 => ?_
    have e3 : Ext w1 w3 := ext_of_grown e2 (fun g hg => (b2.blk_lt hg).1) g3
    rw [bin_neq]
    refine cnd_yes rfl ?_
    have hpf : pF l = none := by unfold pF; rw [h0]
    have := H 0 w3 (e1.trans e3) (fun x hx => by rw [hpf] at hx; cases hx)
    rw [hpf] at this; exact this
  · rw [xtr_0, xtr_1]
    have hdy := parse_some hp
    refine alc_Dy fun x4 w2 ⟨cs, hcs, b2⟩ e2 => ?_
    refine (hd.ext e2).put b2 hcs fun w3 ⟨s, hv, b3⟩ g3 => ?_
    have hd3 := (hd.ext e2).kt g3 (Ty.box b2) (by decide)
    have e3 : Ext w1 w3 := ext_of_grown e2 (fun g hg => (b2.blk_lt hg).1) g3
    rw [bin_neq]
    refine cnd_no rfl ?_
    rw [hv] at hd3
    refine dy_all b3 ?_
    refine c_RoundDyadic hd3 hdy fun w4 e4 => ?_
    rw [xtr_0, xtr_1, xtr_2, bin_eql]
    have hpf : pF l = if (rndQ 0 (dy m e)).2 = 0 then some (rndQ 0 (dy m e)).1 else none := by unfold pF; rw [hp]
    have := H (rndQ 0 (dy m e)).1 w4 (e1.trans (e3.trans e4)) (fun x hx => by
      rw [hpf] at hx
      split at hx
      · exact Option.some.inj hx
      · cases hx)
    rw [hpf] at this
    have hs : (if (rndQ 0 (dy m e)).2 = 0 then some (rndQ 0 (dy m e)).1 else none).isSome = decide ((rndQ 0 (dy m e)).2 = 0) := by
      split
      · rename_i h; rw [h]; rfl
      · rename_i h; simp [h]
    rw [hs] at this; exact this
end Go.Proofs.YtjompmflommadaaGreatDoor

/- Contracts: words, depths, programs. -/
set_option linter.unusedVariables false
set_option linter.unusedSimpArgs false
namespace Go.Proofs.YtjompmflommadaaGreatDoor
open Go Go.Vc

variable {w : World} {K : Value → World → Prop}

/-! ### lists of texts -/
def big : Nat := 4611686018427387904
structure SS (w : World) (v : Value) (l : List (List UInt8)) : Prop where
  row : Row 1 w v l.length (l.map str)
  lt : ∀ s ∈ l, s.length ≤ 1048576
  cap : CapOk v
theorem SS.ext {w' : World} {v : Value} {l : List (List UInt8)} (h : SS w v l) (he : Ext w w') : SS w' v l := ⟨h.row.ext he, h.lt, h.cap⟩
theorem SS.bound {v : Value} {l : List (List UInt8)} (h : SS w v l) : l.length ≤ 9223372036854775807 := by have := h.row.bound; simp only [maxLen] at this; omega
theorem SS.len {v : Value} {l : List (List UInt8)} {ty : TypeId} {K : Value → Prop} (h : SS w v l) : bl0 P .len #[t_s_string] ty [v] w K = K (.int .i64 l.length) := h.row.len u_s_string
theorem SS.at {v : Value} {l : List (List UInt8)} {k : IntKind} {i : Nat} {K : Value → Prop} (h : SS w v l) (hi : i < l.length) (H : K (str l[i])) : ixa P t_s_string v (.int k (i : Int)) w (fun a => ld P t_string a w K) :=
  h.row.at1 (by rw [List.getElem?_map, List.getElem?_eq_getElem hi]; rfl) u_s_string i_string u_string rfl H
theorem SS.le {v : Value} {l : List (List UInt8)} {i : Nat} (h : SS w v l) (hi : i < l.length) : l[i].length ≤ 4611686018427387904 := by
  have := h.lt _ (List.getElem_mem hi); omega

/-! ### programs -/
def I_Program (w : World) (v : Value) (l : List (List UInt8)) : Prop := ∃ s, v = .agg #[s] ∧ SS w s l
theorem I_Program.ext {w' : World} {v : Value} {l : List (List UInt8)} (h : I_Program w v l) (he : Ext w w') : I_Program w' v l := let ⟨s, h1, h2⟩ := h; ⟨s, h1, h2.ext he⟩
theorem bx_pr {t : TypeId} {s : Value} {KW : Value → World → Prop} (H : ∀ x w', Bx w' w.heap.size t x [s] → Ext w w' → KW x w') : bx P t (.agg #[s]) w KW :=
  bx_bx fun x w' b e _ => H x w' b e
theorem pr_w {base : Nat} {x s : Value} {K : Value → Prop} (h : Bx w base t_impl_Program x [s]) (H : K s) : fda P t_impl_Program x 0 w (fun y => ld P t_s_string y w K) :=
  h.fld (off := 0) rfl u_impl_Program rfl i_s_string u_s_string rfl H
theorem pr_all {base : Nat} {x s : Value} {K : Value → Prop} (h : Bx w base t_impl_Program x [s]) (H : K (.agg #[s])) : ld P t_impl_Program x w K :=
  h.get u_impl_Program rfl i_impl_Program rfl H

/-! ### words -/
noncomputable def form3 (l : List UInt8) : Int := if (pF l).isSome then 0 else -1
noncomputable def form2 (l : List UInt8) : Int :=
  if l = [43] then 2 else if l = [45] then 2 else if l = [42] then 2 else if l = [47] then 2 else if l = [109, 105, 110] then 2 else if l = [109, 97, 120] then 2 else form3 l
noncomputable def form1 (l : List UInt8) : Int :=
  if l = [110, 101, 103] then 1 else if l = [115, 113, 114] then 1 else if l = [97, 98, 115] then 1 else if l = [114, 111, 111, 116] then 1 else if l = [101, 120, 112] then 1 else
  if l = [108, 111, 103] then 1 else if l = [97, 116, 97, 110] then 1 else if l = [115, 105, 110] then 1 else form2 l
noncomputable def form0 (l : List UInt8) : Int := if l = [120] then 0 else if l = [121] then 0 else if l = [122] then 0 else form1 l
def varF (l : List UInt8) : Int := if l = [120] then 0 else if l = [121] then 1 else if l = [122] then 2 else -1
theorem eqs {t : TypeId} {cx cy : Bool} {l : List UInt8} {b : List UInt8} {A B : Prop} (h1 : l = b → A) (h2 : l ≠ b → B) : bin P .eql t cx cy (str l) (str b) w fun x => cnd x A B := by
  rw [eql_str]
  exact cnd_dec h1 h2

set_option maxRecDepth 20000 in
theorem c_form {l : List UInt8} (hl : l.length ≤ 4611686018427387904) (H : ∀ w', Ext w w' → K (.int .i64 (form0 l)) w') : call P f_impl_form [str l] w K := by
  refine I_impl_form ?_
  unfold D_impl_form
  have H0 := H w (Ext.refl _)
  refine ⟨fun w' => w' = w ∧ form0 l = form3 l, ?_, ?_⟩
  · rintro junk w3 ⟨rfl, hf⟩
    rw [hf] at H
    unfold form3 at H
    refine c_parseFloat hl fun b w4 e4 _ => ?_
    rw [xtr_0, xtr_1]
    refine cnd_split (fun h => ?_) (fun h => ?_)
    · have := H w4 e4
      rw [h] at this; exact this
    · have := H w4 e4
      rw [h] at this; exact this
  refine ⟨fun x w' => w' = w ∧ ∃ b, x = .bool b ∧ (b = true → form0 l = 0) ∧ (b = false → form0 l = form1 l), ?_, ?_⟩
  rotate_left
  · have T : form0 l = 0 → (w = w ∧ ∃ b, Value.bool true = .bool b ∧ (b = true → form0 l = 0) ∧ (b = false → form0 l = form1 l)) := fun h => ⟨rfl, true, rfl, fun _ => h, fun h => by cases h⟩
    rw [eql_str]
    refine cnd_dec (fun h => ?_) (fun n1 => ?_)
    · rw [decide_eq_true h]; exact T (by unfold form0; rw [if_pos h])
    rw [eql_str]
    refine cnd_dec (fun h => ?_) (fun n2 => ?_)
    · rw [decide_eq_true h]; exact T (by unfold form0; rw [if_neg n1, if_pos h])
    rw [eql_str]
    refine ⟨rfl, _, rfl, fun h => ?_, fun h => ?_⟩
    · unfold form0; rw [if_neg n1, if_neg n2, if_pos (by simpa using h)]
    · unfold form0; rw [if_neg n1, if_neg n2, if_neg (by simpa using h)]
  rintro x junk w1 ⟨rfl, b, rfl, hb1, hb2⟩
  refine cnd_split (fun h => ?_) (fun h => ?_)
  · rw [hb1 h] at H0; exact H0
  have hf := hb2 h
  refine ⟨fun x w' => w' = w1 ∧ ∃ b, x = .bool b ∧ (b = true → form0 l = 1) ∧ (b = false → form0 l = form2 l), ?_, ?_⟩
  rotate_left
  · have T : form1 l = 1 → ∀ b : Bool, b = true → (w1 = w1 ∧ ∃ c, Value.bool b = .bool c ∧ (c = true → form0 l = 1) ∧ (c = false → form0 l = form2 l)) := fun h b hb => ⟨rfl, b, rfl, fun _ => by rw [hf, h], fun h => by rw [hb] at h; cases h⟩
    rw [eql_str]
    refine cnd_dec (fun h => T (by unfold form1; rw [if_pos h]) _ (decide_eq_true h)) (fun n1 => ?_)
    rw [eql_str]
    refine cnd_dec (fun h => T (by unfold form1; rw [if_neg n1, if_pos h]) _ (decide_eq_true h)) (fun n2 => ?_)
    rw [eql_str]
    refine cnd_dec (fun h => T (by unfold form1; rw [if_neg n1, if_neg n2, if_pos h]) _ (decide_eq_true h)) (fun n3 => ?_)
    rw [eql_str]
    refine cnd_dec (fun h => T (by unfold form1; rw [if_neg n1, if_neg n2, if_neg n3, if_pos h]) _ (decide_eq_true h)) (fun n4 => ?_)
    rw [eql_str]
    refine cnd_dec (fun h => T (by unfold form1; rw [if_neg n1, if_neg n2, if_neg n3, if_neg n4, if_pos h]) _ (decide_eq_true h)) (fun n5 => ?_)
    rw [eql_str]
    refine cnd_dec (fun h => T (by unfold form1; rw [if_neg n1, if_neg n2, if_neg n3, if_neg n4, if_neg n5, if_pos h]) _ (decide_eq_true h)) (fun n6 => ?_)
    rw [eql_str]
    refine cnd_dec (fun h => T (by unfold form1; rw [if_neg n1, if_neg n2, if_neg n3, if_neg n4, if_neg n5, if_neg n6, if_pos h]) _ (decide_eq_true h)) (fun n7 => ?_)
    rw [eql_str]
    refine ⟨rfl, _, rfl, fun h => ?_, fun h => ?_⟩
    · rw [hf]; unfold form1; rw [if_neg n1, if_neg n2, if_neg n3, if_neg n4, if_neg n5, if_neg n6, if_neg n7, if_pos (by simpa using h)]
    · rw [hf]; unfold form1; rw [if_neg n1, if_neg n2, if_neg n3, if_neg n4, if_neg n5, if_neg n6, if_neg n7, if_neg (by simpa using h)]
  rintro x junk w2 ⟨rfl, b2, rfl, hc1, hc2⟩
  refine cnd_split (fun h => ?_) (fun h => ?_)
  · rw [hc1 h] at H0; exact H0
  have hf2 := hc2 h
  have T : form2 l = 2 → K (.int .i64 2) w2 := fun h => by rw [hf2, h] at H0; exact H0
  rw [eql_str]
  refine cnd_dec (fun h => cnd_yes (decide_eq_true h) (T (by unfold form2; rw [if_pos h]))) (fun n1 => ?_)
  rw [eql_str]
  refine cnd_dec (fun h => cnd_yes (decide_eq_true h) (T (by unfold form2; rw [if_neg n1, if_pos h]))) (fun n2 => ?_)
  rw [eql_str]
  refine cnd_dec (fun h => cnd_yes (decide_eq_true h) (T (by unfold form2; rw [if_neg n1, if_neg n2, if_pos h]))) (fun n3 => ?_)
  rw [eql_str]
  refine cnd_dec (fun h => cnd_yes (decide_eq_true h) (T (by unfold form2; rw [if_neg n1, if_neg n2, if_neg n3, if_pos h]))) (fun n4 => ?_)
  rw [eql_str]
  refine cnd_dec (fun h => cnd_yes (decide_eq_true h) (T (by unfold form2; rw [if_neg n1, if_neg n2, if_neg n3, if_neg n4, if_pos h]))) (fun n5 => ?_)
  rw [eql_str]
  refine cnd_dec (fun h => (T (by unfold form2; rw [if_neg n1, if_neg n2, if_neg n3, if_neg n4, if_neg n5, if_pos h]))) (fun n6 => ?_)
  exact ⟨rfl, by rw [hf2]; unfold form2; rw [if_neg n1, if_neg n2, if_neg n3, if_neg n4, if_neg n5, if_neg n6]⟩
/-! ### depths -/
theorem form_range (l : List UInt8) : -1 ≤ form0 l ∧ form0 l ≤ 2 := by
  unfold form0 form1 form2 form3
  constructor <;> repeat (first | omega | split)
theorem var_range (l : List UInt8) : -1 ≤ varF l ∧ varF l ≤ 2 := by
  unfold varF
  constructor <;> repeat (first | omega | split)
noncomputable def dpS (ws : List (List UInt8)) : Nat → Option (Int × Int)
  | 0 => some (0, 0)
  | i + 1 => match dpS ws i with
    | none => none
    | some (h, m) => if form0 (ws.getD i []) < 0 ∨ h < form0 (ws.getD i []) then none else some (h + 1 - form0 (ws.getD i []), max m (h + 1 - form0 (ws.getD i [])))
theorem dpS_range (ws : List (List UInt8)) : ∀ (i : Nat) (h m : Int), dpS ws i = some (h, m) → 0 ≤ h ∧ h ≤ m ∧ m ≤ i
  | 0, h, m, e => by
    simp only [dpS, Option.some.injEq, Prod.mk.injEq] at e
    omega
  | i + 1, h, m, e => by
    unfold dpS at e
    split at e
    · cases e
    · rename_i h0 m0 e0
      have := dpS_range ws i h0 m0 e0
      split at e
      · cases e
      · simp only [Option.some.injEq, Prod.mk.injEq] at e
        obtain ⟨rfl, rfl⟩ := e
        omega
theorem dpS_none (ws : List (List UInt8)) : ∀ (i j : Nat), dpS ws i = none → dpS ws (i + j) = none
  | i, 0, h => h
  | i, j + 1, h => by
    rw [show i + (j + 1) = (i + j) + 1 by omega]
    unfold dpS
    rw [dpS_none ws i j h]
noncomputable def depF (ws : List (List UInt8)) : Option Int :=
  if 1 ≤ ws.length ∧ ws.length ≤ 60 then (match dpS ws ws.length with
    | none => none
    | some (h, m) => if h = 1 ∧ m ≤ 16 then some m else none) else none
theorem depF_pos {ws : List (List UInt8)} {m : Int} (h : depF ws = some m) : 0 < m ∧ m ≤ 16 ∧ 1 ≤ ws.length ∧ ws.length ≤ 60 := by
  unfold depF at h
  split at h
  · rename_i h1
    split at h
    · cases h
    · rename_i a b e
      have := dpS_range ws _ _ _ e
      split at h
      · rename_i h2
        simp only [Option.some.injEq] at h
        omega
      · cases h
  · cases h
theorem getD_w {l : List (List UInt8)} {i : Nat} (h : i < l.length) : l.getD i [] = l[i] := by simp [h]
theorem dp_bad {ws : List (List UInt8)} {i : Nat} (hi : i < ws.length) {h m : Int} (e : dpS ws i = some (h, m)) (hb : form0 ws[i] < 0 ∨ h < form0 ws[i]) : depF ws = none := by
  have h1 : dpS ws (i + 1) = none := by
    unfold dpS
    rw [e]
    simp only [getD_w hi]
    rw [if_pos hb]
  have h2 := dpS_none ws (i + 1) (ws.length - (i + 1)) h1
  rw [show i + 1 + (ws.length - (i + 1)) = ws.length by omega] at h2
  unfold depF
  rw [h2]
  split <;> rfl
theorem dp_step {ws : List (List UInt8)} {i : Nat} (hi : i < ws.length) {h m : Int} (e : dpS ws i = some (h, m)) (hb : ¬ (form0 ws[i] < 0 ∨ h < form0 ws[i])) : dpS ws (i + 1) = some (h + 1 - form0 ws[i], max m (h + 1 - form0 ws[i])) := by
  conv => lhs; unfold dpS
  rw [e]
  simp only [getD_w hi]
  rw [if_neg hb]

theorem c_depthOf {v : Value} {ws : List (List UInt8)} (h : SS w v ws) (H : ∀ n w', Ext w w' → (∀ m, depF ws = some m → n = m) → K (.tuple #[.int .i64 n, .bool (depF ws).isSome]) w') : call P f_impl_depthOf [v] w K := by
  refine I_impl_depthOf ?_
  unfold D_impl_depthOf
  have none0 : depF ws = none → ∀ w', Ext w w' → K (.tuple #[.int .i64 0, .bool false]) w' := fun h0 w' he => by
    have := H 0 w' he (fun m hm => by rw [h0] at hm; cases hm)
    rw [h0] at this; exact this
  rw [h.len, bin_lss]
  have hb := h.bound
  refine orJ (fun h1 => ?_) (fun h1 => ?_)
  · rw [cnd_true]
    exact none0 (by unfold depF; rw [if_neg (by simp only [decide_eq_true_eq] at h1; omega)]) _ (Ext.refl _)
  rw [h.len, bin_gtr]
  refine cnd_dec (fun h2 => ?_) (fun h2 => ?_)
  · exact none0 (by unfold depF; rw [if_neg (by omega)]) _ (Ext.refl _)
  have hlen : 1 ≤ ws.length ∧ ws.length ≤ 60 := by simp only [decide_eq_false_iff_not] at h1; omega
  rw [h.len]
  refine ⟨fun g x4 x5 x w' => ∃ (i : Nat) (a b : Int), x = .int .i64 i ∧ g + i = ws.length ∧ x4 = .int .i64 a ∧ x5 = .int .i64 b ∧ dpS ws i = some (a, b) ∧ Ext w w', ⟨ws.length, 0, 0, 0, rfl, by omega, rfl, rfl, rfl, Ext.refl _⟩, ?_⟩
  rintro g x4 x5 x junk w1 ⟨i, a, b, rfl, hg, rfl, rfl, hdp, e1⟩
  have hr := dpS_range ws i a b hdp
  rw [bin_lss]
  refine cnd_dec (fun hlt => ?_) (fun hge => ?_)
  · have hi : i < ws.length := by omega
    refine (h.ext e1).at hi ?_
    refine c_form (h.le hi) fun w2 e2 => ?_
    have E := e1.trans e2
    have hf := form_range ws[i]
    rw [bin_lss]
    refine orJ (fun h3 => ?_) (fun h3 => ?_)
    · rw [cnd_true]
      exact none0 (dp_bad hi hdp (.inl (by simpa using h3))) _ E
    rw [bin_lss]
    refine cnd_dec (fun h4 => none0 (dp_bad hi hdp (.inr h4)) _ E) (fun h4 => ?_)
    have hs := dp_step hi hdp (by simp only [decide_eq_false_iff_not] at h3; omega)
    rw [bin_sub, wrap_i64 (by omega) (by omega), bin_add, wrap_i64 (by omega) (by omega), bl0_max_i64, bin_add, wrap_i64 (by omega) (by omega)]
    refine ⟨g - 1, by omega, i + 1, _, _, rfl, by omega, rfl, rfl, ?_, E⟩
    rw [hs, show a + (1 - form0 ws[i]) = a + 1 - form0 ws[i] by omega]
  · have hi : i = ws.length := by omega
    subst hi
    have hdF : depF ws = if a = 1 ∧ b ≤ 16 then some b else none := by unfold depF; rw [if_pos hlen, hdp]
    have HH := H b w1 e1 (fun m hm => by
      rw [hdF] at hm
      split at hm
      · exact Option.some.inj hm
      · cases hm)
    rw [bin_eql]
    refine andJ (fun h3 => ?_) (fun h3 => ?_)
    · rw [bin_leq]
      simp only [decide_eq_true_eq] at h3
      have : (depF ws).isSome = decide (b ≤ 16) := by
        rw [hdF]
        by_cases h4 : b ≤ 16
        · rw [if_pos ⟨h3, h4⟩, decide_eq_true h4]; rfl
        · rw [if_neg (fun h => h4 h.2), decide_eq_false h4]; rfl
      rw [this] at HH; exact HH
    · simp only [decide_eq_false_iff_not] at h3
      have : (depF ws).isSome = false := by rw [hdF, if_neg (fun h => h3 h.1)]; rfl
      rw [this] at HH; exact HH
theorem c_impl_IsProgram {v : Value} {ws : List (List UInt8)} (h : I_Program w v ws) (H : ∀ w', Ext w w' → K (.bool (depF ws).isSome) w') : call P f_impl_IsProgram [v] w K := by
  obtain ⟨s, rfl, hs⟩ := h
  refine I_impl_IsProgram ?_
  unfold D_impl_IsProgram
  refine bx_pr fun x w1 b1 e1 => ?_
  refine pr_w b1 ?_
  refine c_depthOf (hs.ext e1) fun n w2 e2 _ => ?_
  rw [xtr_0, xtr_1]
  exact H _ (e1.trans e2)
noncomputable def ndS (ws : List (List UInt8)) : Nat → Int
  | 0 => 0
  | i + 1 => max (ndS ws i) (varF (ws.getD i []) + 1)
theorem ndS_range (ws : List (List UInt8)) : ∀ i, 0 ≤ ndS ws i ∧ ndS ws i ≤ 3
  | 0 => by simp [ndS]
  | i + 1 => by
    have h1 := ndS_range ws i
    have h2 := var_range (ws.getD i [])
    simp only [ndS]
    omega
end Go.Proofs.YtjompmflommadaaGreatDoor

/- Contracts: words, depths, programs (the reference); IsProgram, DepthOf, VariablesOf. -/
set_option linter.unusedVariables false
set_option linter.unusedSimpArgs false
namespace Go.Proofs.YtjompmflommadaaGreatDoor
open Go Go.Vc

variable {w : World} {K : Value → World → Prop}

set_option maxRecDepth 20000 in
theorem c_l08Needs {l : List UInt8} (hl : l.length ≤ 4611686018427387904) (H : ∀ w', Ext w w' → K (.int .i64 (form0 l)) w') : call P f_spec_l08Needs [str l] w K := by
  refine I_spec_l08Needs ?_
  unfold D_spec_l08Needs
  have H0 := H w (Ext.refl _)
  refine ⟨fun w' => w' = w ∧ form0 l = form3 l, ?_, ?_⟩
  · rintro junk w3 ⟨rfl, hf⟩
    rw [hf] at H
    unfold form3 at H
    refine c_l06Float hl fun b w4 e4 _ => ?_
    rw [xtr_0, xtr_1]
    refine cnd_split (fun h => ?_) (fun h => ?_)
    · have := H w4 e4
      rw [h] at this; exact this
    · have := H w4 e4
      rw [h] at this; exact this
  refine ⟨fun x w' => w' = w ∧ ∃ b, x = .bool b ∧ (b = true → form0 l = 0) ∧ (b = false → form0 l = form1 l), ?_, ?_⟩
  rotate_left
  · have T : form0 l = 0 → (w = w ∧ ∃ b, Value.bool true = .bool b ∧ (b = true → form0 l = 0) ∧ (b = false → form0 l = form1 l)) := fun h => ⟨rfl, true, rfl, fun _ => h, fun h => by cases h⟩
    rw [eql_str]
    refine cnd_dec (fun h => ?_) (fun n1 => ?_)
    · rw [decide_eq_true h]; exact T (by unfold form0; rw [if_pos h])
    rw [eql_str]
    refine cnd_dec (fun h => ?_) (fun n2 => ?_)
    · rw [decide_eq_true h]; exact T (by unfold form0; rw [if_neg n1, if_pos h])
    rw [eql_str]
    refine ⟨rfl, _, rfl, fun h => ?_, fun h => ?_⟩
    · unfold form0; rw [if_neg n1, if_neg n2, if_pos (by simpa using h)]
    · unfold form0; rw [if_neg n1, if_neg n2, if_neg (by simpa using h)]
  rintro x junk w1 ⟨rfl, b, rfl, hb1, hb2⟩
  refine cnd_split (fun h => ?_) (fun h => ?_)
  · rw [hb1 h] at H0; exact H0
  have hf := hb2 h
  refine ⟨fun x w' => w' = w1 ∧ ∃ b, x = .bool b ∧ (b = true → form0 l = 1) ∧ (b = false → form0 l = form2 l), ?_, ?_⟩
  rotate_left
  · have T : form1 l = 1 → ∀ b : Bool, b = true → (w1 = w1 ∧ ∃ c, Value.bool b = .bool c ∧ (c = true → form0 l = 1) ∧ (c = false → form0 l = form2 l)) := fun h b hb => ⟨rfl, b, rfl, fun _ => by rw [hf, h], fun h => by rw [hb] at h; cases h⟩
    rw [eql_str]
    refine cnd_dec (fun h => T (by unfold form1; rw [if_pos h]) _ (decide_eq_true h)) (fun n1 => ?_)
    rw [eql_str]
    refine cnd_dec (fun h => T (by unfold form1; rw [if_neg n1, if_pos h]) _ (decide_eq_true h)) (fun n2 => ?_)
    rw [eql_str]
    refine cnd_dec (fun h => T (by unfold form1; rw [if_neg n1, if_neg n2, if_pos h]) _ (decide_eq_true h)) (fun n3 => ?_)
    rw [eql_str]
    refine cnd_dec (fun h => T (by unfold form1; rw [if_neg n1, if_neg n2, if_neg n3, if_pos h]) _ (decide_eq_true h)) (fun n4 => ?_)
    rw [eql_str]
    refine cnd_dec (fun h => T (by unfold form1; rw [if_neg n1, if_neg n2, if_neg n3, if_neg n4, if_pos h]) _ (decide_eq_true h)) (fun n5 => ?_)
    rw [eql_str]
    refine cnd_dec (fun h => T (by unfold form1; rw [if_neg n1, if_neg n2, if_neg n3, if_neg n4, if_neg n5, if_pos h]) _ (decide_eq_true h)) (fun n6 => ?_)
    rw [eql_str]
    refine cnd_dec (fun h => T (by unfold form1; rw [if_neg n1, if_neg n2, if_neg n3, if_neg n4, if_neg n5, if_neg n6, if_pos h]) _ (decide_eq_true h)) (fun n7 => ?_)
    rw [eql_str]
    refine ⟨rfl, _, rfl, fun h => ?_, fun h => ?_⟩
    · rw [hf]; unfold form1; rw [if_neg n1, if_neg n2, if_neg n3, if_neg n4, if_neg n5, if_neg n6, if_neg n7, if_pos (by simpa using h)]
    · rw [hf]; unfold form1; rw [if_neg n1, if_neg n2, if_neg n3, if_neg n4, if_neg n5, if_neg n6, if_neg n7, if_neg (by simpa using h)]
  rintro x junk w2 ⟨rfl, b2, rfl, hc1, hc2⟩
  refine cnd_split (fun h => ?_) (fun h => ?_)
  · rw [hc1 h] at H0; exact H0
  have hf2 := hc2 h
  have T : form2 l = 2 → K (.int .i64 2) w2 := fun h => by rw [hf2, h] at H0; exact H0
  rw [eql_str]
  refine cnd_dec (fun h => cnd_yes (decide_eq_true h) (T (by unfold form2; rw [if_pos h]))) (fun n1 => ?_)
  rw [eql_str]
  refine cnd_dec (fun h => cnd_yes (decide_eq_true h) (T (by unfold form2; rw [if_neg n1, if_pos h]))) (fun n2 => ?_)
  rw [eql_str]
  refine cnd_dec (fun h => cnd_yes (decide_eq_true h) (T (by unfold form2; rw [if_neg n1, if_neg n2, if_pos h]))) (fun n3 => ?_)
  rw [eql_str]
  refine cnd_dec (fun h => cnd_yes (decide_eq_true h) (T (by unfold form2; rw [if_neg n1, if_neg n2, if_neg n3, if_pos h]))) (fun n4 => ?_)
  rw [eql_str]
  refine cnd_dec (fun h => cnd_yes (decide_eq_true h) (T (by unfold form2; rw [if_neg n1, if_neg n2, if_neg n3, if_neg n4, if_pos h]))) (fun n5 => ?_)
  rw [eql_str]
  refine cnd_dec (fun h => (T (by unfold form2; rw [if_neg n1, if_neg n2, if_neg n3, if_neg n4, if_neg n5, if_pos h]))) (fun n6 => ?_)
  exact ⟨rfl, by rw [hf2]; unfold form2; rw [if_neg n1, if_neg n2, if_neg n3, if_neg n4, if_neg n5, if_neg n6]⟩

theorem c_l08Depth {v : Value} {ws : List (List UInt8)} (h : I_Program w v ws) (H : ∀ w', Ext w w' → K (.int .i64 ((depF ws).getD 0)) w') : call P f_spec_l08Depth [v] w K := by
  obtain ⟨s, rfl, hs⟩ := h
  refine I_spec_l08Depth ?_
  unfold D_spec_l08Depth
  refine bx_pr fun x w1 b1 e1 => ?_
  have h1 := hs.ext e1
  have hb := h1.bound
  have none0 : depF ws = none → ∀ w', Ext w1 w' → K (.int .i64 0) w' := fun h0 w' he => by
    have := H w' (e1.trans he)
    rw [h0] at this; exact this
  refine pr_w b1 ?_
  rw [h1.len, bin_lss]
  refine orJ (fun h2 => ?_) (fun h2 => ?_)
  · rw [cnd_true]
    exact none0 (by unfold depF; rw [if_neg (by simp only [decide_eq_true_eq] at h2; omega)]) _ (Ext.refl _)
  refine pr_w b1 ?_
  rw [h1.len, bin_gtr]
  refine cnd_dec (fun h3 => ?_) (fun h3 => ?_)
  · exact none0 (by unfold depF; rw [if_neg (by omega)]) _ (Ext.refl _)
  have hlen : 1 ≤ ws.length ∧ ws.length ≤ 60 := by simp only [decide_eq_false_iff_not] at h2; omega
  refine ⟨fun g x4 x5 x w' => ∃ (i : Nat) (a b : Int), x = .int .i64 i ∧ g + i = ws.length ∧ x4 = .int .i64 a ∧ x5 = .int .i64 b ∧ dpS ws i = some (a, b) ∧ Ext w1 w', ⟨ws.length, 0, 0, 0, rfl, by omega, rfl, rfl, rfl, Ext.refl _⟩, ?_⟩
  rintro g x4 x5 y junk w2 ⟨i, a, b, rfl, hg, rfl, rfl, hdp, e2⟩
  have hr := dpS_range ws i a b hdp
  refine pr_w (b1.ext e2) ?_
  rw [(h1.ext e2).len, bin_lss]
  refine cnd_dec (fun hlt => ?_) (fun hge => ?_)
  · have hi : i < ws.length := by omega
    refine pr_w (b1.ext e2) ?_
    refine (h1.ext e2).at hi ?_
    refine c_l08Needs (h1.le hi) fun w3 e3 => ?_
    have E := e2.trans e3
    have hf := form_range ws[i]
    rw [bin_lss]
    refine orJ (fun h3 => ?_) (fun h3 => ?_)
    · rw [cnd_true]
      exact none0 (dp_bad hi hdp (.inl (by simpa using h3))) _ E
    rw [bin_lss]
    refine cnd_dec (fun h4 => none0 (dp_bad hi hdp (.inr h4)) _ E) (fun h4 => ?_)
    have hs := dp_step hi hdp (by simp only [decide_eq_false_iff_not] at h3; omega)
    rw [bin_sub, wrap_i64 (by omega) (by omega), bin_add, wrap_i64 (by omega) (by omega), bl0_max_i64, bin_add, wrap_i64 (by omega) (by omega)]
    refine ⟨g - 1, by omega, i + 1, _, _, rfl, by omega, rfl, rfl, ?_, E⟩
    rw [hs, show a - form0 ws[i] + 1 = a + 1 - form0 ws[i] by omega]
  · have hi : i = ws.length := by omega
    subst hi
    have hdF : depF ws = if a = 1 ∧ b ≤ 16 then some b else none := by unfold depF; rw [if_pos hlen, hdp]
    have HH := H w2 (e1.trans e2)
    rw [bin_neq]
    refine orJ (fun h3 => ?_) (fun h3 => ?_)
    · simp only [decide_eq_true_eq] at h3
      rw [hdF, if_neg (fun h => h3 h.1)] at HH
      rw [cnd_true]; exact HH
    · simp only [decide_eq_false_iff_not, Decidable.not_not] at h3
      rw [bin_gtr]
      refine cnd_dec (fun h4 => ?_) (fun h4 => ?_)
      · rw [hdF, if_neg (fun h => by omega)] at HH; exact HH
      · rw [hdF, if_pos (by omega)] at HH; exact HH
theorem c_l08Is {v : Value} {ws : List (List UInt8)} (h : I_Program w v ws) (H : ∀ w', Ext w w' → K (.bool (depF ws).isSome) w') : call P f_spec_l08Is [v] w K := by
  obtain ⟨s, rfl, hs⟩ := h
  refine I_spec_l08Is ?_
  unfold D_spec_l08Is
  refine bx_pr fun x w1 b1 e1 => ?_
  refine pr_all b1 ?_
  refine c_l08Depth ⟨s, rfl, hs.ext e1⟩ fun w2 e2 => ?_
  rw [bin_gtr]
  have HH := H w2 (e1.trans e2)
  cases hd : depF ws with
  | none => rw [hd] at HH; exact HH
  | some m =>
    rw [hd] at HH
    have := (depF_pos hd).1
    rw [show decide ((some m).getD 0 > 0) = true from decide_eq_true (by simpa using this)]
    exact HH
/-! ### as the laws want them -/
noncomputable def isPF (ws : List (List UInt8)) : Bool := (depF ws).isSome
noncomputable def depthF (ws : List (List UInt8)) : Int × Int := match depF ws with | none => (0, 1) | some m => (m, 0)
noncomputable def varsF (ws : List (List UInt8)) : Int × Int := if isPF ws then (ndS ws ws.length, 0) else (0, 1)
theorem p_IsProgram {v : Value} {ws : List (List UInt8)} (h : I_Program w v ws) (H : ∀ w', Ext w w' → K (.bool (isPF ws)) w') : call P f_impl_IsProgram [v] w K := c_impl_IsProgram h H
end Go.Proofs.YtjompmflommadaaGreatDoor

/- The interface for lists of texts and programs. -/
set_option linter.unusedVariables false
set_option linter.unusedSimpArgs false
namespace Go.Proofs.YtjompmflommadaaGreatDoor
open Go Go.Vc

variable {w : World} {K : Value → World → Prop} {lo hi : Nat} {v : Value}

/-! ### lists of texts -/
structure A_StringS (w : World) (v : Value) (l : List (List UInt8)) : Prop where
  row : Row 1 w v l.length (l.map str)
  lt : ∀ s ∈ l, s.length ≤ 9223372036854775807
  cap : CapOk v
theorem A_StringS.ext {w' : World} {l : List (List UInt8)} (h : A_StringS w v l) (he : Ext w w') : A_StringS w' v l := ⟨h.row.ext he, h.lt, h.cap⟩
theorem A_StringS.N {l : List (List UInt8)} (h : A_StringS w v l) : A_StringS (Vc.N w) v l := ⟨h.row, h.lt, h.cap⟩
theorem A_StringS.bound {l : List (List UInt8)} (h : A_StringS w v l) : l.length ≤ 9223372036854775807 := by have := h.row.bound; simp only [maxLen] at this; omega
theorem A_StringS.at {l : List (List UInt8)} {k : IntKind} {i : Nat} {K : Value → Prop} (h : A_StringS w v l) (hi : i < l.length) (H : K (str l[i])) : ixa P t_s_string v (.int k (i : Int)) w (fun a => ld P t_string a w K) :=
  h.row.at1 (by rw [List.getElem?_map, List.getElem?_eq_getElem hi]; rfl) u_s_string i_string u_string rfl H
abbrev I_StringS := SS
def O_StringS (w : World) (lo hi : Nat) (v : Value) (l : List (List UInt8)) : Prop := OwnR w lo hi t_string 1 v l.length (l.map str) ∧ ∀ s ∈ l, s.length ≤ 1048576
theorem O_StringS.ext {l : List (List UInt8)} {w' : World} (h : O_StringS w lo hi v l) (he : Ext w w') : O_StringS w' lo hi v l := ⟨h.1.ext he, h.2⟩
theorem O_StringS.chg {l : List (List UInt8)} {w' : World} {lo' hi' : Nat} (h : O_StringS w lo hi v l) (hc : Chg lo' hi' w w') (hd : hi ≤ lo' ∨ hi' ≤ lo) : O_StringS w' lo hi v l := ⟨h.1.chg hc hd, h.2⟩
theorem O_StringS.I {l : List (List UInt8)} (h : O_StringS w lo hi v l) : I_StringS w v l := ⟨owns_Row h.1.own, h.2, owns_cap h.1.own⟩
def totS (l : List (List UInt8)) : Nat := (l.map List.length).sum
def sz_StringS (l : List (List UInt8)) : Nat := l.length + totS l
def cnt_StringS (l : List (List UInt8)) : Nat := l.length
theorem cnt_sz_StringS (l : List (List UInt8)) : cnt_StringS l ≤ sz_StringS l := by unfold cnt_StringS sz_StringS; omega
theorem totS_take {l : List (List UInt8)} {i : Nat} (hi : i < l.length) : totS (l.take (i + 1)) = totS (l.take i) + l[i].length := by
  unfold totS
  rw [List.take_succ_eq_append_getElem hi, List.map_append, List.sum_append]
  simp
theorem totS_ge {l : List (List UInt8)} {s : List UInt8} (h : s ∈ l) : s.length ≤ totS l := by
  unfold totS
  induction l with
  | nil => cases h
  | cons a l ih =>
    rw [List.map_cons, List.sum_cons]
    rcases List.mem_cons.1 h with rfl | h
    · omega
    · have := ih h; omega
theorem len_StringS {l : List (List UInt8)} (h : A_StringS w v l) {ty : TypeId} {K : Value → Prop} : bl0 P .len #[t_s_string] ty [v] w K = K (.int .i64 (l.length : Nat)) := h.row.len u_s_string
set_option maxRecDepth 20000 in
theorem c_eq_StringS {u : Value} {l : List (List UInt8)} (h1 : I_StringS w u l) (h2 : I_StringS w v l) (H : ∀ w', Ext w w' → K (.bool true) w') : call P f_laws_eqStringS [u, v] w K := by
  refine I_laws_eqStringS ?_
  unfold D_laws_eqStringS
  have hb := h1.bound
  rw [h1.len, h2.len, bin_neq]
  refine cnd_dec (fun h1 => by omega) (fun _ => ?_)
  refine ⟨fun m x w' => w' = w ∧ ∃ i : Nat, x = .int .i64 i ∧ m + i = l.length, ⟨l.length, rfl, 0, rfl, by omega⟩, ?_⟩
  rintro m x junk w' ⟨rfl, i, rfl, hm⟩
  rw [h1.len, bin_lss]
  refine cnd_dec (fun hlt => ?_) (fun hge => H _ (Ext.refl _))
  have hi : i < l.length := by omega
  refine h1.at hi ?_
  refine h2.at hi ?_
  rw [neq_str]
  refine cnd_no (by simp) ?_
  rw [bin_add, wrap_i64 (by omega) (by omega)]
  exact ⟨m - 1, by omega, rfl, i + 1, rfl, by omega⟩

/-! ### programs -/
def A_Program (w : World) (v : Value) (l : List (List UInt8)) : Prop := ∃ s, v = .agg #[s] ∧ A_StringS w s l
theorem A_Program.ext {w' : World} {l : List (List UInt8)} (h : A_Program w v l) (he : Ext w w') : A_Program w' v l := let ⟨s, h1, h2⟩ := h; ⟨s, h1, h2.ext he⟩
theorem A_Program.N {l : List (List UInt8)} (h : A_Program w v l) : A_Program (Vc.N w) v l := let ⟨s, h1, h2⟩ := h; ⟨s, h1, h2.N⟩
def O_Program (w : World) (lo hi : Nat) (v : Value) (l : List (List UInt8)) : Prop := ∃ s, v = .agg #[s] ∧ O_StringS w lo hi s l
theorem O_Program.ext {l : List (List UInt8)} {w' : World} (h : O_Program w lo hi v l) (he : Ext w w') : O_Program w' lo hi v l := let ⟨s, h1, h2⟩ := h; ⟨s, h1, h2.ext he⟩
theorem O_Program.chg {l : List (List UInt8)} {w' : World} {lo' hi' : Nat} (h : O_Program w lo hi v l) (hc : Chg lo' hi' w w') (hd : hi ≤ lo' ∨ hi' ≤ lo) : O_Program w' lo hi v l := let ⟨s, h1, h2⟩ := h; ⟨s, h1, h2.chg hc hd⟩
theorem O_Program.I {l : List (List UInt8)} (h : O_Program w lo hi v l) : I_Program w v l := let ⟨s, h1, h2⟩ := h; ⟨s, h1, h2.I⟩
def sz_Program (l : List (List UInt8)) : Nat := sz_StringS l
def cnt_Program (l : List (List UInt8)) : Nat := l.length
theorem cnt_sz_Program (l : List (List UInt8)) : cnt_Program l ≤ sz_Program l := cnt_sz_StringS l
theorem one_sl1 {s : Value} (h : ∃ a n c, s = .slice a n c) : ∀ x ∈ [s], x.oneCell' = true := by
  intro x hx
  simp only [List.mem_cons, List.not_mem_nil, or_false] at hx
  rw [hx]; exact sl_one h
theorem A_StringS.sl {l : List (List UInt8)} (h : A_StringS w v l) : ∃ a n c, v = .slice a n c := by obtain ⟨_, _, a, c, rfl, _⟩ := h.row; exact ⟨_, _, _, rfl⟩
theorem SS.sl {l : List (List UInt8)} (h : SS w v l) : ∃ a n c, v = .slice a n c := by obtain ⟨_, _, a, c, rfl, _⟩ := h.row; exact ⟨_, _, _, rfl⟩
theorem Program_agg {l : List (List UInt8)} (h : I_Program w v l) : ∃ cs : List Value, v = .agg cs.toArray ∧ cs.length = 1 ∧ ∀ x ∈ cs, x.oneCell' = true := by
  obtain ⟨s, rfl, h1⟩ := h
  exact ⟨[s], rfl, rfl, one_sl1 h1.sl⟩
theorem Program_aggA {l : List (List UInt8)} (h : A_Program w v l) : ∃ cs : List Value, v = .agg cs.toArray ∧ cs.length = 1 ∧ ∀ x ∈ cs, x.oneCell' = true := by
  obtain ⟨s, rfl, h1⟩ := h
  exact ⟨[s], rfl, rfl, one_sl1 h1.sl⟩
/-- A struct made a variable. -/
theorem bx_agg {t : TypeId} {cs : List Value} {KW : Value → World → Prop} (H : ∀ p w', Bx w' w.heap.size t p cs → Ext w w' → KW p w') : bx P t (.agg cs.toArray) w KW :=
  bx_bx fun p w' b e _ => H p w' b e
theorem c_eq_Program {u : Value} {l : List (List UInt8)} (h1 : I_Program w u l) (h2 : I_Program w v l) (H : ∀ w', Ext w w' → K (.bool true) w') : call P f_laws_eqProgram [u, v] w K := by
  obtain ⟨s, rfl, a1⟩ := h1
  obtain ⟨t, rfl, a2⟩ := h2
  refine I_laws_eqProgram ?_
  unfold D_laws_eqProgram
  refine bx_pr fun x w1 b1 e1 => ?_
  refine bx_pr fun y w2 b2 e2 => ?_
  refine pr_w (b1.ext e2) ?_
  refine pr_w b2 ?_
  have E := e1.trans e2
  refine c_eq_StringS (a1.ext E) (a2.ext E) fun w3 e3 => ?_
  rw [una_not, Bool.not_true, cnd_false]
  exact H _ (E.trans e3)
end Go.Proofs.YtjompmflommadaaGreatDoor

/- Contracts: texts split at blanks; ParseProgram. -/
set_option linter.unusedVariables false
set_option linter.unusedSimpArgs false
namespace Go.Proofs.YtjompmflommadaaGreatDoor
open Go Go.Vc

variable {w : World} {K : Value → World → Prop}

theorem c_CountString {l : List UInt8} {c : UInt8} (H : K (.int .i64 (l.count c : Nat)) w) : call P f_internal_bytealg_CountString [str l, .int .u8 (c.toNat : Nat)] w K :=
  call_extern fun_internal_bytealg_CountString (by kernel_rfl) rfl (by kernel_rfl) (e := Extern.BytealgCount.count) (by kernel_rfl) (fun c' hc => by
    refine ⟨_, c', Lib.run_countString ⟨l.toArray⟩ _ c', ?_⟩
    rw [hc, u8_nat]; exact H)
theorem c_Count1 {l : List UInt8} {c : UInt8} (H : K (.int .i64 (l.count c : Nat)) w) : call P f_strings_Count [str l, str [c]] w K := by
  refine I_strings_Count ?_
  unfold D_strings_Count
  rw [len_str u_string, bin_eql]
  refine cnd_no rfl ?_
  rw [len_str u_string, bin_eql]
  refine cnd_yes rfl ?_
  rw [show (0 : Int) = ((0 : Nat) : Int) from rfl, idx_str (i := 0) u_string (by simp)]
  exact c_CountString H
theorem splitL_le {c : UInt8} : ∀ {l s : List UInt8}, s ∈ splitL c l → s.length ≤ l.length := by
  intro l
  induction l with
  | nil => intro s hs; simp [splitL] at hs; simp [hs]
  | cons x r ih =>
    intro s hs
    rw [splitL] at hs
    split at hs
    · rcases List.mem_cons.1 hs with rfl | h
      · simp
      · have := ih h; simp; omega
    · split at hs
      · rename_i h t he
        rcases List.mem_cons.1 hs with rfl | hm
        · have := ih (s := h) (by rw [he]; exact List.mem_cons_self ..)
          simp; omega
        · have := ih (s := s) (by rw [he]; exact List.mem_cons_of_mem _ hm)
          simp; omega
      · simp only [List.mem_singleton] at hs
        rw [hs]; simp
theorem set_at {α : Type} (a : List α) (x z : α) (n : Nat) : (a ++ List.replicate (n + 1) z).set a.length x = (a ++ [x]) ++ List.replicate n z := by
  rw [List.set_append_right _ _ (Nat.le_refl _), Nat.sub_self, List.replicate_succ, List.set_cons_zero, List.append_assoc]; rfl
set_option maxRecDepth 20000 in
theorem c_Split {l : List UInt8} (hl : l.length ≤ 1048576) (H : ∀ v w', Ext w w' → O_StringS w' w.heap.size w'.heap.size v (splitL 32 l) → K v w') : call P f_strings_Split [str l, str [32]] w K := by
  refine I_strings_Split ?_
  unfold D_strings_Split
  refine I_strings_genSplit ?_
  unfold D_strings_genSplit
  rw [bin_eql]
  refine cnd_no (by decide) ?_
  rw [eql_str (b := [])]
  refine cnd_no (by simp) ?_
  have hsl := splitL_len 32 l
  have hcl : l.count 32 ≤ l.length := List.count_le_length
  refine ⟨fun x w' => w' = w ∧ x = .int .i64 ((splitL 32 l).length : Nat), ?_, ?_⟩
  rotate_left
  · rw [bin_lss]
    refine cnd_yes (by decide) ?_
    refine c_Count1 ?_
    rw [bin_add, wrap_i64 (by omega) (by omega)]
    exact ⟨rfl, by rw [hsl]; congr 1⟩
  rintro x3 junk w1 ⟨rfl, rfl⟩
  rw [len_str u_string, bin_add, wrap_i64 (by omega) (by omega), bl0_min_i64, show min ((splitL 32 l).length : Int) ((l.length : Int) + 1) = ((splitL 32 l).length : Nat) by omega]
  generalize hn : (splitL 32 l).length = n at hsl
  refine mks_intro u_s_string i_string rfl (by omega) (by simp only [maxLen]; omega) fun w2 v ho he => ?_
  rw [bin_sub, wrap_i64 (by omega) (by omega)]
  refine ⟨fun x0 x10 w' => ∃ (done : List (List UInt8)) (rest : List UInt8), x0 = str rest ∧ x10 = .int .i64 (done.length : Nat) ∧ splitL 32 l = done ++ [rest] ∧ Ext w1 w' ∧ w'.ownsRow w1.heap.size t_string 1 v n ((done ++ List.replicate (n - done.length) []).map str), ?_, ?_⟩
  · rintro x0 x10 junk w3 ⟨done, rest, rfl, rfl, hs, e3, o3⟩
    have hdl : done.length + 1 = n := by rw [← hn, hs]; simp
    refine owns_set o3 (by omega) rfl u_s_string i_string fun w4 o4 g4 => ?_
    rw [bin_add, wrap_i64 (by omega) (by omega)]
    have e4 : Ext w1 w4 := ext_of_grown e3 (fun g hg => (o3.lt g hg).1) g4
    have hrow : ((done ++ List.replicate (n - done.length) []).map str).set done.length (str rest) = (splitL 32 l).map str := by
      rw [show n - done.length = 0 + 1 by omega, ← List.map_set, set_at, hs]
      simp
    rw [hrow] at o4
    have o4' : w4.ownsRow w1.heap.size t_string 1 v (splitL 32 l).length ((splitL 32 l).map str) := by rw [hn]; exact o4
    have fin : K v w4 := H v w4 e4 ⟨OwnR.of o4', fun s hs => Nat.le_trans (splitL_le hs) hl⟩
    rcases o4.2 with ⟨_, h0⟩ | ⟨g, cap, cur, rfl, _, _, hnc, _⟩
    · omega
    · rw [show ((done.length : Nat) : Int) + 1 = ((n : Nat) : Int) by omega, sli_h u_s_string i_string hnc]
      exact fin
  · refine ⟨fun g x0 x10 w' => ∃ (done : List (List UInt8)) (rest : List UInt8), x0 = str rest ∧ x10 = .int .i64 (done.length : Nat) ∧ g + done.length = n ∧ splitL 32 l = done ++ splitL 32 rest ∧ rest.length ≤ l.length ∧ Ext w1 w' ∧ w'.ownsRow w1.heap.size t_string 1 v n ((done ++ List.replicate (n - done.length) []).map str),
      ⟨n, [], l, rfl, rfl, rfl, rfl, Nat.le_refl _, he, by simpa using ho⟩, ?_⟩
    rintro g x0 x10 junk w3 ⟨done, rest, rfl, rfl, hg, hs, hrl, e3, o3⟩
    have hcount : done.length + (splitL 32 rest).length = n := by rw [← hn, hs]; simp
    have hrlen := splitL_len 32 rest
    rw [bin_lss]
    refine cnd_dec (fun hlt => ?_) (fun hge => ?_)
    · refine I_strings_Index ?_
      unfold D_strings_Index
      refine c_Index1 ?_
      have hmem : 32 ∈ rest := List.count_pos_iff.1 (by omega)
      obtain ⟨a, b, rfl, hno⟩ := split_first hmem
      rw [indexByte_some hno]
      dsimp only
      rw [bin_lss]
      refine cnd_no (by simp) ?_
      rw [List.length_append, List.length_cons] at hrl
      rw [bin_add, wrap_i64 (by omega) (by omega), show ((a.length : Nat) : Int) + 0 = ((a.length : Nat) : Int) by omega, sli_strH u_string (by simp)]
      have e1 : (a ++ 32 :: b).take a.length = a := by simp
      rw [e1]
      refine owns_set o3 (by omega) rfl u_s_string i_string fun w4 o4 g4 => ?_
      have e4 : Ext w1 w4 := ext_of_grown e3 (fun g hg => (o3.lt g hg).1) g4
      rw [len_str u_string, bin_add, List.length_singleton, wrap_i64 (by omega) (by omega), show ((a.length : Nat) : Int) + ((1 : Nat) : Int) = ((a.length + 1 : Nat) : Int) by omega, sli_strL u_string (by simp)]
      have e2 : (a ++ 32 :: b).drop (a.length + 1) = b := by rw [← List.drop_drop]; simp
      rw [e2, bin_add, wrap_i64 (by omega) (by omega)]
      rw [splitL_cut hno] at hs
      refine ⟨g - 1, by omega, done ++ [a], b, rfl, ?_, by simp; omega, by rw [hs]; simp, by omega, e4, ?_⟩
      · congr 1; simp
      · have : ((done ++ List.replicate (n - done.length) []).map str).set done.length (str a) = ((done ++ [a]) ++ List.replicate (n - (done ++ [a]).length) []).map str := by
          rw [← List.map_set, show n - done.length = (n - (done ++ [a]).length) + 1 by simp; omega, set_at]
        rw [this] at o4; exact o4
    · have h1 : (splitL 32 rest).length = 1 := by
        have := splitL_ne 32 rest
        have : 0 < (splitL 32 rest).length := List.length_pos_iff.2 this
        omega
      have hno : 32 ∉ rest := fun hm => by
        have := List.count_pos_iff.2 hm
        omega
      rw [splitL_none hno] at hs
      exact ⟨done, rest, rfl, rfl, hs, e3, o3⟩
/-- One more text. -/
theorem app_S {v : Value} {l : List (List UInt8)} {s : List UInt8} {base : Nat} {KW : Value → World → Prop} (h : w.ownsRow base t_string 1 v l.length (l.map str)) (hn : l.length ≤ 4194304) (hbase : base ≤ w.heap.size)
    (H : ∀ v' w', w'.ownsRow base t_string 1 v' (l ++ [s]).length ((l ++ [s]).map str) → w.grownBy w' v.ownBlock → KW v' w') : bsl P t_s_string 1 [(0, str s)] w fun y w2 => bl2 P .append #[t_s_string, t_s_string] t_s_string [v, y] w2 KW :=
  SemA_mono (fun _ _ q => q.2) (app1x h rfl u_s_string i_string rfl (by simp only [maxLen]; omega) (by omega) hbase fun v' w' ho hg => H v' w' (by rw [List.length_append, List.map_append]; exact ho) hg)
set_option maxRecDepth 20000 in
theorem c_l06Split {l : List UInt8} (hl : l.length ≤ 1048576) (H : ∀ v w', Ext w w' → O_StringS w' w.heap.size w'.heap.size v (splitL 32 l) → K v w') : call P f_spec_l06Split [str l, .int .u8 32] w K := by
  refine I_spec_l06Split ?_
  unfold D_spec_l06Split
  refine bsl_nil u_s_string i_string ?_
  have he := Ext_alloc w (.cells #[] t_string)
  have hz : (w.alloc (.cells #[] t_string)).ownsRow w.heap.size t_string 1 (.slice (some ⟨w.heap.size, 0, none⟩) 0 0) 0 [] := owns_lit w [] t_string
  generalize w.alloc (.cells #[] t_string) = w1 at he hz ⊢
  refine ⟨fun g x5 x6 x7 w' => ∃ (done : List (List UInt8)) (i j : Nat), x6 = .int .i64 i ∧ x7 = .int .i64 j ∧ g + j = l.length ∧ i ≤ j ∧ done.length ≤ j ∧ splitL 32 l = done ++ splitL 32 (l.drop i) ∧ 32 ∉ (l.take j).drop i ∧ Ext w w' ∧ w'.ownsRow w.heap.size t_string 1 x5 done.length (done.map str),
    ⟨l.length, [], 0, 0, rfl, rfl, rfl, Nat.le_refl _, Nat.le_refl _, by simp, by simp, he, hz⟩, ?_⟩
  rintro g x5 x6 x7 junk w2 ⟨done, i, j, rfl, rfl, hg, hij, hdl, hs, hno, e2, o2⟩
  rw [len_str u_string, bin_lss]
  refine cnd_dec (fun hlt => ?_) (fun hge => ?_)
  · have hj : j < l.length := by omega
    have hdrop : l.drop i = (l.take j).drop i ++ l[j] :: l.drop (j + 1) := by
      conv => lhs; rw [← List.take_append_drop j l, List.drop_append_of_le_length (by rw [List.length_take]; omega), List.drop_eq_getElem_cons hj]
    rw [idx_str u_string hj, bin_eql]
    refine cnd_dec (fun h => ?_) (fun h => ?_)
    · have hc : l[j] = 32 := UInt8.toNat_inj.1 (show l[j].toNat = 32 by omega)
      rw [sli_strB u_string hij (by omega)]
      refine app_S o2 (by omega) e2.size fun v' w3 o3 g3 => ?_
      rw [bin_add, wrap_i64 (by omega) (by omega), bin_add, wrap_i64 (by omega) (by omega)]
      rw [hdrop, hc, splitL_cut hno] at hs
      refine ⟨g - 1, by omega, done ++ [(l.take j).drop i], j + 1, j + 1, rfl, rfl, by omega, Nat.le_refl _, by simp; omega, by rw [hs]; simp, ?_, ext_of_grown e2 (fun g hg => (o2.lt g hg).1) g3, o3⟩
      have : (l.take (j + 1)).drop (j + 1) = [] := List.drop_eq_nil_of_le (by rw [List.length_take]; omega)
      rw [this]; simp
    · rw [bin_add, wrap_i64 (by omega) (by omega)]
      refine ⟨g - 1, by omega, done, i, j + 1, rfl, rfl, by omega, by omega, by omega, hs, ?_, e2, o2⟩
      rw [List.take_succ_eq_append_getElem hj, List.drop_append_of_le_length (by rw [List.length_take]; omega)]
      intro hm
      rcases List.mem_append.1 hm with hm | hm
      · exact hno hm
      · simp only [List.mem_singleton] at hm
        rw [← hm] at h
        exact h rfl
  · have hj : j = l.length := by omega
    subst hj
    rw [List.take_length] at hno
    rw [sli_strL u_string hij]
    refine app_S o2 (by omega) e2.size fun v' w3 o3 g3 => ?_
    have e3 : Ext w w3 := ext_of_grown e2 (fun g hg => (o2.lt g hg).1) g3
    rw [splitL_none hno] at hs
    rw [← hs] at o3
    exact H v' w3 e3 ⟨OwnR.of o3, fun s hs => Nat.le_trans (splitL_le hs) hl⟩

/-! ### ParseProgram -/
noncomputable def parsePF (s : ByteArray) : List (List UInt8) × Int := if isPF (splitL 32 s.data.toList) then (splitL 32 s.data.toList, 0) else ([], 6)
theorem small_ParseProgram_0 (s : ByteArray) : cnt_Program (parsePF s).1 ≤ 45812984491 := by
  unfold parsePF cnt_Program
  split
  · rename_i h
    unfold isPF at h
    obtain ⟨m, hm⟩ := Option.isSome_iff_exists.1 h
    have := (depF_pos hm).2.2.2
    simp only; omega
  · simp
theorem bld_pr {s : Value} {K : Value → Prop} (hs : ∃ a l c, s = .slice a l c) : bld P t_impl_Program [(0, s)] w K = K (.agg #[s]) := by
  obtain ⟨a, l, c, rfl⟩ := hs
  exact bld_of (by kernel_rfl)
theorem bld_pr0 {K : Value → Prop} : bld P t_impl_Program [] w K = K (.agg #[.slice none 0 0]) := bld_of (by kernel_rfl)
theorem nil_OS (w : World) (lo hi : Nat) : O_StringS w lo hi (.slice none 0 0) [] := ⟨⟨⟨rfl, .inl ⟨rfl, rfl⟩⟩, fun k hk => by cases hk⟩, fun p hp => by cases hp⟩
theorem blk_apart2 {w1 w2 : World} {b1 b2 : Nat} {t1 t2 : TypeId} {p q : Value} {c1 c2 : List Value} (h1 : Bx w1 b1 t1 p c1) (h2 : Bx w2 b2 t2 q c2) (h : w1.heap.size ≤ b2) : blk q ≠ blk p := by
  obtain ⟨g, rfl, _, hg⟩ := h1
  obtain ⟨g', rfl, hb, _⟩ := h2
  have := heap_lt hg
  simp only [blk, ne_eq, Option.some.injEq]
  omega
theorem p_ParseProgram {s : ByteArray} (hz : s.size ≤ 1048576) (H : ∀ u w', Ext w w' → O_Program w' w.heap.size w'.heap.size u (parsePF s).1 → K (.tuple #[u, .int .i64 (parsePF s).2]) w') : call P f_impl_ParseProgram [.string s] w K := by
  have hl : s.data.toList.length ≤ 1048576 := by rw [Array.length_toList]; exact hz
  unfold parsePF at H
  rw [str_of]
  generalize s.data.toList = l at *
  refine I_impl_ParseProgram ?_
  unfold D_impl_ParseProgram
  refine alc_bx i_impl_Program fun x w1 b1 e1 _ => ?_
  refine c_Split hl fun v w2 e2 o2 => ?_
  have E2 := e1.trans e2
  have hsl := o2.I.sl
  rw [bld_pr hsl]
  refine alc_bx i_impl_Program fun y w3 b3 e3 _ => ?_
  have n13 := blk_apart2 b1 b3 e2.size
  refine b3.put i_impl_Program (ds := [v]) rfl rfl (one_sl1 hsl) fun w4 b4 g4 => ?_
  have e4 : Ext w2 w4 := ext_of_grown e3 (fun g hg => (b3.blk_lt hg).1) g4
  have o4 := o2.ext e4
  refine pr_all b4 ?_
  refine c_impl_IsProgram ⟨v, rfl, o4.I⟩ fun w5 e5 => ?_
  have E5 := E2.trans (e4.trans e5)
  have b1 := ((b1.ext e2).ext e4).ext e5
  have o5 := o4.ext e5
  have b4 := b4.ext e5
  rw [una_not]
  unfold isPF at H
  cases hp : (depF (splitL 32 l)).isSome
  · rw [hp] at H
    refine cnd_yes rfl ?_
    rw [bld_pr0]
    refine b1.put i_impl_Program (ds := [.slice none 0 0]) rfl rfl (one_sl1 ⟨_, _, _, rfl⟩) fun w6 b6 g6 => ?_
    refine b6.getc u_impl_Program rfl i_impl_Program rfl ?_
    exact H _ w6 (ext_of_grown E5 (fun g hg => (b1.blk_lt hg).1) g6) ⟨_, rfl, nil_OS _ _ _⟩
  · rw [hp] at H
    refine cnd_no rfl ?_
    refine pr_all b4 ?_
    refine b1.put i_impl_Program (ds := [v]) rfl rfl (one_sl1 hsl) fun w6 b6 g6 => ?_
    refine b6.getc u_impl_Program rfl i_impl_Program rfl ?_
    refine H _ w6 (ext_of_grown E5 (fun g hg => (b1.blk_lt hg).1) g6) ⟨v, rfl, ⟨⟨owns_base (keep_row o5.1.own g6 (Ty.box b1) (by decide)) e1.size, fun k hk => Nat.lt_of_lt_of_le (o5.1.top k hk) ?_⟩, o5.2⟩⟩
    exact Nat.le_trans (e4.trans e5).size g6.size
theorem s_ParseProgram {s : ByteArray} (hz : s.size ≤ 1048576) (H : ∀ u w', Ext w w' → I_Program w' u (parsePF s).1 → K (.tuple #[u, .int .i64 (parsePF s).2]) w') : call P f_spec_ParseProgram [.string s] w K := by
  have hl : s.data.toList.length ≤ 1048576 := by rw [Array.length_toList]; exact hz
  unfold parsePF at H
  rw [str_of]
  generalize s.data.toList = l at *
  refine I_spec_ParseProgram ?_
  unfold D_spec_ParseProgram
  refine alc_bx i_impl_Program fun x w1 b1 e1 _ => ?_
  refine c_l06Split hl fun v w2 e2 o2 => ?_
  have E2 := e1.trans e2
  have hsl := o2.I.sl
  rw [bld_pr hsl]
  refine alc_bx i_impl_Program fun y w3 b3 e3 _ => ?_
  refine b3.put i_impl_Program (ds := [v]) rfl rfl (one_sl1 hsl) fun w4 b4 g4 => ?_
  have e4 : Ext w2 w4 := ext_of_grown e3 (fun g hg => (b3.blk_lt hg).1) g4
  have o4 := o2.ext e4
  refine pr_all b4 ?_
  refine c_l08Is ⟨v, rfl, o4.I⟩ fun w5 e5 => ?_
  have E5 := E2.trans (e4.trans e5)
  have b1 := ((b1.ext e2).ext e4).ext e5
  have o5 := o4.ext e5
  have b4 := b4.ext e5
  rw [una_not]
  unfold isPF at H
  cases hp : (depF (splitL 32 l)).isSome
  · rw [hp] at H
    refine cnd_yes rfl ?_
    rw [bld_pr0]
    refine b1.put i_impl_Program (ds := [.slice none 0 0]) rfl rfl (one_sl1 ⟨_, _, _, rfl⟩) fun w6 b6 g6 => ?_
    refine b6.getc u_impl_Program rfl i_impl_Program rfl ?_
    exact H _ w6 (ext_of_grown E5 (fun g hg => (b1.blk_lt hg).1) g6) ⟨_, rfl, (nil_OS w6 0 0).I⟩
  · rw [hp] at H
    refine cnd_no rfl ?_
    refine pr_all b4 ?_
    refine b1.put i_impl_Program (ds := [v]) rfl rfl (one_sl1 hsl) fun w6 b6 g6 => ?_
    refine b6.getc u_impl_Program rfl i_impl_Program rfl ?_
    have o6 : O_StringS w6 w1.heap.size w2.heap.size v (splitL 32 l) := ⟨⟨keep_row o5.1.own g6 (Ty.box b1) (by decide), o5.1.top⟩, o5.2⟩
    exact H _ w6 (ext_of_grown E5 (fun g hg => (b1.blk_lt hg).1) g6) ⟨v, rfl, o6.I⟩
end Go.Proofs.YtjompmflommadaaGreatDoor

/- The interface for lists of texts and programs: marks. -/
set_option linter.unusedVariables false
set_option linter.unusedSimpArgs false
namespace Go.Proofs.YtjompmflommadaaGreatDoor
open Go Go.Vc

variable {w : World} {K : Value → World → Prop} {lo hi : Nat} {v : Value}

theorem cnv2_str1 {b : Nat} {x : Value} {KW : Value → World → Prop} (hb : b < 256) (hr : Row 1 w x 1 [.int .u8 (b : Nat)]) (H : KW (str [UInt8.ofNat b]) w) : cnv2 P t_s_uint8 t_string x w KW := by
  intro c hc
  subst hc
  obtain ⟨h1, h2, a, cap, rfl, h3⟩ := hr
  obtain ⟨g, o, rfl, hcell⟩ := h3 (by decide)
  have := run_convert_bytes_back (P := P) c t_s_uint8 t_string t_uint8 ⟨g, o, none⟩ cap [UInt8.ofNat b] u_s_uint8 u_uint8 u_string (fun j hj => by
    have hj0 : j = 0 := by simpa using hj
    subst hj0
    have h4 := hcell 0 _ rfl
    rw [Nat.add_zero] at h4
    have e : ((UInt8.ofNat b).toNat : Int) = (b : Int) := by rw [UInt8.toNat_ofNat_of_lt' (by simpa using hb)]
    simp only [List.getElem_cons_zero]
    rw [e]
    have : (⟨g, o, none⟩ : Addr).add 0 = ⟨g, o, none⟩ := by simp [Addr.add]
    rw [this]
    exact h4)
  exact ⟨_, c, this, H⟩
def dgs (n : Nat) (out : List UInt8) : List UInt8 := if h : n = 0 then out else dgs (n / 10) (UInt8.ofNat (48 + n % 10) :: out)
termination_by n
decreasing_by omega
theorem dgs_zero (out : List UInt8) : dgs 0 out = out := by rw [dgs]; simp
theorem dgs_step {n : Nat} (h : n ≠ 0) (out : List UInt8) : dgs n out = dgs (n / 10) (UInt8.ofNat (48 + n % 10) :: out) := by
  conv => lhs; rw [dgs]
  rw [dif_neg h]
theorem dgs_len : ∀ (j n : Nat) (out : List UInt8), n < 10 ^ j → (dgs n out).length ≤ out.length + j
  | 0, n, out, h => by
    have : n = 0 := by simpa using h
    subst this
    rw [dgs_zero]; omega
  | j + 1, n, out, h => by
    by_cases hn : n = 0
    · subst hn; rw [dgs_zero]; omega
    · rw [dgs_step hn]
      have h1 : n / 10 < 10 ^ j := by rw [Nat.pow_succ] at h; omega
      have := dgs_len j (n / 10) (UInt8.ofNat (48 + n % 10) :: out) h1
      simp only [List.length_cons] at this
      omega
def mtx (k : Int) : List UInt8 := if k ≤ 0 then [109, 48] else 109 :: dgs k.toNat []
theorem mtx_len {k : Int} (h : k ≤ 4611686018427387904) : (mtx k).length ≤ 1048576 := by
  unfold mtx
  split
  · simp
  · have := dgs_len 19 k.toNat [] (by omega)
    simp only [List.length_cons, List.length_nil] at this ⊢
    omega
set_option maxRecDepth 20000 in
theorem c_markText {k : Int} (h1 : k ≤ 4611686018427387904) (H : ∀ w', Ext w w' → K (str (mtx k)) w') : call P f_laws_markText [.int .i64 k] w K := by
  refine I_laws_markText ?_
  unfold D_laws_markText
  unfold mtx at H
  rw [bin_leq]
  refine cnd_dec (fun h => ?_) (fun h => ?_)
  · rw [if_pos h] at H; exact H w (Ext.refl _)
  rw [if_neg h] at H
  refine ⟨fun m x y w' => ∃ (out : List UInt8), x = .int .i64 (m : Int) ∧ y = str out ∧ dgs m out = dgs k.toNat [] ∧ out.length + m ≤ k.toNat ∧ Ext w w', ⟨k.toNat, [], by congr 1; omega, rfl, rfl, by simp, Ext.refl _⟩, ?_⟩
  rintro m x y junk w1 ⟨out, rfl, rfl, hd, hb, e1⟩
  rw [bin_gtr]
  refine cnd_dec (fun hgt => ?_) (fun hle => ?_)
  · have hm : m ≠ 0 := by omega
    rw [bin_remI (b := 10) (by decide), bin_add, wrap_i64 (by omega) (by omega), show (48 : Int) + ((m % 10 : Nat) : Int) = ((48 + m % 10 : Nat) : Int) by omega]
    rw [cnv_int_int u_int u_uint8, wrap_of (k := .u8) (by simp [IntKind.min, IntKind.signed]; omega) (by simp [IntKind.max, IntKind.signed, IntKind.bits]; omega)]
    refine bsl_one u_s_uint8 i_uint8 rfl rfl ?_
    have e2 := Ext_alloc w1 (.cells #[.int .u8 ((48 + m % 10 : Nat) : Int)] t_uint8)
    have ho := owns_lit w1 [.int .u8 ((48 + m % 10 : Nat) : Int)] t_uint8 (show 1 ≤ maxLen by decide)
    refine cnv2_str1 (by omega) (owns_Row ho) ?_
    rw [add_str (by simp; omega), bin_quoI (b := 10) (by omega) (by decide)]
    rw [dgs_step hm] at hd
    exact ⟨m / 10, by omega, UInt8.ofNat (48 + m % 10) :: out, rfl, rfl, hd, by simp only [List.length_cons]; omega, e1.trans e2⟩
  · have hm : m = 0 := by omega
    subst hm
    rw [dgs_zero] at hd
    rw [add_str (a := [109]) (by simp; omega)]
    rw [hd]
    exact H w1 e1

def mk_StringS (k : Int) (l : List (List UInt8)) : List (List UInt8) := (List.range l.length).map (fun i => mtx (k + (i : Nat)))
theorem mkS_len (k : Int) (l : List (List UInt8)) : (mk_StringS k l).length = l.length := by simp [mk_StringS]
theorem mkS_at (k : Int) (l : List (List UInt8)) (i : Nat) (h : i < (mk_StringS k l).length) : (mk_StringS k l)[i] = mtx (k + (i : Nat)) := by simp [mk_StringS]
theorem mkS_lt {k : Int} {l : List (List UInt8)} (h : k + l.length ≤ 4611686018427387904) : ∀ s ∈ mk_StringS k l, s.length ≤ 1048576 := by
  intro s hs
  simp only [mk_StringS, List.mem_map, List.mem_range] at hs
  obtain ⟨j, hj, rfl⟩ := hs
  exact mtx_len (by omega)
theorem mkSt_succ (k : Int) (l : List (List UInt8)) (i : Nat) (hi : i < l.length) : ((mk_StringS k l).take i ++ l.drop i).set i (mtx (k + (i : Nat))) = (mk_StringS k l).take (i + 1) ++ l.drop (i + 1) := by
  have hl : i < (mk_StringS k l).length := by rw [mkS_len]; exact hi
  rw [List.set_append_right _ _ (by simp; omega)]
  have e : min i (mk_StringS k l).length = i := by omega
  rw [List.length_take, e, Nat.sub_self, List.drop_eq_getElem_cons hi, List.set_cons_zero, List.take_succ_eq_append_getElem hl, mkS_at, List.append_assoc]
  rfl
theorem c_mark_StringS {l : List (List UInt8)} {k : Int} (h : O_StringS w lo hi v l) (h0 : 0 ≤ k) (h1 : k + cnt_StringS l ≤ 4611686018427387904) (H : ∀ w', O_StringS w' lo hi v (mk_StringS k l) → Chg lo hi w w' → K (.int .i64 (k + cnt_StringS l)) w') :
    call P f_laws_markStringS [v, .int .i64 k] w K := by
  obtain ⟨ho, hb⟩ := h
  unfold cnt_StringS at *
  refine I_laws_markStringS ?_
  unfold D_laws_markStringS
  refine ⟨fun g x y w' => Chg lo hi w w' ∧ ∃ i : Nat, y = .int .i64 i ∧ x = .int .i64 (k + i) ∧ g + i = l.length ∧ OwnR w' lo hi t_string 1 v l.length (((mk_StringS k l).take i ++ l.drop i).map str),
    ⟨l.length, Chg.refl _ _ _, 0, rfl, by simp, by omega, by simpa using ho⟩, ?_⟩
  rintro g x y junk w2 ⟨hc, i, rfl, rfl, hm, ho2⟩
  rw [(owns_Row ho2.own).len u_s_string, bin_lss]
  refine cnd_dec (fun hlt => ?_) (fun hge => ?_)
  · have hi : i < l.length := by omega
    refine c_markText (by omega) fun w3 e3 => ?_
    have ho3 := ho2.ext e3
    refine owns_set ho3.own hi rfl u_s_string i_string fun w4 ho4 g4 => ?_
    rw [bin_add, wrap_i64 (by omega) (by omega), bin_add, wrap_i64 (by omega) (by omega)]
    refine ⟨g - 1, by omega, (hc.trans (Chg.of_ext e3)).trans (ho3.grown g4), i + 1, rfl, by congr 1; omega, by omega, ?_⟩
    rw [← List.map_set, mkSt_succ k l i hi] at ho4
    exact ⟨ho4, ho3.top⟩
  · have hi : i = l.length := by omega
    subst hi
    have e : (mk_StringS k l).take l.length ++ l.drop l.length = mk_StringS k l := by
      rw [List.drop_length, List.append_nil, List.take_of_length_le (by rw [mkS_len]; exact Nat.le_refl _)]
    rw [e] at ho2
    refine H _ ⟨?_, mkS_lt h1⟩ hc
    rw [mkS_len]; exact ho2
theorem c_held_StringS {l : List (List UInt8)} {k : Int} (h : I_StringS w v (mk_StringS k l)) (h0 : 0 ≤ k) (h1 : k + cnt_StringS l ≤ 4611686018427387904) (H : ∀ w', Ext w w' → K (.int .i64 (k + cnt_StringS l)) w') : call P f_laws_heldStringS [v, .int .i64 k] w K := by
  unfold cnt_StringS at *
  refine I_laws_heldStringS ?_
  unfold D_laws_heldStringS
  refine ⟨fun g x y w' => Ext w w' ∧ ∃ i : Nat, y = .int .i64 i ∧ x = .int .i64 (k + i) ∧ g + i = l.length, ⟨l.length, Ext.refl _, 0, rfl, by simp, by omega⟩, ?_⟩
  rintro g x y junk w2 ⟨e2, i, rfl, rfl, hm⟩
  rw [(h.ext e2).len, mkS_len, bin_lss]
  refine cnd_dec (fun hlt => ?_) (fun hge => ?_)
  · have hi : i < (mk_StringS k l).length := by rw [mkS_len]; omega
    refine (h.ext e2).at hi ?_
    refine c_markText (by omega) fun w3 e3 => ?_
    refine ⟨e3, ?_⟩
    rw [mkS_at, neq_str]
    refine cnd_no (by simp) ?_
    rw [bin_add, wrap_i64 (by omega) (by omega), bin_add, wrap_i64 (by omega) (by omega)]
    exact ⟨g - 1, by omega, e2.trans e3, i + 1, rfl, by congr 1; omega, by omega⟩
  · have hi : i = l.length := by omega
    subst hi
    exact H _ e2
def mk_Program (k : Int) (l : List (List UInt8)) : List (List UInt8) := mk_StringS k l
theorem c_mark_Program {l : List (List UInt8)} {k : Int} (h : O_Program w lo hi v l) (h0 : 0 ≤ k) (h1 : k + cnt_Program l ≤ 4611686018427387904) (H : ∀ w', O_Program w' lo hi v (mk_Program k l) → Chg lo hi w w' → K (.int .i64 (k + cnt_Program l)) w') :
    call P f_laws_markProgram [v, .int .i64 k] w K := by
  obtain ⟨s, rfl, ho⟩ := h
  refine I_laws_markProgram ?_
  unfold D_laws_markProgram
  refine bx_pr fun x w1 b1 e1 => ?_
  refine pr_w b1 ?_
  refine c_mark_StringS (ho.ext e1) h0 h1 fun w2 o2 c2 => ?_
  exact H w2 ⟨s, rfl, o2⟩ ((Chg.of_ext e1).trans c2)
theorem c_held_Program {l : List (List UInt8)} {k : Int} (h : I_Program w v (mk_Program k l)) (h0 : 0 ≤ k) (h1 : k + cnt_Program l ≤ 4611686018427387904) (H : ∀ w', Ext w w' → K (.int .i64 (k + cnt_Program l)) w') : call P f_laws_heldProgram [v, .int .i64 k] w K := by
  obtain ⟨s, rfl, hs⟩ := h
  have hc : cnt_Program l = cnt_StringS l := rfl
  refine I_laws_heldProgram ?_
  unfold D_laws_heldProgram
  refine bx_pr fun x w1 b1 e1 => ?_
  refine pr_w b1 ?_
  refine c_held_StringS (hs.ext e1) h0 h1 fun w2 e2 => ?_
  rw [bin_lss]
  refine cnd_no (by simp; omega) ?_
  exact H _ (e1.trans e2)
end Go.Proofs.YtjompmflommadaaGreatDoor

/- From a row's reading to what the contracts ask: programs; a start that meets the listed variables. -/
set_option linter.unusedVariables false
namespace Go.Proofs.YtjompmflommadaaGreatDoor
open Go Go.Vc
open Go.ChangeShapes Go.WideShapes Go.ChangeAt

section
variable {H : Type} {enc : TypeId × Value → H} {w : World} {base : Nat} {spare : Nat → Bool} {held : Bool} {fuel : Nat}
theorem open_rowc {t e : TypeId} {v : Value} {x : DataW H × List MemPlace} (hu : P.underlying t = some (.slice e)) (hc : P.cellsOf e = 1) (h : DataW.trod enc P w base (fun _ => true) held fuel t [v] = some x) :
    CapOk v ∧ ∃ (n : Nat) (vs : List Value), Row 1 w v n vs ∧ ∀ (i : Nat) (u : Value), vs[i]? = some u → ∃ m y, DataW.trod enc P w base (fun _ => true) held m e [u] = some y := by
  refine ⟨?_, open_row hu hc h⟩
  rcases Deep.open_slice1 hu hc h with ⟨hcs, _⟩ | ⟨a, len, cap, m, k, V, D, Pl, hcs, hb, hl, hm, hmm, _, hx⟩
  · obtain rfl : v = .slice none 0 0 := by simpa using hcs
    exact Nat.le_refl _
  · obtain rfl : v = .slice (some a) len cap := by simpa using hcs
    exact hl
theorem cells_string : P.cellsOf t_string = 1 := by kernel_rfl
theorem cells_s_string : P.cellsOf t_s_string = 1 := by kernel_rfl
set_option maxRecDepth 20000 in
theorem open_StringS {v : Value} {x : DataW H × List MemPlace} (h : DataW.trod enc P w base (fun _ => true) held fuel t_s_string [v] = some x) : ∃ l, A_StringS w v l := by
  obtain ⟨hcap, n, vs, hrow, hel⟩ := open_rowc u_s_string cells_string h
  obtain ⟨bs, h1, h2⟩ := list_of (p := fun u (b : List UInt8) => u = str b ∧ b.length ≤ 9223372036854775807) (l := vs) (fun i u hu => by
    obtain ⟨m, y, hy⟩ := hel i u hu
    obtain ⟨s, hs, _, hw⟩ := DataW.trod_string u_string hy
    refine ⟨s.data.toList, ?_, ?_⟩
    · simp only [List.cons.injEq, and_true] at hs
      rw [hs]
    · simp only [maxLen] at hw
      have : s.data.toList.length = s.size := Array.length_toList
      omega)
  have hn : bs.length = n := by have := hrow.1; omega
  have hmap : vs = bs.map str := by
    apply List.ext_getElem?
    intro i
    cases hi : vs[i]? with
    | none =>
      rw [List.getElem?_eq_none_iff] at hi
      exact (List.getElem?_eq_none_iff.2 (by simp; omega)).symm
    | some u =>
      obtain ⟨b, hb, rfl, _⟩ := h2 i u hi
      simp [hb]
  refine ⟨bs, ?_, fun b hb => ?_, hcap⟩
  · rw [hn, ← hmap]; exact hrow
  · obtain ⟨i, hi, rfl⟩ := List.getElem_of_mem hb
    have hi' : i < vs.length := by omega
    obtain ⟨b', hb', _, hlt⟩ := h2 i vs[i] (by simp [hi'])
    rw [List.getElem?_eq_getElem hi] at hb'
    cases hb'; exact hlt
theorem cells_laws_Program : P.cellsOf t_laws_Program = 1 := by kernel_rfl
set_option maxRecDepth 20000 in
theorem open_Program {cs : Array Value} {x : DataW H × List MemPlace} (h : DataW.trod enc P w base (fun _ => true) held fuel t_laws_Program cs.toList = some x) : ∃ l, A_Program w (.agg cs) l := by
  obtain ⟨xs, n, _, _, hl, hxs, hf⟩ := DataW.trod_struct u_laws_Program h
  rw [cells_laws_Program] at hl
  obtain ⟨s, hs⟩ : ∃ s, cs = #[s] := by
    match cs, hl with
    | ⟨[s]⟩, _ => exact ⟨s, rfl⟩
  subst hs
  have h0 := hf 0 _ rfl
  have hx : 0 < xs.length := by rw [hxs]; decide
  rw [List.getElem?_eq_getElem hx] at h0
  have h1 : DataW.trod enc P w base (fun _ => true) held n t_s_string [s] = some xs[0] := by
    have e : (([s] : List Value).drop 0).take (P.cellsOf t_s_string) = [s] := by rw [cells_s_string]; rfl
    rw [← e]; exact h0
  obtain ⟨l, hA⟩ := open_StringS h1
  exact ⟨l, s, rfl, hA⟩
end
theorem door_met5 (os : Os) (args : Array Value) : laidMetH Tryz.prog Rows.fnExactIsProgramRow.laid ((World.doorLaid Tryz.prog 72 os).forCall (fun _ _ => 0) ⟨#[], args, []⟩).memory :=
  laidMetH_of_parts3 (fuel := 8) (laidMet_of_run' 8 (by kernel_rfl) (by kernel_rfl)) (by kernel_rfl) (by kernel_rfl)
end Go.Proofs.YtjompmflommadaaGreatDoor

/- Strings as arguments; a start that meets seven listed variables, one of them pinned. -/
set_option linter.unusedVariables false
namespace Go.Proofs.YtjompmflommadaaGreatDoor
open Go Go.Vc
open Go.ChangeShapes Go.WideShapes Go.ChangeAt

def A_string (d : ByteArray) : Prop := d.size ≤ d.size
set_option maxRecDepth 100000 in
theorem okWide_string {w : World} {r : Reach} {base : Nat} {v : Value} (h : Value.okWide P w r base t_string v) : ∃ d, A_string d ∧ v = .string d := by
  simp only [Value.okWide, u_string, Cell.okWide] at h
  cases v <;> simp only [Cell.ok, u_string] at h
  exact ⟨_, Nat.le_refl _, rfl⟩
theorem fits7 (os : Os) : (World.holding Tryz.prog os ⟨#[], #[], []⟩).layFits Tryz.prog Rows.fnExactParseProgramRow.laid [] = true := by kernel_rfl
theorem ifaces7 (os : Os) : (World.holding Tryz.prog os ⟨#[], #[], []⟩).layIfaces Tryz.prog Rows.fnExactParseProgramRow.laid (World.laidAll Tryz.prog os Rows.fnExactParseProgramRow.laid) = true := by kernel_rfl
theorem door_met7 (os : Os) (args : Array Value) : laidMetH Tryz.prog Rows.fnExactParseProgramRow.laid ((World.laidAll Tryz.prog os Rows.fnExactParseProgramRow.laid).forCall (fun _ _ => 0) ⟨#[], args, []⟩).memory := by
  rw [MakeChecks.laidMetH_plain _ _ _ (by kernel_rfl)]
  exact laidMet_laidAll _ (fits7 os) (ifaces7 os)
end Go.Proofs.YtjompmflommadaaGreatDoor

/- No function of a list calls itself, if the list has an order. -/
set_option linter.unusedVariables false
namespace Go.Proofs.YtjompmflommadaaGreatDoor
open Go

theorem closureVia_sub {P : Program} {Q : FuncId → Prop} (hQ : ∀ g, Q g → ∀ h ∈ (P.funcs[g]?).elim [] P.leadsTo, Q h) :
    ∀ (n : Nat) (todo seen : List FuncId), (∀ x ∈ todo, Q x) → (∀ x ∈ seen, Q x) → ∀ x ∈ P.closureVia n todo seen, Q x
  | 0, todo, seen, _, h2, x, hx => h2 x (by simpa [Program.closureVia] using hx)
  | n + 1, [], seen, _, h2, x, hx => h2 x (by simpa [Program.closureVia] using hx)
  | n + 1, f :: todo, seen, h1, h2, x, hx => by
    rw [Program.closureVia] at hx
    split at hx
    · exact closureVia_sub hQ n todo seen (fun y hy => h1 y (List.mem_cons_of_mem _ hy)) h2 x hx
    · refine closureVia_sub hQ n _ _ (fun y hy => ?_) (fun y hy => ?_) x hx
      · rcases List.mem_append.1 hy with hy | hy
        · exact hQ f (h1 f List.mem_cons_self) y hy
        · exact h1 y (List.mem_cons_of_mem _ hy)
      · rcases List.mem_cons.1 hy with rfl | hy
        · exact h1 _ List.mem_cons_self
        · exact h2 y hy

theorem norec_of {P : Program} {S L : List FuncId} (h : (S.all fun g => ((P.funcs[g]?).elim [] P.leadsTo).all fun h => S.contains h && decide (L.idxOf h < L.idxOf g)) = true) :
    S.any (fun g => ((P.funcs[g]?).elim [] P.leadsTo).any fun h => (P.closure h).contains g) = false := by
  simp only [List.all_eq_true, Bool.and_eq_true, decide_eq_true_eq, List.contains_iff_mem] at h
  refine Bool.eq_false_iff.2 fun hc => ?_
  simp only [List.any_eq_true, List.contains_iff_mem] at hc
  obtain ⟨g, hg, x, hx, hm⟩ := hc
  have h0 := h g hg x hx
  have := closureVia_sub (P := P) (Q := fun y => y ∈ S ∧ L.idxOf y < L.idxOf g) (fun a ha b hb => ?_) _ [x] [] (fun y hy => ?_) (fun y hy => by cases hy) g hm
  · exact Nat.lt_irrefl _ this.2
  · have h1 := h a ha.1 b hb
    exact ⟨h1.1, Nat.lt_trans h1.2 ha.2⟩
  · rw [List.mem_singleton] at hy
    rw [hy]; exact h0
end Go.Proofs.YtjompmflommadaaGreatDoor

/- The closed facts of FnExactParseProgram's row. -/
set_option linter.unusedVariables false
namespace Go.Proofs.YtjompmflommadaaGreatDoor
open Go Go.Vc
theorem reach_FnExactParseProgram : Tryz.pinned.checked.prog.closure 7 = [7, 23, 61, 52, 56, 89, 141, 191, 235, 214, 251, 170, 117, 120, 192, 236, 167, 237, 218, 172, 219, 164, 217, 252, 253, 254, 238, 270, 242, 212, 193, 24, 62, 107, 160, 208, 209, 246, 161, 210, 162, 211, 247, 273, 248, 249, 250, 274, 15, 54, 103, 129, 182, 222, 255, 223, 224, 256, 231, 221, 181, 178, 257, 137, 176, 220, 175, 186, 230, 124, 174, 189, 190, 234, 128, 179, 180, 225, 258, 275, 287, 288, 259, 276, 289, 277, 278, 291, 300, 302, 303, 304, 308, 307, 309, 305, 306, 310, 311, 312, 313, 290, 279, 226, 260, 183, 227, 228, 261, 233, 269, 280, 184, 229, 125, 262, 263, 281, 264, 282, 292, 265, 232, 268, 285, 298, 286, 299, 266, 177, 187, 267, 283, 284, 293, 301, 296, 294, 295, 297, 16, 55, 25, 63, 108, 26, 64] := by kernel_rfl
theorem joined_FnExactParseProgram : joinedFacts Tryz.pinned.checked.prog 7 Tryz.f7 Rows.fnExactParseProgramSpec Rows.fnExactParseProgramRow = true := by
  unfold joinedFacts Program.recurses Program.inPlace Program.varsNamed Program.unfollowed
  rw [reach_FnExactParseProgram]
  kernel_rfl
end Go.Proofs.YtjompmflommadaaGreatDoor
