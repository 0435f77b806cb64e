import Derived.LaidMore
import Derived.LaidOnce
import Derived.LaidHandle
import Derived.Test.YtjompmflommadaaGreatDoorRows
import Derived.Lay
import Derived.SevenTiedAt
import Derived.ProofKit
import Derived.Test.YtjompmflommadaaGreatDoorQFnProgramTexts5
set_option linter.unusedSimpArgs false
set_option linter.unusedVariables false
namespace Go.Proofs.YtjompmflommadaaGreatDoor
section
open Go Go.Vc Ieee
variable {w : World} {K : Value → World → Prop}
theorem Ai8 {p : PV} : pvQ p < 0 ↔ sgQ (pvQ p) < 0 := by
 unfold sgQ
 by_cases h : pvQ p < 0
 ·rw [if_pos h]; exact ⟨fun _ => by decide, fun _ => h⟩
 ·rw [if_neg h]
  constructor
  ·intro h'; exact absurd h' h
  ·intro h'; split at h' <;> cases h'
theorem Abu {l : List UInt8} {p : PV} (hp : PF p) (H : ∀ o w', Ext w w' → pvB o → ((prOne l p).2 = 0 → o = (prOne l p).1) → K (.tuple #[pvv o, .int .i64 (prOne l p).2]) w') : call P HV [str l, pvv p] w K := by
 refine UJ ?_
 unfold HU
 refine C6 fun x3 w1 b3 e1 => ?_
 refine AN fun x4 w2 ⟨a0, b0, b4⟩ e2 => ?_
 have b3 := b3.ext e2
 have E2 := e1.trans e2
 have s1 := e1.size
 unfold prOne at H
 rw [A7]
 refine Ac (fun h1 => ?_) (fun h1 => ?_)
 ·rw [if_pos h1] at H
  refine AH b3 ?_
  refine TG hp fun w3 e3 => ?_
  exact AV (p := ngP p) (b4.ext e3) (E2.trans e3) s1 fun w' e => H _ w' e (LP hp).1 (fun _ => rfl)
 rw [if_neg h1] at H
 rw [A7]
 refine Ac (fun h3 => ?_) (fun h3 => ?_)
 ·have h2 : ¬ l = [115, 113, 114] := fun h => by rw [h] at h3; cases h3
  rw [if_neg h2, if_pos h3] at H
  refine AH b3 ?_
  refine RY hp fun u w3 e3 hu => ?_
  obtain ⟨m, e, ⟨s, l', rfl, hl, wl⟩, hc⟩ := hu
  refine Abb (IR.sl hl.toIR) ?_
  rw [Ai]
  have hs : pvQ p < 0 ↔ m.sign < 0 := by rw [Ai8, hc.val, Abn]
  refine Ac (fun h4 => ?_) (fun h4 => ?_)
  ·rw [if_pos (hs.2 h4)] at H
   refine AH (b3.ext e3) ?_
   refine TG hp fun w5 e5 => ?_
   exact AV (p := ngP p) (b4.ext (e3.trans e5)) (E2.trans (e3.trans e5)) s1 fun w' e => H _ w' e (LP hp).1 (fun _ => rfl)
  ·rw [if_neg (fun h => h4 (hs.1 h))] at H
   refine AH (b3.ext e3) ?_
   exact AV (p := p) (b4.ext e3) (E2.trans e3) s1 fun w' e => H _ w' e hp.1 (fun _ => rfl)
 rw [A7]
 refine Ac (fun h2 => ?_) (fun h2 => ?_)
 ·rw [if_pos h2] at H
  refine AH b3 ?_
  refine AH b3 ?_
  refine RG hp hp fun o w3 e3 ho hx => ?_
  rw [A8, Ax]
  refine AN fun x6 w4 ⟨a1, b1, b6⟩ e4 => ?_
  refine Ba b6 fun w5 b6 g5 => ?_
  have e5 : Ext w3 w5 := Ab e4 (fun g hg => Bv b6 g hg) g5
  have E5 := e3.trans e5
  rw [A5]
  cases hm : mlF p p with
  | none =>
   rw [hm] at H
   refine A9 rfl ?_
   rw [BZ]
   exact AV (p := (0, 0)) (b4.ext E5) (E2.trans E5) s1 fun w' e => H _ w' e ⟨by decide, by decide⟩ (fun h => by cases h)
  | some r =>
   rw [hm] at H
   have := hx r hm
   subst this
   refine AD rfl ?_
   refine AH b6 ?_
   exact AV (p := o) (b4.ext E5) (E2.trans E5) s1 fun w' e => H _ w' e ho (fun _ => rfl)
 rw [if_neg h2, if_neg h3] at H
 rw [BZ]
 exact AV (p := (0, 0)) b4 E2 s1 fun w' e => H _ w' e ⟨by decide, by decide⟩ (fun h => by cases h)
set_option maxRecDepth 20000 in
set_option maxHeartbeats 2000000 in
theorem Ur {l : List UInt8} {p q : PV} (hp : PF p) (hq : PF q) (H : ∀ o w', Ext w w' → pvB o → ((prTwo l p q).2 = 0 → o = (prTwo l p q).1) → K (.tuple #[pvv o, .int .i64 (prTwo l p q).2]) w') : call P Fe [str l, pvv p, pvv q] w K := by
 refine UO ?_
 unfold Ih
 refine C6 fun x4 w0 b4 e0 => ?_
 refine C6 fun x5 w1 b5 e1' => ?_
 refine AN fun x6 w2 ⟨a0, b0, b6⟩ e2 => ?_
 rw [BZ]
 refine AN fun x8 w3 ⟨a1, b1, b8⟩ e3 => ?_
 refine Ba b8 fun w4 b8 g4 => ?_
 have e4 : Ext w2 w4 := Ab e3 (fun g hg => Bv b8 g hg) g4
 have b4 := ((b4.ext e1').ext e2).ext e4
 have b5 := (b5.ext e2).ext e4
 have b62 := b6
 have b6 := b6.ext e4
 have E4 := (e0.trans e1').trans (e2.trans e4)
 have s1 := (e0.trans e1').size
 have ret : ∀ {w3 : World} {o : PV} {c : Int}, Ext w4 w3 → (∀ w', Ext w w' → K (.tuple #[pvv o, .int .i64 c]) w') → sto P Ag x6 (pvv o) w3 fun w' => ldc P Ag x6 w' fun r => K (.tuple #[r, .int .i64 c]) w' := fun e HH =>
  AV (b6.ext e) (E4.trans e) s1 HH
 unfold prTwo at H
 refine ⟨fun x w' => ∃ (o : PV) (x? : Option PV), x = .bool x?.isSome ∧ Ext w2 w' ∧ Bx w' w2.heap.size Ag x8 (pv2 o.1 o.2) ∧ pvB o ∧ (∀ r, x? = some r → o = r) ∧ prTwo l p q = lim x?, ?_, ?_⟩
 ·rintro x junk w5 ⟨o, x?, rfl, e5, b8, ho, hx, hl⟩
  unfold prTwo at hl
  rw [hl] at H
  have e25 : Ext w w5 := (e0.trans (e1'.trans e2)).trans e5
  rw [A5]
  cases x? with
  | none =>
   refine A9 rfl ?_
   rw [BZ]
   exact AV (p := (0, 0)) (b62.ext e5) e25 s1 fun w' e => H _ w' e ⟨by decide, by decide⟩ (fun h => by cases h)
  | some r =>
   have := hx r rfl
   subst this
   refine AD rfl ?_
   refine AH b8 ?_
   exact AV (p := o) (b62.ext e5) e25 s1 fun w' e => H _ w' e ho (fun _ => rfl)
 rw [A7]
 refine Ac (fun h1 => ?_) (fun h1 => ?_)
 ·refine AH b4 ?_
  refine AH b5 ?_
  refine KX hp hq fun o w5 e5 ho hx => ?_
  rw [A8, Ax]
  refine Ba (b8.ext e5) fun w6 b8 g6 => ?_
  exact ⟨o, _, rfl, Ab (e4.trans e5) (fun g hg => Bv b8 g hg) g6, b8, ho, hx, by unfold prTwo; rw [if_pos h1]⟩
 rw [A7]
 refine Ac (fun h2 => ?_) (fun h2 => ?_)
 ·refine AH b4 ?_
  refine AH b5 ?_
  refine TG hq fun w5 e5 => ?_
  refine ⟨e5, ?_⟩
  refine KX hp (LP hq) fun o w6 e6 ho hx => ?_
  rw [A8, Ax]
  refine Ba ((b8.ext e5).ext e6) fun w7 b8 g7 => ?_
  rw [Ax]
  exact ⟨rfl, o, _, rfl, Ab (e4.trans (e5.trans e6)) (fun g hg => Bv b8 g hg) g7, b8, ho, hx, by unfold prTwo; rw [if_neg h1, if_pos h2]⟩
 rw [A7]
 refine Ac (fun h3 => ?_) (fun h3 => ?_)
 ·refine AH b4 ?_
  refine AH b5 ?_
  refine RG hp hq fun o w5 e5 ho hx => ?_
  rw [A8, Ax]
  refine Ba (b8.ext e5) fun w6 b8 g6 => ?_
  exact ⟨o, _, rfl, Ab (e4.trans e5) (fun g hg => Bv b8 g hg) g6, b8, ho, hx, by unfold prTwo; rw [if_neg h1, if_neg h2, if_pos h3]⟩
 rw [A7]
 refine Ac (fun h4 => ?_) (fun h4 => ?_)
 ·refine pv_H b5 ?_
  rw [DO]
  show cnd (.bool (zB q.1)) _ _
  rw [if_neg h1, if_neg h2, if_neg h3, if_pos h4] at H
  cases hz : zB q.1
  ·refine AD rfl ?_
   refine AH b4 ?_
   refine AH b5 ?_
   refine AeQ hp hq hz fun o w5 e5 ho hx => ?_
   rw [A8, Ax]
   refine Ba (b8.ext e5) fun w6 b8 g6 => ?_
   exact ⟨o, _, rfl, Ab (e4.trans e5) (fun g hg => Bv b8 g hg) g6, b8, ho, hx, by unfold prTwo; rw [if_neg h1, if_neg h2, if_neg h3, if_pos h4, hz]; rfl⟩
  ·rw [hz] at H
   refine A9 rfl ?_
   rw [BZ]
   exact ret (o := (0, 0)) (Ext.refl _) fun w' e => H _ w' e ⟨by decide, by decide⟩ (fun h => by cases h)
 rw [if_neg h1, if_neg h2, if_neg h3, if_neg h4] at H
 refine AH b4 ?_
 refine AH b5 ?_
 refine RY hp fun u w5 e5 hu => ?_
 refine ⟨e5, ?_⟩
 refine RY hq fun v w6 e6 hv => ?_
 refine Uf (hu.ext e6) hv (by decide) (by decide) fun w7 e7 => ?_
 have E7 := e5.trans (e6.trans e7)
 have b4 := b4.ext E7
 have b5 := b5.ext E7
 rw [A7]
 have yes : (0 < cmpQ (pvQ p) (pvQ q) ∧ l = [109, 105, 110] ∨ cmpQ (pvQ p) (pvQ q) < 0 ∧ l = [109, 97, 120]) → ld P Ag x5 w7 fun x => sto P Ag x6 x w7 fun w' => ldc P Ag x6 w' fun r => K (.tuple #[r, .int .i64 0]) w' := fun hc => by
  rw [if_pos hc] at H
  refine AH b5 ?_
  exact ret E7 fun w' e => H _ w' e hq.1 (fun _ => rfl)
 have no : ¬ (0 < cmpQ (pvQ p) (pvQ q) ∧ l = [109, 105, 110] ∨ cmpQ (pvQ p) (pvQ q) < 0 ∧ l = [109, 97, 120]) → ld P Ag x4 w7 fun x => sto P Ag x6 x w7 fun w' => ldc P Ag x6 w' fun r => K (.tuple #[r, .int .i64 0]) w' := fun hc => by
  rw [if_neg hc] at H
  refine AH b4 ?_
  exact ret E7 fun w' e => H _ w' e hp.1 (fun _ => rfl)
 generalize hcq : cmpQ (pvQ p) (pvQ q) = c at yes no ⊢
 by_cases hm : l = [109, 105, 110]
 ·rw [decide_eq_true hm]
  refine ⟨_, fun _ _ _ h => h, ?_⟩
  simp only [Au, Aq, An, cond_true]
  by_cases hg : 0 < c
  ·rw [decide_eq_true (show c > 0 from hg)]
   refine ⟨_, fun _ _ _ h => h, ?_⟩
   simp only [At]
   refine ⟨_, fun _ _ _ h => h, ?_⟩
   simp only [IZ]
   refine ⟨_, fun _ _ _ h => h, ?_⟩
   simp only [At, An, cond_true, A6]
   exact yes (.inl ⟨hg, hm⟩)
  ·rw [decide_eq_false (show ¬ c > 0 from hg)]
   refine ⟨_, fun _ _ _ h => h, ?_⟩
   simp only [Ak, A7, decide_eq_false (show ¬ l = [109, 97, 120] by rw [hm]; decide)]
   refine ⟨_, fun _ _ _ h => h, ?_⟩
   simp only [Ap]
   refine ⟨_, fun _ _ _ h => h, ?_⟩
   simp only [Ak, An, cond_false, Ao]
   exact no fun hc => hc.elim (fun h => hg h.1) (fun h => by rw [hm] at h; cases h.2)
 ·rw [decide_eq_false hm]
  refine ⟨_, fun _ _ _ h => h, ?_⟩
  simp only [Ap, An, cond_false]
  refine ⟨_, fun _ _ _ h => h, ?_⟩
  simp only [Ak, A7]
  by_cases hx : l = [109, 97, 120]
  ·simp only [decide_eq_true hx]
   refine ⟨_, fun _ _ _ h => h, ?_⟩
   simp only [Au, Ai]
   refine ⟨_, fun _ _ _ h => h, ?_⟩
   simp only [Ak, An, cond_true, cond_false]
   refine Ac (fun hlt => yes (.inr ⟨hlt, hx⟩)) (fun hlt => no fun hc => hc.elim (fun h => hm h.2) (fun h => hlt h.1))
  ·simp only [decide_eq_false hx]
   refine ⟨_, fun _ _ _ h => h, ?_⟩
   simp only [Ap]
   refine ⟨_, fun _ _ _ h => h, ?_⟩
   simp only [Ak, An, cond_false, Ao]
   exact no fun hc => hc.elim (fun h => hm h.2) (fun h => hx h.2)
set_option maxRecDepth 20000 in
set_option maxHeartbeats 2000000 in
theorem Af6 {a v : Value} {ws : List (List UInt8)} {vs : List Nat} (ha : Bm w a ws) (hv0 : Xx w v vs)
  (H : ∀ u w', Ext w w' → AjQ w' u (runPF ws vs).1 → K (.tuple #[u, .int .i64 (runPF ws vs).2]) w') : call P H8 [a, v] w K := by
 have hv : FS w v vs := hv0
 obtain ⟨s, rfl, hs⟩ := ha
 refine Yq ?_
 unfold LE
 refine Du fun x2 w1 b2 e1 => ?_
 refine AN fun x4 w2 ⟨a0, b0, b4⟩ e2 => ?_
 have E2 := e1.trans e2
 have s1 := e1.size
 have b2 := b2.ext e2
 have hs := hs.ext E2
 have hv := hv.ext E2
 refine Bb b2 ?_
 refine Afh ⟨s, rfl, hs⟩ hv fun w3 e3 => ?_
 have E3 := E2.trans e3
 have b2 := b2.ext e3
 have b4 := b4.ext e3
 have hs := hs.ext e3
 have hv := hv.ext e3
 rw [B5]
 refine Ac (fun hne => ?_) (fun heq => ?_)
 ·rw [BZ]
  refine AV (p := (0, 0)) b4 E3 s1 fun w' e => ?_
  have hr : runPF ws vs = ((0, 0), askF ws (vs.all finB) vs.length) := by unfold runPF; rw [if_neg hne]
  rw [hr] at H
  exact H _ w' e ⟨rfl, show (0 : Nat) < 4294967296 by decide, show (0 : Nat) < 4294967296 by decide⟩
 have h0 : askF ws (vs.all finB) vs.length = 0 := by simpa using heq
 obtain ⟨⟨m, hd⟩, hfin, hn, hn3⟩ := AbK h0
 have hfin' : ∀ b ∈ vs, b < 4294967296 ∧ Vc.Fin Ieee.single b := fun b hb => ⟨hv.lt b hb, hfin b hb⟩
 have hr : runPF ws vs = (prM vs).res ws := by unfold runPF; rw [if_pos h0]
 rw [hr] at H
 obtain ⟨mm, hdp, rfl, hlen, hlen1⟩ := Vu hd
 refine PL.nil0 fun v22 w4 e4 hst => ?_
 refine ⟨fun g x7 x8 w' => ∃ (i : Nat) (st : List PV) (b : Int), x8 = .int .i64 i ∧ g + i = ws.length ∧ (prM vs).run ws i = (st, 0) ∧ dpS ws i = some ((st.length : Int), b) ∧ Ext w3 w' ∧ PL w' w3.heap.size x7 st,
  ⟨ws.length, 0, [], 0, rfl, by omega, rfl, rfl, e4, hst⟩, ?_⟩
 rintro g x7 x8 junk w8 ⟨i, st, b, rfl, hg, hrun, hdi, e8, hst⟩
 have hrg := GE ws i _ _ hdi
 have hs8 := hs.ext e8
 have hv8 := hv.ext e8
 have b28 := b2.ext e8
 have s8 := e8.size
 refine pr_w b28 ?_
 rw [hs8.len, Ai]
 refine Ac (fun hlt => ?_) (fun hge => ?_)
 ·have hi : i < ws.length := by omega
  refine pr_w b28 ?_
  refine hs8.at hi ?_
  rw [hst.len]
  have hl := hs8.le hi
  refine Wy hl fun w9 e9 => ?_
  have hvl := AeY hn hi
  obtain ⟨f0, f1, hd1⟩ := Abg hd hi hdi
  have hsucc := (prM vs).succ ws hrun
  rw [LW hi] at hsucc
  rw [Ae]
  refine Ac (fun hf => ?_) (fun hf => ?_)
  ·refine AeE (hv8.ext e9) hl hvl hf fun w10 e10 => ?_
   rw [Re]
   have E := e9.trans e10
   refine (hst.ext E).push (p := (leafB vs ws[i], 0)) (Ady hfin') (Nat.le_trans s8 E.size) (by omega) fun v' w12 hst' he => ?_
   rw [Aw, Ad (by omega) (by omega)]
   refine ⟨g - 1, by omega, i + 1, st ++ [(leafB vs ws[i], 0)], max b ((st.length : Int) + 1 - form0 ws[i]), rfl, by omega, ?_, ?_, he (e8.trans E) (Nat.le_refl _), hst'⟩
   ·rw [hsucc]; unfold Mach.step; rw [if_pos hf]; rfl
   ·rw [hd1, hf]; simp
  ·have hpos : 0 < st.length := by omega
   have hfr := J3 ws[i]
   generalize hR : (if form0 ws[i] = 1 then prOne ws[i] (st.getD (st.length - 1) (0, 0)) else prTwo ws[i] (st.getD (st.length - 2) (0, 0)) (st.getD (st.length - 1) (0, 0))) = R
   have hstep : (prM vs).run ws (i + 1) = (st.take (st.length - (form0 ws[i]).toNat) ++ [R.1], R.2) := by
    rw [hsucc]
    unfold Mach.step
    rw [if_neg hf, ← hR]
    split
    ·rename_i h1
     rw [h1]; rfl
    ·rename_i h1
     have : form0 ws[i] = 2 := by omega
     rw [this]; rfl
   have hst9 := hst.ext e9
   have hres : R.2 ≠ 0 → (prM vs).res ws = ((0, 0), R.2) := fun hc => by
    have hres := (prM vs).bad ws (i := i + 1) (by omega) (by rw [hstep]; exact hc)
    rw [hstep] at hres
    exact hres
   have next : ∀ {w10 : World}, Ext w9 w10 → R.2 = 0 → PF R.1 → ∀ {k : Int} {x : Value}, k = form0 ws[i] → (∀ {KW : Value → Prop}, KW (pvv R.1) → ld P Ag x w10 KW) →
     bin P .sub Bw false true (.int .i64 st.length) (.int .i64 k) w10 fun x60 => sli P AW x7 none (some x60) none w10 fun x61 => ld P Ag x w10 fun x62 => bsl P AW 1 [(0, x62)] w10 fun x63 w82 => Ext w10 w82 ∧ bl2 P .append #[AW, AW] AW [x61, x63] w82 fun x64 w84 =>
     bin P .add Bw false true (.int .i64 i) (.int .i64 1) w84 fun x29 => ∃ m39, m39 < g ∧ ∃ (i : Nat) (st : List PV) (b : Int), x29 = .int .i64 i ∧ m39 + i = ws.length ∧ (prM vs).run ws i = (st, 0) ∧ dpS ws i = some ((st.length : Int), b) ∧ Ext w3 w84 ∧ PL w84 w3.heap.size x64 st := fun {w10} e10 hc hPo {k x} hk hld => by
    have hfn : form0 ws[i] = ((form0 ws[i]).toNat : Int) := by omega
    have hst10 := hst9.ext e10
    subst hk
    rw [AC, Ad (by omega) (by omega), show ((st.length : Int) - form0 ws[i]) = ((st.length - (form0 ws[i]).toNat : Nat) : Int) by omega]
    refine hst10.take (by omega) fun v97 hst97 => ?_
    refine hld ?_
    have E := e9.trans e10
    refine hst97.push2 hPo (Nat.le_trans s8 E.size) (by simp; omega) fun v' w15 hst' he => ?_
    rw [Aw, Ad (by omega) (by omega)]
    refine ⟨g - 1, by omega, i + 1, st.take (st.length - (form0 ws[i]).toNat) ++ [R.1], max b ((st.length : Int) + 1 - form0 ws[i]), rfl, by omega, ?_, ?_, he (e8.trans E) (Nat.le_refl _), hst'⟩
    ·rw [hstep, hc]
    ·have el : (((st.take (st.length - (form0 ws[i]).toNat) ++ [R.1]).length : Nat) : Int) = (st.length : Int) + 1 - form0 ws[i] := by simp; omega
     rw [hd1, el]
   have bad : ∀ {w10 : World}, Ext w3 w10 → R.2 ≠ 0 → bld P Ag [] w10 fun x => sto P Ag x4 x w10 fun w' => ldc P Ag x4 w' fun r => K (.tuple #[r, .int .i64 R.2]) w' := fun e hc => by
    rw [BZ]
    have := hres hc
    rw [this] at H
    exact AV (p := (0, 0)) (b4.ext e) (E3.trans e) s1 fun w' e' => H _ w' e' ⟨rfl, show (0 : Nat) < 4294967296 by decide, show (0 : Nat) < 4294967296 by decide⟩
   rw [Ae]
   refine Ac (fun h1 => ?_) (fun h1 => ?_)
   ·rw [AC, Ad (by omega) (by omega), show ((st.length : Int) - 1) = ((st.length - 1 : Nat) : Int) by omega]
    refine hst9.at (i := st.length - 1) (by omega) fun hPt => ?_
    refine Abu hPt fun o w10 e10 ho hq => ?_
    rw [A8, Ax]
    have hR1 : R = prOne ws[i] st[st.length - 1] := by rw [← hR, if_pos h1, El]
    have hq' : R.2 = 0 → o = R.1 ∧ PF R.1 := fun h0 => by
     rw [hR1] at h0 ⊢
     exact ⟨hq h0, VF hPt h0⟩
    rw [← hR1]
    refine AN fun x11 w11 ⟨a5, b5, b11⟩ e11 => ?_
    refine Ba b11 fun w12 b11 g12 => ?_
    have e12 : Ext w10 w12 := Ab e11 (fun g hg => Bv b11 g hg) g12
    have E12 := e10.trans e12
    rw [B5]
    refine Ac (fun hc => ?_) (fun hc => ?_)
    ·exact bad ((e8.trans e9).trans E12) hc
    ·have hc : R.2 = 0 := by simpa using hc
     obtain ⟨rfl, hPo⟩ := hq' hc
     have := next E12 hc hPo (k := 1) (x := x11) h1.symm (fun h => AH b11 h)
     exact this
   ·have h2 : form0 ws[i] = 2 := by omega
    refine ⟨fun x13 x14 w' => x14 = .int .i64 R.2 ∧ Ext w9 w' ∧ ∃ (B : Nat) (o : PV), w9.heap.size ≤ B ∧ Bx w' B Ag x13 (pv2 o.1 o.2) ∧ (R.2 = 0 → o = R.1 ∧ PF R.1), ?_, ?_⟩
    ·rintro x13 x14 junk w10 ⟨rfl, e10, B, o, hB, b13, hq'⟩
     rw [B5]
     refine Ac (fun hc => ?_) (fun hc => ?_)
     ·exact bad ((e8.trans e9).trans e10) hc
     ·have hc : R.2 = 0 := by simpa using hc
      obtain ⟨rfl, hPo⟩ := hq' hc
      exact next e10 hc hPo h2.symm (fun h => AH b13 h)
    ·rw [AC, Ad (by omega) (by omega), show ((st.length : Int) - 2) = ((st.length - 2 : Nat) : Int) by omega]
     refine hst9.at (i := st.length - 2) (by omega) fun hP2 => ?_
     rw [AC, Ad (by omega) (by omega), show ((st.length : Int) - 1) = ((st.length - 1 : Nat) : Int) by omega]
     refine hst9.at (i := st.length - 1) (by omega) fun hPt => ?_
     have hR1 : R = prTwo ws[i] st[st.length - 2] st[st.length - 1] := by rw [← hR, if_neg h1, El, El]
     have hq' : ∀ {o : PV}, ((prTwo ws[i] st[st.length - 2] st[st.length - 1]).2 = 0 → o = (prTwo ws[i] st[st.length - 2] st[st.length - 1]).1) → R.2 = 0 → o = R.1 ∧ PF R.1 := fun hq h0 => by
      rw [hR1] at h0 ⊢
      exact ⟨hq h0, VM hP2 hPt h0⟩
     refine ⟨?_, ?_⟩
     ·refine Ur hP2 hPt fun o w10 e10 ho hq => ?_
      rw [A8, Ax, ← hR1]
      refine AN fun x13 w11 ⟨a5, b5, b13⟩ e11 => ?_
      refine ⟨e11, ?_⟩
      refine Ba b13 fun w12 b13 g12 => ?_
      rw [Ax]
      exact ⟨rfl, rfl, e10.trans (Ab e11 (fun g hg => Bv b13 g hg) g12), _, o, e10.size, b13, hq' hq⟩
     ·refine AN fun x13 w11 ⟨a5, b5, b13⟩ e11 => ?_
      refine ⟨e11, ?_⟩
      refine Ur hP2 hPt fun o w10 e10 ho hq => ?_
      rw [A8, Ax, ← hR1]
      refine Ba (b13.ext e10) fun w12 b13 g12 => ?_
      rw [Ax]
      exact ⟨rfl, rfl, Ab (e11.trans e10) (fun g hg => Bv b13 g hg) g12, _, o, Nat.le_refl _, b13, hq' hq⟩
 ·have hi : i = ws.length := by omega
  subst hi
  rw [hdp] at hdi
  simp only [Option.some.injEq, Prod.mk.injEq] at hdi
  have h1 : st.length = 1 := by omega
  refine hst.at (k := .i64) (i := 0) (by omega) fun hP => ?_
  have hres : (prM vs).res ws = (st[0], 0) := by
   unfold Mach.res
   rw [hrun]
   simp only [if_true]
   rw [El]
  rw [hres] at H
  exact AV (p := st[0]) (b4.ext e8) (E3.trans e8) s1 fun w' e => H _ w' e ⟨rfl, hP.1⟩
end


section
open Go Go.Vc Ieee
variable {w : World} {K : Value → World → Prop}
theorem orE {w : World} {a b : Bool} {C : Value → World → Prop} {A : (Value → World → Prop) → Prop} (hA : ∀ J : Value → World → Prop, (∀ w', Ext w w' → J (.bool b) w') → A J) (h : ∀ w', Ext w w' → C (.bool (a || b)) w') :
  ∃ J : Value → World → Prop, (∀ (x : Value) (junk : Env) (w' : World), J x w' → pick (.bool a) (.bool true) x fun r => C r w') ∧ grd (.bool a) false (A J) (J undef w) := by
 cases a
 ·exact ⟨fun x w' => x = .bool b ∧ Ext w w', fun x _ w' hx => by obtain ⟨rfl, he⟩ := hx; exact h w' he, hA _ fun w' he => ⟨rfl, he⟩⟩
 ·exact ⟨fun _ w' => w' = w, fun x _ w' hw => by subst hw; exact h _ (Ext.refl _), rfl⟩
theorem andE {w : World} {a b : Bool} {C : Value → World → Prop} {A : (Value → World → Prop) → Prop} (hA : ∀ J : Value → World → Prop, (∀ w', Ext w w' → J (.bool b) w') → A J) (h : ∀ w', Ext w w' → C (.bool (a && b)) w') :
  ∃ J : Value → World → Prop, (∀ (x : Value) (junk : Env) (w' : World), J x w' → pick (.bool a) x (.bool false) fun r => C r w') ∧ grd (.bool a) true (A J) (J undef w) := by
 cases a
 ·exact ⟨fun _ w' => w' = w, fun x _ w' hw => by subst hw; exact h _ (Ext.refl _), rfl⟩
 ·exact ⟨fun x w' => x = .bool b ∧ Ext w w', fun x _ w' hx => by obtain ⟨rfl, he⟩ := hx; exact h w' he, hA _ fun w' he => ⟨rfl, he⟩⟩
theorem Qz {s : Value} {KW : Value → World → Prop} (hs : ∃ a n c, s = .slice a n c) (H : ∀ y w', Ext w w' → Bx w' w.heap.size AF y [s] → KW y w') :
  alc P AF w fun y w2 => sto P AF y (.agg #[s]) w2 fun w3 => KW y w3 := by
 refine BI As fun y w1 b1 e1 _ => ?_
 refine b1.put As (ds := [s]) rfl rfl (CQ hs) fun w2 b2 g2 => ?_
 exact H y w2 (Ab e1 (fun k hk => (b1.blk_lt hk).1) g2) b2
theorem Agf {a b : Nat} {KW : Value → World → Prop} (H : ∀ y w', Ext w w' → Bx w' w.heap.size Ag y (pv2 a b) → KW y w') :
  alc P Ag w fun y w2 => sto P Ag y (.agg #[fl a, fl b]) w2 fun w3 => KW y w3 := by
 refine AN fun y w1 ⟨c, d, b1⟩ e1 => ?_
 refine Ba b1 fun w2 b2 g2 => ?_
 exact H y w2 (Ab e1 (fun k hk => (b1.blk_lt hk).1) g2) b2
theorem Ahf {ws : List (List UInt8)} (h : (textF ws).2 = 0) : isPF ws = true ∧ textF ws = (prT ws, 0) := by
 unfold textF at h ⊢
 split
 ·rename_i hp; exact ⟨hp, rfl⟩
 ·rename_i hp; rw [if_neg hp] at h; exact absurd h (by decide)
theorem AdN {s : ByteArray} (h : (parsePF s).2 = 0) : isPF (splitL 32 s.data.toList) = true ∧ parsePF s = (splitL 32 s.data.toList, 0) := by
 unfold parsePF at h ⊢
 split
 ·rename_i hp; exact ⟨hp, rfl⟩
 ·rename_i hp; rw [if_neg hp] at h; exact absurd h (by decide)
theorem Ajc {ws : List (List UInt8)} (h : ∀ s ∈ ws, s.length ≤ 500000000) (hn : ws.length ≤ 61) : (prT ws).length ≤ 137438953472 := by
 have := TD h ws.length
 unfold prT
 have h60 : ws.length * (500000000 + 1) ≤ 61 * (500000000 + 1) := Nat.mul_le_mul_right _ hn
 omega
section
variable {a : Value} {bs : List Nat}
theorem FF {t : TypeId} {cx cy : Bool} {c : Int} {K : Value → Prop} (H : K (.bool false)) : bin P .neq t cx cy (.int .i64 c) (.int .i64 c) w K := AjP rfl H
set_option maxHeartbeats 2000000 in
theorem AeK (h : IR .u8 w a bs) (hb : ∀ b ∈ bs, b < 256) (hl : bs.length ≤ 4096) (H : ∀ w', Ext w w' → K (.bool true) w') :
  call P EQ [a] w fun x179_102 w103 =>
   xtr P x179_102 0 w103 fun x180_104 =>
   xtr P x179_102 1 w103 fun x181_105 =>
   alc P 27 w103 fun x28_106 w107 =>
   sto P 27 x28_106 x180_104 w107 fun w109 =>
   ld P 27 x28_106 w109 fun x183_110 =>
   call P HP [x183_110, x181_105] w109 fun x185_111 w112 =>
   xtr P x185_111 0 w112 fun x186_113 =>
   xtr P x185_111 1 w112 fun x187_114 =>
   alc P 68 w112 fun x30_115 w116 =>
   sto P 68 x30_115 x186_113 w116 fun w118 =>
   ld P 27 x28_106 w118 fun x189_119 =>
   call P H8 [x189_119, x181_105] w118 fun x191_120 w121 =>
   xtr P x191_120 0 w121 fun x192_122 =>
   xtr P x191_120 1 w121 fun x193_123 =>
   alc P 68 w121 fun x32_124 w125 =>
   sto P 68 x32_124 x192_122 w125 fun w127 =>
   bin P .eql 2 false false x187_114 x193_123 w127 fun x196_128 =>
   ∃ J129 : Value → World → Prop, (∀ (x202_130 : Value) (junk132 : Env) (w131 : World), J129 x202_130 w131 →
    pick x196_128 x202_130 (.bool false) fun x203_133 =>
    ∃ J134 : Value → World → Prop, (∀ (x209_135 : Value) (junk137 : Env) (w136 : World), J134 x209_135 w136 →
    pick x203_133 x209_135 (.bool false) fun x210_138 =>
     ∃ J139 : Value → World → Prop, (∀ (x214_140 : Value) (junk142 : Env) (w141 : World), J139 x214_140 w141 →
    ∃ J143 : Value → World → Prop, (∀ (x216_144 : Value) (junk146 : Env) (w145 : World), J143 x216_144 w145 →
    ∃ J147 : Value → World → Prop, (∀ (x217_148 : Value) (junk150 : Env) (w149 : World), J147 x217_148 w149 →
    pick x210_138 x217_148 (.bool false) fun x218_151 =>
            K x218_151 w149) ∧
    grd x210_138 true
     (pick x214_140 (.bool true) x216_144 fun x217_152 =>
             J147 x217_152 w145)
     (J147 undef w145)) ∧
    grd x214_140 false
     (ld P 68 x30_115 w141 fun x215_153 =>
        call P DB [x215_153] w141 fun x216_154 w155 =>
        J143 x216_154 w155)
     (J143 undef w141)) ∧
    grd x210_138 true
     (bin P .neq 2 false true x187_114 (.int .i64 0) w136 fun x213_156 =>
       J139 x213_156 w136)
     (J139 undef w136)) ∧
    grd x203_133 true
     (fda P 68 x30_115 1 w131 fun x205_157 =>
      ld P 66 x205_157 w131 fun x206_158 =>
      fda P 68 x32_124 1 w131 fun x207_159 =>
      ld P 66 x207_159 w131 fun x208_160 =>
      call P Eo [x206_158, x208_160] w131 fun x209_161 w162 =>
      J134 x209_161 w162)
     (J134 undef w131)) ∧
    grd x196_128 true
     (fda P 68 x30_115 0 w127 fun x198_163 =>
     ld P 66 x198_163 w127 fun x199_164 =>
     fda P 68 x32_124 0 w127 fun x200_165 =>
     ld P 66 x200_165 w127 fun x201_166 =>
     call P Eo [x199_164, x201_166] w127 fun x202_167 w168 =>
     J129 x202_167 w168)
     (J129 undef w127) := by
 refine ZQ h hb hl fun u v w1 ws vs e1 hu hv => ?_
 rw [A8, Ax]
 obtain ⟨s, rfl, hs⟩ := hu
 refine Qz hs.sl fun y w2 e2 b2 => ?_
 have E2 := e1.trans e2
 refine Bb b2 ?_
 refine AeH ⟨s, rfl, hs.ext e2⟩ (hv.ext e2) fun r w3 e3 hr => ?_
 rw [A8, Ax]
 obtain ⟨rfl, hpv⟩ := hr
 refine Agf fun z w4 e4 b4 => ?_
 have b2 := (b2.ext e3).ext e4
 have E4 := (E2.trans e3).trans e4
 refine Bb b2 ?_
 have e14 := (e2.trans e3).trans e4
 refine Af6 ⟨s, rfl, hs.ext e14⟩ (hv.ext e14) fun r w5 e5 hr => ?_
 rw [A8, Ax]
 obtain ⟨rfl, _⟩ := hr
 refine Agf fun z2 w6 e6 b6 => ?_
 have b4 := (b4.ext e5).ext e6
 have E6 := (E4.trans e5).trans e6
 rw [Ae]
 refine andE (b := true) (fun J hJ => ?_) fun w7 e7 => ?_
 ·refine pv_H b4 ?_
  refine pv_H b6 ?_
  exact AbJ hpv.1 fun w' e => hJ w' e
 have b4 := b4.ext e7
 have b6 := b6.ext e7
 have E7 := E6.trans e7
 refine andE (b := true) (fun J hJ => ?_) fun w8 e8 => ?_
 ·refine pv_L b4 ?_
  refine pv_L b6 ?_
  exact AbJ hpv.2 fun w' e => hJ w' e
 have b4 := b4.ext e8
 have E8 := E7.trans e8
 have hd : decide ((runPF ws vs).2 = (runPF ws vs).2) = true := decide_eq_true rfl
 rw [hd]
 refine ⟨fun q w' => w' = w8 ∧ q = .bool (decide ((runPF ws vs).2 ≠ 0)), ?_, ?_⟩
 rotate_left
 ·show bin P .neq 2 false true (.int .i64 (runPF ws vs).2) (.int .i64 0) w8 _
  rw [B5]
  exact ⟨rfl, rfl⟩
 rintro q junk w9 ⟨rfl, rfl⟩
 by_cases hc : (runPF ws vs).2 = 0
 ·have hz : decide ((runPF ws vs).2 ≠ 0) = false := decide_eq_false (fun h => h hc)
  rw [hz]
  refine ⟨fun q w' => Ext w9 w' ∧ q = .bool true, ?_, ?_⟩
  rotate_left
  ·show ld P 68 z w9 _
   refine AH b4 ?_
   refine Rx hpv fun w' e => ?_
   rw [Ah7 hv.lt hc]
   exact ⟨e, rfl⟩
  rintro q junk w10 ⟨e10, rfl⟩
  refine ⟨fun q w' => w' = w10 ∧ q = .bool true, ?_, ⟨rfl, rfl⟩⟩
  rintro q junk w11 ⟨rfl, rfl⟩
  exact H _ (E8.trans e10)
 ·have hz : decide ((runPF ws vs).2 ≠ 0) = true := decide_eq_true hc
  rw [hz]
  refine ⟨fun q w' => w' = w9 ∧ q = undef, ?_, ⟨rfl, rfl⟩⟩
  rintro q junk w10 ⟨rfl, rfl⟩
  refine ⟨fun q w' => w' = w10 ∧ q = .bool true, ?_, ⟨rfl, rfl⟩⟩
  rintro q junk w11 ⟨rfl, rfl⟩
  exact H _ E8
end
end


section
open Go Go.Vc Ieee
variable {w : World} {K : Value → World → Prop} {a : Value} {bs : List Nat}
set_option maxHeartbeats 4000000 in
theorem Ui (h : IR .u8 w a bs) (hb : ∀ b ∈ bs, b < 256) (H : ∀ w', Ext w w' → K (.bool true) w') : call P Fx [a] w K := by
 refine Rl ?_
 unfold Fm
 refine Alc h ?_
 refine Ac (fun _ => H w (Ext.refl _)) (fun hn => ?_)
 have hl : bs.length ≤ 4096 := by omega
 refine UH h hb hl fun u w1 ws e1 o1 l1 l2 => ?_
 obtain ⟨s, rfl, os⟩ := o1
 have hs := os.I
 refine Qz hs.sl fun y w2 e2 b2 => ?_
 have E2 := e1.trans e2
 have hs := hs.ext e2
 refine Bb b2 ?_
 refine Sc ⟨s, rfl, hs⟩ fun w3 e3 => ?_
 rw [A8, Ax]
 have b2 := b2.ext e3
 have hs := hs.ext e3
 have E3 := E2.trans e3
 refine Bb b2 ?_
 refine Aai ⟨s, rfl, hs⟩ fun w4 e4 => ?_
 rw [A8, Ax]
 have b2 := b2.ext e4
 have hs := hs.ext e4
 have E4 := E3.trans e4
 refine FF ?_
 refine orE (b := false) (fun J hJ => Add (hJ _ (Ext.refl _))) fun w5 e5 => ?_
 have b2 := b2.ext e5
 have hs := hs.ext e5
 have E5 := E4.trans e5
 refine orE (b := false) (fun J hJ => ?_) fun w6 e6 => ?_
 ·refine Bb b2 ?_
  refine Bb b2 ?_
  refine Acx ⟨s, rfl, hs⟩ fun w' e' => ⟨e', ?_⟩
  refine AcM ⟨s, rfl, hs.ext e'⟩ fun w'' e'' => ?_
  exact AiR Qk (hJ _ (e'.trans e''))
 have b2 := b2.ext e6
 have hs := hs.ext e6
 have E6 := E5.trans e6
 refine AD rfl ?_
 refine ⟨fun w' => Ext w w', ?_, ?_⟩
 rotate_left
 ·rw [Ae]
  refine Ac (fun hc => ?_) (fun _ => E6)
  obtain ⟨hp, ht⟩ := Ahf hc
  rw [ht]
  have hw := Aeo hp
  have hz : (ByteArray.mk (prT ws).toArray).size ≤ 137438953472 := by
   have := Ajc l2 l1
   simpa [ByteArray.size] using this
  refine Ql (s := ⟨(prT ws).toArray⟩) hz fun u w7 e7 o7 => ?_
  rw [Ae2 hp] at o7 ⊢
  rw [A8, Ax]
  obtain ⟨s7, rfl, os7⟩ := o7
  have hs7 := os7.I
  refine Qz hs7.sl fun z w8 e8 b8 => ?_
  have hs7 := hs7.ext e8
  have b2 := (b2.ext e7).ext e8
  have hs := (hs.ext e7).ext e8
  have E8 := (E6.trans e7).trans e8
  refine Bb b2 ?_
  refine Z5 ⟨s, rfl, hs⟩ fun w9 e9 => ?_
  obtain ⟨m, hm, m1, m2⟩ := Ac2 hp
  rw [hm, A8, Ax]
  have b2 := b2.ext e9
  have hs := hs.ext e9
  have hs7 := hs7.ext e9
  have b8 := b8.ext e9
  have E9 := E8.trans e9
  refine FF ?_
  refine orE (b := false) (fun J hJ => FF (hJ _ (Ext.refl _))) fun w10 e10 => ?_
  have b2 := b2.ext e10
  have hs := hs.ext e10
  have hs7 := hs7.ext e10
  have b8 := b8.ext e10
  have E10 := E9.trans e10
  refine orE (b := false) (fun J hJ => ?_) fun w11 e11 => ?_
  ·refine pr_w b8 ?_
   refine pr_w b2 ?_
   refine Ab0 hs7 hs fun w' e' => ?_
   rw [A5, Bool.not_true]
   exact hJ _ e'
  have b2 := b2.ext e11
  have hs := hs.ext e11
  have E11 := E10.trans e11
  refine orE (b := false) (fun J hJ => Akn (by omega) (hJ _ (Ext.refl _))) fun w12 e12 => ?_
  have b2 := b2.ext e12
  have hs := hs.ext e12
  have E12 := E11.trans e12
  refine orE (b := false) (fun J hJ => ?_) fun w13 e13 => ?_
  ·refine pr_w b2 ?_
   rw [hs.len, Aq, decide_eq_false (by omega)]
   exact hJ _ (Ext.refl _)
  exact AD rfl (E12.trans e13)
 rintro junk w1 E1
 refine TT (h.ext E1) hb hl fun t w2 e2 ht => ?_
 have hz : (ByteArray.mk t.toArray).size ≤ 137438953472 := by simpa [ByteArray.size] using ht
 have E2 := E1.trans e2
 refine Ql (s := ⟨t.toArray⟩) hz fun u w3 e3 o3 => ?_
 rw [A8, Ax]
 obtain ⟨s3, rfl, os3⟩ := o3
 have hs3 := os3.I
 refine Qz hs3.sl fun y w4 e4 b4 => ?_
 have hs3 := hs3.ext e4
 have E4 := (E2.trans e3).trans e4
 refine Yi (s := ⟨t.toArray⟩) hz fun u w5 e5 o5 => ?_
 rw [A8, Ax]
 obtain ⟨s5, rfl, hs5⟩ := o5
 refine Qz hs5.sl fun z w6 e6 b6 => ?_
 have hs5 := hs5.ext e6
 have hs3 := (hs3.ext e5).ext e6
 have b4 := (b4.ext e5).ext e6
 have E6 := (E4.trans e5).trans e6
 refine FF ?_
 refine orE (b := false) (fun J hJ => ?_) fun w7 e7 => ?_
 ·refine pr_w b4 ?_
  refine pr_w b6 ?_
  refine Ab0 hs3 hs5 fun w' e' => ?_
  rw [A5, Bool.not_true]
  exact hJ _ e'
 have hs3 := hs3.ext e7
 have b4 := b4.ext e7
 have E7 := E6.trans e7
 refine AD rfl ?_
 refine ⟨fun w' => Ext w w', ?_, ?_⟩
 rotate_left
 ·rw [Ae]
  refine Ac (fun hc => ?_) (fun _ => E7)
  obtain ⟨hp, hpp⟩ := AdN hc
  rw [hpp] at hs3
  refine Bb b4 ?_
  refine Sc ⟨s3, rfl, hs3⟩ fun w8 e8 => ?_
  rw [Aeq hp, A8, Ax]
  refine FF ?_
  refine orE (b := false) (fun J hJ => Add (hJ _ (Ext.refl _))) fun w9 e9 => ?_
  exact AD rfl ((E7.trans e8).trans e9)
 rintro junk w1 E1
 refine UG (h.ext E1) hb hl fun u w2 ws2 e2 o2 _ _ => ?_
 obtain ⟨s2, rfl, os2⟩ := o2
 have hs := os2.I
 refine Qz hs.sl fun y w3 e3 b3 => ?_
 have hs := hs.ext e3
 have E3 := (E1.trans e2).trans e3
 refine Bb b3 ?_
 refine ZY ⟨s2, rfl, hs⟩ fun w4 e4 => ?_
 rw [A8, Ax]
 have b3 := b3.ext e4
 have hs := hs.ext e4
 have E4 := E3.trans e4
 refine Bb b3 ?_
 refine ZV ⟨s2, rfl, hs⟩ fun w5 e5 => ?_
 rw [A8, Ax]
 have b3 := b3.ext e5
 have hs := hs.ext e5
 have E5 := E4.trans e5
 refine Bb b3 ?_
 refine Z5 ⟨s2, rfl, hs⟩ fun w6 e6 => ?_
 rw [A8, Ax]
 have b3 := b3.ext e6
 have hs := hs.ext e6
 have E6 := E5.trans e6
 refine Bb b3 ?_
 refine Agn ⟨s2, rfl, hs⟩ fun w7 e7 => ?_
 rw [A8, Ax]
 have E7 := E6.trans e7
 refine FF ?_
 refine orE (b := false) (fun J hJ => FF (hJ _ (Ext.refl _))) fun w8 e8 => ?_
 refine orE (b := false) (fun J hJ => FF (hJ _ (Ext.refl _))) fun w9 e9 => ?_
 refine orE (b := false) (fun J hJ => FF (hJ _ (Ext.refl _))) fun w10 e10 => ?_
 refine AD rfl ?_
 have E10 := ((E7.trans e8).trans e9).trans e10
 exact AeK (h.ext E10) hb hl fun w' e' => H w' (E10.trans e')
end


section
open Go Go.Vc
open Go.ChangeShapes Go.WideShapes Go.ChangeAt
section
variable {H : Type} {enc : TypeId × Value → H} {w : World} {base : Nat} {spare : Nat → Bool} {held : Bool} {fuel : Nat}
theorem Afq {t e : TypeId} {v : Value} {x : DataW H × List MemPlace} (hu : P.underlying t = some (.slice e)) (hc : P.cellsOf e = 1) (h : DataW.trod enc P w base (fun _ => true) held fuel t [v] = some x) :
  CapOk v ∧ ∃ (n : Nat) (vs : List Value), Row 1 w v n vs ∧ ∀ (i : Nat) (u : Value), vs[i]? = some u → ∃ m y, DataW.trod enc P w base (fun _ => true) held m e [u] = some y := by
 refine ⟨?_, AgG hu hc h⟩
 rcases Deep.open_slice1 hu hc h with ⟨hcs, _⟩ | ⟨a, len, cap, m, k, V, D, Pl, hcs, hb, hl, hm, hmm, _, hx⟩
 ·obtain rfl : v = .slice none 0 0 := by simpa using hcs
  exact Nat.le_refl _
 ·obtain rfl : v = .slice (some a) len cap := by simpa using hcs
  exact hl
end
end


section
open Go Go.Vc
open Go.ChangeShapes Go.WideShapes Go.ChangeAt
end


section
open Go Go.Vc
open Go.ChangeShapes Go.WideShapes Go.ChangeAt
section
variable {H : Type} {enc : TypeId × Value → H} {w : World} {base : Nat} {spare : Nat → Bool} {held : Bool} {fuel : Nat}
theorem Acz : P.cellsOf NR = 1 := by kernel_rfl
def Q8 (w : World) (v : Value) (l : List Nat) : Prop := IR .u8 w v l ∧ ∀ b ∈ l, b < 256
theorem Q8.N {v : Value} {l : List Nat} (h : Q8 w v l) : Q8 (Vc.N w) v l := ⟨⟨h.1.row, h.1.cap⟩, h.2⟩
theorem Ae3 {v : Value} {x : DataW H × List MemPlace} (h : DataW.trod enc P w base (fun _ => true) held fuel MB [v] = some x) : ∃ l, Q8 w v l := by
 obtain ⟨hcap, n, vs, hrow, hel⟩ := Afq Cb Acz h
 obtain ⟨bs, h1, h2⟩ := Ad1 (p := fun u (b : Nat) => u = .int .u8 (b : Int) ∧ b < 256) (l := vs) (fun i u hu => by
  obtain ⟨m, y, hy⟩ := hel i u hu
  obtain ⟨k, hk, _, hw⟩ := DataW.trod_int DH hy
  simp only [List.cons.injEq, and_true] at hk
  have hr : (0 : Int) ≤ k ∧ k ≤ 255 := by
   simp only [Lit.wf, Bool.and_eq_true, decide_eq_true_eq] at hw
   exact hw
  exact ⟨k.toNat, by rw [hk, Int.toNat_of_nonneg hr.1], by omega⟩)
 have hn : bs.length = n := by have := hrow.1; omega
 have hmap : vs = bs.map (iv .u8) := by
  apply List.ext_getElem?
  intro i
  cases hi : vs[i]? with
  | none =>
   rw [List.getElem?_eq_none_iff] at hi
   exact (List.getElem?_eq_none_iff.2 (by simp; omega)).symm
  | some u =>
   obtain ⟨b, hb, rfl, _⟩ := h2 i u hi
   simp [hb]
 refine ⟨bs, ⟨?_, hcap⟩, fun b hb => ?_⟩
 ·rw [hn, ← hmap]; exact hrow
 ·obtain ⟨i, hi, rfl⟩ := List.getElem_of_mem hb
  have hi' : i < vs.length := by omega
  obtain ⟨b', hb', _, hlt⟩ := h2 i vs[i] (by simp [hi'])
  rw [List.getElem?_eq_getElem hi] at hb'
  cases hb'; exact hlt
end
theorem fits7t (os : Os) : (World.holding Tryz.prog os ⟨#[], #[], []⟩).layFits Tryz.prog Rows.fnProgramTextsRow.laid [] = true := by kernel_rfl
theorem ifaces7t (os : Os) : (World.holding Tryz.prog os ⟨#[], #[], []⟩).layIfaces Tryz.prog Rows.fnProgramTextsRow.laid (World.laidAll Tryz.prog os Rows.fnProgramTextsRow.laid) = true := by kernel_rfl
theorem Ae1 (os : Os) (args : Array Value) : laidMetH Tryz.prog Rows.fnProgramTextsRow.laid ((World.laidAll Tryz.prog os Rows.fnProgramTextsRow.laid).forCall (fun _ _ => 0) ⟨#[], args, []⟩).memory := by
 rw [MakeChecks.laidMetH_plain _ _ _ (by kernel_rfl)]
 exact laidMet_laidAll _ (fits7t os) (ifaces7t os)
end


section
open Go
end


section
open Go Go.Vc
theorem Kf : Tryz.pinned.checked.prog.closure 11 = [11, 43, 44, 98, 97, 99, 155, 100, 154, 203, 242, 270, 212, 202, 118, 163, 213, 164, 214, 251, 121, 171, 219, 172, 201, 241, 272, 22, 15, 54, 103, 129, 182, 222, 255, 211, 247, 273, 248, 249, 250, 274, 223, 224, 256, 231, 221, 181, 178, 257, 137, 176, 220, 175, 186, 230, 124, 174, 189, 190, 234, 128, 179, 180, 225, 258, 275, 287, 288, 259, 276, 289, 277, 278, 291, 300, 302, 303, 304, 308, 307, 309, 305, 306, 310, 311, 312, 313, 290, 279, 226, 260, 183, 227, 228, 261, 233, 269, 280, 184, 229, 125, 262, 263, 281, 264, 282, 292, 265, 232, 268, 285, 298, 286, 299, 266, 177, 187, 267, 283, 284, 293, 301, 296, 294, 295, 297, 60, 106, 157, 206, 244, 207, 245, 158, 159, 21, 52, 56, 89, 141, 191, 235, 170, 117, 120, 192, 236, 167, 237, 218, 217, 252, 253, 254, 238, 193, 59, 13, 24, 62, 107, 160, 208, 209, 246, 161, 210, 162, 18, 45, 46, 101, 23, 61, 47, 20, 58, 105, 19, 57, 104, 17, 48, 102, 156, 204, 205, 243, 41, 77, 122, 173, 76, 94, 95, 148, 150, 198, 78, 123, 132, 185, 240, 135, 130, 134, 188, 271, 199, 50, 149, 151, 96, 152, 200, 153, 136, 93, 40, 74, 116, 90, 91, 142, 143, 168, 144, 194, 166, 216, 169, 165, 215, 239, 147, 195, 196, 92, 145, 197, 146, 49] := by kernel_rfl
theorem Qo : joinedFacts Tryz.pinned.checked.prog 11 Tryz.f11 Rows.fnProgramTextsSpec Rows.fnProgramTextsRow = true := by
 unfold joinedFacts Program.recurses Program.inPlace Program.varsNamed Program.unfollowed
 rw [Kf]
 kernel_rfl
end
end Go.Proofs.YtjompmflommadaaGreatDoor
