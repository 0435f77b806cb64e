import Derived.Test.YtjompmflommadaaGreatDoorQFnProgramTextsVU13
import Derived.Test.YtjompmflommadaaGreatDoorQFnProgramTextsVVcM
import Derived.Test.YtjompmflommadaaGreatDoorQFnProgramTextsVVcO
import Derived.Test.YtjompmflommadaaGreatDoorQFnProgramTextsVU8
import Derived.Test.YtjompmflommadaaGreatDoorQFnProgramTextsVVcQ
import Derived.Test.YtjompmflommadaaGreatDoorQFnProgramTextsVVcK
import Derived.Test.YtjompmflommadaaGreatDoorQFnProgramTextsVVcP
import Derived.Test.YtjompmflommadaaGreatDoorQFnProgramTextsVU30
import Derived.Shelf.Strings.Builder1
import Derived.Shelf.Strings.Builder2
import Derived.Test.YtjompmflommadaaGreatDoorQFnProgramTextsVVcS
import Derived.Test.YtjompmflommadaaGreatDoorQFnProgramTextsVU31
import Derived.Test.YtjompmflommadaaGreatDoorQFnProgramTextsVVcI
import Derived.Deep.SlicePairs
import Derived.Test.YtjompmflommadaaGreatDoorQFnProgramTexts3
set_option linter.unusedSimpArgs false
set_option linter.unusedVariables false
namespace Go.Proofs.YtjompmflommadaaGreatDoor
section
open Go Go.Vc
variable {w : World} {K : Value → World → Prop}
theorem Wr.zero0 (w : World) : Wr w (.agg #[.int .i64 0, .slice none 0 0]) 0 := ⟨_, [], rfl, LR.of (OD.nil .i64 Ar w 0), Wl.zero⟩
def selV (b : Bool) (v : Value) : Value := if b then v else undef
set_option maxRecDepth 20000 in
theorem AfV {l : List UInt8} (hl : l.length ≤ 4611686018427387904)
  (H0 : isNum l = false → ∀ v w', Ext w w' → Wr w' v 0 → K (.tuple #[v, .bool false]) w')
  (H1 : isNum l = true → ∀ v w', Ext w w' → Wr w' v (numR l) → K (.tuple #[v, .bool true]) w') : call P Fr [str l] w K := by
 refine YJ ?_
 unfold LC
 refine Eb fun x w1 ⟨cs, hcs, b1⟩ e1 => ?_
 have hbl := NO l
 have ret0 : isNum l = false → ∀ w2, Ext w1 w2 → bld P Aj [] w2 fun x39_31 =>
               sto P Aj x x39_31 w2 fun w33 =>
               ldc P Aj x w33 fun r34 =>
               K (.tuple #[r34, (.bool false)]) w33 := fun h0 w2 e2 => by
  rw [Kc]
  have b2 := b1.ext e2
  refine b2.put AK (ds := [.int .i64 0, .slice none 0 0]) rfl hcs (JV rfl rfl) fun w3 b3 g3 => ?_
  refine b3.getc Bh rfl AK rfl ?_
  exact H0 h0 _ _ (Ab (e1.trans e2) (fun g hg => (b2.blk_lt hg).1) g3) (Wr.zero0 _)
 refine ⟨fun x4 x5 w' => w' = w1 ∧ x4 = .int .i64 (if negB l then -1 else 1) ∧ x5 = str (body l), ?_, ?_⟩
 ·rintro x4 x5 junk w5 ⟨rfl, rfl, rfl⟩
  rw [By Av, Ae]
  generalize hr : body l = r at *
  have hb24 : decide (((r.length : Nat) : Int) = 0) = decide (r = []) := by
   rw [decide_eq_decide]
   constructor
   ·intro h; exact List.length_eq_zero_iff.1 (by omega)
   ·intro h; rw [h]; rfl
  rw [hb24]
  have hA : r ≠ [] → ∀ K : Value → Prop, idx P AM (str r) (.int .i64 0) w5 K = K (.int .u8 ((r.headD 0).toNat : Nat)) := fun hne K => by
   cases r with
   | nil => exact absurd rfl hne
   | cons d r => exact Db (i := 0) Av (by simp)
  generalize hE : decide (r = []) = bE at *
  refine ⟨fun x w' => w' = w5 ∧ x = selV (!bE) (.bool (decide ((((r.headD 0).toNat : Nat) : Int) = 48))), ?_, ?_⟩
  rotate_left
  ·cases bE
   ·rw [Ak, hA (by simpa using hE), Ae]
    exact ⟨rfl, rfl⟩
   ·exact ⟨rfl, rfl⟩
  rintro x29 junk w12 ⟨rfl, rfl⟩
  generalize hZ : decide ((((r.headD 0).toNat : Nat) : Int) = 48) = bZ
  refine ⟨fun x w' => w' = w12 ∧ x = selV (!bE && bZ) (.bool (decide (((r.length : Nat) : Int) > 1))), ?_, ?_⟩
  rotate_left
  ·cases bE <;> cases bZ <;> simp only [-eq_self, selV, Bool.not_false, Bool.not_true, Bool.and_true, Bool.and_false, Bool.false_and, if_true, if_false, Bool.false_eq_true, Au, Ap, IZ]
   ·exact ⟨rfl, rfl⟩
   ·rw [By Av, Aq]; exact ⟨rfl, rfl⟩
   ·exact ⟨rfl, rfl⟩
   ·exact ⟨rfl, rfl⟩
  rintro x33 junk w16 ⟨rfl, rfl⟩
  generalize hG : decide (((r.length : Nat) : Int) > 1) = bG
  refine ⟨fun x w' => w' = w16 ∧ x = selV (!bE && bZ && !bG) (.bool (negB l)), ?_, ?_⟩
  rotate_left
  ·have hneg : ∀ K : Value → Prop, bin P .lss Ar false true (.int .i64 (if negB l = true then (-1 : Int) else 1)) (.int .i64 0) w16 K = K (.bool (negB l)) := fun K => by
    rw [Ai]; cases negB l <;> rfl
   cases bE <;> cases bZ <;> cases bG <;> simp only [-eq_self, selV, Bool.not_false, Bool.not_true, Bool.and_true, Bool.and_false, Bool.false_and, if_true, if_false, Bool.false_eq_true, At, Ak, IZ] <;> first | exact ⟨rfl, rfl⟩ | (rw [hneg]; exact ⟨rfl, rfl⟩)
  rintro x35 junk w20 ⟨rfl, rfl⟩
  refine ⟨fun x w' => w' = w20 ∧ x = selV (!bE && bZ) (.bool (bG || negB l)), ?_, ?_⟩
  rotate_left
  ·cases bE <;> cases bZ <;> cases bG <;> simp only [-eq_self, selV, Bool.not_false, Bool.not_true, Bool.and_true, Bool.and_false, Bool.false_and, if_true, if_false, Bool.false_eq_true, Au, Ap, IZ, An, cond_true, cond_false, Bool.true_or, Bool.false_or] <;> exact ⟨rfl, rfl⟩
  rintro x36 junk w24 ⟨rfl, rfl⟩
  refine ⟨fun x w' => w' = w24 ∧ x = selV (!bE) (.bool (bZ && (bG || negB l))), ?_, ?_⟩
  rotate_left
  ·cases bE <;> cases bZ <;> simp only [-eq_self, selV, Bool.not_false, Bool.not_true, Bool.and_true, Bool.and_false, Bool.false_and, if_true, if_false, Bool.false_eq_true, Ak, At, IZ, An, cond_true, cond_false, Bool.true_and] <;> exact ⟨rfl, rfl⟩
  rintro x37 junk w28 ⟨rfl, rfl⟩
  by_cases hbad : (bE || (bZ && (bG || negB l))) = true
  ·have h0 : isNum l = false := by
    refine Bool.eq_false_iff.2 fun h => ?_
    unfold isNum numB at h
    rw [hr] at h
    simp only [Bool.and_eq_true, Bool.or_eq_true, decide_eq_true_eq, Bool.not_eq_true', Bool.and_eq_false_iff, decide_eq_false_iff_not] at h
    obtain ⟨⟨⟨h1, h2⟩, h3⟩, h4⟩ := h
    have hE' : bE = false := by rw [← hE]; simpa using h1
    rw [hE', Bool.false_or, Bool.and_eq_true, Bool.or_eq_true] at hbad
    obtain ⟨h5, h6⟩ := hbad
    rw [← hZ] at h5
    rw [← hG] at h6
    simp only [decide_eq_true_eq] at h5 h6
    cases r with
    | nil => exact h1 rfl
    | cons d r =>
     simp only [List.headD_cons, List.head?_cons, List.length_cons] at *
     have hd : d = 48 := UInt8.toNat_inj.1 (show d.toNat = 48 by omega)
     subst hd
     rcases h3 with h3 | h3
     ·exact h3 rfl
     ·rcases h6 with h6 | h6
      ·omega
      ·have hr0 : r = [] := List.length_eq_zero_iff.1 (by omega)
       subst hr0
       rcases h4 with h4 | h4
       ·rw [h4] at h6; cases h6
       ·exact h4 rfl
   have : pick (.bool bE) (.bool true) (selV (!bE) (.bool (bZ && (bG || negB l)))) = fun (K : Value → Prop) => K (.bool true) := by
    funext K
    cases bE
    ·simp only [Bool.false_or] at hbad
     simp only [selV, Bool.not_false, if_true, hbad]; rfl
    ·rfl
   rw [this]
   refine A9 rfl ?_
   exact ret0 h0 _ (Ext.refl _)
  ·rw [Bool.not_eq_true] at hbad
   have hE0 : bE = false := by cases bE <;> simp_all
   subst hE0
   rw [Bool.false_or] at hbad
   have : pick (.bool false) (.bool true) (selV (!false) (.bool (bZ && (bG || negB l)))) = fun (K : Value → Prop) => K (.bool false) := by
    funext K
    simp only [selV, Bool.not_false, if_true, hbad]; rfl
   rw [this]
   refine AD rfl ?_
   have hne : r ≠ [] := by simpa using hE
   have hnum : isNum l = r.all digB := by
    unfold isNum numB
    rw [hr]
    have h1 : decide (r ≠ []) = true := decide_eq_true hne
    have h2 : (decide (r.head? ≠ some 48) || decide (r.length ≤ 1)) = true := by
     cases r with
     | nil => exact absurd rfl hne
     | cons d r =>
      simp only [List.head?_cons, List.length_cons, List.headD_cons, Bool.or_eq_true, decide_eq_true_eq] at *
      by_cases hd : d = 48
      ·right
       subst hd
       have : bZ = true := by rw [← hZ]; rfl
       rw [this, Bool.true_and] at hbad
       have hG0 : bG = false := by cases bG <;> simp_all
       rw [← hG] at hG0
       simp only [decide_eq_false_iff_not] at hG0
       omega
      ·left; simpa using hd
    have h3 : (negB l && decide (r = [48])) = false := by
     refine Bool.eq_false_iff.2 fun h => ?_
     rw [Bool.and_eq_true, decide_eq_true_eq] at h
     obtain ⟨h4, h5⟩ := h
     subst h5
     have : bZ = true := by rw [← hZ]; rfl
     rw [this, h4, Bool.or_true] at hbad
     cases hbad
    rw [h1, h2, h3]; simp
   rw [hnum] at H0 H1 ret0
   refine ⟨fun m x w' => w' = w28 ∧ ∃ i : Nat, x = .int .i64 i ∧ m + i = r.length ∧ (r.take i).all digB = true, ⟨r.length, rfl, 0, rfl, by omega, by simp⟩, ?_⟩
   rintro m x' junk w2 ⟨rfl, i, rfl, hm, hall⟩
   rw [By Av, Ai]
   refine Ac (fun hlt => ?_) (fun hge => ?_)
   ·have hi : i < r.length := by omega
    rw [Db Av hi, Ai]
    have bad : digB r[i] = false → r.all digB = false := fun h => by
     refine Bool.eq_false_iff.2 fun hall => ?_
     have := List.all_eq_true.1 hall r[i] (List.getElem_mem hi)
     rw [h] at this; cases this
    refine orJ (fun h1 => ?_) (fun h1 => ?_)
    ·rw [A6]
     exact ret0 (bad (by unfold digB; simp only [decide_eq_true_eq] at h1; simp; omega)) _ (Ext.refl _)
    ·rw [Db Av hi, Aq]
     refine Ac (fun h2 => ?_) (fun h2 => ?_)
     ·exact ret0 (bad (by unfold digB; simp; omega)) _ (Ext.refl _)
     ·rw [Aw, Ad (by omega) (by omega)]
      refine ⟨m - 1, by omega, rfl, i + 1, rfl, by omega, ?_⟩
      rw [List.take_succ_eq_append_getElem hi, List.all_append, hall]
      simp only [decide_eq_false_iff_not] at h1
      unfold digB; simp; omega
   ·have ht : r.take i = r := List.take_of_length_le (by omega)
    rw [ht] at hall
    have H1 := H1 hall
    have hdig : ∀ d ∈ r, 48 ≤ d.toNat ∧ d.toNat ≤ 57 := fun d hd => by
     have := List.all_eq_true.1 hall d hd
     simpa [digB] using this
    refine DG Ah AE ?_
    have he := Bg w2 (.cells #[] Ar)
    have hz : OD .i64 Ar (w2.alloc (.cells #[] Ar)) w2.heap.size (.slice (some ⟨w2.heap.size, 0, none⟩) 0 0) [] := B9 w2 [] Ar
    generalize w2.alloc (.cells #[] Ar) = w3 at he hz ⊢
    refine ⟨fun g y x w' => ∃ (i : Nat) (q : List Nat), x = .int .i64 i ∧ g + i = r.length ∧ i ≤ 1000 ∧ Ext w2 w' ∧ OD .i64 Ar w' w2.heap.size y q ∧ q.length ≤ i ∧ Dig 16777216 q ∧ val 16777216 q = decV (r.take i),
     ⟨r.length, 0, [], rfl, by omega, by omega, he, hz, Nat.le_refl _, (by intro d hd; cases hd), by simp [val, decV, decA]⟩, ?_⟩
    rintro g y x' junk w4 ⟨i, q, rfl, hg, hi1000, e4, oq, hql, dq, hv⟩
    rw [By Av, Ai]
    have fin : ∀ wz, wz = w4 → r.take i = r.take 1000 → call P Bk [.int .i64 (if negB l then -1 else 1), y] wz fun x101_104 w105 =>
                      sto P Aj x x101_104 w105 fun w107 =>
                      ldc P Aj x w107 fun r108 =>
                      K (.tuple #[r108, (.bool true)]) w107 := by
     rintro wz rfl htk
     have hval : (numR l).natAbs = val 16777216 q := by rw [AaT, hr, hv, htk]
     refine En (K := fun u w' => K (.tuple #[u, .bool true]) w') (e1.trans e4) (b1.ext e4) hcs (Nat.le_refl _) (OD.IR oq) dq hval (fun hn => ?_) (by omega) fun v' w' he' hw' => H1 v' w' he' hw'.Wr
     unfold numR at hn ⊢
     cases hneg : negB l
     ·rw [hneg] at hn
      simp only [Bool.false_eq_true, if_false] at hn ⊢
      exact Int.sign_eq_one_of_pos (by omega)
     ·rw [hneg] at hn
      simp only [if_true] at hn ⊢
      exact Int.sign_eq_neg_one_of_neg (by omega)
    refine andJ (fun h1 => ?_) (fun h1 => ?_)
    ·simp only [decide_eq_true_eq] at h1
     have hi : i < r.length := by omega
     rw [Ai]
     refine Ac (fun h2 => ?_) (fun h2 => ?_)
     ·have hd := hdig r[i] (List.getElem_mem hi)
      rw [Db Av hi, AC, NP (k := .u8) (by simp [IntKind.min, IntKind.signed]; omega) (by simp [IntKind.max, IntKind.signed, IntKind.bits]; omega)]
      rw [AJ DH AB, Ad (by omega) (by omega)]
      have hdv : decV (r.take (i + 1)) = decV (r.take i) * 10 + (r[i].toNat - 48) := by
       rw [List.take_succ_eq_append_getElem hi]; unfold decV; rw [SX]
      generalize hD : r[i].toNat - 48 = D at hdv
      have hD9 : D ≤ 9 := by omega
      rw [show ((r[i].toNat : Nat) : Int) - 48 = ((D : Nat) : Int) by omega]
      refine ⟨fun g2 cx kx w' => ∃ (k c : Nat) (s : List Nat), kx = .int .i64 k ∧ g2 + k = q.length ∧ cx = .int .i64 c ∧ c ≤ 10 ∧ Ext w2 w' ∧ OD .i64 Ar w' w2.heap.size y s ∧ s.length = q.length ∧ Dig 16777216 s ∧ s.drop k = q.drop k ∧ val 16777216 (s.take k) + 16777216 ^ k * c = val 16777216 (q.take k) * 10 + D,
       ⟨q.length, 0, D, q, rfl, by omega, rfl, by omega, e4, oq, rfl, dq, rfl, by simp [val]⟩, ?_⟩
      rintro g2 cx kx junk w5 ⟨k, c, s, rfl, hg2, rfl, hc10, e5, os, hsl, ds, hdrop, hval⟩
      rw [(OD.IR os).row.len Ah, Ai]
      refine Ac (fun h3 => ?_) (fun h3 => ?_)
      ·have hk : k < s.length := by omega
       have hkq : k < q.length := by omega
       refine IR.at (OD.IR os) hk Ah AE AB ?_
       have hsk := ds s[k] (List.getElem_mem hk)
       have heq : s[k] = q[k] := by
        have h4 : s[k]? = q[k]? := by
         have := congrArg (fun t : List Nat => t[0]?) hdrop
         simpa using this
        rw [List.getElem?_eq_getElem hk, List.getElem?_eq_getElem hkq] at h4
        exact Option.some.inj h4
       rw [CR, Ad (by omega) (by omega), Aw, Ad (by omega) (by omega)]
       rw [show ((c : Nat) : Int) + 10 * ((s[k] : Nat) : Int) = ((c + 10 * s[k] : Nat) : Int) by omega]
       rw [C7 (b := 16777216) (by decide)]
       refine OD.set os hk Ah AE fun w6 os6 g6 => ?_
       rw [D8 (b := 16777216) (by omega) (by decide)]
       rw [Aw, Ad (by omega) (by omega)]
       refine ⟨g2 - 1, by omega, k + 1, (c + 10 * s[k]) / 16777216, _, rfl, by omega, rfl, by omega, Ab e5 (fun g hg => (os.lt g hg).1) g6, os6, by simp [hsl], ?_, ?_, ?_⟩
       ·intro d hd
        rcases List.mem_or_eq_of_mem_set hd with h | h
        ·exact ds d h
        ·rw [h]; exact Nat.mod_lt _ (by decide)
       ·rw [List.drop_set_of_lt (by omega), ← List.drop_drop (i := 1) (j := k), ← List.drop_drop (i := 1) (j := k), hdrop]
       ·rw [BV _ (by simpa using hk), BV _ hkq, List.take_set_of_le (Nat.le_refl _), List.getElem_set_self, Nat.pow_succ]
        have h5 := Nat.div_add_mod (c + 10 * s[k]) 16777216
        rw [← heq]
        have h6 : 16777216 ^ k * ((c + 10 * s[k]) % 16777216) + 16777216 ^ k * 16777216 * ((c + 10 * s[k]) / 16777216) = 16777216 ^ k * (c + 10 * s[k]) := by
         rw [Nat.mul_assoc, ← Nat.mul_add, Nat.add_comm, h5]
        have h7 : 16777216 ^ k * (c + 10 * s[k]) = 16777216 ^ k * c + 16777216 ^ k * s[k] * 10 := by
         rw [Nat.mul_add, Nat.mul_comm 10, ← Nat.mul_assoc]
        rw [Nat.add_mul]
        omega
      ·have hk : k = q.length := by omega
       subst hk
       rw [← hsl, List.take_length] at hval
       rw [hsl, List.take_length, hv] at hval
       have hE4 := e5
       rw [Aq]
       refine Ac (fun h4 => ?_) (fun h4 => ?_)
       ·refine MA os Ah AE (by simp only [maxLen]; omega) (by omega) e5.size fun v' w6 o6 g6 => ?_
        rw [Aw, Ad (by omega) (by omega)]
        refine ⟨g - 1, by omega, i + 1, _, rfl, by omega, by omega, Ab e5 (fun g hg => (os.lt g hg).1) g6, o6, by simp; omega, ?_, ?_⟩
        ·intro d hd
         rcases List.mem_append.1 hd with hd | hd
         ·exact ds d hd
         ·simp at hd; omega
        ·rw [De, hsl, hval, hdv]
       ·have hc0 : c = 0 := by omega
        subst hc0
        rw [Aw, Ad (by omega) (by omega)]
        refine ⟨g - 1, by omega, i + 1, s, rfl, by omega, by omega, e5, os, by omega, ds, ?_⟩
        rw [hdv, ← hval]; simp
     ·have : i = 1000 := by omega
      exact fin _ rfl (by rw [this])
    ·simp only [decide_eq_false_iff_not] at h1
     have : r.take i = r.take 1000 := by
      rw [List.take_of_length_le (by omega), List.take_of_length_le (by omega)]
     exact fin _ rfl this
 ·rw [By Av, Aq]
  refine andJ (fun h1 => ?_) (fun h1 => ?_)
  ·simp only [decide_eq_true_eq] at h1
   cases l with
   | nil => simp at h1
   | cons d r =>
    have hidx : ∀ (w : World) (K : Value → Prop), idx P AM (str (d :: r)) (.int .i64 0) w K = K (.int .u8 (d.toNat : Nat)) := fun w K => Db (i := 0) Av (by simp)
    rw [hidx, Ae]
    refine Ac (fun h2 => ?_) (fun h2 => ?_)
    ·have hd : d = 45 := UInt8.toNat_inj.1 (show d.toNat = 45 by omega)
     subst hd
     rw [show (1 : Int) = ((1 : Nat) : Int) from rfl, DN Av (by simp)]
     exact ⟨rfl, rfl, rfl⟩
    ·have hneg : negB (d :: r) = false := by
      unfold negB
      have : d ≠ 45 := by rintro rfl; exact h2 rfl
      simpa using this
     refine ⟨rfl, ?_, ?_⟩
     ·rw [hneg]; rfl
     ·unfold body; rw [hneg]; rfl
  ·simp only [decide_eq_false_iff_not] at h1
   have : l = [] := List.length_eq_zero_iff.1 (by omega)
   subst this
   rw [Ao]
   exact ⟨rfl, rfl, rfl⟩
end


section
open Go Go.Vc Ieee
variable {w : World} {K : Value → World → Prop}
theorem Wp {a b x y k : Nat} (ha : a < 2 ^ k) (hb : b < 2 ^ k) : (2 ^ k * x + a) &&& (2 ^ k * y + b) = 2 ^ k * (x &&& y) + (a &&& b) := by
 have hab : a &&& b < 2 ^ k := Nat.and_lt_two_pow _ hb
 apply Nat.eq_of_testBit_eq
 intro j
 rw [Nat.testBit_and, Nat.testBit_two_pow_mul_add _ ha, Nat.testBit_two_pow_mul_add _ hb, Nat.testBit_two_pow_mul_add _ hab]
 split <;> rw [Nat.testBit_and]
theorem AgW {a x k : Nat} (ha : a < 2 ^ k) : a ||| (2 ^ k * x) = 2 ^ k * x + a := by
 rw [Nat.or_comm, ← Nat.two_pow_add_eq_or_of_lt ha]
theorem UX {t : TypeId} {cx cy : Bool} {x y : Int} {K : Value → Prop} : bin P .andNot t cx cy (.int .u64 x) (.int .u64 y) w K = K (.int .u64 (IntKind.u64.wrap ((BitVec.ofInt 64 x &&& ~~~(BitVec.ofInt 64 y)).toNat : Nat))) :=
 BB (CS ..) (by unfold binOp Op.intBits; rfl)
theorem X4 {a b : Nat} (ha : a < 2 ^ 64) (hb : b < 2 ^ 64) : (BitVec.ofInt 64 (a : Int) &&& ~~~(BitVec.ofInt 64 (b : Int))).toNat = a &&& (2 ^ 64 - 1 - b) := by
 rw [BitVec.toNat_and, BitVec.toNat_not, BitVec.ofInt_natCast, BitVec.ofInt_natCast, BitVec.toNat_ofNat, BitVec.toNat_ofNat, Nat.mod_eq_of_lt ha, Nat.mod_eq_of_lt hb]
theorem VB {n : Nat} (h : n < 2 ^ 64) : IntKind.u64.wrap (n : Int) = n := by
 rw [FK]
 have : n ≤ 18446744073709551615 := by have : (2 : Nat) ^ 64 = 18446744073709551616 := by decide
                                       omega
 rw [show IntKind.u64.max = 18446744073709551615 from rfl]
 omega
theorem AfJ {t : TypeId} {cx cy : Bool} {a : Nat} {K : Value → Prop} (ha : a < 2 ^ 63) : bin P .andNot t cx cy (.int .u64 (a : Int)) (.int .u64 9223372036854775808) w K = K (.int .u64 (a : Int)) := by
 have h64 : a < 2 ^ 64 := Nat.lt_trans ha (by decide)
 rw [UX]
 have e := X4 (b := 9223372036854775808) h64 (by decide)
 rw [show ((9223372036854775808 : Nat) : Int) = (9223372036854775808 : Int) from rfl] at e
 rw [e, show (2 ^ 64 - 1 - 9223372036854775808 : Nat) = 2 ^ 63 - 1 from by decide, Nat.and_two_pow_sub_one_eq_mod, Nat.mod_eq_of_lt ha, VB h64]
theorem AgM {t : TypeId} {cx cy : Bool} {n f : Nat} {K : Value → Prop} (hn : n < 2 ^ 11) (hf : f < 2 ^ 52) : bin P .andNot t cx cy (.int .u64 ((2 ^ 52 * n + f : Nat) : Int)) (.int .u64 9218868437227405312) w K = K (.int .u64 (f : Int)) := by
 have h63 : 2 ^ 52 * n + f < 2 ^ 63 := by
  have h1 : 2 ^ 52 * (n + 1) ≤ 2 ^ 52 * 2 ^ 11 := Nat.mul_le_mul_left _ hn
  rw [← Nat.pow_add] at h1
  rw [Nat.mul_succ] at h1
  exact Nat.lt_of_lt_of_le (Nat.add_lt_add_left hf _) h1
 have h64 : 2 ^ 52 * n + f < 2 ^ 64 := Nat.lt_trans h63 (by decide)
 rw [UX]
 have e := X4 (b := 9218868437227405312) h64 (by decide)
 rw [show ((9218868437227405312 : Nat) : Int) = (9218868437227405312 : Int) from rfl] at e
 rw [e, show (2 ^ 64 - 1 - 9218868437227405312 : Nat) = 2 ^ 52 * 2048 + (2 ^ 52 - 1) from by decide, Wp hf (by decide), Nat.and_two_pow_sub_one_eq_mod, Nat.mod_eq_of_lt hf]
 have h0 : n &&& 2048 = 0 := by
  have h2 := Wp (a := n) (b := 0) (x := 0) (y := 1) (k := 11) hn (by decide)
  rw [Nat.mul_zero, Nat.zero_add, Nat.and_zero, Nat.zero_and, Nat.mul_zero] at h2
  exact h2
 rw [h0, Nat.mul_zero, Nat.zero_add, VB (Nat.lt_trans hf (by decide))]
theorem S4 {b : Nat} (H : K (.int .u64 b) w) : call P EN [.float .f64 b] w K :=
 Gh RH (by kernel_rfl) rfl (by kernel_rfl) (e := Extern.MathFloatBits.float64bits) (by kernel_rfl) (AS H)
theorem Fc {b : Nat} (H : K (.float .f64 b) w) : call P BY [.int .u64 (b : Int)] w K :=
 Gh Oe (by kernel_rfl) rfl (by kernel_rfl) (e := Extern.MathFloatBits.float64frombits) (by kernel_rfl) (AS H)
theorem Ad8 {b : Nat} (hb : b < 2 ^ 63) (H : K (.float .f64 b) w) : call P N7 [.float .f64 b] w K := by
 refine Aet ?_
 unfold Ry
 refine S4 ?_
 rw [AfJ hb]
 exact Fc H
set_option maxRecDepth 20000 in
theorem AcH {s d : TypeId} {b : Nat} {sg : Bool} {k : Nat} {l : Int} {r : Nat} {K : Value → Prop} (hs : P.underlying s = some (.float .f64)) (hd : P.underlying d = some (.float .f32)) (hr : double.read b = .number sg k l) (hw : single.write (.number sg k l) = r) (hi : (single.read r).isInfinity = false) (H : K (.float .f32 r)) : rcnv P s d (.float .f64 b) w K := by
 unfold rcnv convert
 rw [CG]
 refine Cl _ (A4 hs) ?_
 rw [CG]
 refine Cl _ (A4 hd) ?_
 simp only [Conv.floatToFloat]
 rw [if_neg (by decide)]
 have hdec : FloatKind.f64.decode b = .number sg k l := hr
 rw [hdec]
 simp only []
 have hw' : FloatKind.f32.encode (.number sg k l) = r := hw
 have hi' : (FloatKind.f32.decode r).isInfinity = false := hi
 rw [hw', hi']
 exact H
set_option maxRecDepth 20000 in
theorem Ack {s d : TypeId} {b : Nat} {sg : Bool} {K : Value → Prop} (hs : P.underlying s = some (.float .f64)) (hd : P.underlying d = some (.float .f32)) (hr : double.read b = .infinity sg) (H : K (.float .f32 (single.write (.infinity sg)))) : rcnv P s d (.float .f64 b) w K := by
 unfold rcnv convert
 rw [CG]
 refine Cl _ (A4 hs) ?_
 rw [CG]
 refine Cl _ (A4 hd) ?_
 simp only [Conv.floatToFloat]
 rw [if_neg (by decide)]
 have hdec : FloatKind.f64.decode b = .infinity sg := hr
 rw [hdec]
 exact H
set_option maxRecDepth 20000 in
theorem Oc {s d : TypeId} {t : Nat} {q : Int} {sg : Bool} {K : Value → Prop} (hs : P.underlying s = some (.float .f64)) (hd : P.underlying d = some (.float .f32)) (h : Cut t q) (H : K (.float .f32 (W single sg t q))) : rcnv P s d (.float .f64 (W double sg t q)) w K := by
 obtain ⟨k, l, h1, h2, h3⟩ := Ah2 (s := sg) h
 exact AcH hs hd h1 h2 h3 H
theorem UA (s : Bool) {m n : Nat} {e g : Int} (h1 : Has double m e) (h2 : Has double n g) : ∃ x y : Int, double.order (W double false m e) (W double false n g) = some (compare x y) ∧ (x ≤ y ↔ dy m e ≤ dy n g) ∧ (y ≤ x ↔ dy n g ≤ dy m e) := by
 obtain ⟨k, l, r1, s1⟩ := CK (s := false) hsd h1
 obtain ⟨k', l', r2, s2⟩ := CK (s := false) hsd h2
 have a1 : dy ((k : Int) * 2 ^ (l - min l l').toNat) (min l l') = dy m e := by rw [s1.dy]; exact BE (by omega)
 have a2 : dy ((k' : Int) * 2 ^ (l' - min l l').toNat) (min l l') = dy n g := by rw [s2.dy]; exact BE (by omega)
 refine ⟨(k : Int) * 2 ^ (l - min l l').toNat, (k' : Int) * 2 ^ (l' - min l l').toNat, ?_, ?_, ?_⟩
 ·unfold Format.order
  rw [r1, r2]
  simp only [Datum.order, MD, Bool.false_eq_true, if_false, Int.one_mul]
 ·rw [← a1, ← a2, Jg]
 ·rw [← a1, ← a2, Jg]
theorem max64 : (9218868437227405311 : Nat) = W double false 9007199254740991 971 := by decide
theorem zero64 : (0 : Nat) = W double false 0 0 := by decide
theorem AeN {t : Nat} {e : Int} : W double false t e < 2 ^ 63 := by
 obtain ⟨r, hr⟩ := Wz double t e
 have h1 := double.write_lt (.number true t e)
 have h2 : double.write (.number true t e) = double.word true r := hr true
 rw [h2] at h1
 rw [hr false, WF]
 have e1 : double.word true r = 2 ^ 63 + r := rfl
 rw [e1] at h1
 have e2 : (2 : Nat) ^ double.width = 2 ^ 63 + 2 ^ 63 := by decide
 rw [e2] at h1
 exact Nat.lt_of_add_lt_add_left h1
theorem Ac9 {t : TypeId} {cx cy : Bool} {a : Nat} {K : Value → Prop} (h : a < 2048) : bin P .and t cx cy (.int .i64 (a : Int)) (.int .i64 2047) w K = K (.int .i64 (a : Int)) := by
 rw [Kz, show (2047 : Int) = ((2047 : Nat) : Int) from rfl]
 have e : (BitVec.ofInt 64 (a : Int) &&& BitVec.ofInt 64 ((2047 : Nat) : Int)).toNat = a := by
  rw [BitVec.toNat_and, FG (Nat.lt_trans h (by decide)), FG (by decide), show (2047 : Nat) = 2 ^ 11 - 1 from by decide, Nat.and_two_pow_sub_one_eq_mod, Nat.mod_eq_of_lt h]
 show K (.int .i64 (IntKind.i64.wrap ((BitVec.ofInt 64 (a : Int) &&& BitVec.ofInt 64 ((2047 : Nat) : Int)).toNat : Nat))) = _
 rw [e, Ad (by omega) (by omega)]
theorem AhA {t N k : Nat} (h : t ≤ N) : dy (t : Int) 0 ≤ dy (N : Int) (k : Int) := by
 rw [← BE (m := (N : Int)) (e := (k : Int)) (e' := 0) (k := k) (by omega), Jg]
 have h1 : t ≤ N * 2 ^ k := Nat.le_trans h (Nat.le_mul_of_pos_right _ (Nat.two_pow_pos k))
 have h2 : ((N * 2 ^ k : Nat) : Int) = (N : Int) * 2 ^ k := by rw [Int.natCast_mul, Int.natCast_pow]; rfl
 rw [← h2]
 exact Int.ofNat_le.2 h1
theorem Aez {t k : Nat} (h : t ≠ 0) : dy ((1 : Nat) : Int) (-(k : Int)) ≤ dy (t : Int) 0 := by
 rw [← BE (m := (t : Int)) (e := 0) (e' := -(k : Int)) (k := k) (by omega), Jg]
 have h1 : 1 ≤ t * 2 ^ k := Nat.mul_pos (Nat.pos_of_ne_zero h) (Nat.two_pow_pos k)
 have h2 : ((t * 2 ^ k : Nat) : Int) = (t : Int) * 2 ^ k := by rw [Int.natCast_mul, Int.natCast_pow]; rfl
 rw [← h2]
 exact Int.ofNat_le.2 h1
theorem one64 : (4607182418800017408 : Nat) = W double false 1 0 := by decide
theorem tiny64 : (4503599627370496 : Nat) = W double false 1 (-1022) := by decide
theorem AiU {t : Nat} {q : Int} (h : Cut t q) (H : K (.float .f64 (W double false t q)) w) : call P Jt [.float .f64 (W double false t 0), .int .i64 q] w K := by
 have hb25 : bl t ≤ 25 := Bf.2 (by show t < 33554432; have := h.t_le; omega)
 have hq1 := h.q_ge
 have hq2 := h.top
 have ht := h.t_le
 have has0 : Has double t 0 := Has64 (by omega) (by omega) (by omega)
 refine AbG ?_
 unfold Ol
 rw [Ao]
 refine AaU ?_
 unfold OA
 obtain ⟨x, y, ho, h1, h2⟩ := UA false has0 (Has64 (m := 0) (e := 0) (by decide) (by decide) (by decide))
 rw [← zero64] at ho
 rw [DO, show FloatKind.f64.format = double from rfl, ho]
 by_cases h0 : t = 0
 ·subst h0
  have hxy : x = y := Int.le_antisymm (h1.2 (Jg.2 (Int.le_refl _))) (h2.2 (Jg.2 (Int.le_refl _)))
  subst hxy
  refine A9 (by simp) ?_
  rw [Jh] at H ⊢
  exact H
 have hb0 := Eu h0
 have hgt : compare x y = .gt := by
  rw [Int.compare_eq_gt]
  refine Int.not_le.1 fun hc => ?_
  have := Jg.1 (h1.1 hc)
  omega
 rw [hgt]
 refine AD (by decide) ?_
 refine Abk ?_
 unfold OQ
 rw [Ae]
 refine A9 (by decide) ?_
 refine Ad8 AeN ?_
 obtain ⟨x1, y1, ho1, h3, h4⟩ := UA false has0 (Has64 (m := 9007199254740991) (e := 971) (by decide) (by decide) (by decide))
 rw [← max64] at ho1
 rw [Ahi, show FloatKind.f64.format = double from rfl, ho1]
 have hle : x1 ≤ y1 := by
  refine h3.2 ?_
  exact AhA (k := 971) (by omega)
 have hng : (some (compare x1 y1) == some Ordering.gt) = false := by
  have : compare x1 y1 ≠ .gt := fun hc => by rw [Int.compare_eq_gt] at hc; omega
  simpa using this
 rw [hng]
 refine ⟨_, fun _ _ _ h => h, ?_⟩
 rw [Ak]
 refine AaN ?_
 unfold Pf
 obtain ⟨x2, y2, ho2, h5, h6⟩ := UA false has0 has0
 have hxy2 : x2 = y2 := Int.le_antisymm (h5.2 (Jg.2 (Int.le_refl _))) (h6.2 (Jg.2 (Int.le_refl _)))
 subst hxy2
 rw [K2, show FloatKind.f64.format = double from rfl, ho2]
 rw [show (some (compare x2 x2) != some Ordering.eq) = false by simp]
 dsimp only
 rw [An, cond_false, Ao]
 refine V4 ?_
 unfold IJ
 refine Ad8 AeN ?_
 obtain ⟨x3, y3, ho3, h7, h8⟩ := UA false has0 (Has64 (m := 1) (e := -1022) (by decide) (by decide) (by decide))
 rw [← tiny64] at ho3
 rw [VG, show FloatKind.f64.format = double from rfl, ho3]
 have hge : y3 ≤ x3 := by
  refine h8.2 ?_
  exact Aez (k := 1022) h0
 have hnl : (some (compare x3 y3) == some Ordering.lt) = false := by
  have : compare x3 y3 ≠ .lt := fun hc => by rw [Int.compare_eq_lt] at hc; omega
  simpa using this
 rw [hnl, Ao]
 dsimp only
 rw [A8, Ax, Aw, Ad (by omega) (by omega)]
 refine S4 ?_
 obtain ⟨n, hn⟩ : ∃ n : Nat, (bl t : Int) + 0 + 1022 = n := ⟨bl t + 1022, by omega⟩
 obtain ⟨n', hn'⟩ : ∃ n' : Nat, (bl t : Int) + q + 1022 = n' := ⟨((bl t : Int) + q + 1022).toNat, by omega⟩
 obtain ⟨w1, w2, w3⟩ := Ab3 h0 (by omega) hn (by omega) (by omega)
 obtain ⟨w4, _, _⟩ := Ab3 h0 (by omega) hn' (by omega) (by omega)
 have hf : t * 2 ^ (53 - bl t) - B52 < 2 ^ 52 := by
  show _ < B52
  omega
 generalize t * 2 ^ (53 - bl t) - B52 = f at *
 rw [w1, show n * B52 + f = 2 ^ 52 * n + f by rw [Nat.mul_comm]; rfl]
 rw [Cu (s := 52) (by decide), Nat.mul_add_div (Nat.two_pow_pos 52), Nat.div_eq_of_lt hf, Nat.add_zero]
 rw [AJ BL DD, Ad (by omega) (by omega), Ac9 (by omega), AC, Ad (by omega) (by omega), Aw, Ad (by omega) (by omega)]
 rw [Ai]
 refine AD (by simp; omega) ?_
 rw [Aq]
 refine AD (by simp; omega) ?_
 refine ⟨fun a b w' => w' = w ∧ a = .int .i64 (q + 0 + ((n : Int) - 1023)) ∧ b = .float .f64 (W double false 1 0), ?_, ?_⟩
 ·rintro a b junk w' ⟨rfl, rfl, rfl⟩
  rw [AgM (by omega) hf, Aw, Ad (by omega) (by omega)]
  rw [show q + 0 + ((n : Int) - 1023) + 1023 = ((n' : Nat) : Int) by omega]
  have hu : (n' : Int) ≤ IntKind.u64.max := by rw [Fo]; omega
  rw [AJ DD BL, FK hu]
  have hsh : n' * 2 ^ 52 < 2 ^ 63 := by
   have h1 : n' * 2 ^ 52 < 2 ^ 11 * 2 ^ 52 := Nat.mul_lt_mul_of_pos_right (show n' < 2 ^ 11 by omega) (Nat.two_pow_pos 52)
   rw [← Nat.pow_add] at h1
   exact h1
  have hsh64 : n' * 2 ^ 52 < 2 ^ 64 := Nat.lt_trans hsh (by decide)
  rw [Ph (s := 52) (by decide) (by
   rw [Fo]
   have h64 : (2 : Nat) ^ 64 = 18446744073709551616 := by decide
   rw [h64] at hsh64
   omega)]
  rw [NT (Nat.lt_trans hf (by decide)) hsh64 rfl, Nat.mul_comm n', AgW hf]
  refine Fc ?_
  have e4 : 2 ^ 52 * n' + f = W double false t q := by rw [w4, Nat.mul_comm]; rfl
  rw [e4]
  refine AA (by simp) fun r hr => ?_
  have hm := AaA (s := false) (t := false) hsd (Has64 (m := 1) (e := 0) (by decide) (by decide) (by decide)) h.has64
  have := Dw hr (show floatBits .mul .f64 _ _ = some _ from hm)
  subst this
  rw [Bool.xor_false, Nat.one_mul, Int.zero_add]
  exact H
 ·rw [Ai]
  refine AD (by simp; omega) ?_
  exact ⟨rfl, rfl, by rw [← one64]⟩
end


section
open Go Go.Vc
variable {w : World} {K : Value → World → Prop}
theorem UQ {l : List UInt8} {c : UInt8} (H : K (.int .i64 (Lib.indexByte l c)) w) : call P Ct [str l, .int .u8 (c.toNat : Nat)] w K :=
 Gh H5 (by kernel_rfl) rfl (by kernel_rfl) (e := Extern.BytealgIndexByte.indexByte) (by kernel_rfl) (fun c' hc => by
  refine ⟨_, c', Lib.run_indexByteString ⟨l.toArray⟩ _ c', ?_⟩
  rw [hc, Afx]; exact H)
theorem Ac6 {l : List UInt8} {c : UInt8} (H : K (.int .i64 (Lib.indexByte l c)) w) : call P BT [str l, .int .u8 (c.toNat : Nat)] w K := by
 refine I9 ?_
 unfold C8
 exact UQ H
theorem Abv {l : List UInt8} {c : UInt8} (H : K (.int .i64 (Lib.indexByte l c)) w) : call P Cq [str l, str [c]] w K := by
 refine Ko ?_
 unfold Dh
 rw [By Av, Ae]
 refine orJ (fun h => by simp at h) (fun _ => ?_)
 rw [A7]
 refine Ac (fun h => ?_) (fun h => ?_)
 ·have : Lib.indexByte l c = 0 := by
   rw [← h]
   exact L6 (a := []) (b := []) (by simp)
  rw [this] at H; exact H
 ·rw [Ae]
  refine A9 rfl ?_
  rw [show (0 : Int) = ((0 : Nat) : Int) from rfl, Db (i := 0) Av (by simp)]
  exact Ac6 H
theorem AkV {l : List UInt8} {c : UInt8} (hl : l.length ≤ 4611686018427387904)
  (H0 : c ∉ l → K (.tuple #[str l, str [], .bool false]) w) (H1 : ∀ a b, l = a ++ c :: b → c ∉ a → K (.tuple #[str a, str b, .bool true]) w) : call P MU [str l, str [c]] w K := by
 refine ZP ?_
 unfold MQ
 refine No ?_
 unfold Dy
 refine Abv ?_
 rw [B6]
 by_cases hc : c ∈ l
 ·obtain ⟨a, b, rfl, hn⟩ := Qg hc
  rw [L6 hn]
  refine A9 (by simp) ?_
  rw [List.length_append] at hl
  rw [RB Av (by simp), By Av, Aw, List.length_singleton, Ad (by omega) (by omega), show ((a.length : Nat) : Int) + ((1 : Nat) : Int) = ((a.length + 1 : Nat) : Int) by omega, DN Av (by simp)]
  dsimp only
  rw [A8, Ax, P9]
  have e1 : (a ++ c :: b).take a.length = a := by simp
  have e2 : (a ++ c :: b).drop (a.length + 1) = b := by
   rw [← List.drop_drop]; simp
  rw [e1, e2]
  exact H1 a b rfl hn
 ·rw [Yg hc]
  refine AD (by decide) ?_
  dsimp only
  rw [A8, Ax, P9]
  exact H0 hc
theorem Ahn {v : Value} {l : List UInt8} {k : IntKind} {i : Nat} {K : Value → Prop} (h : Row 1 w v l.length (l.map fun b => .int .u8 (b.toNat : Nat))) (hi : i < l.length) (H : K (.int .u8 (l[i].toNat : Nat))) :
  ixa P MB v (.int k (i : Int)) w (fun a => ld P NR a w K) :=
 h.at1 (by rw [List.getElem?_map, List.getElem?_eq_getElem hi]; rfl) Cb UE DH rfl H
theorem dig10 {l : List UInt8} (h : l.all digB = true) (hl : l.length ≤ 6) (i : Nat) : decV (l.take i) < 1000000 := by
 have h1 : (l.take i).all digB = true := by
  rw [List.all_eq_true] at h ⊢
  exact fun x hx => h x (List.mem_of_mem_take hx)
 have h2 := Adk h1
 have h3 : (10 : Nat) ^ (l.take i).length ≤ 10 ^ 6 := Nat.pow_le_pow_right (by decide) (by rw [List.length_take]; omega)
 exact Nat.lt_of_lt_of_le h2 h3
set_option maxRecDepth 20000 in
theorem AcE {l : List UInt8} (hd : l.all digB = true) (h0 : l ≠ []) (hl : l.length ≤ 6) (H : ∀ w', Ext w w' → K (.tuple #[.int .u64 (decV l : Nat), .nilIface]) w') : call P Dc [str l, .int .i64 10, .int .i64 64] w K := by
 refine KA ?_
 unfold Da
 rw [A7 (b := [])]
 refine AD (by simpa using h0) ?_
 rw [Ae]
 refine ⟨fun x y w' => w' = w ∧ x = str l ∧ y = .int .i64 10, ?_, ?_⟩
 rotate_left
 ·rw [Dx]
  refine andJ (fun _ => ?_) (fun h => by cases h)
  rw [Dx]
  exact A9 (by decide) ⟨rfl, rfl, rfl⟩
 rintro x0 x1 junk w6 ⟨rfl, rfl, rfl⟩
 refine ⟨fun x w' => w' = w6 ∧ x = .int .i64 64, ?_, ?_⟩
 rotate_left
 ·rw [Ae]
  refine AD (by decide) ?_
  rw [Ai]
  refine orJ (fun h => by simp at h) (fun _ => ?_)
  rw [Aq]
  exact AD (by decide) ⟨rfl, rfl⟩
 rintro x2 junk w11 ⟨rfl, rfl⟩
 refine ⟨fun x w' => w' = w11 ∧ x = .int .u64 1844674407370955162, ?_, ?_⟩
 rotate_left
 ·rw [Ae]
  exact A9 (by decide) ⟨rfl, rfl⟩
 rintro x10 junk w15 ⟨rfl, rfl⟩
 rw [AJ DD TQ, show IntKind.u64.wrap 64 = 64 from by decide]
 rw [Ys _ _ _ _ _ _ _ _ (by decide), show IntKind.u64.wrap (1 * 2 ^ min (Int.toNat 64) IntKind.u64.bits) = 0 from by decide]
 rw [AC, show IntKind.u64.wrap (0 - 1) = 18446744073709551615 from by decide]
 refine AdW Av Cb DH (by simp only [maxLen]; omega) fun v w1 e1 hrow => ?_
 rw [hrow.len Cb]
 have hdig : ∀ (i : Nat) (h : i < l.length), 48 ≤ l[i].toNat ∧ l[i].toNat ≤ 57 := fun i hi => by
  have := List.all_eq_true.1 hd l[i] (List.getElem_mem hi)
  simpa [digB] using this
 refine ⟨fun m x12 x13 x w' => w' = w1 ∧ x12 = .bool false ∧ ∃ i : Nat, x = .int .i64 i ∧ m + i = l.length ∧ x13 = .int .u64 (decV (l.take i) : Nat), ⟨l.length, rfl, rfl, 0, rfl, by omega, by simp [decV, decA]⟩, ?_⟩
 rintro m x12 x13 x junk w2 ⟨rfl, rfl, i, rfl, hm, rfl⟩
 rw [Ai]
 refine Ac (fun hlt => ?_) (fun hge => ?_)
 ·have hi : i < l.length := by omega
  obtain ⟨d1, d2⟩ := hdig i hi
  have hv := dig10 hd hl i
  refine Ahn hrow hi ?_
  refine ⟨fun x12 x16 w' => w' = w2 ∧ x12 = .bool false ∧ x16 = .int .u8 ((l[i].toNat - 48 : Nat) : Int), ?_, ?_⟩
  rotate_left
  ·rw [Ae]
   refine andJ (fun h => by simp only [decide_eq_true_eq] at h; omega) (fun _ => ?_)
   refine AD rfl ?_
   rw [Dx]
   refine andJ (fun _ => ?_) (fun h => by simp only [decide_eq_false_iff_not] at h; omega)
   rw [Dx]
   refine A9 (by simp; omega) ?_
   rw [AC, NP (k := .u8) (by simp [IntKind.min, IntKind.signed]; omega) (by simp [IntKind.max, IntKind.signed, IntKind.bits]; omega)]
   exact ⟨rfl, rfl, by congr 1; omega⟩
  rintro x12 x16 junk w3 ⟨rfl, rfl, rfl⟩
  generalize hD : l[i].toNat - 48 = D
  have hD9 : D ≤ 9 := by omega
  have hdv : decV (l.take (i + 1)) = decV (l.take i) * 10 + D := by
   rw [List.take_succ_eq_append_getElem hi]; unfold decV; rw [SX, hD]
  generalize decV (l.take i) = V at hv hdv ⊢
  rw [AJ DD DH, show IntKind.u8.wrap 10 = 10 from by decide, B6]
  refine AD (by simp; omega) ?_
  rw [B6]
  refine AD (by simp; omega) ?_
  rw [AJ DD BL, show IntKind.u64.wrap 10 = 10 from by decide, show (10 : Int) = ((10 : Nat) : Int) from rfl, Acc (by omega)]
  rw [AJ DH BL, VB (Nat.lt_of_le_of_lt hD9 (by decide)), KH (by omega), Ai]
  refine orJ (fun h => by simp only [decide_eq_true_eq] at h; omega) (fun _ => ?_)
  rw [Aq]
  refine AD (by simp; omega) ?_
  rw [Aw, Ad (by omega) (by omega)]
  exact ⟨m - 1, by omega, rfl, rfl, i + 1, rfl, by omega, by rw [hdv]⟩
 ·have ht : l.take i = l := List.take_of_length_le (by omega)
  rw [ht]
  refine andJ (fun h => by cases h) (fun _ => ?_)
  exact AD rfl (H _ e1)
set_option maxRecDepth 20000 in
theorem AdB {l : List UInt8} (hn : isNum l = true) (hl : l.length ≤ 6) (H : ∀ w', Ext w w' → K (.tuple #[.int .i64 (numI l), .nilIface]) w') : call P Hk [str l, .int .i64 10, .int .i64 64] w K := by
 refine Uv ?_
 unfold Hm
 refine LT ?_
 unfold Dm
 have hb := Gg hn
 have hbody : (body l).all digB = true ∧ body l ≠ [] := by
  unfold numB at hb
  simp only [Bool.and_eq_true, decide_eq_true_eq] at hb
  exact ⟨hb.1.2, hb.1.1⟩
 have hne : l ≠ [] := by
  rintro rfl
  exact hbody.2 rfl
 have hbl := NO l
 rw [A7 (b := [])]
 refine AD (by simpa using hne) ?_
 have hdv : decV (body l) < 1000000 := by
  have := dig10 hbody.1 (by omega) (body l).length
  rwa [List.take_length] at this
 refine ⟨fun x y w' => w' = w ∧ x = str (body l) ∧ y = .bool (negB l), ?_, ?_⟩
 ·rintro x y junk w1 ⟨rfl, rfl, rfl⟩
  refine AcE hbody.1 hbody.2 (by omega) fun w2 e2 => ?_
  rw [A8, Ax, UB U8]
  refine andJ (fun h => by cases h) (fun _ => ?_)
  refine AD rfl ?_
  refine ⟨fun x w' => w' = w2 ∧ x = .int .i64 64, ?_, ?_⟩
  rotate_left
  ·rw [Ae]
   exact AD (by decide) ⟨rfl, rfl⟩
  rintro x2 junk w3 ⟨rfl, rfl⟩
  rw [AC, show IntKind.i64.wrap (64 - 1) = 63 from by decide, AJ DD TQ, show IntKind.u64.wrap 63 = 63 from by decide]
  rw [Ys _ _ _ _ _ _ _ _ (by decide), show IntKind.u64.wrap (1 * 2 ^ min (Int.toNat 63) IntKind.u64.bits) = 9223372036854775808 from by decide]
  have hI : numI l = if negB l then -(decV (body l) : Int) else decV (body l) := rfl
  have fin : cnv P Ea Ar (.int .u64 (decV (body l) : Nat)) w3 fun x68_42 =>
                  cnd (.bool (negB l))
           (una P .neg x68_42 w3 fun x71_43 =>
           xtr P (.tuple #[x71_43, .nilIface]) 0 w3 fun x14_3 => xtr P (.tuple #[x71_43, .nilIface]) 1 w3 fun x15_4 => bin P .neq Adj false true x15_4 .nilIface w3 fun x17_5 => cnd x17_5 (call P Ie [(.string ⟨#[80, 97, 114, 115, 101, 73, 110, 116]⟩), str l, .int .i64 10, .int .i64 64, x15_4] w3 fun x23_6 w7 => K (.tuple #[x14_3, x23_6]) w7) (K (.tuple #[x14_3, .nilIface]) w3))
           (xtr P (.tuple #[x68_42, .nilIface]) 0 w3 fun x14_3 => xtr P (.tuple #[x68_42, .nilIface]) 1 w3 fun x15_4 => bin P .neq Adj false true x15_4 .nilIface w3 fun x17_5 => cnd x17_5 (call P Ie [(.string ⟨#[80, 97, 114, 115, 101, 73, 110, 116]⟩), str l, .int .i64 10, .int .i64 64, x15_4] w3 fun x23_6 w7 => K (.tuple #[x14_3, x23_6]) w7) (K (.tuple #[x14_3, .nilIface]) w3)) := by
   rw [AJ BL AB, Ad (by omega) (by omega)]
   have HH := H w3 e2
   rw [hI] at HH
   cases hneg : negB l
   ·rw [hneg] at HH
    rw [Ao, A8, Ax, UB U8, Ao]
    exact HH
   ·rw [hneg] at HH
    rw [A6, Cz, Ad (by omega) (by omega), A8, Ax, UB U8, Ao]
    simp only [if_true] at HH
    rw [Int.zero_sub]; exact HH
  rw [A5]
  have big1 : decide ((9223372036854775808 : Int) ≤ ((decV (body l) : Nat) : Int)) = false := by simp; omega
  have big2 : decide (((decV (body l) : Nat) : Int) > (9223372036854775808 : Int)) = false := by simp; omega
  cases hneg : negB l
  ·rw [hneg] at fin
   refine andJ (fun _ => ?_) (fun h => by cases h)
   rw [B6]
   refine AD big1 ?_
   refine andJ (fun h => by cases h) (fun _ => ?_)
   exact AD rfl fin
  ·rw [hneg] at fin
   refine andJ (fun h => by cases h) (fun _ => ?_)
   refine AD rfl ?_
   refine andJ (fun _ => ?_) (fun h => by cases h)
   rw [Aq]
   exact AD big2 fin
 ·cases l with
  | nil => exact absurd rfl hne
  | cons d r =>
   have hidx : ∀ (w : World) (K : Value → Prop), idx P AM (str (d :: r)) (.int .i64 0) w K = K (.int .u8 (d.toNat : Nat)) := fun w K => Db (i := 0) Av (by simp)
   rw [hidx, Ae]
   have hnot : ¬ ((d.toNat : Int) = 43) := by
    intro h
    have hd : d = 43 := UInt8.toNat_inj.1 (show d.toNat = 43 by omega)
    subst hd
    have hn' : negB (43 :: r) = false := rfl
    unfold body at hbody
    rw [hn'] at hbody
    simp [digB] at hbody
   refine AD (by simpa using hnot) ?_
   rw [Ae]
   refine Ac (fun h2 => ?_) (fun h2 => ?_)
   ·have hd : d = 45 := UInt8.toNat_inj.1 (show d.toNat = 45 by omega)
    subst hd
    rw [show (1 : Int) = ((1 : Nat) : Int) from rfl, DN Av (by simp)]
    exact ⟨rfl, rfl, rfl⟩
   ·have hneg : negB (d :: r) = false := by
     unfold negB
     have : d ≠ 45 := by rintro rfl; exact h2 rfl
     simpa using this
    refine ⟨rfl, ?_, ?_⟩
    ·unfold body; rw [hneg]; rfl
    ·rw [hneg]
end


section
open Go Go.Vc
variable {w : World} {K : Value → World → Prop}
def swapL {α : Type} (l : List α) (i j : Nat) (d : α) : List α := (l.set i (l.getD j d)).set j (l.getD i d)
@[simp] theorem Akh {α : Type} (l : List α) (i j : Nat) (d : α) : (swapL l i j d).length = l.length := by simp [swapL]
def isZ (a : Nat) : Bool := Ieee.single.order a 0 == some .eq
structure Good (n : Nat) (m : List (List Nat)) : Prop where
 sq : square n m
 fin : ∀ r ∈ m, r.all finB = true
 lt : bits m
end


section
open Go Go.Vc
variable {w : World} {K : Value → World → Prop}
section
variable {lo hi : Nat} {v : Value} {m : List (List Nat)} {vs : List Value}
end
section
variable {B : Nat} {p q ov tv : Value} {o : List Nat} {m : List (List Nat)} {vs : List Value}
end
end


section
open Go Go.Vc
variable {w : World} {K : Value → World → Prop}
end


section
open Go Go.Vc
variable {w : World} {K : Value → World → Prop}
end


section
open Go Go.Vc
variable {w : World} {K : Value → World → Prop} {lo hi : Nat} {v : Value}
abbrev vI (n : Int) : Value := .int .i64 n
def FI (w : World) (v : Value) (l : List Int) : Prop := Row 1 w v l.length (l.map vI)
def mkI (k : Int) (n : Nat) : List Int := (List.range n).map (fun j => k + (j : Nat))
@[simp] theorem AkK (k : Int) (n : Nat) : (mkI k n).length = n := by simp [mkI]
end


section
open Go Go.Vc
variable {w : World} {K : Value → World → Prop}
def en (m : List (List Nat)) (i j : Nat) : Nat := (m.getD i []).getD j 0
end


section
open Go Go.Vc Ieee
variable {w : World} {K : Value → World → Prop}
theorem AcS {f : FuncId} {cap : Array Value} (H : call P f cap.toList w K) : callv P (.func (.func f) #[] cap) [] w K := by
 unfold callv
 have e : (do let d ← Deferred.ofValue (.func (.func f) #[] cap) ([] : List Value).toArray; invoke d.target d.args) = callFunc f cap.toList.toArray := by
  show callFunc f ((#[] ++ ([] : List Value).toArray) ++ cap) = _
  congr 1
  simp
 rw [e]; exact H
theorem M5 {b : Nat} (H : K (fl b) w) : call P Dk [.int .u32 (b : Int)] w K :=
 Gh OC (by kernel_rfl) rfl (by kernel_rfl) (e := Extern.MathFloatBits.float32frombits) (by kernel_rfl) (AS H)
theorem Vb {n : Nat} {K : Value → Prop} (h : n ≤ 4294967295) : cnv P Ar Ay (.int .i64 (n : Int)) w K = K (.int .u32 (n : Int)) := by
 rw [AJ AB Be, FK (by rw [AiJ]; omega)]
theorem SB (H : K (fl 2139095039) w) : call P HE [.int .i64 2139095039] w K := by
 refine QI ?_
 unfold HJ
 rw [Ai]
 refine AD (by decide) ?_
 rw [show (2139095039 : Int) = ((2139095039 : Nat) : Int) from rfl, Vb (by decide)]
 exact M5 H
theorem Sa (H : K (fl 4286578687) w) : call P HE [.int .i64 (-2139095039)] w K := by
 refine QI ?_
 unfold HJ
 rw [Ai]
 refine A9 (by decide) ?_
 rw [Cz, Ad (by decide) (by decide), show (0 : Int) - -2139095039 = ((2139095039 : Nat) : Int) from rfl, Vb (by decide)]
 rw [NT (b := 2147483648) (by decide) (by decide) rfl, show (2139095039 ||| 2147483648 : Nat) = 4286578687 from by decide]
 exact M5 H
set_option maxRecDepth 20000 in
theorem Qw (H : K (fl 2139095040) w) : call P G7 [.int .i64 1] w K := by
 refine Pp ?_
 unfold Gv
 refine Wu ?_
 unfold NG
 rw [B6]
 refine A9 (by decide) ?_
 rw [show (9218868437227405312 : Int) = ((9218868437227405312 : Nat) : Int) from rfl]
 refine Fc ?_
 refine Ack (sg := false) Cv BC (by decide) ?_
 exact H
set_option maxRecDepth 20000 in
theorem QM (H : K (fl 4286578688) w) : call P G7 [.int .i64 (-1)] w K := by
 refine Pp ?_
 unfold Gv
 refine Wu ?_
 unfold NG
 rw [B6]
 refine AD (by decide) ?_
 rw [show (18442240474082181120 : Int) = ((18442240474082181120 : Nat) : Int) from rfl]
 refine Fc ?_
 refine Ack (sg := true) Cv BC (by decide) ?_
 exact H
theorem IU (md : Int) : overB md (decide ((1 : Int) < 0)) = if md = 3 ∨ md = 1 then 2139095039 else 2139095040 := by
 unfold overB; simp
theorem IQ (md : Int) : overB md (decide ((-1 : Int) < 0)) = if md = 3 ∨ md = 2 then 4286578687 else 4286578688 := by
 unfold overB; simp; split <;> rfl
theorem AfW {b b' : Nat} {x3 x6 : Value} {md sg : Int} (h3 : Bx w b Ar x3 [.int .i64 md]) (h6 : Bx w b' Bw x6 [.int .i64 sg]) (hs : sg = 1 ∨ sg = -1)
  (H : K (.tuple #[fl (overB md (decide (sg < 0))), .int .i64 5]) w) : call P GP [x3, x6] w K := by
 have e3 : ∀ K, ld P Ar x3 w K = K (.int .i64 md) := fun K => by
  obtain ⟨g, rfl, hc⟩ := h3.cell
  exact F4 AB rfl (hc 0 _ rfl).1
 have e6 : ∀ K, ld P Bw x6 w K = K (.int .i64 sg) := fun K => by
  obtain ⟨g, rfl, hc⟩ := h6.cell
  exact F4 DD rfl (hc 0 _ rfl).1
 refine Ts ?_
 unfold GH
 by_cases m3 : md = 3
 ·have d3 : decide (md = 3) = true := decide_eq_true m3
  rw [e3, Ae, d3]
  rcases hs with rfl | rfl
  ·repeat (first | (refine ⟨_, fun _ _ _ h => h, ?_⟩) | simp only [e3, e6, Ae, Aq, Ai, d3, Au, At, Ak, Ap, An, cond_true, cond_false, A6, Ao])
   rw [CR, Ad (by decide) (by decide), show (1 : Int) * 2139095039 = 2139095039 from rfl]
   refine SB ?_
   have : overB md (decide ((1 : Int) < 0)) = 2139095039 := by rw [IU]; first | rw [if_pos (by omega)] | rw [if_neg (by omega)]
   rw [this] at H; exact H
  ·repeat (first | (refine ⟨_, fun _ _ _ h => h, ?_⟩) | simp only [e3, e6, Ae, Aq, Ai, d3, Au, At, Ak, Ap, An, cond_true, cond_false, A6, Ao])
   rw [CR, Ad (by decide) (by decide), show (-1 : Int) * 2139095039 = -2139095039 from rfl]
   refine Sa ?_
   have : overB md (decide ((-1 : Int) < 0)) = 4286578687 := by rw [IQ]; first | rw [if_pos (by omega)] | rw [if_neg (by omega)]
   rw [this] at H; exact H
 ·have d3 : decide (md = 3) = false := decide_eq_false m3
  rw [e3, Ae, d3]
  by_cases m1 : md = 1
  ·have d1 : decide (md = 1) = true := decide_eq_true m1
   have d2 : decide (md = 2) = false := decide_eq_false (by omega)
   have p1 : decide (0 < (1 : Int)) = true := rfl
   have p2 : decide (0 < (-1 : Int)) = false := rfl
   rcases hs with rfl | rfl
   ·repeat (first | (refine ⟨_, fun _ _ _ h => h, ?_⟩) | simp only [e3, e6, Ae, Aq, Ai, d1, d2, d3, p1, Au, At, Ak, Ap, An, cond_true, cond_false, A6, Ao])
    rw [CR, Ad (by decide) (by decide), show (1 : Int) * 2139095039 = 2139095039 from rfl]
    refine SB ?_
    have : overB md (decide ((1 : Int) < 0)) = 2139095039 := by rw [IU]; first | rw [if_pos (by omega)] | rw [if_neg (by omega)]
    rw [this] at H; exact H
   ·repeat (first | (refine ⟨_, fun _ _ _ h => h, ?_⟩) | simp only [e3, e6, Ae, Aq, Ai, d1, d2, d3, p2, Au, At, Ak, Ap, An, cond_true, cond_false, A6, Ao])
    refine QM ?_
    have : overB md (decide ((-1 : Int) < 0)) = 4286578688 := by rw [IQ]; first | rw [if_pos (by omega)] | rw [if_neg (by omega)]
    rw [this] at H; exact H
  ·have d1 : decide (md = 1) = false := decide_eq_false m1
   by_cases m2 : md = 2
   ·have d2 : decide (md = 2) = true := decide_eq_true m2
    have p1 : decide ((1 : Int) < 0) = false := rfl
    have p2 : decide ((-1 : Int) < 0) = true := rfl
    rcases hs with rfl | rfl
    ·repeat (first | (refine ⟨_, fun _ _ _ h => h, ?_⟩) | simp only [e3, e6, Ae, Aq, Ai, d1, d2, d3, p1, Au, At, Ak, Ap, An, cond_true, cond_false, A6, Ao])
     refine Qw ?_
     have : overB md (decide ((1 : Int) < 0)) = 2139095040 := by rw [IU]; first | rw [if_pos (by omega)] | rw [if_neg (by omega)]
     rw [this] at H; exact H
    ·repeat (first | (refine ⟨_, fun _ _ _ h => h, ?_⟩) | simp only [e3, e6, Ae, Aq, Ai, d1, d2, d3, p2, Au, At, Ak, Ap, An, cond_true, cond_false, A6, Ao])
     rw [CR, Ad (by decide) (by decide), show (-1 : Int) * 2139095039 = -2139095039 from rfl]
     refine Sa ?_
     have : overB md (decide ((-1 : Int) < 0)) = 4286578687 := by rw [IQ]; first | rw [if_pos (by omega)] | rw [if_neg (by omega)]
     rw [this] at H; exact H
   ·have d2 : decide (md = 2) = false := decide_eq_false m2
    have no : ∀ b, ¬ (md = 3 ∨ (md = 1 ∧ b = false) ∨ (md = 2 ∧ b = true)) := by
     rintro b (h | ⟨h, _⟩ | ⟨h, _⟩)
     ·exact m3 h
     ·exact m1 h
     ·exact m2 h
    rcases hs with rfl | rfl
    ·repeat (first | (refine ⟨_, fun _ _ _ h => h, ?_⟩) | simp only [e3, e6, Ae, Aq, Ai, d1, d2, d3, Au, At, Ak, Ap, An, cond_true, cond_false, A6, Ao])
     refine Qw ?_
     have : overB md (decide ((1 : Int) < 0)) = 2139095040 := by rw [IU]; first | rw [if_pos (by omega)] | rw [if_neg (by omega)]
     rw [this] at H; exact H
    ·repeat (first | (refine ⟨_, fun _ _ _ h => h, ?_⟩) | simp only [e3, e6, Ae, Aq, Ai, d1, d2, d3, Au, At, Ak, Ap, An, cond_true, cond_false, A6, Ao])
     refine QM ?_
     have : overB md (decide ((-1 : Int) < 0)) = 4286578688 := by rw [IQ]; first | rw [if_pos (by omega)] | rw [if_neg (by omega)]
     rw [this] at H; exact H
end


section
open Go Go.Vc Ieee
variable {w : World} {K : Value → World → Prop}
open Classical in
noncomputable def rndQ (md : Int) (q : Rat) : Nat × Int := if h : ∃ p : Int × Int, q = dy p.1 p.2 then roundF md (Classical.choose h).1 (Classical.choose h).2 else (0, 0)
theorem QH (md m e : Int) : rndQ md (dy m e) = roundF md m e := by
 have hx : ∃ p : Int × Int, dy m e = dy p.1 p.2 := ⟨(m, e), rfl⟩
 unfold rndQ
 rw [dif_pos hx]
 exact Ac8 md (Classical.choose_spec hx).symm
theorem Vz {p : Value} {m e : Int} (h : IntR w p m) (H : ∀ w', Ext w w' → K (.int .i64 m.sign) w') : call P BD [.agg #[p, .int .i64 e]] w K := Uz ⟨p, rfl, h⟩ H
theorem Y5 {KW : Value → World → Prop} (H : ∀ x w', Bx w' w.heap.size Bw x [.int .i64 0] → Ext w w' → KW x w') : alc P Bw w KW :=
 BI LL fun x w' b e _ => H x w' b e
theorem IntR.notnew {p : Value} {m : Int} {base : Nat} {z : Value} (h : IntR w p m) (hz : ∀ k, blk z = some k → w.heap.size ≤ k) (hb : ∃ k, blk z = some k) : p ≠ z := by
 rintro rfl
 obtain ⟨s, h1, _⟩ := h
 obtain ⟨k, hk⟩ := hb
 have := hz k hk
 have := (h1.blk_lt hk).2
 omega
theorem ZO.some {base : Nat} {z : Value} (h : ZO w base z) : ∃ k, blk z = some k := by
 obtain ⟨b, s, ⟨g, rfl, _⟩, _⟩ := h
 exact ⟨g, rfl⟩
theorem IntR.ne_new {p z : Value} {m : Int} {w' : World} (h : IntR w p m) (hz : ZO w' w.heap.size z) : p ≠ z := h.notnew (base := 0) (fun k hk => hz.blk_ge hk) hz.some
set_option maxRecDepth 20000 in
theorem Aft {t : Nat} {q : Int} {sg fl' : Int} {b : Nat} {x6 x46 : Value} {neg : Bool} (hi : IntR w x46 (t : Int)) (hc : Cut t q) (h6 : Bx w b Bw x6 [.int .i64 sg]) (hn : neg = decide (sg < 0))
  (H : K (.tuple #[fl (W single neg t q), .int .i64 fl']) w) :
  call P CI [x46] w fun x131 w48 => cnv P Ar Zh x131 w48 fun x132 => call P Jt [x132, .int .i64 q] w48 fun x134 w51 => rcnv P Zh BQ x134 w51 fun x135 =>
   ld P Bw x6 w51 fun x136 => bin P .lss Bw false true x136 (.int .i64 0) w51 fun x137 => cnd x137 (una P .neg x135 w51 fun x139 => K (.tuple #[x139, .int .i64 fl']) w51) (K (.tuple #[x135, .int .i64 fl']) w51) := by
 have ht := hc.t_le
 refine Adv hi (by omega) ?_
 rw [BX AB Cv]
 have hf : floatOfInt .f64 (t : Int) = W double false t 0 := by
  show double.write (.number (decide ((t : Int) < 0)) (t : Int).natAbs 0) = _
  rw [decide_eq_false (by omega), Int.natAbs_natCast]
  rfl
 rw [hf]
 refine AiU hc ?_
 refine Oc Cv BC hc ?_
 refine h6.get1 DD rfl ?_
 rw [Ai]
 obtain ⟨h1, h2⟩ := AhH t q
 refine Ac (fun hlt => ?_) (fun hge => ?_)
 ·rw [Dz, neg32 _ (Nat.lt_trans h1 (by decide)), if_pos h1, ← h2]
  rw [hn, decide_eq_true hlt] at H
  exact H
 ·rw [hn, decide_eq_false hge] at H
  exact H
theorem R9 {m : Int} (h : m ≠ 0) : m.sign = 1 ∨ m.sign = -1 := by
 rcases Int.lt_trichotomy m 0 with h1 | h1 | h1
 ·exact .inr (Int.sign_eq_neg_one_of_neg h1)
 ·exact absurd h1 h
 ·exact .inl (Int.sign_eq_one_of_pos h1)
theorem GX (m : Int) : decide (m.sign < 0) = decide (m < 0) := by
 rw [decide_eq_decide]
 exact Int.sign_neg_iff
theorem Ahx {r half : Value} {x3 x6 x46 : Value} {md sg : Int} {b b' : Nat} {a g d : Nat} {KB : Value → World → Prop} (h3 : Bx w b Ar x3 [.int .i64 md]) (h6 : Bx w b' Bw x6 [.int .i64 sg]) (hs : sg = 1 ∨ sg = -1)
  (h46 : IntR w x46 ((a / g : Nat) : Int)) (hg : g = 2 ^ d * 2)
  (H : KB (.bool (upB md (decide (sg < 0)) (a / g) (a % g) g)) w) :
  ∃ J95 : Value → World → Prop, (∀ (x16_98 : Value) (junk96 : Env) (w97 : World), J95 x16_98 w97 → KB x16_98 w97) ∧
                (ld P 2 x3 w fun x92_103 =>
                bin P .eql 2 false true x92_103 (.int .i64 0) w fun x94_104 =>
                cnd x94_104
          (bin P .gtr 3 false true (.int .i64 (cmpI ((a % g : Nat) : Int) (2 ^ d))) (.int .i64 0) w fun x96_105 =>
          ∃ J106 : Value → World → Prop, (∀ (x100_107 : Value) (junk109 : Env) (w108 : World), J106 x100_107 w108 →
           ∃ J110 : Value → World → Prop, (∀ (x103_111 : Value) (junk113 : Env) (w112 : World), J110 x103_111 w112 →
           ∃ J114 : Value → World → Prop, (∀ (x104_115 : Value) (junk117 : Env) (w116 : World), J114 x104_115 w116 →
           pick x96_105 (.bool true) x104_115 fun x105_118 =>
             J95 x105_118 w116) ∧
           grd x96_105 false
            (pick x100_107 x103_111 (.bool false) fun x104_119 =>
              J114 x104_119 w112)
            (J114 undef w112)) ∧
           grd x100_107 true
            (call P Er [x46, (.int .i64 0)] w108 fun x102_120 w121 =>
             bin P .eql Ab6 false true x102_120 (.int .u64 1) w121 fun x103_122 =>
             J110 x103_122 w121)
            (J110 undef w108)) ∧
           grd x96_105 false
            (bin P .eql 3 false true (.int .i64 (cmpI ((a % g : Nat) : Int) (2 ^ d))) (.int .i64 0) w fun x99_123 =>
            J106 x99_123 w)
            (J106 undef w))
          (bin P .eql 2 false true x92_103 (.int .i64 1) w fun x107_124 =>
          cnd x107_124
           (ld P 3 x6 w fun x108_125 =>
           bin P .lss 3 false true x108_125 (.int .i64 0) w fun x109_126 =>
           J95 x109_126 w)
           (bin P .eql 2 false true x92_103 (.int .i64 2) w fun x111_127 =>
           cnd x111_127
            (ld P 3 x6 w fun x112_128 =>
            bin P .gtr 3 false true x112_128 (.int .i64 0) w fun x113_129 =>
            J95 x113_129 w)
            (bin P .eql 2 false true x92_103 (.int .i64 4) w fun x115_130 =>
            cnd x115_130
             (J95 (.bool true) w)
             (J95 (.bool false) w))))) := by
 refine ⟨_, fun _ _ _ h => h, ?_⟩
 have hpow : ((2 ^ d : Nat) : Int) = 2 ^ d := by rw [Int.natCast_pow]; rfl
 refine h3.get1 AB rfl ?_
 rw [Ae]
 unfold upB at H
 by_cases m0 : md = 0
 ·rw [if_pos m0] at H
  rw [decide_eq_true m0, A6, Aq]
  rw [← hpow]
  by_cases c1 : g < 2 * (a % g)
  ·have hc : cmpI ((a % g : Nat) : Int) ((2 ^ d : Nat) : Int) = 1 := by unfold cmpI; rw [if_neg (by omega), if_pos (by omega)]
   rw [hc]
   rw [decide_eq_true c1, Bool.true_or] at H
   have p1 : decide (0 < (1 : Int)) = true := rfl
   rw [p1]
   repeat (first | (refine ⟨_, fun _ _ _ h => h, ?_⟩) | simp only [Ae, Aq, Ai, Au, At, Ak, Ap, An, cond_true, cond_false, A6, Ao])
   exact H
  ·rw [decide_eq_false c1, Bool.false_or] at H
   by_cases c2 : 2 * (a % g) = g
   ·have hc : cmpI ((a % g : Nat) : Int) ((2 ^ d : Nat) : Int) = 0 := by unfold cmpI; rw [if_neg (by omega), if_neg (by omega)]
    rw [hc]
    rw [decide_eq_true c2, Bool.true_and] at H
    have p1 : decide (0 < (0 : Int)) = false := rfl
    have p2 : decide ((0 : Int) = 0) = true := rfl
    rw [p1]
    repeat (first | (refine ⟨_, fun _ _ _ h => h, ?_⟩) | simp only [Ae, Aq, Ai, p2, Au, At, Ak, Ap, An, cond_true, cond_false, A6, Ao])
    refine Ald (i := 0) h46 (by decide) ?_
    rw [Int.natAbs_natCast, Nat.pow_zero, Nat.div_one]
    have e : (((a / g % 2 : Nat) : Int) = 1) = (a / g % 2 = 1) := propext ⟨fun h => by omega, fun h => by omega⟩
    simp only [Ae, e]
    repeat (first | (refine ⟨_, fun _ _ _ h => h, ?_⟩) | simp only [Au, At, Ak, Ap, An, cond_true, cond_false, A6, Ao])
    exact H
   ·have hc : cmpI ((a % g : Nat) : Int) ((2 ^ d : Nat) : Int) = -1 := by unfold cmpI; rw [if_pos (by omega)]
    rw [hc]
    rw [decide_eq_false c2, Bool.false_and] at H
    have p1 : decide (0 < (-1 : Int)) = false := rfl
    have p2 : decide ((-1 : Int) = 0) = false := rfl
    rw [p1]
    repeat (first | (refine ⟨_, fun _ _ _ h => h, ?_⟩) | simp only [Ae, Aq, Ai, p2, Au, At, Ak, Ap, An, cond_true, cond_false, A6, Ao])
    exact H
 ·rw [if_neg m0] at H
  rw [decide_eq_false m0, Ao, Ae]
  by_cases m1 : md = 1
  ·rw [if_pos m1] at H
   rw [decide_eq_true m1, A6]
   refine h6.get1 DD rfl ?_
   rw [Ai]
   exact H
  ·rw [if_neg m1] at H
   rw [decide_eq_false m1, Ao, Ae]
   by_cases m2 : md = 2
   ·rw [if_pos m2] at H
    rw [decide_eq_true m2, A6]
    refine h6.get1 DD rfl ?_
    rw [Aq]
    rcases hs with rfl | rfl
    ·exact H
    ·exact H
   ·rw [if_neg m2] at H
    rw [decide_eq_false m2, Ao, Ae]
    by_cases m4 : md = 4
    ·rw [if_pos m4] at H
     rw [decide_eq_true m4, A6]
     exact H
    ·rw [if_neg m4] at H
     rw [decide_eq_false m4, Ao]
     exact H
end


section
open Go Go.Vc Ieee
variable {w : World} {K : Value → World → Prop}
theorem Vi {md m e : Int} (h : m ≠ 0) (ho : 128 < (bl (cutT md (decide (m < 0)) m.natAbs e).1 : Int) + qOf m.natAbs e) : roundF md m e = (overB md (decide (m < 0)), 5) := by
 unfold roundF
 rw [if_neg h]
 simp only
 rw [if_pos ho]
theorem ZL {md m e : Int} (h : m ≠ 0) (ho : ¬ 128 < (bl (cutT md (decide (m < 0)) m.natAbs e).1 : Int) + qOf m.natAbs e) :
  roundF md m e = (W single (decide (m < 0)) (cutT md (decide (m < 0)) m.natAbs e).1 (qOf m.natAbs e), if (cutT md (decide (m < 0)) m.natAbs e).2 then 0 else if (bl m.natAbs : Int) + e ≤ -126 then 3 else 1) := by
 unfold roundF
 rw [if_neg h]
 simp only
 rw [if_neg ho]
 rfl
theorem R8 {md : Int} {neg : Bool} {a : Nat} {e : Int} (h : qOf a e ≤ e) : cutT md neg a e = (a * 2 ^ (e - qOf a e).toNat, true) := by
 unfold cutT; simp only; rw [if_pos h]
theorem Z6 {md : Int} {neg : Bool} {a : Nat} {e : Int} (h : ¬ qOf a e ≤ e) : cutT md neg a e = if a % 2 ^ (qOf a e - e).toNat = 0 then (a / 2 ^ (qOf a e - e).toNat, true) else (a / 2 ^ (qOf a e - e).toNat + (upB md neg (a / 2 ^ (qOf a e - e).toNat) (a % 2 ^ (qOf a e - e).toNat) (2 ^ (qOf a e - e).toNat)).toNat, false) := by
 unfold cutT; simp only; rw [if_neg h]
theorem Acy {t : TypeId} {cx cy : Bool} {d : Nat} {K : Value → Prop} (h : d ≤ 1099511627776) : bin P .sub t cx cy (.int .u64 ((d + 1 : Nat) : Int)) (.int .u64 1) w K = K (.int .u64 (d : Int)) := by
 rw [AC, show ((d + 1 : Nat) : Int) - 1 = (d : Int) by omega, FK (by rw [Fo]; omega)]
theorem Vm {v : Value} {lo hi : Nat} {q : Rat} {md : Int} (h : NQ w v lo hi q) (hl : lo ≤ 1000000000) (hh : hi ≤ 1000000000)
  (H : ∀ w', Ext w w' → K (.tuple #[fl (rndQ md q).1, .int .i64 (rndQ md q).2]) w') : call P FL [v, .int .i64 md] w K := by
 obtain ⟨m, e, ⟨p, rfl, ip⟩, hb, rfl⟩ := h
 rw [QH] at H
 have hbl := hb.bl
 have := hb.low; have := hb.top
 refine VL ?_
 unfold IK
 refine FY (x := undef) fun x2 w1 b2 e1 => ?_
 refine Ix fun x3 w2 b3 e2 _ => ?_
 have b3 : Bx w2 w1.heap.size Ar x3 [.int .i64 md] := b3
 have b2 := b2.ext e2
 have E2 := e1.trans e2
 refine DJ b2 ?_
 refine Vz (ip.ext E2) fun w3 e3 => ?_
 have E3 := E2.trans e3
 rw [Ae]
 refine Ac (fun h0 => ?_) (fun h0 => ?_)
 ·have hm : m = 0 := Int.sign_eq_zero_iff_zero.1 h0
  have : roundF md m e = (0, 0) := by unfold roundF; rw [if_pos hm]
  rw [this] at H
  exact H _ E3
 have hm : m ≠ 0 := by rintro rfl; exact h0 rfl
 have ha : m.natAbs ≠ 0 := by omega
 have hsg := R9 hm
 have b2 := b2.ext e3
 have b3 := b3.ext e3
 have ip3 := ip.ext E3
 refine ⟨fun x6 x7 w' => Ext w3 w' ∧ x7 = .int .i64 (bl m.natAbs : Nat) ∧ Bx w' w3.heap.size Bw x6 [.int .i64 m.sign], ?_, ?_⟩
 ·rintro x6 x7 junk w4 ⟨e4, rfl, b6⟩
  have E4 := E3.trans e4
  have b2 := b2.ext e4
  have b3 := b3.ext e4
  have ip4 := ip3.ext e4
  refine N9 b2 ?_
  rw [Aw, Ad (by omega) (by omega), Aq]
  have over : ∀ (w' : World), Ext w w' → Bx w' w3.heap.size Bw x6 [.int .i64 m.sign] → Bx w' w1.heap.size Ar x3 [.int .i64 md] → 128 < (bl (cutT md (decide (m < 0)) m.natAbs e).1 : Int) + qOf m.natAbs e →
    callv P (.func (.func GP) #[] #[x3, x6]) [] w' fun x33 w19 => xtr P x33 0 w19 fun x34 => xtr P x33 1 w19 fun x35 => K (.tuple #[x34, x35]) w19 := by
   intro w' he h6 h3 ho
   refine AcS ?_
   refine AfW h3 h6 hsg ?_
   rw [A8, Ax, GX]
   have := H w' he
   rw [Vi hm ho] at this
   exact this
  refine Ac (fun hbig => over w4 E4 b6 b3 (Aey ha hbig)) (fun hsm => ?_)
  refine N9 b2 ?_
  rw [Aw, Ad (by omega) (by omega), AC, Ad (by omega) (by omega), Dj]
  rw [show max (((bl m.natAbs : Nat) : Int) + e - 24) (-149) = qOf m.natAbs e from rfl]
  have hq1 : -149 ≤ qOf m.natAbs e ∧ qOf m.natAbs e ≤ 104 ∧ (bl m.natAbs : Int) + e - 24 ≤ qOf m.natAbs e := by unfold qOf; omega
  generalize hqd : qOf m.natAbs e = Q at *
  refine Fg fun x42 w5 z42 _ e5 => ?_
  have b2 := b2.ext e5
  have ip5 := ip4.ext e5
  refine RO b2 ?_
  refine Ai0 z42 ip5 (by omega) fun w6 z42 i42 g6 => ?_
  have e6 : Ext w4 w6 := Ab e5 (fun k hk => z42.blk_ge hk) g6
  refine Fg fun x46 w7 z46 _ e7 => ?_
  have e7' : Ext w4 w7 := e6.trans e7
  have n1 : x42 ≠ x46 := i42.ne_new z46
  have i42 := i42.ext e7
  have b2 : Bx w7 w.heap.size AI x2 (nm p e) := (((‹Bx w4 w.heap.size AI x2 (nm p e)›).ext e7'))
  generalize ham : m.natAbs = a at *
  refine ⟨fun x11 w' => Ext w4 w' ∧ IntR w' x46 ((cutT md (decide (m < 0)) a e).1 : Int) ∧ x11 = .int .i64 (if (cutT md (decide (m < 0)) a e).2 then 0 else if (bl a : Int) + e ≤ -126 then 3 else 1), ?_, ?_⟩
  ·rintro x11 junk w8 ⟨e8, i46, rfl⟩
   have hcl := U4 md (decide (m < 0)) a e
   have hc25 : bl (cutT md (decide (m < 0)) a e).1 ≤ 25 := Bf.2 (by show _ < 33554432; omega)
   refine OL i46 (by rw [Int.natAbs_natCast]; omega) ?_
   rw [Int.natAbs_natCast, Aw, Ad (by omega) (by omega), Aq]
   refine Ac (fun hbig => over w8 (E4.trans e8) (b6.ext e8) (b3.ext e8) hbig) (fun hin => ?_)
   have HH := H w8 (E4.trans e8)
   rw [ZL hm (by rw [ham, hqd]; exact hin), ham, hqd] at HH
   refine Aft (neg := decide (m < 0)) i46 ⟨hcl, hq1.1, by omega⟩ (b6.ext e8) (GX m).symm ?_
   exact HH
  ·refine N9 b2 ?_
   rw [B6]
   refine Ac (fun hge => ?_) (fun hlt => ?_)
   ·refine N9 b2 ?_
    rw [AC, Ad (by omega) (by omega), show e - Q = (((e - Q).toNat : Nat) : Int) by omega, Jv (by omega)]
    refine Xz z46 i42 (by rw [Int.natAbs_natCast]; omega) (by omega) fun w8 z8 i8 g8 => ?_
    refine ⟨Ab e7' (fun k hk => Nat.le_trans e6.size (z46.blk_ge hk)) g8, ?_, ?_⟩
    ·rw [R8 (by rw [hqd]; omega), hqd]
     rw [Int.natCast_mul, Int.natCast_pow]; exact i8
    ·rw [R8 (by rw [hqd]; omega)]; rfl
   ·have hd : 1 ≤ (Q - e).toNat := by omega
    obtain ⟨d, hdd⟩ : ∃ d, (Q - e).toNat = d + 1 := ⟨(Q - e).toNat - 1, by omega⟩
    have hcut := Z6 (md := md) (neg := decide (m < 0)) (a := a) (e := e) (by rw [hqd]; omega)
    rw [hqd, hdd] at hcut
    refine N9 b2 ?_
    rw [AC, Ad (by omega) (by omega), show Q - e = ((d + 1 : Nat) : Int) by omega, Jv (by omega)]
    refine Ait z46 i42 (by rw [Int.natAbs_natCast]; omega) (by omega) fun w8 z8 i8 g8 => ?_
    have e8 : Ext w4 w8 := Ab e7' (fun k hk => Nat.le_trans e6.size (z46.blk_ge hk)) g8
    have i42' := i42.kept z46 g8 n1
    have hdiv : (a : Int) / 2 ^ (d + 1) = ((a / 2 ^ (d + 1) : Nat) : Int) := by rw [Int.natCast_ediv, Int.natCast_pow]; rfl
    rw [hdiv] at i8
    refine Fg fun x68 w9 z68 _ e9 => ?_
    refine Fg fun x70 w10 z70 _ e10 => ?_
    have E10 := e9.trans e10
    have hb2 : bl (a / 2 ^ (d + 1)) ≤ bl a := HO (Nat.div_le_self _ _)
    have n70 : x46 ≠ x70 := (i8.ext e9).ne_new z70
    have n70' : x42 ≠ x70 := (i42'.ext e9).ne_new z70
    refine Xz z70 (i8.ext E10) (by rw [Int.natAbs_natCast]; omega) (by omega) fun w11 z70' i70 g11 => ?_
    have e11 : Ext w8 w11 := Ab E10 (fun k hk => Nat.le_trans e9.size (z70.blk_ge hk)) g11
    have z68' : ZO w11 w8.heap.size x68 := by
     have h68 := (z68.ext e10)
     obtain ⟨b, s, ⟨g, rfl, hg0, hg1⟩, hs⟩ := h68
     refine ⟨b, s, ⟨g, rfl, hg0, ?_⟩, hs⟩
     have hlt : g < w10.heap.size := by
      rcases Nat.lt_or_ge g w10.heap.size with h | h
      ·exact h
      ·rw [Array.getElem?_eq_none h] at hg1; cases hg1
     have hlt9 : g < w9.heap.size := by
      obtain ⟨b', s', ⟨g', hp, _, hg1'⟩, _⟩ := z68
      cases hp
      rcases Nat.lt_or_ge g w9.heap.size with h | h
      ·exact h
      ·rw [Array.getElem?_eq_none h] at hg1'; cases hg1'
     rw [g11.block g hlt (fun hc => by
      have := z70.blk_ge hc.symm
      omega)]
     exact hg1
    have hsub : (a : Int) - ((a / 2 ^ (d + 1) : Nat) : Int) * 2 ^ (d + 1) = ((a % 2 ^ (d + 1) : Nat) : Int) := by
     have h1 := Nat.div_add_mod a (2 ^ (d + 1))
     have h2 : ((2 ^ (d + 1) * (a / 2 ^ (d + 1)) + a % 2 ^ (d + 1) : Nat) : Int) = (a : Int) := by rw [h1]
     rw [Int.natCast_add, Int.natCast_mul, Int.natCast_pow] at h2
     rw [Int.mul_comm]
     show (a : Int) - (((2 : Nat) : Int)) ^ (d + 1) * _ = _
     omega
    have hb70 : bl (((a / 2 ^ (d + 1) : Nat) : Int) * 2 ^ (d + 1)).natAbs ≤ bl a := by
     refine HO ?_
     have h1 : (((a / 2 ^ (d + 1) : Nat) : Int) * 2 ^ (d + 1)).natAbs = a / 2 ^ (d + 1) * 2 ^ (d + 1) := by rw [Int.natAbs_mul, Int.natAbs_natCast, CE]
     rw [h1]
     exact Nat.div_mul_le_self _ _
    refine AkT z68' (i42'.ext e11) i70 (by rw [Int.natAbs_natCast]; omega) (by omega) fun w12 z12 i12 g12 => ?_
    rw [hsub] at i12
    have e12 : Ext w8 w12 := Ab e11 (fun k hk => z68'.blk_ge hk) g12
    have E12 : Ext w4 w12 := e8.trans e12
    refine XC i12 ?_
    rw [B5]
    have i46 := i8.ext e12
    refine Ac (fun hne => ?_) (fun heq => ?_)
    ·have hr : a % 2 ^ (d + 1) ≠ 0 := fun hc => hne (by rw [hc]; rfl)
     rw [if_neg hr] at hcut
     have b2' : Bx w12 w.heap.size AI x2 (nm p e) := (‹Bx w4 w.heap.size AI x2 (nm p e)›).ext E12
     refine ⟨fun x11 w' => w' = w12 ∧ x11 = .int .i64 (if (bl a : Int) + e ≤ -126 then 3 else 1), ?_, ?_⟩
     ·rintro x11 junk w13 ⟨rfl, rfl⟩
      refine Fg fun x86 w14 z86 _ e14 => ?_
      refine Oz (by decide) (by decide) fun x87 w15 e15 z87 i87 => ?_
      rw [Acy (by omega)]
      refine Xz (z86.ext e15) i87 (by decide) (by omega) fun w16 z16 i16 g16 => ?_
      have e16 : Ext w13 w16 := Ab (e14.trans e15) (fun k hk => z86.blk_ge hk) g16
      rw [Int.one_mul] at i16
      refine AkZ (i12.ext e16) i16 ?_
      have b3' := b3.ext (E12.trans e16)
      have b6' := b6.ext (E12.trans e16)
      refine Ahx (r := x68) (half := x86) (a := a) (g := 2 ^ (d + 1)) (d := d) (KB := fun x16_98 w97 => cnd x16_98 (call P CW [(.int .i64 1)] w97 fun x119_99 w100 => call P BP [x46, x46, x119_99] w100 fun x120_101 w102 => _) _) b3' b6' hsg (i46.ext e16) (Nat.pow_succ ..) ?_
      rw [GX]
      refine Az (fun hup => ?_) (fun hup => ?_)
      ·refine Oz (by decide) (by decide) fun x119 w17 e17 z119 i119 => ?_
       have E17 := e12.trans (e16.trans e17)
       refine AhV (base := w4.heap.size) ((z8.low (by have := e6.size; omega)).ext E17) (i8.ext E17) i119 (by rw [Int.natAbs_natCast]; omega) (by decide) fun w18 z18 i18 g18 => ?_
       have e18 : Ext w4 w18 := Ab (e8.trans E17) (fun k hk => Nat.le_trans e6.size (z8.blk_ge hk)) g18
       refine ⟨e18, ?_, ?_⟩
       ·rw [hcut, hup]; exact i18
       ·rw [hcut]; rfl
      ·refine ⟨E12.trans e16, ?_, ?_⟩
       ·rw [hcut, hup]; exact i46.ext e16
       ·rw [hcut]; rfl
     ·refine N9 b2' ?_
      rw [Aw, Ad (by omega) (by omega), Dx]
      refine Ac (fun hle => ?_) (fun hgt => ?_)
      ·rw [if_pos hle]
       have e12 : ∀ KK : Value → Prop, bin P .or 2 false true (.int .i64 1) (.int .i64 2) w12 KK = KK (.int .i64 3) := fun KK => by rw [Agm]; rfl
       rw [e12]
       exact ⟨rfl, rfl⟩
      ·rw [if_neg hgt]
       exact ⟨rfl, rfl⟩
    ·have hr : a % 2 ^ (d + 1) = 0 := by
      have h1 : ((a % 2 ^ (d + 1) : Nat) : Int).sign = 0 := by
       refine Classical.byContradiction fun hc => heq hc
      have := Int.sign_eq_zero_iff_zero.1 h1
      omega
     rw [if_pos hr] at hcut
     refine ⟨E12, ?_, ?_⟩
     ·rw [hcut]; exact i46
     ·rw [hcut]; rfl
 ·-- the sign, the length and its variable, in any order
  refine DJ b2 ?_
  refine RO b2 ?_
  have fin : ∀ (x6 : Value) (w' : World) (g : Nat), Ext w3 w' → w3.heap.size ≤ g → Bx w' g Bw x6 [.int .i64 0] → ∀ (KJ : World → Prop), (∀ w'', Ext w3 w'' → Bx w'' w3.heap.size Bw x6 [.int .i64 m.sign] → KJ w'') → sto P Bw x6 (.int .i64 m.sign) w' KJ := by
   intro x6 w' g he hg hbx KJ hK
   refine hbx.put1 LL rfl fun w'' b'' g'' => ?_
   exact hK _ (Ab he (fun k hk => Nat.le_trans hg (hbx.blk_lt hk).1) g'') (b''.low hg)
  refine ⟨?_, ?_⟩
  ·refine Vz ip3 fun w4 e4 => ?_
   refine ⟨e4, ?_, ?_⟩
   ·refine OL (ip3.ext e4) (by omega) ?_
    refine Y5 fun x6 w5 b6 e5 => ?_
    refine ⟨e5, ?_⟩
    exact fin x6 w5 _ (e4.trans e5) e4.size b6 _ fun w'' he hb => ⟨he, rfl, hb⟩
   ·refine Y5 fun x6 w5 b6 e5 => ?_
    refine ⟨e5, ?_⟩
    refine OL ((ip3.ext e4).ext e5) (by omega) ?_
    exact fin x6 w5 _ (e4.trans e5) e4.size b6 _ fun w'' he hb => ⟨he, rfl, hb⟩
  ·refine Y5 fun x6 w4 b6 e4 => ?_
   refine ⟨e4, ?_⟩
   refine Vz (ip3.ext e4) fun w5 e5 => ?_
   refine ⟨e5, ?_⟩
   refine OL ((ip3.ext e4).ext e5) (by omega) ?_
   exact fin x6 w5 _ (e4.trans e5) (Nat.le_refl _) (b6.ext e5) _ fun w'' he hb => ⟨he, rfl, hb⟩
end


section
open Go Go.Vc Ieee
variable {w : World} {K : Value → World → Prop} {g : Nat} {x v : Value} {m : Int}
def WC (w : World) (g : Nat) (x : Value) : Prop := blk x = some g ∧ ∃ cs, cs.length = 2 ∧ Bx w g Aj x cs
def WV (w : World) (g : Nat) (x : Value) (m : Int) : Prop := blk x = some g ∧ ∃ s, Bx w g Aj x [.int .i64 m.sign, s] ∧ Wr w (.agg #[.int .i64 m.sign, s]) m
theorem WC.ext {w' : World} (h : WC w g x) (he : Ext w w') : WC w' g x := let ⟨a, cs, b, c⟩ := h; ⟨a, cs, b, c.ext he⟩
theorem WV.ext {w' : World} (h : WV w g x m) (he : Ext w w') : WV w' g x m := let ⟨a, s, b, c⟩ := h; ⟨a, s, b.ext he, c.ext he⟩
theorem WV.WC (h : WV w g x m) : WC w g x := let ⟨a, _, b, _⟩ := h; ⟨a, _, rfl, b⟩
theorem WV.get {K : Value → Prop} (h : WV w g x m) (H : ∀ v, Wr w v m → K v) : ld P Aj x w K := let ⟨_, _, b, c⟩ := h; Mf b (H _ c)
theorem WV.getc {K : Value → Prop} (h : WV w g x m) (H : ∀ v, Wr w v m → K v) : ldc P Aj x w K := let ⟨_, _, b, c⟩ := h; b.getc Bh rfl AK rfl (H _ c)
theorem WC.put {K : World → Prop} (h : WC w g x) (hv : Wr w v m) (H : ∀ w', WV w' g x m → w.grownBy w' (some g) → Ty w (some g) Aj → K w') : sto P Aj x v w K := by
 obtain ⟨hg, cs, hl, b⟩ := h
 have t := Ty.box b
 obtain ⟨s, l, rfl, hr, hw⟩ := hv
 refine b.put AK (ds := [.int .i64 m.sign, s]) rfl hl (JV rfl (Hu (IR.sl hr.toIR))) fun w' b' g' => ?_
 rw [hg] at g' t
 exact H w' ⟨hg, s, b', s, l, rfl, hr.kt g' t (by decide), hw⟩ g' t
theorem Xv {KW : Value → World → Prop} (H : ∀ x w', WC w' w.heap.size x → Ext w w' → KW x w') : alc P Aj w KW :=
 BI AK fun x w' b e hp => H x w' ⟨hp, _, rfl, b⟩ e
theorem Ahh {neg : Bool} {a d : Nat} (ha : a % 2 = 1) : upB 0 neg (a / 2 ^ (d + 1)) (a % 2 ^ (d + 1)) (2 ^ (d + 1)) = (decide (a / 2 ^ d % 2 = 1) && (decide (1 < d + 1) || decide (a / 2 ^ (d + 1) % 2 = 1))) := by
 unfold upB
 rw [if_pos rfl]
 have hp := Nat.two_pow_pos d
 have h1 : 2 ^ (d + 1) = 2 ^ d * 2 := Nat.pow_succ ..
 have hm := Nat.mod_mul (x := a) (a := 2 ^ d) (b := 2)
 rw [← h1] at hm
 have hr := Nat.mod_lt a hp
 have hb := Nat.mod_lt (a / 2 ^ d) (show 0 < 2 by decide)
 generalize hB : a / 2 ^ d % 2 = B at *
 generalize hR : a % 2 ^ d = R at *
 rw [hm, h1]
 by_cases hB1 : B = 1
 ·subst hB1
  have e1 : decide ((1 : Nat) = 1) = true := rfl
  rw [e1, Bool.true_and, Nat.mul_one]
  by_cases hd : d = 0
  ·subst hd
   have : R = 0 := by have : R < 1 := hr; omega
   subst this
   rfl
  ·have h2 : decide (1 < d + 1) = true := decide_eq_true (by omega)
   have hRp : 0 < R := by
    obtain ⟨k, rfl⟩ : ∃ k, d = k + 1 := ⟨d - 1, by omega⟩
    have h3 := Nat.mod_mul (x := a) (a := 2) (b := 2 ^ k)
    rw [show 2 * 2 ^ k = 2 ^ (k + 1) by rw [Nat.pow_succ, Nat.mul_comm], hR, ha] at h3
    omega
   have h3 : decide (2 ^ d * 2 < 2 * (R + 2 ^ d)) = true := decide_eq_true (by omega)
   rw [h2, h3, Bool.true_or, Bool.true_or]
 ·have hB0 : B = 0 := by omega
  subst hB0
  have e1 : decide ((0 : Nat) = 1) = false := rfl
  rw [e1, Bool.false_and, Nat.mul_zero, Nat.add_zero]
  have h3 : decide (2 ^ d * 2 < 2 * R) = false := decide_eq_false (by omega)
  have h4 : decide (2 * R = 2 ^ d * 2) = false := decide_eq_false (by omega)
  rw [h3, h4]; rfl
theorem Aeg {m : Int} (h : m % 2 = 1) : m.natAbs % 2 = 1 := by omega
theorem Aam {m e : Int} {lo hi : Nat} {md : Int} (h : Dr w v m e) (hb : Bd lo hi m e) (hl : lo ≤ 1000000000) (hh : hi ≤ 1000000000) (hodd : m % 2 = 1)
  (H : ∀ u w', Ext w w' → Wr w' u ((cutT md (decide (m < 0)) m.natAbs e).1 : Int) → K (.tuple #[u, .int .i64 (qOf m.natAbs e), .bool (cutT md (decide (m < 0)) m.natAbs e).2]) w') : call P Hb [v, .int .i64 md] w K := by
 obtain ⟨s, l, rfl, h1, wl⟩ := h
 have hbl := hb.bl
 have := hb.low; have := hb.top
 have hm : m ≠ 0 := by rintro rfl; cases hodd
 have hao := Aeg hodd
 refine Tg ?_
 unfold Hd
 refine F5 fun x1 w1 b1 e1 => ?_
 refine Xv fun x4 w2 c4 e2 => ?_
 have b1 := b1.ext e2
 have E2 := e1.trans e2
 refine dy_w b1 ?_
 refine Ah0 ⟨s, l, rfl, h1.ext E2, wl⟩ (by omega) fun u3 w3 e3 h3 => ?_
 refine Xv fun x7 w4 c7 e4 => ?_
 refine c7.put (h3.Wr.ext e4) fun w5 v7 g5 _ => ?_
 have e5 : Ext w2 w5 := Im (e3.trans e4) e3.size g5
 have b1 := b1.ext e5
 have c4 := c4.ext e5
 refine v7.get fun u7 hu7 => ?_
 refine dy_e b1 ?_
 refine Qa hu7 (by rw [Int.natAbs_natCast]; omega) fun w6 e6 => ?_
 refine ⟨e6, ?_⟩
 have b1 := b1.ext e6
 have c4 := c4.ext e6
 have v7 := v7.ext e6
 have E6 := E2.trans (e5.trans e6)
 have s1 := e1.size
 have s3 := e3.size
 rw [Int.natAbs_natCast, Aw, Ad (by omega) (by omega), AC, Ad (by omega) (by omega), Dj]
 rw [show max (((bl m.natAbs : Nat) : Int) + e - 24) (-149) = qOf m.natAbs e from rfl]
 have hq1 : -149 ≤ qOf m.natAbs e ∧ qOf m.natAbs e ≤ 3000000000 := by unfold qOf; omega
 generalize hqd : qOf m.natAbs e = Q at *
 refine dy_e b1 ?_
 rw [AC, Ad (by omega) (by omega), Dx]
 refine Ac (fun hle => ?_) (fun hgt => ?_)
 ·refine v7.get fun u8 hu8 => ?_
  rw [Cz, Ad (by omega) (by omega), show (0 : Int) - (Q - e) = (((e - Q).toNat : Nat) : Int) by omega]
  refine T7 hu8 (by rw [Int.natAbs_natCast]; omega) (by omega) fun u9 w9 e9 h9 => ?_
  refine (c4.ext e9).put h9.Wr fun w10 v4 g10 _ => ?_
  refine v4.getc fun u10 hu10 => ?_
  have := H u10 w10 (Im (E6.trans e9) e1.size g10)
  rw [R8 (by rw [hqd]; omega), hqd] at this
  refine this ?_
  rw [Int.natCast_mul, Int.natCast_pow]; exact hu10
 ·obtain ⟨d, hdd⟩ : ∃ d : Nat, Q - e = ((d + 1 : Nat) : Int) := ⟨(Q - e).toNat - 1, by omega⟩
  have hcut := Z6 (md := md) (neg := decide (m < 0)) (a := m.natAbs) (e := e) (by rw [hqd]; omega)
  rw [hqd, show (Q - e).toNat = d + 1 by omega] at hcut
  have hr : m.natAbs % 2 ^ (d + 1) ≠ 0 := by
   intro hc
   have : m.natAbs % 2 = m.natAbs % 2 ^ (d + 1) % 2 := by rw [Nat.mod_mod_of_dvd _ ⟨2 ^ d, by rw [Nat.pow_succ, Nat.mul_comm]⟩]
   rw [hc] at this; omega
  rw [if_neg hr] at hcut
  refine v7.get fun u8 hu8 => ?_
  rw [hdd]
  refine Abd (m' := ((m.natAbs / 2 ^ (d + 1) : Nat) : Int)) hu8 (by rw [Int.natAbs_natCast]; omega) (by omega) (by rw [Int.natAbs_natCast, Int.natAbs_natCast]) (fun hne => ?_) fun u9 w9 e9 h9 => ?_
  ·have hp : 0 < m.natAbs / 2 ^ (d + 1) := Nat.pos_of_ne_zero fun hc => hne (by rw [hc]; rfl)
   rw [Int.sign_eq_one_of_pos (Int.natCast_pos.2 hp), Int.sign_eq_one_of_pos (Int.natCast_pos.2 (by omega))]
  refine Xv fun x10 w10 c10 e10 => ?_
  refine c10.put (h9.Wr.ext e10) fun w11 v10 g11 _ => ?_
  have e11 : Ext w6 w11 := Im (e9.trans e10) e9.size g11
  have s9 := e9.size
  have hbt : bl (m.natAbs / 2 ^ (d + 1)) ≤ bl m.natAbs := HO (Nat.div_le_self _ _)
  have fin : ∀ (up : Bool) (w12 : World), up = upB md (decide (m < 0)) (m.natAbs / 2 ^ (d + 1)) (m.natAbs % 2 ^ (d + 1)) (2 ^ (d + 1)) → Ext w11 w12 →
    cnd (.bool up)
    (ld P Aj x10 w12 fun x68_43 =>
    call P DX [(.int .i64 1)] w12 fun x69_44 w45 =>
    Ext w12 w45 ∧ call P Ga [x68_43, x69_44] w45 fun x70_46 w47 =>
    sto P Aj x10 x70_46 w47 fun w49 =>
    ld P Aj x10 w49 fun x71_50 =>
    sto P Aj x4 x71_50 w49 fun w52 =>
    ldc P Aj x4 w52 fun r53 =>
    K (.tuple #[r53, .int .i64 Q, (.bool false)]) w52)
    (ld P Aj x10 w12 fun x71_54 =>
    sto P Aj x4 x71_54 w12 fun w56 =>
    ldc P Aj x4 w56 fun r57 =>
    K (.tuple #[r57, .int .i64 Q, (.bool false)]) w56) := by
   intro up w12 hup e12
   have v10 := v10.ext e12
   have c4 := (c4.ext e11).ext e12
   have E12 := E6.trans (e11.trans e12)
   have H := H
   rw [hcut] at H
   refine Az (fun hu => ?_) (fun hu => ?_)
   ·refine v10.get fun u12 hu12 => ?_
    refine Uy (by decide) (by decide) fun u13 w13 e13 h13 => ?_
    refine ⟨e13, ?_⟩
    refine AaR (hu12.ext e13) h13.Wr (by rw [Int.natAbs_natCast]; omega) (by decide) fun u14 w14 e14 h14 => ?_
    refine ((v10.WC.ext e13).ext e14).put h14.Wr fun w15 v15 g15 _ => ?_
    have e15 : Ext w6 w15 := Im (e11.trans (e12.trans (e13.trans e14))) e9.size g15
    refine v15.get fun u15 hu15 => ?_
    refine (((‹WC w6 w1.heap.size x4›).ext e15)).put hu15 fun w16 v16 g16 _ => ?_
    refine v16.getc fun u16 hu16 => ?_
    have := H u16 w16 (Im (E6.trans e15) e1.size g16)
    rw [← hup, hu] at this
    exact this hu16
   ·refine v10.get fun u12 hu12 => ?_
    refine c4.put hu12 fun w16 v16 g16 _ => ?_
    refine v16.getc fun u16 hu16 => ?_
    have := H u16 w16 (Im E12 e1.size g16)
    rw [← hup, hu] at this
    exact this hu16
  refine ⟨fun x11 w' => Ext w11 w' ∧ x11 = .bool (upB md (decide (m < 0)) (m.natAbs / 2 ^ (d + 1)) (m.natAbs % 2 ^ (d + 1)) (2 ^ (d + 1))), ?_, ?_⟩
  ·rintro x11 junk w12 ⟨e12, rfl⟩
   exact fin _ w12 rfl e12
  ·rw [Ae]
   have b1 := b1.ext e11
   have v7 := v7.ext e11
   by_cases m0 : md = 0
   ·rw [decide_eq_true m0, A6, m0, Ahh hao]
    refine v7.get fun u12 hu12 => ?_
    rw [AC, Ad (by omega) (by omega), show ((d + 1 : Nat) : Int) - 1 = (d : Int) by omega]
    refine Wa hu12 (by omega) fun w12 e12 => ?_
    rw [Int.natAbs_natCast, Ae]
    have e : (((m.natAbs / 2 ^ d % 2 : Nat) : Int) = 1) = (m.natAbs / 2 ^ d % 2 = 1) := propext ⟨fun h => by omega, fun h => by omega⟩
    simp only [e]
    by_cases c1 : m.natAbs / 2 ^ d % 2 = 1
    ·rw [decide_eq_true c1, Bool.true_and]
     by_cases c2 : 1 < d + 1
     ·have p1 : decide (1 < ((d + 1 : Nat) : Int)) = true := decide_eq_true (by omega)
      rw [decide_eq_true c2, Bool.true_or]
      repeat (first | (refine ⟨_, fun _ _ _ h => h, ?_⟩) | simp only [Aq, p1, Au, At, Ak, Ap, An, cond_true, cond_false])
      exact ⟨e12, trivial⟩
     ·have p1 : decide (1 < ((d + 1 : Nat) : Int)) = false := decide_eq_false (by omega)
      rw [decide_eq_false c2, Bool.false_or]
      repeat (first | (refine ⟨_, fun _ _ _ h => h, ?_⟩) | simp only [Aq, p1, Au, At, Ak, Ap, An, cond_true, cond_false])
      refine (v10.ext e12).get fun u13 hu13 => ?_
      refine Wa (i := 0) hu13 (by decide) fun w13 e13 => ?_
      rw [Int.natAbs_natCast, Nat.pow_zero, Nat.div_one]
      have e' : (((m.natAbs / 2 ^ (d + 1) % 2 : Nat) : Int) = 1) = (m.natAbs / 2 ^ (d + 1) % 2 = 1) := propext ⟨fun h => by omega, fun h => by omega⟩
      simp only [Ae, e']
      repeat (first | (refine ⟨_, fun _ _ _ h => h, ?_⟩) | simp only [Aq, p1, Au, At, Ak, Ap, An, cond_true, cond_false])
      exact ⟨e12.trans e13, trivial⟩
    ·rw [decide_eq_false c1, Bool.false_and]
     repeat (first | (refine ⟨_, fun _ _ _ h => h, ?_⟩) | simp only [Aq, Au, At, Ak, Ap, An, cond_true, cond_false])
     exact ⟨e12, trivial⟩
   ·rw [decide_eq_false m0, Ao, Ae]
    unfold upB
    rw [if_neg m0]
    by_cases m1 : md = 1
    ·rw [decide_eq_true m1, A6, if_pos m1]
     refine NE b1 ?_
     rw [Ai, GX]
     exact ⟨Ext.refl _, rfl⟩
    ·rw [decide_eq_false m1, Ao, if_neg m1, Ae]
     by_cases m2 : md = 2
     ·rw [decide_eq_true m2, A6, if_pos m2]
      refine NE b1 ?_
      rw [Aq]
      refine ⟨Ext.refl _, ?_⟩
      congr 1
      rcases R9 hm with hs | hs
      ·rw [hs, ← GX, hs]; rfl
      ·rw [hs, ← GX, hs]; rfl
     ·rw [decide_eq_false m2, Ao, if_neg m2, Ae]
      by_cases m4 : md = 4
      ·rw [decide_eq_true m4, A6, if_pos m4]
       exact ⟨Ext.refl _, rfl⟩
      ·rw [decide_eq_false m4, Ao, if_neg m4]
       exact ⟨Ext.refl _, rfl⟩
end


section
open Go Go.Vc Ieee
variable {w : World} {K : Value → World → Prop}
theorem Zr (H : K (fl 2139095040) w) : call P Fq [] w K := by
 refine XK ?_
 unfold Ly
 refine AA (by simp) fun r hr => ?_
 have := Dw hr (r' := 2139095040) (by decide +kernel)
 subst this
 exact H
set_option maxRecDepth 20000 in
theorem PX (H : K (fl 2139095039) w) : call P CJ [.int .i64 2139095039] w K := by
 refine OP ?_
 unfold GS
 rw [Ai]
 refine AD (by decide) ?_
 have e1 : ∀ KK : Value → Prop, bin P .shr 2 false true (.int .i64 2139095039) (.int .u64 23) w KK = KK (.int .i64 254) := fun KK => by
  have := Cu (w := w) (t := Ar) (cx := false) (cy := true) (k := .i64) (yk := .u64) (a := 2139095039) (s := 23) (K := KK) (by decide)
  exact this
 have e2 : ∀ KK : Value → Prop, bin P .and 2 false true (.int .i64 2139095039) (.int .i64 8388607) w KK = KK (.int .i64 8388607) := fun KK => by rw [Kz]; rfl
 rw [e1, e2, Ae]
 refine AD (by decide) ?_
 rw [Ae]
 refine AD (by decide) ?_
 have hf : floatOfInt .f64 (8388607 + 8388608) = W64 false 16777215 0 := by decide
 rw [Aw, Ad (by decide) (by decide), BX AB Cv, hf, AC, Ad (by decide) (by decide), show (254 : Int) - 150 = 104 from rfl]
 refine Ma (by decide) (by decide) (by decide) (by decide) (by decide) ?_
 refine Oc (t := 16777215) (q := 104) (sg := false) Cv BC ⟨by decide, by decide, by decide⟩ ?_
 have : W single false 16777215 104 = 2139095039 := by decide
 rw [this]
 exact H
theorem AeP {md sg : Int} (hs : sg = 1 ∨ sg = -1) (H : K (fl (overB md (decide (sg < 0)))) w) : call P K6 [.int .i64 sg, .int .i64 md] w K := by
 refine YX ?_
 unfold KL
 refine Zr ?_
 have fin : ∀ (b : Nat) (hb : b = 2139095039 ∨ b = 2139095040), (overB md (decide (sg < 0)) = if sg < 0 then b + 2147483648 else b) → bin P .lss 2 false true (.int .i64 sg) (.int .i64 0) w fun x27_7 =>
   cnd x27_7 (una P .neg (fl b) w fun x29_8 => K x29_8 w) (K (fl b) w) := by
  intro b hb ho
  rw [Ai]
  refine Ac (fun hlt => ?_) (fun hge => ?_)
  ·rw [Dz, neg32 b (by omega), if_pos (by omega)]
   rw [if_pos hlt] at ho
   rw [ho] at H; exact H
  ·rw [if_neg hge] at ho
   rw [ho] at H; exact H
 refine ⟨fun x w' => w' = w ∧ ∃ b, x = fl b ∧ (b = 2139095039 ∨ b = 2139095040) ∧ (overB md (decide (sg < 0)) = if sg < 0 then b + 2147483648 else b), ?_, ?_⟩
 ·rintro x junk w' ⟨rfl, b, rfl, hb, ho⟩
  exact fin b hb ho
 ·have yes : (md = 3 ∨ (md = 1 ∧ sg = 1) ∨ (md = 2 ∧ sg = -1)) → overB md (decide (sg < 0)) = if sg < 0 then 2139095039 + 2147483648 else 2139095039 := by
   intro h
   rcases hs with rfl | rfl
   ·rw [IU, if_pos (by omega)]; rfl
   ·rw [IQ, if_pos (by omega)]; rfl
  have no : ¬ (md = 3 ∨ (md = 1 ∧ sg = 1) ∨ (md = 2 ∧ sg = -1)) → overB md (decide (sg < 0)) = if sg < 0 then 2139095040 + 2147483648 else 2139095040 := by
   intro h
   rcases hs with rfl | rfl
   ·rw [IU, if_neg (by omega)]; rfl
   ·rw [IQ, if_neg (by omega)]; rfl
  rw [Ae]
  by_cases m3 : md = 3
  ·have d3 : decide (md = 3) = true := decide_eq_true m3
   rw [d3]
   repeat (first | (refine ⟨_, fun _ _ _ h => h, ?_⟩) | simp only [Ae, Aq, Ai, d3, Au, At, Ak, Ap, An, cond_true, cond_false, A6, Ao])
   refine PX ⟨rfl, _, rfl, .inl rfl, yes (.inl m3)⟩
  ·have d3 : decide (md = 3) = false := decide_eq_false m3
   rw [d3]
   by_cases m1 : md = 1
   ·have d1 : decide (md = 1) = true := decide_eq_true m1
    have d2 : decide (md = 2) = false := decide_eq_false (by omega)
    have p1 : decide (0 < (1 : Int)) = true := rfl
    have p2 : decide (0 < (-1 : Int)) = false := rfl
    rcases hs with rfl | rfl
    ·repeat (first | (refine ⟨_, fun _ _ _ h => h, ?_⟩) | simp only [Ae, Aq, Ai, d1, d2, d3, p1, Au, At, Ak, Ap, An, cond_true, cond_false, A6, Ao])
     refine PX ⟨rfl, _, rfl, .inl rfl, yes (.inr (.inl ⟨m1, rfl⟩))⟩
    ·repeat (first | (refine ⟨_, fun _ _ _ h => h, ?_⟩) | simp only [Ae, Aq, Ai, d1, d2, d3, p2, Au, At, Ak, Ap, An, cond_true, cond_false, A6, Ao])
     exact ⟨trivial, _, rfl, .inr rfl, no (by omega)⟩
   ·have d1 : decide (md = 1) = false := decide_eq_false m1
    by_cases m2 : md = 2
    ·have d2 : decide (md = 2) = true := decide_eq_true m2
     have p1 : decide ((1 : Int) < 0) = false := rfl
     have p2 : decide ((-1 : Int) < 0) = true := rfl
     rcases hs with rfl | rfl
     ·repeat (first | (refine ⟨_, fun _ _ _ h => h, ?_⟩) | simp only [Ae, Aq, Ai, d1, d2, d3, p1, Au, At, Ak, Ap, An, cond_true, cond_false, A6, Ao])
      exact ⟨trivial, _, rfl, .inr rfl, no (by omega)⟩
     ·repeat (first | (refine ⟨_, fun _ _ _ h => h, ?_⟩) | simp only [Ae, Aq, Ai, d1, d2, d3, p2, Au, At, Ak, Ap, An, cond_true, cond_false, A6, Ao])
      refine PX ⟨rfl, _, rfl, .inl rfl, yes (.inr (.inr ⟨m2, rfl⟩))⟩
    ·have d2 : decide (md = 2) = false := decide_eq_false m2
     repeat (first | (refine ⟨_, fun _ _ _ h => h, ?_⟩) | simp only [Ae, Aq, Ai, d1, d2, d3, Au, At, Ak, Ap, An, cond_true, cond_false, A6, Ao])
     exact ⟨trivial, _, rfl, .inr rfl, no (by omega)⟩
theorem AcC {t : Nat} {q : Int} (h : Cut t q) (H : K (fl (W single true t q)) w) : call P Bn [fl (W single false t q)] w K := by
 refine Oh ?_
 unfold FD
 have e1 : (3212836864 : Nat) = W single true 1 0 := by decide
 refine AA (by simp) fun r hr => ?_
 have hm := AaA (s := false) (t := true) hss h.has (Has32 (m := 1) (e := 0) (by decide) (by decide) (by decide))
 rw [← e1] at hm
 have := Dw hr (show floatBits .mul .f32 _ _ = some _ from hm)
 subst this
 rw [Bool.false_xor, Nat.mul_one, Int.add_zero]
 exact H
theorem PU {l : List Nat} {t : Nat} (h : val 16777216 l = t) (i : Nat) : val 16777216 (l.drop i) * 16777216 ^ i ≤ t := by
 induction i generalizing l t with
 | zero => rw [List.drop_zero, Nat.pow_zero, Nat.mul_one, h]; exact Nat.le_refl _
 | succ i ih =>
  cases l with
  | nil => simp [val]
  | cons a l =>
   rw [List.drop_succ_cons, Nat.pow_succ, ← Nat.mul_assoc]
   have := ih (l := l) rfl
   simp only [val] at h
   have h2 := Nat.mul_le_mul_right 16777216 this
   omega
set_option maxRecDepth 20000 in
theorem Xh {v : Value} {m e : Int} {lo hi : Nat} {md : Int} (h : Dr w v m e) (hb : Bd lo hi m e) (hl : lo ≤ 1000000000) (hh : hi ≤ 1000000000) (hcn : Canon m e)
  (H : ∀ w', Ext w w' → K (.tuple #[fl (roundF md m e).1, .int .i64 (roundF md m e).2]) w') : call P Ev [v, .int .i64 md] w K := by
 obtain ⟨s, l, rfl, h1, wl⟩ := h
 have hbl := hb.bl
 have := hb.low; have := hb.top
 refine WX ?_
 unfold Jx
 refine F5 fun x1 w1 b1 e1 => ?_
 refine NE b1 ?_
 rw [Ae]
 refine Ac (fun h0 => ?_) (fun h0 => ?_)
 ·have hm : m = 0 := Int.sign_eq_zero_iff_zero.1 h0
  have : roundF md m e = (0, 0) := by unfold roundF; rw [if_pos hm]
  rw [this] at H
  exact H _ e1
 have hm : m ≠ 0 := by rintro rfl; exact h0 rfl
 have hodd : m % 2 = 1 := by rcases hcn with ⟨h, _⟩ | h <;> omega
 refine EG b1 ?_
 refine Aam (md := md) ⟨s, l, rfl, h1.ext e1, wl⟩ hb hl hh hodd fun u2 w2 e2 h2 => ?_
 rw [A8, Ax, P9]
 have hcl := U4 md (decide (m < 0)) m.natAbs e
 have hq1 : -149 ≤ qOf m.natAbs e ∧ qOf m.natAbs e ≤ 3000000000 := by unfold qOf; omega
 have H1 := fun ho => Vi (md := md) (e := e) hm ho
 have H2 := fun ho => ZL (md := md) (e := e) hm ho
 generalize hqd : qOf m.natAbs e = Q at *
 generalize hT : cutT md (decide (m < 0)) m.natAbs e = T at *
 obtain ⟨t, ex⟩ := T
 simp only at h2 hcl H1 H2
 have hc25 : bl t ≤ 25 := Bf.2 (by show _ < 33554432; omega)
 refine Xv fun x6 w3 c6 e3 => ?_
 refine c6.put (h2.ext e3) fun w4 v6 g4 _ => ?_
 have e4 : Ext w2 w4 := Im e3 (Nat.le_refl _) g4
 have E4 := e1.trans (e2.trans e4)
 have b1 := (b1.ext e2).ext e4
 refine v6.get fun u6 hu6 => ?_
 refine Qa hu6 (by rw [Int.natAbs_natCast]; omega) fun w5 e5 => ?_
 have b1 := b1.ext e5
 have v6 := v6.ext e5
 have E5 := E4.trans e5
 rw [Int.natAbs_natCast, Aw, Ad (by omega) (by omega), Aq]
 refine Ac (fun hbig => ?_) (fun hin => ?_)
 ·refine NE b1 ?_
  have HH := H w5 E5
  rw [H1 hbig] at HH
  refine AeP (R9 hm) ?_
  rw [GX]
  exact HH
 ·have HH := fun w' he => H w' he
  rw [H2 hin] at HH
  have cut : Cut t Q := ⟨hcl, hq1.1, by omega⟩
  obtain ⟨hblk, s6, b6, s6', l6, hv6, hr6, hw6⟩ := v6
  simp only [Value.agg.injEq, Array.mk.injEq, List.cons.injEq, true_and, and_true] at hv6
  subst hv6
  have hval : val 16777216 l6 = t := by have := hw6.2; rw [Int.natAbs_natCast] at this; exact this
  have hlen : l6.length ≤ 45812984491 := hw6.len (by rw [Int.natAbs_natCast]; omega)
  refine wh_l b6 ?_
  rw [hr6.row.len Ah]
  rw [AC, Ad (by omega) (by omega)]
  refine ⟨fun k x y w' => w' = w5 ∧ k ≤ l6.length ∧ x = .float .f64 (W64 false (val 16777216 (l6.drop k)) 0) ∧ y = .int .i64 ((k : Int) - 1), ⟨l6.length, rfl, Nat.le_refl _, ?_, rfl⟩, ?_⟩
  ·rw [List.drop_of_length_le (Nat.le_refl _)]
   exact congrArg (Value.float .f64) zero64
  rintro k x y junk w6 ⟨rfl, hk, rfl, rfl⟩
  rw [B6]
  refine Ac (fun hge => ?_) (fun hlt => ?_)
  ·obtain ⟨i, rfl⟩ : ∃ i, k = i + 1 := ⟨k - 1, by omega⟩
   have hi : i < l6.length := by omega
   have hdrop : val 16777216 (l6.drop i) = l6[i] + 16777216 * val 16777216 (l6.drop (i + 1)) := by
    rw [List.drop_eq_getElem_cons hi]; rfl
   have hle1 := PU hval i
   have hle2 := PU hval (i + 1)
   have hp1 : 1 ≤ 16777216 ^ i := Nat.pow_pos (by decide)
   have hp2 : 16777216 ≤ 16777216 ^ (i + 1) := by rw [Nat.pow_succ]; omega
   have hvi : val 16777216 (l6.drop i) ≤ t := Nat.le_trans (Nat.le_mul_of_pos_right _ hp1) hle1
   have hlim := hw6.1.1 l6[i] (List.getElem_mem hi)
   generalize hP : val 16777216 (l6.drop (i + 1)) = p at *
   have hp : 16777216 * p ≤ t := by omega
   have bp : bl p ≤ 25 := Bf.2 (by show p < 33554432; omega)
   have bp2 : bl (p * 16777216) ≤ 25 := Bf.2 (by show p * 16777216 < 33554432; omega)
   have bl1 : bl l6[i] ≤ 25 := Bf.2 (by show l6[i] < 33554432; omega)
   refine AA (by simp) fun r hr => ?_
   have hm1 := AaA (s := false) (t := false) hsd (Has64 (m := p) (e := 0) (by omega) (by omega) (by omega)) (Has64 (m := 16777216) (e := 0) (by decide) (by decide) (by decide))
   rw [← p2464] at hm1
   have := Dw hr (show floatBits .mul .f64 _ _ = some _ from hm1)
   subst this
   refine wh_l b6 ?_
   rw [show (((i + 1 : Nat) : Int) - 1) = (i : Int) by omega]
   refine IR.at (i := i) hr6.toIR hi Ah AE AB ?_
   rw [BX AB Cv]
   have hf : floatOfInt .f64 ((l6[i] : Nat) : Int) = W64 false l6[i] 0 := by
    show double.write (.number (decide (((l6[i] : Nat) : Int) < 0)) ((l6[i] : Nat) : Int).natAbs 0) = _
    rw [decide_eq_false (by omega), Int.natAbs_natCast]
    rfl
   rw [hf]
   refine AA (by simp) fun r hr => ?_
   have hm2 := AkJ (f := double) hsd (Has64 (m := p * 16777216) (e := 0 + 0) (by omega) (by omega) (by omega)) (Has64 (m := l6[i]) (e := 0) (by omega) (by omega) (by omega)) (val 16777216 (l6.drop i)) 0 (by
    rw [hdrop, Int.add_zero, QW]
    congr 1
    rw [Int.natCast_add, Int.natCast_mul, Int.natCast_mul, Int.add_comm, Int.mul_comm])
   rw [Bool.xor_false] at hr
   have := Dw hr (show floatBits .add .f64 _ _ = some _ from hm2)
   subst this
   rw [AC, Ad (by omega) (by omega)]
   exact ⟨i, by omega, rfl, by omega, rfl, rfl⟩
  ·have hk0 : k = 0 := by omega
   subst hk0
   rw [List.drop_zero, hval]
   refine Ma (by omega) (by omega) (by omega) (by omega) (by have := cut.top; have := Eu (n := t); omega) ?_
   rw [Int.zero_add]
   refine Oc Cv BC cut ?_
   have fin : ∀ (f : Int) (w7 : World), Ext w w7 → f = (if ex then 0 else if (bl m.natAbs : Int) + e ≤ -126 then 3 else 1) → Bx w7 w.heap.size Al x1 (dv3 m.sign s e) →
     fda P Al x1 0 w7 fun x66_54 => fda P Aj x66_54 0 w7 fun x67_55 => ld P Ar x67_55 w7 fun x68_56 => bin P .lss 2 false true x68_56 (.int .i64 0) w7 fun x69_57 =>
      cnd x69_57 (call P Bn [.float .f32 (W single false t Q)] w7 fun x71_58 w59 => K (.tuple #[x71_58, .int .i64 f]) w59) (K (.tuple #[.float .f32 (W single false t Q), .int .i64 f]) w7) := by
    intro f w7 he hf hb7
    have HH := HH w7 he
    rw [← hf] at HH
    refine NE hb7 ?_
    rw [Ai, GX]
    refine Ac (fun hlt => ?_) (fun hge => ?_)
    ·refine AcC cut ?_
     rw [decide_eq_true hlt] at HH
     exact HH
    ·rw [decide_eq_false hge] at HH
     exact HH
   refine ⟨fun x w' => Ext w6 w' ∧ x = .int .i64 (if ex then 0 else if (bl m.natAbs : Int) + e ≤ -126 then 3 else 1), ?_, ?_⟩
   ·rintro x junk w7 ⟨e7, rfl⟩
    exact fin _ w7 (E5.trans e7) rfl (b1.ext e7)
   ·rw [A5]
    cases ex with
    | true => exact ⟨Ext.refl _, rfl⟩
    | false =>
     rw [Bool.not_false, A6]
     refine dy_w b1 ?_
     refine dy_e b1 ?_
     refine Qa ⟨s, l, rfl, h1.ext E5, wl⟩ (by omega) fun w7 e7 => ?_
     refine ⟨e7, ?_⟩
     rw [Aw, Ad (by omega) (by omega), Dx]
     refine Ac (fun hle => ?_) (fun hgt => ?_)
     ·rw [Aw, Ad (by decide) (by decide)]
      refine ⟨e7, ?_⟩
      rw [if_pos hle]; rfl
     ·refine ⟨e7, ?_⟩
      rw [if_neg hgt]; rfl
end


section
open Go Go.Vc
variable {w : World} {K : Value → World → Prop}
theorem Aew {v : Value} {lo hi : Nat} {q : Rat} {md : Int} (h : DQ w v lo hi q) (hl : lo ≤ 1000000000) (hh : hi ≤ 1000000000)
  (H : ∀ w', Ext w w' → K (.tuple #[fl (rndQ md q).1, .int .i64 (rndQ md q).2]) w') : call P Ev [v, .int .i64 md] w K := by
 obtain ⟨m, e, hd, hc⟩ := h
 rw [hc.val, QH] at H
 exact Xh hd hc.bd hl hh hc.canon H
end


section
open Go Go.Vc
variable {w : World} {K : Value → World → Prop}
theorem AgH {v : Value} {m e : Int} (h : Dr w v m e) (H : ∀ w', Ext w w' → K (.bool (isDyB m e)) w') : call P Hs [v] w K := by
 obtain ⟨s, l, rfl, h1, wl⟩ := h
 refine AaO ?_
 unfold Pb
 refine F5 fun x1 w1 b1 e1 => ?_
 refine dy_w b1 ?_
 refine AcY ⟨s, l, rfl, h1.ext e1, wl⟩ fun w2 e2 => ?_
 have b1 := b1.ext e2
 have h1 := h1.ext (e1.trans e2)
 have HH := H w2 (e1.trans e2)
 unfold isDyB at HH
 rw [A5]
 refine orJ (fun hb => ?_) (fun hb => ?_)
 ·have hb : ¬ bl m.natAbs ≤ 2400 := by simpa using hb
  rw [decide_eq_false hb] at HH
  rw [A6]; exact HH
 have hb : bl m.natAbs ≤ 2400 := by simpa using hb
 rw [decide_eq_true hb, Bool.true_and] at HH
 refine dy_e b1 ?_
 refine Yn ?_
 rw [A5]
 by_cases he : -3000 ≤ e ∧ e ≤ 3000
 ·rw [decide_eq_true he]
  refine AD rfl ?_
  rw [decide_eq_true he.1, decide_eq_true he.2, Bool.true_and, Bool.true_and] at HH
  refine NE b1 ?_
  rw [Ae]
  refine Ac (fun h0 => ?_) (fun h0 => ?_)
  ·have hm : m = 0 := Int.sign_eq_zero_iff_zero.1 h0
   subst hm
   refine dy_e b1 ?_
   rw [Ae]
   have : (decide ((0 : Int) = 0 ∧ e = 0) || decide ((0 : Int) % 2 = 1)) = decide (e = 0) := by simp
   rw [this] at HH; exact HH
  ·have hm : m ≠ 0 := by rintro rfl; exact h0 rfl
   have hl0 : 0 < l.length := by
    refine Nat.pos_of_ne_zero fun hz => ?_
    have hlnil : l = [] := List.length_eq_zero_iff.1 hz
    have hv := wl.2
    rw [hlnil] at hv
    simp only [val] at hv
    omega
   refine Ail b1 ?_
   refine IR.at (i := 0) h1.toIR hl0 Ah AE AB ?_
   rw [C7 (b := 2) (by decide)]
   rw [Ae]
   have hv := wl.2
   have h5 : (decide (m = 0 ∧ e = 0) || decide (m % 2 = 1)) = decide (((l[0] % 2 : Nat) : Int) = 1) := by
    rw [decide_eq_false (fun h => hm h.1), Bool.false_or, decide_eq_decide]
    cases l with
    | nil => cases hl0
    | cons a t =>
     simp only [val] at hv
     simp only [List.getElem_cons_zero]
     omega
   rw [h5] at HH; exact HH
 ·have h6 : (decide (-3000 ≤ e) && decide (e ≤ 3000)) = false := by
   refine Bool.eq_false_iff.2 fun h => he ?_
   simpa using h
  rw [decide_eq_false he]
  refine A9 rfl ?_
  rw [h6, Bool.false_and] at HH; exact HH
theorem WM {l : List UInt8} (hl : l.length ≤ 4611686018427387904)
  (H : ∀ (m : Int) v w', Ext w w' → Wr w' v m → (isNum l = true → m = numR l) → K (.tuple #[v, .bool (isNum l)]) w') : call P Fr [str l] w K := by
 refine AfV hl (fun h v w' he hv => ?_) (fun h v w' he hv => ?_)
 ·have := H 0 v w' he hv (fun q => by rw [q] at h; cases h)
  rw [h] at this; exact this
 ·have := H _ v w' he hv (fun _ => rfl)
  rw [h] at this; exact this
theorem Wl.short {l : List Nat} {m : Int} (h : Wl l m) : (l.length ≤ 1 ↔ m.natAbs < 16777216) := by
 obtain ⟨hn, hv⟩ := h
 constructor
 ·intro h1
  have := B8 hn.1
  have h2 : 16777216 ^ l.length ≤ 16777216 ^ 1 := Nat.pow_le_pow_right (by decide) h1
  rw [Nat.pow_one] at h2
  omega
 ·intro h1
  refine Nat.le_of_not_lt fun hc => ?_
  have h2 := Norm.ge hn (by intro e; rw [e] at hc; simp at hc)
  have h3 : 16777216 ^ 1 ≤ 16777216 ^ (l.length - 1) := Nat.pow_le_pow_right (by decide) (by omega)
  rw [Nat.pow_one] at h3
  omega
theorem Dr.zero0 (w : World) : Dr w (.agg #[.int .i64 0, .slice none 0 0, .int .i64 0]) 0 0 := Dr.zero w
theorem Ai3 {n : Int} {s : Value} {K : Value → Prop} (hs : ∃ a l c, s = .slice a l c) : bld P Al [(0, .agg #[.int .i64 n, s])] w K = K (.agg #[.int .i64 n, s, .int .i64 0]) := by
 obtain ⟨a, l, c, rfl⟩ := hs
 exact DT (by kernel_rfl)
theorem Ajy {base : Nat} {x s : Value} {n e e' : Int} {KW : World → Prop} (h : Bx w base Al x (dv3 n s e)) (H : ∀ w', Bx w' base Al x (dv3 n s e') → w.grownBy w' (blk x) → KW w') :
  fda P Al x 1 w (fun a => sto P Ar a (.int .i64 e') w KW) :=
 h.fput (off := 2) (show 2 < 3 by decide) BJ rfl AE rfl H
set_option maxRecDepth 20000 in
theorem Afl {l : List UInt8} (hl : l.length ≤ 4611686018427387904)
  (H0 : parseD l = none → ∀ v w', Ext w w' → (∃ m e, Dr w' v m e) → K (.tuple #[v, .bool false]) w')
  (H1 : ∀ m e, parseD l = some (m, e) → ∀ v w', Ext w w' → Dr w' v m e → K (.tuple #[v, .bool true]) w') : call P LJ [str l] w K := by
 refine YF ?_
 unfold Ky
 refine Ez fun x w1 ⟨cs, hcs, b1⟩ e1 => ?_
 have ret0 : parseD l = none → ∀ w2, Ext w1 w2 → bld P Al [] w2 fun x59_58 =>
                 sto P Al x x59_58 w2 fun w60 =>
                 ldc P Al x w60 fun r61 =>
                 K (.tuple #[r61, (.bool false)]) w60 := fun h0 w2 e2 => by
  rw [Qc]
  have b2 := b1.ext e2
  refine b2.put Bs (ds := [.int .i64 0, .slice none 0 0, .int .i64 0]) rfl hcs (U9 rfl rfl rfl) fun w3 b3 g3 => ?_
  refine b3.getc BJ rfl Bs rfl ?_
  exact H0 h0 _ _ (Ab (e1.trans e2) (fun g hg => (b2.blk_lt hg).1) g3) ⟨0, 0, Dr.zero0 _⟩
 refine ⟨fun m y w' => w' = w1 ∧ ∃ i : Nat, y = .int .i64 i ∧ m + i = l.length ∧ 112 ∉ l.take i, ⟨l.length, rfl, 0, rfl, by omega, by simp⟩, ?_⟩
 rintro m y junk w5 ⟨rfl, i, rfl, hm, hno⟩
 rw [By Av, Ai]
 refine andJ (fun h1 => ?_) (fun h1 => ?_)
 rotate_left
 ·simp only [decide_eq_false_iff_not] at h1
  have hi : i = l.length := by omega
  rw [Ao, By Av, Ae]
  refine A9 (by simp [hi]) ?_
  refine ret0 (W5 ?_) _ (Ext.refl _)
  rw [hi, List.take_length] at hno
  exact hno
 simp only [decide_eq_true_eq] at h1
 have hi : i < l.length := by omega
 rw [Db Av hi, B5]
 refine Ac (fun h2 => ?_) (fun h2 => ?_)
 ·rw [Aw, Ad (by omega) (by omega)]
  refine ⟨m - 1, by omega, rfl, i + 1, rfl, by omega, ?_⟩
  rw [List.take_succ_eq_append_getElem hi]
  intro hmem
  rcases List.mem_append.1 hmem with h | h
  ·exact hno h
  ·simp only [List.mem_singleton] at h
   rw [← h] at h2
   exact h2 rfl
 have hp : l[i] = 112 := UInt8.toNat_inj.1 (show l[i].toNat = 112 by omega)
 have hsplit : l = l.take i ++ 112 :: l.drop (i + 1) := by
  conv => lhs; rw [← List.take_append_drop i l, List.drop_eq_getElem_cons hi, hp]
 have hpar := AaW (a := l.take i) (b := l.drop (i + 1)) hno
 rw [← hsplit] at hpar
 rw [By Av, Ae]
 refine AD (by simp; omega) ?_
 rw [RB Av (by omega)]
 have la : (l.take i).length ≤ 4611686018427387904 := by rw [List.length_take]; omega
 have lb : (l.drop (i + 1)).length ≤ 4611686018427387904 := by rw [List.length_drop]; omega
 refine WM la fun m1 v1 w2 e2 r1 hm1 => ?_
 rw [A8, Ax]
 refine Eb fun x5 w3 ⟨cs3, hcs3, b3⟩ e3 => ?_
 obtain ⟨s1, q1, rfl, lr1, wl1⟩ := r1
 refine b3.put AK (ds := [.int .i64 m1.sign, s1]) rfl hcs3 (JV rfl (Hu (IR.sl lr1.toIR))) fun w4 b4 g4 => ?_
 have e4 : Ext w2 w4 := Ab e3 (fun g hg => (b3.blk_lt hg).1) g4
 have lr1 := lr1.ext e4
 rw [Aw, Ad (by omega) (by omega), show ((i : Nat) : Int) + 1 = ((i + 1 : Nat) : Int) by omega, DN Av (by omega)]
 generalize l.take i = a at *
 generalize l.drop (i + 1) = b at *
 refine WM lb fun m2 v2 w6 e6 r2 hm2 => ?_
 rw [A8, Ax]
 refine Eb fun x7 w7 ⟨cs7, hcs7, b7⟩ e7 => ?_
 obtain ⟨s2, q2, rfl, lr2, wl2⟩ := r2
 refine b7.put AK (ds := [.int .i64 m2.sign, s2]) rfl hcs7 (JV rfl (Hu (IR.sl lr2.toIR))) fun w8 b8 g8 => ?_
 have e8 : Ext w6 w8 := Ab e7 (fun g hg => (b7.blk_lt hg).1) g8
 have lr1 := (lr1.ext e6).ext e8
 have lr2 := lr2.ext e8
 have b4 := (b4.ext e6).ext e8
 have E8 : Ext w5 w8 := e2.trans (e4.trans (e6.trans e8))
 have sz := wl2.short
 rw [A5]
 refine orJ (fun hn => ?_) (fun hn => ?_)
 ·have ha : isNum a = false := by simpa using hn
  refine orJ (fun _ => ?_) (fun h => by cases h)
  refine orJ (fun _ => ?_) (fun h => by cases h)
  rw [A6]
  exact ret0 (by rw [hpar, ha]; rfl) _ E8
 have ha : isNum a = true := by simpa using hn
 rw [A5]
 refine orJ (fun hn => ?_) (fun hn => ?_)
 ·have hb : isNum b = false := by simpa using hn
  refine orJ (fun _ => ?_) (fun h => by cases h)
  rw [A6]
  exact ret0 (by rw [hpar, ha, hb]; rfl) _ E8
 have hb : isNum b = true := by simpa using hn
 have hm1 := hm1 ha
 have hm2 := hm2 hb
 refine Mf b4 ?_
 refine AcY ⟨s1, q1, rfl, lr1, wl1⟩ fun w9 e9 => ?_
 have E9 := E8.trans e9
 have lr1 := lr1.ext e9
 have lr2 := lr2.ext e9
 have lr9 := lr1
 have b4 := b4.ext e9
 have b8 := b8.ext e9
 rw [A5]
 refine orJ (fun hn => ?_) (fun hn => ?_)
 ·have hbig : 2400 < bl (numR a).natAbs := by rw [← hm1]; simp at hn; omega
  rw [A6]
  exact ret0 (by rw [hpar, ha, hb, Z8 ha hb (.inl hbig)]; rfl) _ E9
 have hsm : bl (numR a).natAbs ≤ 2400 := by rw [← hm1]; simp at hn; omega
 refine wh_l b8 ?_
 rw [lr2.toIR.row.len Ah, Aq]
 refine Ac (fun h3 => ?_) (fun h3 => ?_)
 ·have hbig : 16777216 ≤ (numR b).natAbs := by
   rw [← hm2]
   exact Nat.le_of_not_lt fun h => by have := sz.2 h; omega
  exact ret0 (by rw [hpar, ha, hb, Z8 ha hb (.inr hbig)]; rfl) _ E9
 have hq2 : q2.length ≤ 1 := by omega
 obtain ⟨n1, n2⟩ := AdQ ha hb hsm (by rw [← hm2]; exact sz.1 hq2)
 rw [n1] at hm1
 rw [n2] at hm2
 rw [ha, hb, Bool.true_and, Bool.true_and, ← hm1, ← hm2] at hpar
 refine Mf b4 ?_
 rw [Ai3 (IR.sl lr1.toIR)]
 refine Ez fun x9 w10 ⟨cs10, hcs10, b10⟩ e10 => ?_
 refine b10.put Bs (ds := dv3 m1.sign s1 0) rfl hcs10 (U9 rfl (Hu (IR.sl lr1.toIR)) rfl) fun w11 b11 g11 => ?_
 have e11 : Ext w9 w11 := Ab e10 (fun g hg => (b10.blk_lt hg).1) g11
 have E11 := E9.trans e11
 have lr1 := lr1.ext e11
 have lr2 := lr2.ext e11
 have b8 := b8.ext e11
 have fin : ∀ w12, Ext w9 w12 → Bx w12 w9.heap.size Al x9 (dv3 m1.sign s1 m2) → ld P Al x9 w12 fun x74_89 =>
                   ld P Al x9 w12 fun x75_90 =>
                   call P Hs [x75_90] w12 fun x76_91 w92 =>
                   Ext w12 w92 ∧ sto P Al x x74_89 w92 fun w94 =>
                   ldc P Al x w94 fun r95 =>
                   K (.tuple #[r95, x76_91]) w94 := fun w12 e12 b12 => by
  have lr1' := lr9
  have hd : Dr w12 (.agg #[.int .i64 m1.sign, s1, .int .i64 m2]) m1 m2 := ⟨s1, q1, rfl, lr9.ext e12, wl1⟩
  refine EG b12 ?_
  refine EG b12 ?_
  refine AgH hd fun w13 e13 => ?_
  refine ⟨e13, ?_⟩
  have E13 := E9.trans (e12.trans e13)
  have b1 := b1.ext E13
  have hd := hd.ext e13
  obtain ⟨s', l', hv, h1', h2'⟩ := hd
  refine b1.put Bs (ds := dv3 m1.sign s1 m2) rfl hcs (U9 rfl (Hu (IR.sl lr1'.toIR)) rfl) fun w14 b14 g14 => ?_
  refine b14.getc BJ rfl Bs rfl ?_
  have e14 : Ext w w14 := Ab (e1.trans E13) (fun g hg => (b1.blk_lt hg).1) g14
  have hd14 : Dr w14 (.agg #[.int .i64 m1.sign, s1, .int .i64 m2]) m1 m2 := Dr.kt ⟨s', l', hv, h1', h2'⟩ g14 (Ty.box b1) (by decide)
  cases hdy : isDyB m1 m2
  ·rw [hdy] at hpar
   exact H0 hpar _ _ e14 ⟨m1, m2, hd14⟩
  ·rw [hdy] at hpar
   exact H1 m1 m2 hpar _ _ e14 hd14
 refine wh_l b8 ?_
 rw [lr2.toIR.row.len Ah, Ae]
 refine Ac (fun h4 => ?_) (fun h4 => ?_)
 ·refine wh_s b8 ?_
  refine wh_l b8 ?_
  have hq : 0 < q2.length := by omega
  refine IR.at (i := 0) lr2.toIR hq Ah AE AB ?_
  have hval : m2.natAbs = q2[0] := by
   have := wl2.2
   match q2, hq2, hq with
   | [d], _, _ => simp only [val] at this; simpa using this.symm
  have hmul : m2.sign * ((q2[0] : Nat) : Int) = m2 := by rw [← hval]; exact Int.sign_mul_natAbs m2
  have hsz := sz.1 hq2
  rw [CR, hmul, Ad (by omega) (by omega)]
  refine Ajy b11 fun w12 b12 g12 => ?_
  exact fin w12 (Ab e11 (fun g hg => (b11.blk_lt hg).1) g12) b12
 ·have hq0 : q2 = [] := List.length_eq_zero_iff.1 (by omega)
  have hm0 : m2 = 0 := by
   have := wl2.2
   rw [hq0] at this
   simp only [val] at this
   omega
  refine fin w11 e11 ?_
  rw [hm0]; exact b11
noncomputable def pF (l : List UInt8) : Option Nat := match parseD l with
 | none => none
 | some p => if (rndQ 0 (dy p.1 p.2)).2 = 0 then some (rndQ 0 (dy p.1 p.2)).1 else none
theorem XD {l : List UInt8} (hl : l.length ≤ 4611686018427387904) (H : ∀ b w', Ext w w' → (∀ x, pF l = some x → b = x) → K (.tuple #[fl b, .bool (pF l).isSome]) w') : call P Gx [str l] w K := by
 refine WD ?_
 unfold JM
 refine Afl hl (fun h0 v w1 e1 ⟨m, e, hd⟩ => ?_) (fun m e hp v w1 e1 hd => ?_)
 ·rw [A8, Ax]
  refine Ez fun x4 w2 ⟨cs, hcs, b2⟩ e2 => ?_
  refine (hd.ext e2).put b2 hcs fun w3 ⟨s, hv, b3⟩ g3 => ?_
  have e3 : Ext w1 w3 := Ab e2 (fun g hg => (b2.blk_lt hg).1) g3
  rw [A5, Bool.not_false, A6]
  have hpf : pF l = none := by unfold pF; rw [h0]
  have := H 0 w3 (e1.trans e3) (fun x hx => by rw [hpf] at hx; cases hx)
  rw [hpf] at this; exact this
 ·rw [A8, Ax]
  have hdy := WN hp
  refine Ez fun x4 w2 ⟨cs, hcs, b2⟩ e2 => ?_
  refine (hd.ext e2).put b2 hcs fun w3 ⟨s, hv, b3⟩ g3 => ?_
  have hd3 := (hd.ext e2).kt g3 (Ty.box b2) (by decide)
  have e3 : Ext w1 w3 := Ab e2 (fun g hg => (b2.blk_lt hg).1) g3
  rw [A5, Bool.not_true, Ao]
  rw [hv] at hd3
  refine EG b3 ?_
  refine Aew (q := dy m e) (lo := 3000) (hi := 5400) ⟨m, e, hd3, AcL hdy, AaL hdy, rfl⟩ (by decide) (by decide) fun w4 e4 => ?_
  rw [A8, Ax, Ae]
  have hpf : pF l = if (rndQ 0 (dy m e)).2 = 0 then some (rndQ 0 (dy m e)).1 else none := by unfold pF; rw [hp]
  have := H (rndQ 0 (dy m e)).1 w4 (e1.trans (e3.trans e4)) (fun x hx => by
   rw [hpf] at hx
   split at hx
   ·exact Option.some.inj hx
   ·cases hx)
  rw [hpf] at this
  have hs : (if (rndQ 0 (dy m e)).2 = 0 then some (rndQ 0 (dy m e)).1 else none).isSome = decide ((rndQ 0 (dy m e)).2 = 0) := by
   split
   ·rename_i h; rw [h]; rfl
   ·rename_i h; simp [h]
  rw [hs] at this; exact this
end


section
open Go Go.Vc
variable {w : World} {K : Value → World → Prop}
theorem Ad5 {a b x y k : Nat} (ha : a < 2 ^ k) (hb : b < 2 ^ k) : (a + 2 ^ k * x) ||| (b + 2 ^ k * y) = (a ||| b) + 2 ^ k * (x ||| y) := by
 have hab : a ||| b < 2 ^ k := Nat.or_lt_two_pow ha hb
 apply Nat.eq_of_testBit_eq
 intro j
 rw [Nat.testBit_or, Nat.add_comm a, Nat.add_comm b, Nat.add_comm (a ||| b), Nat.testBit_two_pow_mul_add _ ha, Nat.testBit_two_pow_mul_add _ hb, Nat.testBit_two_pow_mul_add _ hab]
 split <;> rw [Nat.testBit_or]
set_option maxRecDepth 20000 in
theorem c_Or {z x y : Value} {a b : Int} {base : Nat} (hz : ZO w base z) (hx : IntR w x a) (hy : IntR w y b) (ba : bl a.natAbs ≤ 1099511627776) (bb : bl b.natAbs ≤ 1099511627776)
  (H : ∀ w', ZO w' base z → IntR w' z (a.natAbs ||| b.natAbs : Nat) → w.grownBy w' (blk z) → K z w') : call P HW [z, x, y] w K := by
 obtain ⟨s1, hb1, l, h1, n1, v1, _⟩ := hx
 obtain ⟨s2, hb2, r, h2, n2, v2, _⟩ := hy
 have d1 := n1.1
 have d2 := n2.1
 have l1 := Ej n1 (by rw [v1]; exact ba)
 have l2 := Ej n2 (by rw [v2]; exact bb)
 refine UI ?_
 unfold Ig
 rw [AP hb1]
 refine IntR.mag hb1 ?_
 rw [h1.row.len Af, AP hb2]
 refine IntR.mag hb2 ?_
 rw [h2.row.len Af, Dj, show max (l.length : Int) (r.length : Int) = ((max l.length r.length : Nat) : Int) by omega]
 generalize hn : max l.length r.length = n
 refine OD.make (k := .u32) Af AG (by omega) (by simp only [maxLen]; omega) fun w1 v o1 e1 => ?_
 rw [AP hb1]
 refine IntR.mag (hb1.ext e1) ?_
 refine Ae7 (n := n) (m := l.length) (by simpa [OD] using o1) (h1.ext e1).row (by omega) (by
  intro u hu
  simp only [List.mem_map] at hu
  obtain ⟨d, _, rfl⟩ := hu; rfl) Af AG fun w2 o2 g2 => ?_
 have e2 : Ext w w2 := Ab e1 (fun g hg => (o1.lt g hg).1) g2
 rw [AP hb2]
 refine IntR.mag (hb2.ext e2) ?_
 rw [(h2.ext e2).row.len Af]
 generalize hL : l ++ List.replicate (n - l.length) 0 = L
 have hLl : L.length = n := by rw [← hL]; simp; omega
 have hLv : val 4294967296 L = val 4294967296 l := by rw [← hL, NB, FP]; simp
 have hLd : Dig 4294967296 L := by
  intro d hd
  rw [← hL] at hd
  rcases List.mem_append.1 hd with h | h
  ·exact d1 d h
  ·rw [List.eq_of_mem_replicate h]; decide
 have o2 : OD .u32 Ay w2 w.heap.size v L := by
  unfold OD
  rw [hLl, ← hL, List.map_append]
  rw [List.drop_replicate] at o2
  rw [List.map_replicate]
  exact o2
 refine ⟨fun g x w' => ∃ (i : Nat) (q : List Nat), g + i = r.length ∧ x = .int .i64 (i : Int) ∧ Ext w w' ∧ OD .u32 Ay w' w.heap.size v q ∧ q.length = n ∧ Dig 4294967296 q ∧ q.drop i = L.drop i ∧
  val 4294967296 (q.take i) = val 4294967296 (L.take i) ||| val 4294967296 (r.take i), ⟨r.length, 0, L, rfl, rfl, e2, o2, hLl, hLd, rfl, by simp [val]⟩, ?_⟩
 rintro g x' junk w3 ⟨i, q, hg, rfl, e3, oq, hq, dq, hdrop, hv⟩
 rw [Ai]
 refine Ac (fun hlt => ?_) (fun hge => ?_)
 ·have hi2 : i < r.length := by omega
  have hiq : i < q.length := by omega
  have hiL : i < L.length := by omega
  have heq : q[i] = L[i] := by
   have := congrArg (fun t : List Nat => t[0]?) hdrop
   simp only [List.getElem?_drop, Nat.add_zero] at this
   rw [List.getElem?_eq_getElem hiq, List.getElem?_eq_getElem hiL] at this
   exact Option.some.inj this
  refine (h2.ext e3).at hi2 Af AG Be ?_
  refine oq.IR.at hiq Af AG Be ?_
  have g1 := Bj dq hiq
  have g2 := Bj d2 hi2
  rw [NT (b := r[i]) (by simpa [IntKind.bits] using g1) (by simpa [IntKind.bits] using g2) rfl]
  refine OD.set oq hiq Af AG fun w4 o4 g4 => ?_
  rw [AO (b := 1) (by omega)]
  have hor : q[i] ||| r[i] < 4294967296 := Nat.or_lt_two_pow (n := 32) g1 g2
  refine ⟨g - 1, by omega, i + 1, _, by omega, rfl, Ab e3 (fun g hg => (oq.lt g hg).1) g4, o4, by simp [hq], fun d hd => ?_, ?_, ?_⟩
  ·rcases List.mem_or_eq_of_mem_set hd with h | h
   ·exact dq d h
   ·rw [h]; exact hor
  ·rw [List.drop_set_of_lt (by omega), ← List.drop_drop (i := 1) (j := i), ← List.drop_drop (i := 1) (j := i), hdrop]
  ·rw [BV _ (by simpa using hiq), List.take_set_of_le (Nat.le_refl _), List.getElem_set_self, BV _ hiL, BV _ hi2, hv, heq, p32]
   refine (Ad5 ?_ ?_).symm
   ·have := B8 (hLd.take i)
    rw [List.length_take, Nat.min_eq_left (by omega), p32] at this; exact this
   ·have := B8 (d2.take i)
    rw [List.length_take, Nat.min_eq_left (by omega), p32] at this; exact this
 ·have hi : i = r.length := by omega
  have e : val 4294967296 q = a.natAbs ||| b.natAbs := by
   have s1 := Ce 4294967296 q (i := i) (by omega)
   have s2 := Ce 4294967296 L (i := i) (by omega)
   rw [s1, hdrop, hv, ← v1, ← v2, ← hLv, s2]
   have t1 := B8 (hLd.take i)
   rw [List.length_take, Nat.min_eq_left (by omega), p32] at t1
   have t2 := B8 (d2.take i)
   rw [List.length_take, Nat.min_eq_left (by omega), p32] at t2
   have hr : r.take i = r := by rw [hi, List.take_length]
   have := Ad5 (x := val 4294967296 (L.drop i)) (y := 0) t1 t2
   rw [Nat.mul_zero, Nat.add_zero, Nat.or_zero, hr] at this
   rw [p32, hr, this]
  have hz2 := hz.ext e3
  refine AaI hz2 oq.IR (Ty.owns oq) dq fun w3 z3 i3 g3 => H w3 z3 ?_ (CT e3 g3)
  rw [e] at i3; exact i3
set_option maxRecDepth 20000 in
theorem AiC {v : Value} {m : Int} (h : Wr w v m) (hb : bl m.natAbs ≤ 2400) (H : ∀ p w', Ext w w' → IntR w' p m → K p w') : call P OH [v] w K := by
 obtain ⟨s, l, rfl, h1, n1, v1⟩ := h
 have hlen : l.length ≤ 100 := (len100 n1).2 (by rw [v1]; exact hb)
 refine Ach ?_
 unfold Od
 refine F8 fun x1 w1 b1 e1 => ?_
 refine Fg fun z w2 z2 i2 e2 => ?_
 have b1 := b1.ext e2
 have E2 := e1.trans e2
 refine wh_l b1 ?_
 rw [(h1.ext E2).row.len Ah, AC, Ad (by omega) (by omega)]
 refine ⟨fun g x w' => g ≤ l.length ∧ x = .int .i64 ((g : Int) - 1) ∧ Ext w1 w' ∧ ZO w' w1.heap.size z ∧ IntR w' z (val 16777216 (l.drop g) : Nat), ⟨l.length, Nat.le_refl _, rfl, e2, z2, by rw [List.drop_length]; exact i2⟩, ?_⟩
 rintro g x junk w3 ⟨hg, rfl, e3, z3, i3⟩
 have b1' : Bx w3 w.heap.size Aj x1 [.int .i64 m.sign, s] := by
  have := (‹Bx w1 w.heap.size Aj x1 [.int .i64 m.sign, s]›).ext e3
  exact this
 have E3 := e1.trans e3
 have hbl : bl (val 16777216 (l.drop g)) ≤ 2400 := by
  refine Nat.le_trans (HO ?_) hb
  have := PU v1 g
  exact Nat.le_trans (Nat.le_mul_of_pos_right _ (Nat.pow_pos (by decide))) this
 rw [B6]
 refine Ac (fun hge => ?_) (fun hlt => ?_)
 ·obtain ⟨k, rfl⟩ : ∃ k, g = k + 1 := ⟨g - 1, by omega⟩
  have hk : k < l.length := by omega
  have hd := Bj n1.1 hk
  rw [show (24 : Int) = ((24 : Nat) : Int) from rfl]
  refine Xz z3 i3 (by rw [Int.natAbs_natCast]; omega) (by decide) fun w4 z4 i4 g4 => ?_
  have e4 : Ext w1 w4 := Ab e3 (fun g hg => z3.blk_ge hg) g4
  have b4 := (‹Bx w1 w.heap.size Aj x1 [.int .i64 m.sign, s]›).ext e4
  refine wh_l b4 ?_
  rw [show (((k + 1 : Nat) : Int) - 1) = ((k : Nat) : Int) by omega]
  refine (h1.ext (e1.trans e4)).toIR.at hk Ah AE AB ?_
  refine Oz (by omega) (by omega) fun p w5 e5 z5 i5 => ?_
  have hv2 : (((val 16777216 (l.drop (k + 1)) : Nat) : Int) * 2 ^ 24).natAbs = 2 ^ 24 * val 16777216 (l.drop (k + 1)) := by
   rw [Int.natAbs_mul, Int.natAbs_natCast]
   rw [Nat.mul_comm]; rfl
  have hbl2 : bl (((val 16777216 (l.drop (k + 1)) : Nat) : Int) * 2 ^ 24).natAbs ≤ 2424 := by
   have := JL (val 16777216 (l.drop (k + 1)) : Nat) 24
   rw [Int.natAbs_natCast] at this
   omega
  refine c_Or (z4.ext e5) (i4.ext e5) i5 (by omega) (by rw [Int.natAbs_natCast]; have : bl l[k] ≤ 24 := Bf.2 hd; omega) fun w6 z6 i6 g6 => ?_
  rw [hv2, Int.natAbs_natCast, ← Nat.two_pow_add_eq_or_of_lt (i := 24) hd] at i6
  rw [AC, Ad (by omega) (by omega)]
  refine ⟨k, by omega, by omega, rfl, Ab (e4.trans e5) (fun g hg => (z4.ext e5).blk_ge hg) g6, z6, ?_⟩
  rw [List.drop_eq_getElem_cons hk]
  show IntR w6 z (((l[k] + 16777216 * val 16777216 (l.drop (k + 1)) : Nat)) : Int)
  rw [Nat.add_comm]; exact i6
 ·have hg0 : g = 0 := by omega
  subst hg0
  rw [List.drop_zero, v1] at i3
  refine wh_s b1' ?_
  rw [Ai]
  refine Ac (fun hneg => ?_) (fun hpos => ?_)
  ·have hm : m < 0 := Int.sign_neg_iff.1 hneg
   refine AhY z3 i3 (by rw [Int.natAbs_natCast]; omega) fun w4 z4 i4 g4 => ?_
   refine H z w4 (Ab (e1.trans e3) (fun g hg => Nat.le_trans e1.size (z3.blk_ge hg)) g4) ?_
   rw [show -((m.natAbs : Nat) : Int) = m by omega] at i4; exact i4
  ·have hm : ¬ m < 0 := fun h => hpos (Int.sign_neg_iff.2 h)
   refine H z w3 E3 ?_
   rw [show ((m.natAbs : Nat) : Int) = m by omega] at i3; exact i3
theorem Ae5 {v : Value} {m e : Int} (h : Dr w v m e) (hd : isDyB m e = true) (H : ∀ v' w', Ext w w' → NQ w' v' 3000 5400 (dy m e) → K v' w') : call P JC [v] w K := by
 obtain ⟨s, l, rfl, h1, wl⟩ := h
 have hbd := AaL hd
 have hb : bl m.natAbs ≤ 2400 := by
  simp only [isDyB, Bool.and_eq_true, decide_eq_true_eq] at hd; exact hd.1.1.1
 refine W3 ?_
 unfold J1
 refine F5 fun x1 w1 b1 e1 => ?_
 refine NN fun x2 w2 ⟨cs, hcs, b2⟩ e2 => ?_
 have b1 := b1.ext e2
 refine dy_w b1 ?_
 refine dy_e b1 ?_
 refine AiC ⟨s, l, rfl, h1.ext (e1.trans e2), wl⟩ hb fun p w3 e3 i3 => ?_
 refine ⟨e3, ?_⟩
 rw [QU i3.ptr]
 have b2 := b2.ext e3
 refine Jb b2 hcs i3.one fun w4 g4 => ?_
 have e4 : Ext w w4 := Ab (e1.trans (e2.trans e3)) (fun g hg => Nat.le_trans e1.size (b2.blk_lt hg).1) g4
 exact H _ _ e4 ⟨m, e, ⟨p, rfl, Nm.grown i3 b2 g4⟩, hbd, rfl⟩
set_option maxRecDepth 20000 in
theorem XZ {v : Value} {m : Int} (h : Wr w v m) (H : ∀ w', Ext w w' → K (.bool (decide (bl m.natAbs ≤ 2400))) w') : call P KD [v] w K := by
 obtain ⟨s, l, rfl, h1, n1, v1⟩ := h
 have hb := h1.bound
 refine YK ?_
 unfold K5
 refine F8 fun x1 w1 b1 e1 => ?_
 have h1 := h1.ext e1
 have H1 := H w1 e1
 have hl100 := len100 n1
 rw [v1] at hl100
 have hsg : m.sign = 0 ∨ m.sign = 1 ∨ m.sign = -1 := by
  rcases Int.lt_trichotomy m 0 with h | h | h
  ·exact .inr (.inr (Int.sign_eq_neg_one_of_neg h))
  ·exact .inl (by rw [h]; rfl)
  ·exact .inr (.inl (Int.sign_eq_one_of_pos h))
 have hz0 : (m.sign = 0) ↔ l = [] := by
  rw [Int.sign_eq_zero_iff_zero]
  constructor
  ·intro h
   refine (n1.eq_nil (by decide)).2 ?_
   rw [v1, h]; rfl
  ·intro h
   rw [h] at v1
   simp only [val] at v1
   omega
 refine wh_l b1 ?_
 rw [h1.row.len Ah, Aq]
 refine orJ (fun hbig => ?_) (fun hsm => ?_)
 ·have hbig : ¬ bl m.natAbs ≤ 2400 := fun h => by
   have := hl100.2 h
   simp only [decide_eq_true_eq] at hbig
   omega
  rw [decide_eq_false hbig] at H1
  refine orJ (fun _ => ?_) (fun h => by cases h)
  refine orJ (fun _ => ?_) (fun h => by cases h)
  exact A9 rfl H1
 have hsm : bl m.natAbs ≤ 2400 := hl100.1 (by simp only [decide_eq_false_iff_not] at hsm; omega)
 rw [decide_eq_true hsm] at H1
 refine wh_s b1 ?_
 rw [Ai]
 refine orJ (fun h => by simp only [decide_eq_true_eq] at h; omega) (fun _ => ?_)
 refine wh_s b1 ?_
 rw [Aq]
 refine orJ (fun h => by simp only [decide_eq_true_eq] at h; omega) (fun _ => ?_)
 refine wh_s b1 ?_
 rw [Ae, Ae, VI _ _ _ _ _ _ Qk]
 have hsame : decide (m.sign = 0) = decide (((l.length : Nat) : Int) = 0) := by
  rw [decide_eq_decide, hz0]
  constructor
  ·rintro rfl; rfl
  ·intro h; exact List.length_eq_zero_iff.1 (by omega)
 rw [hsame]
 refine AD (by simp) ?_
 refine wh_l b1 ?_
 rw [h1.row.len Ah]
 refine ⟨fun g x w' => w' = w1 ∧ ∃ i : Nat, x = .int .i64 (i : Int) ∧ g + i = l.length, ⟨l.length, rfl, 0, rfl, by omega⟩, ?_⟩
 rintro g x junk w' ⟨rfl, i, rfl, hg⟩
 rw [Ai]
 refine Ac (fun hlt => ?_) (fun hge => ?_)
 ·have hi : i < l.length := by omega
  refine h1.at hi Ah AE AB ?_
  have g1 := Bj n1.1 hi
  rw [Ai]
  refine orJ (fun h => by simp only [decide_eq_true_eq] at h; omega) (fun _ => ?_)
  rw [Aq]
  refine AD (by simp; omega) ?_
  rw [AO (b := 1) (by omega)]
  exact ⟨g - 1, by omega, rfl, i + 1, rfl, by omega⟩
 ·rw [Ae]
  refine orJ (fun h0 => H1) (fun h0 => ?_)
  have hl : 0 < l.length := by simp only [decide_eq_false_iff_not] at h0; omega
  have hz : l[l.length - 1] ≠ 0 := by
   intro hz
   have := n1.2
   rw [List.getLast?_eq_getElem?, List.getElem?_eq_getElem (by omega), hz] at this
   exact this rfl
  refine wh_l b1 ?_
  rw [AC, Ad (by omega) (by omega), show ((l.length : Nat) : Int) - 1 = ((l.length - 1 : Nat) : Int) by omega]
  refine h1.at (i := l.length - 1) (by omega) Ah AE AB ?_
  rw [B5]
  have : decide (((l[l.length - 1] : Nat) : Int) ≠ 0) = true := decide_eq_true (by omega)
  rw [this]; exact H1
theorem P1 {v : Value} {m e : Int} (h : Dr w v m e) (H : ∀ w', Ext w w' → K (.bool (isDyB m e)) w') : call P G6 [v] w K := by
 obtain ⟨s, l, rfl, h1, wl⟩ := h
 refine Xs ?_
 unfold JH
 refine F5 fun x1 w1 b1 e1 => ?_
 refine dy_w b1 ?_
 refine XZ ⟨s, l, rfl, h1.ext e1, wl⟩ fun w2 e2 => ?_
 have b1 := b1.ext e2
 have h1 := h1.ext (e1.trans e2)
 have HH := H w2 (e1.trans e2)
 unfold isDyB at HH
 rw [A5]
 refine Az (fun hb => ?_) (fun hb => ?_)
 ·have hb : ¬ bl m.natAbs ≤ 2400 := by simpa using hb
  rw [decide_eq_false hb] at HH
  exact HH
 have hb : bl m.natAbs ≤ 2400 := by simpa using hb
 rw [decide_eq_true hb, Bool.true_and] at HH
 refine NE b1 ?_
 rw [Ae]
 refine Ac (fun h0 => ?_) (fun h0 => ?_)
 ·have hm : m = 0 := Int.sign_eq_zero_iff_zero.1 h0
  subst hm
  refine dy_e b1 ?_
  rw [Ae]
  have : (decide (-3000 ≤ e) && decide (e ≤ 3000) && (decide ((0 : Int) = 0 ∧ e = 0) || decide ((0 : Int) % 2 = 1))) = decide (e = 0) := by
   by_cases he : e = 0
   ·subst he; rfl
   ·simp [he]
  rw [this] at HH; exact HH
 ·have hm : m ≠ 0 := by rintro rfl; exact h0 rfl
  have hl0 : 0 < l.length := by
   refine Nat.pos_of_ne_zero fun hz => ?_
   have hlnil : l = [] := List.length_eq_zero_iff.1 hz
   have hv := wl.2
   rw [hlnil] at hv
   simp only [val] at hv
   omega
  refine Ail b1 ?_
  refine IR.at (i := 0) h1.toIR hl0 Ah AE AB ?_
  rw [C7 (b := 2) (by decide)]
  rw [Ae]
  have hv := wl.2
  have h5 : (decide (m = 0 ∧ e = 0) || decide (m % 2 = 1)) = decide (((l[0] % 2 : Nat) : Int) = 1) := by
   rw [decide_eq_false (fun h => hm h.1), Bool.false_or, decide_eq_decide]
   cases l with
   | nil => cases hl0
   | cons a t =>
    simp only [val] at hv
    simp only [List.getElem_cons_zero]
    omega
  rw [h5] at HH
  generalize decide (((l[0] % 2 : Nat) : Int) = 1) = B at HH
  refine andJ (fun hB => ?_) (fun hB => ?_)
  ·rw [hB, Bool.and_true] at HH
   refine dy_e b1 ?_
   rw [B6]
   refine andJ (fun h6 => ?_) (fun h6 => ?_)
   ·rw [h6, Bool.true_and] at HH
    refine dy_e b1 ?_
    rw [Dx]; exact HH
   ·rw [h6, Bool.false_and] at HH; exact HH
  ·rw [hB, Bool.and_false] at HH
   refine andJ (fun h => by cases h) (fun _ => ?_)
   exact HH
end


section
open Go Go.Vc
variable {w : World} {K : Value → World → Prop}
theorem Wr.put {v x : Value} {m : Int} {base : Nat} {cs : List Value} {KW : World → Prop} (h : Wr w v m) (hb : Bx w base Aj x cs) (hcs : cs.length = 2) (H : ∀ w', w.grownBy w' (blk x) → Wr w' v m → (∃ s, v = .agg #[.int .i64 m.sign, s] ∧ Bx w' base Aj x [.int .i64 m.sign, s]) → KW w') : sto P Aj x v w KW := by
 obtain ⟨s, l, rfl, h1, wl⟩ := h
 exact hb.put AK (ds := [.int .i64 m.sign, s]) rfl hcs (JV rfl (Hu (IR.sl h1.toIR))) fun w' b' g' => H w' g' ⟨s, l, rfl, h1.kt g' (Ty.box hb) (by decide), wl⟩ ⟨s, rfl, b'⟩
theorem Aje {p : Value} {m : Int} (h : IntR w p m) (hb : bl m.natAbs ≤ 1099511627775) (H : ∀ v c w', Ext w w' → (bl m.natAbs ≤ 2400 → c = 0 ∧ Wr w' v m) → (2400 < bl m.natAbs → c = 3 ∧ Wr w' v 0) → K (.tuple #[v, .int .i64 c]) w') : call P OX [p] w K := by
 refine Abl ?_
 unfold Oy
 refine Eb fun x w1 ⟨cs, hcs, b1⟩ e1 => ?_
 refine AeS (h.ext e1) hb (fun hbig w2 e2 => ?_) (fun hsm v w2 e2 hv => ?_)
 ·rw [A8, Ax]
  refine Eb fun y w3 ⟨cs3, hcs3, b3⟩ e3 => ?_
  refine (Wr.zero w3).put b3 hcs3 fun w4 g4 _ _ => ?_
  have e4 : Ext w2 w4 := Ab e3 (fun g hg => (b3.blk_lt hg).1) g4
  rw [A5, Bool.not_false, A6, Kc]
  have b1 := b1.ext (e2.trans e4)
  refine (Wr.zero w4).put b1 hcs fun w5 g5 h5 ⟨s, hs, b5⟩ => ?_
  refine b5.getc Bh rfl AK rfl ?_
  have := H _ 3 w5 (Ab (e1.trans (e2.trans e4)) (fun g hg => (b1.blk_lt hg).1) g5) (fun h => by omega) (fun _ => ⟨rfl, h5⟩)
  rw [hs] at this; exact this
 ·rw [A8, Ax]
  have hv := hv.Wr
  refine Eb fun y w3 ⟨cs3, hcs3, b3⟩ e3 => ?_
  refine (hv.ext e3).put b3 hcs3 fun w4 g4 h4 ⟨s, hs, b4⟩ => ?_
  have e4 : Ext w2 w4 := Ab e3 (fun g hg => (b3.blk_lt hg).1) g4
  rw [A5, Bool.not_true, Ao]
  subst hs
  refine Mf b4 ?_
  have b1 := b1.ext (e2.trans e4)
  refine h4.put b1 hcs fun w5 g5 h5 ⟨s', hs', b5⟩ => ?_
  refine b5.getc Bh rfl AK rfl ?_
  have := H _ 0 w5 (Ab (e1.trans (e2.trans e4)) (fun g hg => (b1.blk_lt hg).1) g5) (fun _ => ⟨rfl, h5⟩) (fun h => by omega)
  rw [hs'] at this; exact this
def okW (l : List UInt8) : Bool := isNum l && decide (l.length ≤ 800) && decide (bl (numI l).natAbs ≤ 2400)
theorem AbP {l : List UInt8} (hl : l.length ≤ 4611686018427387904) (H : ∀ v c m w', Ext w w' → Wr w' v m → (okW l = true → c = 0 ∧ m = numI l) → (okW l = false → c ≠ 0) → K (.tuple #[v, .int .i64 c]) w') : call P HX [str l] w K := by
 refine US ?_
 unfold Ii
 refine Eb fun x w1 ⟨cs, hcs, b1⟩ e1 => ?_
 have bad : okW l = false → ∀ c : Int, c ≠ 0 → bld P Aj [] w1 fun x9_6 =>
   sto P Aj x x9_6 w1 fun w8 =>
   ldc P Aj x w8 fun r9 =>
   K (.tuple #[r9, (.int .i64 c)]) w8 := fun h0 c hc => by
  rw [Kc]
  refine (Wr.zero w1).put b1 hcs fun w5 g5 h5 ⟨s, hs, b5⟩ => ?_
  refine b5.getc Bh rfl AK rfl ?_
  have := H _ c 0 w5 (Ab e1 (fun g hg => (b1.blk_lt hg).1) g5) h5 (fun h => by rw [h0] at h; cases h) (fun _ => hc)
  rw [hs] at this; exact this
 refine UW hl ?_
 rw [A5]
 refine Az (fun hn => ?_) (fun hn => ?_)
 ·have : isNum l = false := by simpa using hn
  exact bad (by unfold okW; rw [this]; rfl) 6 (by decide)
 have hn : isNum l = true := by simpa using hn
 rw [By Av, Aq]
 refine Ac (fun h8 => ?_) (fun h8 => ?_)
 ·exact bad (by unfold okW; rw [decide_eq_false (by omega : ¬ l.length ≤ 800)]; simp) 3 (by decide)
 have h8 : l.length ≤ 800 := by omega
 refine Fg fun z w2 z2 i2 e2 => ?_
 refine Acw z2 hn h8 fun w2' w3 e2' z2' g3 z3 i3 => ?_
 rw [A8, Ax]
 have e3 : Ext w1 w3 := Ab (e2.trans e2') (fun g hg => z2'.blk_ge hg) g3
 have hbig : bl (numI l).natAbs ≤ 3200 := by
  rw [VN]
  have hb := Gg hn
  unfold numB at hb
  simp only [Bool.and_eq_true] at hb
  have := AfO hb.1.2 (body l).length
  rw [List.take_length] at this
  have := NO l
  omega
 refine Aje i3 (by omega) fun v c w4 e4 h1 h2 => ?_
 rw [A8, Ax]
 have b1 := b1.ext (e3.trans e4)
 by_cases hb : bl (numI l).natAbs ≤ 2400
 ·obtain ⟨rfl, hv⟩ := h1 hb
  refine hv.put b1 hcs fun w5 g5 h5 ⟨s, hs, b5⟩ => ?_
  refine b5.getc Bh rfl AK rfl ?_
  have := H _ 0 _ w5 (Ab (e1.trans (e3.trans e4)) (fun g hg => (b1.blk_lt hg).1) g5) h5 (fun _ => ⟨rfl, rfl⟩) (fun h => by unfold okW at h; rw [hn, decide_eq_true h8, decide_eq_true hb] at h; cases h)
  rw [hs] at this; exact this
 ·obtain ⟨rfl, hv⟩ := h2 (by omega)
  refine hv.put b1 hcs fun w5 g5 h5 ⟨s, hs, b5⟩ => ?_
  refine b5.getc Bh rfl AK rfl ?_
  have := H _ 3 _ w5 (Ab (e1.trans (e3.trans e4)) (fun g hg => (b1.blk_lt hg).1) g5) h5 (fun h => by unfold okW at h; rw [decide_eq_false hb] at h; simp at h) (fun _ => by decide)
  rw [hs] at this; exact this
theorem Ajt {n e : Int} {s : Value} {K : Value → Prop} (hs : ∃ a l c, s = .slice a l c) : bld P Al [(0, .agg #[.int .i64 n, s]), (1, .int .i64 e)] w K = K (.agg #[.int .i64 n, s, .int .i64 e]) := by
 obtain ⟨a, l, c, rfl⟩ := hs
 exact DT (by kernel_rfl)
theorem Akb {a b : List UInt8} (ha : okW a = false) (hb : isNum b = true) : (isNum a && isNum b && isDyB (numI a) (numI b)) = false := by
 refine Bool.eq_false_iff.2 fun h => ?_
 rw [Bool.and_eq_true, Bool.and_eq_true] at h
 obtain ⟨⟨h1, _⟩, h3⟩ := h
 have h4 := h3
 simp only [isDyB, Bool.and_eq_true, decide_eq_true_eq] at h4
 have h5 := Zv h1 h4.1.1.1
 unfold okW at ha
 rw [h1, decide_eq_true h5, decide_eq_true h4.1.1.1] at ha
 cases ha
set_option maxRecDepth 20000 in
theorem Aaz {l : List UInt8} (hl : l.length ≤ 4611686018427387904)
  (H0 : parseD l = none → ∀ v w', Ext w w' → (∃ m e, Dr w' v m e) → K (.tuple #[v, .int .i64 6]) w')
  (H1 : ∀ m e, parseD l = some (m, e) → ∀ v w', Ext w w' → Dr w' v m e → K (.tuple #[v, .int .i64 0]) w') : call P Hw [str l] w K := by
 refine T8 ?_
 unfold GR
 refine Ez fun x w1 ⟨cs, hcs, b1⟩ e1 => ?_
 have ret0 : parseD l = none → ∀ w2, Ext w1 w2 → bld P Al [] w2 fun x59_58 =>
                 sto P Al x x59_58 w2 fun w60 =>
                 ldc P Al x w60 fun r61 =>
                 K (.tuple #[r61, (.int .i64 6)]) w60 := fun h0 w2 e2 => by
  rw [Qc]
  have b2 := b1.ext e2
  refine b2.put Bs (ds := [.int .i64 0, .slice none 0 0, .int .i64 0]) rfl hcs (U9 rfl rfl rfl) fun w3 b3 g3 => ?_
  refine b3.getc BJ rfl Bs rfl ?_
  exact H0 h0 _ _ (Ab (e1.trans e2) (fun g hg => (b2.blk_lt hg).1) g3) ⟨0, 0, Dr.zero0 _⟩
 refine AkV (c := 112) hl (fun hno => ?_) (fun a b hab hno => ?_)
 ·rw [A8, Ax, P9, A5]
  refine orJ (fun _ => ?_) (fun h => by cases h)
  refine orJ (fun _ => ?_) (fun h => by cases h)
  exact A9 rfl (ret0 (W5 hno) _ (Ext.refl _))
 have hpar := AaW (b := b) hno
 rw [← hab] at hpar
 have hla : a.length ≤ 4611686018427387904 ∧ b.length ≤ 4611686018427387904 := by
  rw [hab, List.length_append, List.length_cons] at hl; omega
 rw [A8, Ax, P9, A5, Bool.not_true]
 refine orJ (fun h => by cases h) (fun _ => ?_)
 refine UW hla.2 ?_
 rw [A5]
 refine orJ (fun hn => ?_) (fun hn => ?_)
 ·have hb : isNum b = false := by simpa using hn
  exact A9 rfl (ret0 (by rw [hpar, hb]; simp) _ (Ext.refl _))
 have hb : isNum b = true := by simpa using hn
 rw [By Av, Aq]
 refine Ac (fun h6 => ?_) (fun h6 => ?_)
 ·refine ret0 ?_ _ (Ext.refl _)
  rw [hpar]
  refine if_neg fun h => ?_
  rw [Bool.and_eq_true, Bool.and_eq_true] at h
  have h3 := h.2
  simp only [isDyB, Bool.and_eq_true, decide_eq_true_eq] at h3
  have := ZJ hb h3.1.1.2 h3.1.2
  omega
 have h6 : b.length ≤ 6 := by omega
 refine AbP hla.1 fun v c m w2 e2 hv h1 h2 => ?_
 rw [A8, Ax]
 refine Eb fun y w3 ⟨cs3, hcs3, b3⟩ e3 => ?_
 refine (hv.ext e3).put b3 hcs3 fun w4 g4 h4 ⟨s, hs, b4⟩ => ?_
 subst hs
 have e4 : Ext w2 w4 := Ab e3 (fun g hg => (b3.blk_lt hg).1) g4
 refine AdB hb h6 fun w5 e5 => ?_
 rw [A8, Ax]
 refine Mf (b4.ext e5) ?_
 have h5 := h4.ext e5
 obtain ⟨s', q, hs', lr, wl⟩ := h5
 simp only [Value.agg.injEq, Array.mk.injEq, List.cons.injEq, true_and, and_true] at hs'
 subst hs'
 rw [Ajt (IR.sl lr.toIR)]
 have hd5 : Dr w5 (.agg #[.int .i64 m.sign, s, .int .i64 (numI b)]) m (numI b) := ⟨s, q, rfl, lr, wl⟩
 refine Ez fun z w6 ⟨cs6, hcs6, b6⟩ e6 => ?_
 refine (hd5.ext e6).put b6 hcs6 fun w7 ⟨s7, hs7, b7⟩ g7 => ?_
 have hd7 := (hd5.ext e6).kt g7 (Ty.box b6) (by decide)
 rw [hs7] at hd7
 have e7 : Ext w5 w7 := Ab e6 (fun g hg => (b6.blk_lt hg).1) g7
 have E7 : Ext w1 w7 := e2.trans (e4.trans (e5.trans e7))
 rw [B5]
 by_cases hok : okW a = true
 ·obtain ⟨rfl, rfl⟩ := h1 hok
  refine orJ (fun h => by simp at h) (fun _ => ?_)
  rw [UB U8]
  refine orJ (fun h => by cases h) (fun _ => ?_)
  refine EG b7 ?_
  refine P1 hd7 fun w8 e8 => ?_
  have hna : isNum a = true := by unfold okW at hok; rw [Bool.and_eq_true, Bool.and_eq_true] at hok; exact hok.1.1
  rw [hna, hb, Bool.true_and, Bool.true_and] at hpar
  rw [A5]
  have E8 := E7.trans e8
  cases hdy : isDyB (numI a) (numI b)
  ·rw [hdy] at hpar
   exact A9 rfl (ret0 hpar _ E8)
  ·rw [hdy] at hpar
   refine AD rfl ?_
   refine EG (b7.ext e8) ?_
   have b1 := b1.ext E8
   have hd8 := hd7.ext e8
   refine hd8.put b1 hcs fun w9 ⟨s9, hs9, b9⟩ g9 => ?_
   have hd9 := hd8.kt g9 (Ty.box b1) (by decide)
   refine b9.getc BJ rfl Bs rfl ?_
   rw [hs9] at hd9
   exact H1 _ _ hpar _ _ (Ab (e1.trans E8) (fun g hg => (b1.blk_lt hg).1) g9) hd9
 ·rw [Bool.not_eq_true] at hok
  have hc := h2 hok
  refine orJ (fun _ => ?_) (fun h => by simp at h; exact absurd h hc)
  refine orJ (fun _ => ?_) (fun h => by cases h)
  exact A9 rfl (ret0 (by rw [hpar, Akb hok hb]; rfl) _ E7)
theorem AfH (H : K (.bool true) w) : call P Nj [.int .i64 0] w K := by
 refine Aay ?_
 unfold MY
 rw [B6]
 refine andJ (fun _ => ?_) (fun h => by simp at h)
 rw [Dx]; exact H
theorem Aag {v : Value} {m e : Int} (h : Dr w v m e) (hd : isDyB m e = true) (H : ∀ w', Ext w w' → K (.tuple #[fl (rndQ 0 (dy m e)).1, .int .i64 (rndQ 0 (dy m e)).2, .int .i64 0]) w') : call P GZ [v, .int .i64 0] w K := by
 obtain ⟨s, l, rfl, h1, wl⟩ := h
 refine TY ?_
 unfold Ht
 refine F5 fun x1 w1 b1 e1 => ?_
 have hd1 : Dr w1 (.agg #[.int .i64 m.sign, s, .int .i64 e]) m e := ⟨s, l, rfl, h1.ext e1, wl⟩
 refine EG b1 ?_
 refine P1 hd1 fun w2 e2 => ?_
 rw [hd, A5, Bool.not_true, Ao]
 refine AfH ?_
 rw [A5, Bool.not_true, Ao]
 refine EG (b1.ext e2) ?_
 refine Ae5 (hd1.ext e2) hd fun u w3 e3 n3 => ?_
 refine Vm n3 (by decide) (by decide) fun w4 e4 => ?_
 rw [A8, Ax]
 exact H _ (e1.trans (e2.trans (e3.trans e4)))
theorem TM {l : List UInt8} (hl : l.length ≤ 4611686018427387904) (H : ∀ b w', Ext w w' → (∀ x, pF l = some x → b = x) → K (.tuple #[fl b, .bool (pF l).isSome]) w') : call P Fd [str l] w K := by
 refine UK ?_
 unfold HS
 refine Aaz hl (fun h0 v w1 e1 ⟨m, e, hd⟩ => ?_) (fun m e hp v w1 e1 hd => ?_)
 ·rw [A8, Ax]
  refine Ez fun x4 w2 ⟨cs, hcs, b2⟩ e2 => ?_
  refine (hd.ext e2).put b2 hcs fun w3 ⟨s, hv, b3⟩ g3 => ?_
  have e3 : Ext w1 w3 := Ab e2 (fun g hg => (b2.blk_lt hg).1) g3
  rw [B5]
  refine A9 rfl ?_
  have hpf : pF l = none := by unfold pF; rw [h0]
  have := H 0 w3 (e1.trans e3) (fun x hx => by rw [hpf] at hx; cases hx)
  rw [hpf] at this; exact this
 ·rw [A8, Ax]
  have hdy := WN hp
  refine Ez fun x4 w2 ⟨cs, hcs, b2⟩ e2 => ?_
  refine (hd.ext e2).put b2 hcs fun w3 ⟨s, hv, b3⟩ g3 => ?_
  have hd3 := (hd.ext e2).kt g3 (Ty.box b2) (by decide)
  have e3 : Ext w1 w3 := Ab e2 (fun g hg => (b2.blk_lt hg).1) g3
  rw [B5]
  refine AD rfl ?_
  rw [hv] at hd3
  refine EG b3 ?_
  refine Aag hd3 hdy fun w4 e4 => ?_
  rw [A8, Ax, P9, Ae]
  have hpf : pF l = if (rndQ 0 (dy m e)).2 = 0 then some (rndQ 0 (dy m e)).1 else none := by unfold pF; rw [hp]
  have := H (rndQ 0 (dy m e)).1 w4 (e1.trans (e3.trans e4)) (fun x hx => by
   rw [hpf] at hx
   split at hx
   ·exact Option.some.inj hx
   ·cases hx)
  rw [hpf] at this
  have hs : (if (rndQ 0 (dy m e)).2 = 0 then some (rndQ 0 (dy m e)).1 else none).isSome = decide ((rndQ 0 (dy m e)).2 = 0) := by
   split
   ·rename_i h; rw [h]; rfl
   ·rename_i h; simp [h]
  rw [hs] at this; exact this
end


section
open Go Go.Vc
variable {w : World} {K : Value → World → Prop}
structure SS (w : World) (v : Value) (l : List (List UInt8)) : Prop where
 row : Row 1 w v l.length (l.map str)
 lt : ∀ s ∈ l, s.length ≤ 137438953472
 cap : CapOk v
theorem SS.ext {w' : World} {v : Value} {l : List (List UInt8)} (h : SS w v l) (he : Ext w w') : SS w' v l := ⟨h.row.ext he, h.lt, h.cap⟩
theorem SS.bound {v : Value} {l : List (List UInt8)} (h : SS w v l) : l.length ≤ 9223372036854775807 := by have := h.row.bound; simp only [maxLen] at this; omega
theorem SS.len {v : Value} {l : List (List UInt8)} {ty : TypeId} {K : Value → Prop} (h : SS w v l) : bl0 P .len #[B4] ty [v] w K = K (.int .i64 l.length) := h.row.len AT
theorem SS.at {v : Value} {l : List (List UInt8)} {k : IntKind} {i : Nat} {K : Value → Prop} (h : SS w v l) (hi : i < l.length) (H : K (str l[i])) : ixa P B4 v (.int k (i : Int)) w (fun a => ld P AM a w K) :=
 h.row.at1 (by rw [List.getElem?_map, List.getElem?_eq_getElem hi]; rfl) AT Bz Av rfl H
theorem SS.le {v : Value} {l : List (List UInt8)} {i : Nat} (h : SS w v l) (hi : i < l.length) : l[i].length ≤ 4611686018427387904 := by
 have := h.lt _ (List.getElem_mem hi); omega
def Bm (w : World) (v : Value) (l : List (List UInt8)) : Prop := ∃ s, v = .agg #[s] ∧ SS w s l
theorem Du {t : TypeId} {s : Value} {KW : Value → World → Prop} (H : ∀ x w', Bx w' w.heap.size t x [s] → Ext w w' → KW x w') : bx P t (.agg #[s]) w KW :=
 Ix fun x w' b e _ => H x w' b e
theorem pr_w {base : Nat} {x s : Value} {K : Value → Prop} (h : Bx w base AF x [s]) (H : K s) : fda P AF x 0 w (fun y => ld P B4 y w K) :=
 h.fld (off := 0) rfl Bo rfl EH AT rfl H
theorem Bb {base : Nat} {x s : Value} {K : Value → Prop} (h : Bx w base AF x [s]) (H : K (.agg #[s])) : ld P AF x w K :=
 h.get Bo rfl As rfl H
noncomputable def form3 (l : List UInt8) : Int := if (pF l).isSome then 0 else -1
noncomputable def form2 (l : List UInt8) : Int :=
 if l = [43] then 2 else if l = [45] then 2 else if l = [42] then 2 else if l = [47] then 2 else if l = [109, 105, 110] then 2 else if l = [109, 97, 120] then 2 else form3 l
noncomputable def form1 (l : List UInt8) : Int :=
 if l = [110, 101, 103] then 1 else if l = [115, 113, 114] then 1 else if l = [97, 98, 115] then 1 else if l = [114, 111, 111, 116] then 1 else if l = [101, 120, 112] then 1 else
 if l = [108, 111, 103] then 1 else if l = [97, 116, 97, 110] then 1 else if l = [115, 105, 110] then 1 else form2 l
noncomputable def form0 (l : List UInt8) : Int := if l = [120] then 0 else if l = [121] then 0 else if l = [122] then 0 else form1 l
def varF (l : List UInt8) : Int := if l = [120] then 0 else if l = [121] then 1 else if l = [122] then 2 else -1
set_option maxRecDepth 20000 in
theorem AeU {l : List UInt8} (hl : l.length ≤ 4611686018427387904) (H : ∀ w', Ext w w' → K (.int .i64 (form0 l)) w') : call P LN [str l] w K := by
 refine AcG ?_
 unfold Qe
 have H0 := H w (Ext.refl _)
 refine ⟨fun w' => w' = w ∧ form0 l = form3 l, ?_, ?_⟩
 ·rintro junk w3 ⟨rfl, hf⟩
  rw [hf] at H
  unfold form3 at H
  refine TM hl fun b w4 e4 _ => ?_
  rw [A8, Ax]
  refine Az (fun h => ?_) (fun h => ?_)
  ·have := H w4 e4
   rw [h] at this; exact this
  ·have := H w4 e4
   rw [h] at this; exact this
 refine ⟨fun x w' => w' = w ∧ ∃ b, x = .bool b ∧ (b = true → form0 l = 0) ∧ (b = false → form0 l = form1 l), ?_, ?_⟩
 rotate_left
 ·have T : form0 l = 0 → (w = w ∧ ∃ b, Value.bool true = .bool b ∧ (b = true → form0 l = 0) ∧ (b = false → form0 l = form1 l)) := fun h => ⟨rfl, true, rfl, fun _ => h, fun h => by cases h⟩
  rw [A7]
  refine Ac (fun h => ?_) (fun n1 => ?_)
  ·rw [decide_eq_true h]; exact T (by unfold form0; rw [if_pos h])
  rw [A7]
  refine Ac (fun h => ?_) (fun n2 => ?_)
  ·rw [decide_eq_true h]; exact T (by unfold form0; rw [if_neg n1, if_pos h])
  rw [A7]
  refine ⟨rfl, _, rfl, fun h => ?_, fun h => ?_⟩
  ·unfold form0; rw [if_neg n1, if_neg n2, if_pos (by simpa using h)]
  ·unfold form0; rw [if_neg n1, if_neg n2, if_neg (by simpa using h)]
 rintro x junk w1 ⟨rfl, b, rfl, hb1, hb2⟩
 refine Az (fun h => ?_) (fun h => ?_)
 ·rw [hb1 h] at H0; exact H0
 have hf := hb2 h
 refine ⟨fun x w' => w' = w1 ∧ ∃ b, x = .bool b ∧ (b = true → form0 l = 1) ∧ (b = false → form0 l = form2 l), ?_, ?_⟩
 rotate_left
 ·have T : form1 l = 1 → ∀ b : Bool, b = true → (w1 = w1 ∧ ∃ c, Value.bool b = .bool c ∧ (c = true → form0 l = 1) ∧ (c = false → form0 l = form2 l)) := fun h b hb => ⟨rfl, b, rfl, fun _ => by rw [hf, h], fun h => by rw [hb] at h; cases h⟩
  rw [A7]
  refine Ac (fun h => T (by unfold form1; rw [if_pos h]) _ (decide_eq_true h)) (fun n1 => ?_)
  rw [A7]
  refine Ac (fun h => T (by unfold form1; rw [if_neg n1, if_pos h]) _ (decide_eq_true h)) (fun n2 => ?_)
  rw [A7]
  refine Ac (fun h => T (by unfold form1; rw [if_neg n1, if_neg n2, if_pos h]) _ (decide_eq_true h)) (fun n3 => ?_)
  rw [A7]
  refine Ac (fun h => T (by unfold form1; rw [if_neg n1, if_neg n2, if_neg n3, if_pos h]) _ (decide_eq_true h)) (fun n4 => ?_)
  rw [A7]
  refine Ac (fun h => T (by unfold form1; rw [if_neg n1, if_neg n2, if_neg n3, if_neg n4, if_pos h]) _ (decide_eq_true h)) (fun n5 => ?_)
  rw [A7]
  refine Ac (fun h => T (by unfold form1; rw [if_neg n1, if_neg n2, if_neg n3, if_neg n4, if_neg n5, if_pos h]) _ (decide_eq_true h)) (fun n6 => ?_)
  rw [A7]
  refine Ac (fun h => T (by unfold form1; rw [if_neg n1, if_neg n2, if_neg n3, if_neg n4, if_neg n5, if_neg n6, if_pos h]) _ (decide_eq_true h)) (fun n7 => ?_)
  rw [A7]
  refine ⟨rfl, _, rfl, fun h => ?_, fun h => ?_⟩
  ·rw [hf]; unfold form1; rw [if_neg n1, if_neg n2, if_neg n3, if_neg n4, if_neg n5, if_neg n6, if_neg n7, if_pos (by simpa using h)]
  ·rw [hf]; unfold form1; rw [if_neg n1, if_neg n2, if_neg n3, if_neg n4, if_neg n5, if_neg n6, if_neg n7, if_neg (by simpa using h)]
 rintro x junk w2 ⟨rfl, b2, rfl, hc1, hc2⟩
 refine Az (fun h => ?_) (fun h => ?_)
 ·rw [hc1 h] at H0; exact H0
 have hf2 := hc2 h
 have T : form2 l = 2 → K (.int .i64 2) w2 := fun h => by rw [hf2, h] at H0; exact H0
 rw [A7]
 refine Ac (fun h => A9 (decide_eq_true h) (T (by unfold form2; rw [if_pos h]))) (fun n1 => ?_)
 rw [A7]
 refine Ac (fun h => A9 (decide_eq_true h) (T (by unfold form2; rw [if_neg n1, if_pos h]))) (fun n2 => ?_)
 rw [A7]
 refine Ac (fun h => A9 (decide_eq_true h) (T (by unfold form2; rw [if_neg n1, if_neg n2, if_pos h]))) (fun n3 => ?_)
 rw [A7]
 refine Ac (fun h => A9 (decide_eq_true h) (T (by unfold form2; rw [if_neg n1, if_neg n2, if_neg n3, if_pos h]))) (fun n4 => ?_)
 rw [A7]
 refine Ac (fun h => A9 (decide_eq_true h) (T (by unfold form2; rw [if_neg n1, if_neg n2, if_neg n3, if_neg n4, if_pos h]))) (fun n5 => ?_)
 rw [A7]
 refine Ac (fun h => (T (by unfold form2; rw [if_neg n1, if_neg n2, if_neg n3, if_neg n4, if_neg n5, if_pos h]))) (fun n6 => ?_)
 exact ⟨rfl, by rw [hf2]; unfold form2; rw [if_neg n1, if_neg n2, if_neg n3, if_neg n4, if_neg n5, if_neg n6]⟩
theorem X5 {l : List UInt8} (H : K (.int .i64 (varF l)) w) : call P Gy [str l] w K := by
 refine Wv ?_
 unfold JZ
 unfold varF at H
 rw [A7]
 refine Ac (fun h => by rw [if_pos h] at H; exact H) (fun n1 => ?_)
 rw [A7]
 refine Ac (fun h => by rw [if_neg n1, if_pos h] at H; exact H) (fun n2 => ?_)
 rw [A7]
 refine Ac (fun h => by rw [if_neg n1, if_neg n2, if_pos h] at H; exact H) (fun n3 => ?_)
 rw [if_neg n1, if_neg n2, if_neg n3] at H; exact H
theorem Su {l : List UInt8} (H : K (.int .i64 (varF l)) w) : call P ED [str l] w K := by
 refine Td ?_
 unfold Hj
 unfold varF at H
 rw [A7]
 refine Ac (fun h => by rw [if_pos h] at H; exact H) (fun n1 => ?_)
 rw [A7]
 refine Ac (fun h => by rw [if_neg n1, if_pos h] at H; exact H) (fun n2 => ?_)
 rw [A7]
 refine Ac (fun h => by rw [if_neg n1, if_neg n2, if_pos h] at H; exact H) (fun n3 => ?_)
 rw [if_neg n1, if_neg n2, if_neg n3] at H; exact H
theorem J3 (l : List UInt8) : -1 ≤ form0 l ∧ form0 l ≤ 2 := by
 unfold form0 form1 form2 form3
 constructor <;> repeat (first | omega | split)
theorem MC (l : List UInt8) : -1 ≤ varF l ∧ varF l ≤ 2 := by
 unfold varF
 constructor <;> repeat (first | omega | split)
noncomputable def dpS (ws : List (List UInt8)) : Nat → Option (Int × Int)
 | 0 => some (0, 0)
 | i + 1 => match dpS ws i with
  | none => none
  | some (h, m) => if form0 (ws.getD i []) < 0 ∨ h < form0 (ws.getD i []) then none else some (h + 1 - form0 (ws.getD i []), max m (h + 1 - form0 (ws.getD i [])))
theorem GE (ws : List (List UInt8)) : ∀ (i : Nat) (h m : Int), dpS ws i = some (h, m) → 0 ≤ h ∧ h ≤ m ∧ m ≤ i
 | 0, h, m, e => by
  simp only [dpS, Option.some.injEq, Prod.mk.injEq] at e
  omega
 | i + 1, h, m, e => by
  unfold dpS at e
  split at e
  ·cases e
  ·rename_i h0 m0 e0
   have := GE ws i h0 m0 e0
   split at e
   ·cases e
   ·simp only [Option.some.injEq, Prod.mk.injEq] at e
    obtain ⟨rfl, rfl⟩ := e
    omega
theorem AaY (ws : List (List UInt8)) : ∀ (i j : Nat), dpS ws i = none → dpS ws (i + j) = none
 | i, 0, h => h
 | i, j + 1, h => by
  rw [show i + (j + 1) = (i + j) + 1 by omega]
  unfold dpS
  rw [AaY ws i j h]
noncomputable def depF (ws : List (List UInt8)) : Option Int :=
 if 1 ≤ ws.length ∧ ws.length ≤ 60 then (match dpS ws ws.length with
  | none => none
  | some (h, m) => if h = 1 ∧ m ≤ 16 then some m else none) else none
theorem RS {ws : List (List UInt8)} {m : Int} (h : depF ws = some m) : 0 < m ∧ m ≤ 16 ∧ 1 ≤ ws.length ∧ ws.length ≤ 60 := by
 unfold depF at h
 split at h
 ·rename_i h1
  split at h
  ·cases h
  ·rename_i a b e
   have := GE ws _ _ _ e
   split at h
   ·rename_i h2
    simp only [Option.some.injEq] at h
    omega
   ·cases h
 ·cases h
theorem LW {l : List (List UInt8)} {i : Nat} (h : i < l.length) : l.getD i [] = l[i] := by simp [h]
theorem Tk {ws : List (List UInt8)} {i : Nat} (hi : i < ws.length) {h m : Int} (e : dpS ws i = some (h, m)) (hb : form0 ws[i] < 0 ∨ h < form0 ws[i]) : depF ws = none := by
 have h1 : dpS ws (i + 1) = none := by
  unfold dpS
  rw [e]
  simp only [LW hi]
  rw [if_pos hb]
 have h2 := AaY ws (i + 1) (ws.length - (i + 1)) h1
 rw [show i + 1 + (ws.length - (i + 1)) = ws.length by omega] at h2
 unfold depF
 rw [h2]
 split <;> rfl
theorem YI {ws : List (List UInt8)} {i : Nat} (hi : i < ws.length) {h m : Int} (e : dpS ws i = some (h, m)) (hb : ¬ (form0 ws[i] < 0 ∨ h < form0 ws[i])) : dpS ws (i + 1) = some (h + 1 - form0 ws[i], max m (h + 1 - form0 ws[i])) := by
 conv => lhs; unfold dpS
 rw [e]
 simp only [LW hi]
 rw [if_neg hb]
theorem Zj {v : Value} {ws : List (List UInt8)} (h : SS w v ws) (H : ∀ n w', Ext w w' → (∀ m, depF ws = some m → n = m) → K (.tuple #[.int .i64 n, .bool (depF ws).isSome]) w') : call P HI [v] w K := by
 refine YS ?_
 unfold L7
 have none0 : depF ws = none → ∀ w', Ext w w' → K (.tuple #[.int .i64 0, .bool false]) w' := fun h0 w' he => by
  have := H 0 w' he (fun m hm => by rw [h0] at hm; cases hm)
  rw [h0] at this; exact this
 rw [h.len, Ai]
 have hb := h.bound
 refine orJ (fun h1 => ?_) (fun h1 => ?_)
 ·rw [A6]
  exact none0 (by unfold depF; rw [if_neg (by simp only [decide_eq_true_eq] at h1; omega)]) _ (Ext.refl _)
 rw [h.len, Aq]
 refine Ac (fun h2 => ?_) (fun h2 => ?_)
 ·exact none0 (by unfold depF; rw [if_neg (by omega)]) _ (Ext.refl _)
 have hlen : 1 ≤ ws.length ∧ ws.length ≤ 60 := by simp only [decide_eq_false_iff_not] at h1; omega
 rw [h.len]
 refine ⟨fun g x4 x5 x w' => ∃ (i : Nat) (a b : Int), x = .int .i64 i ∧ g + i = ws.length ∧ x4 = .int .i64 a ∧ x5 = .int .i64 b ∧ dpS ws i = some (a, b) ∧ Ext w w', ⟨ws.length, 0, 0, 0, rfl, by omega, rfl, rfl, rfl, Ext.refl _⟩, ?_⟩
 rintro g x4 x5 x junk w1 ⟨i, a, b, rfl, hg, rfl, rfl, hdp, e1⟩
 have hr := GE ws i a b hdp
 rw [Ai]
 refine Ac (fun hlt => ?_) (fun hge => ?_)
 ·have hi : i < ws.length := by omega
  refine (h.ext e1).at hi ?_
  refine AeU (h.le hi) fun w2 e2 => ?_
  have E := e1.trans e2
  have hf := J3 ws[i]
  rw [Ai]
  refine orJ (fun h3 => ?_) (fun h3 => ?_)
  ·rw [A6]
   exact none0 (Tk hi hdp (.inl (by simpa using h3))) _ E
  rw [Ai]
  refine Ac (fun h4 => none0 (Tk hi hdp (.inr h4)) _ E) (fun h4 => ?_)
  have hs := YI hi hdp (by simp only [decide_eq_false_iff_not] at h3; omega)
  rw [AC, Ad (by omega) (by omega), Aw, Ad (by omega) (by omega), Dj, Aw, Ad (by omega) (by omega)]
  refine ⟨g - 1, by omega, i + 1, _, _, rfl, by omega, rfl, rfl, ?_, E⟩
  rw [hs, show a + (1 - form0 ws[i]) = a + 1 - form0 ws[i] by omega]
 ·have hi : i = ws.length := by omega
  subst hi
  have hdF : depF ws = if a = 1 ∧ b ≤ 16 then some b else none := by unfold depF; rw [if_pos hlen, hdp]
  have HH := H b w1 e1 (fun m hm => by
   rw [hdF] at hm
   split at hm
   ·exact Option.some.inj hm
   ·cases hm)
  rw [Ae]
  refine andJ (fun h3 => ?_) (fun h3 => ?_)
  ·rw [Dx]
   simp only [decide_eq_true_eq] at h3
   have : (depF ws).isSome = decide (b ≤ 16) := by
    rw [hdF]
    by_cases h4 : b ≤ 16
    ·rw [if_pos ⟨h3, h4⟩, decide_eq_true h4]; rfl
    ·rw [if_neg (fun h => h4 h.2), decide_eq_false h4]; rfl
   rw [this] at HH; exact HH
  ·simp only [decide_eq_false_iff_not] at h3
   have : (depF ws).isSome = false := by rw [hdF, if_neg (fun h => h3 h.1)]; rfl
   rw [this] at HH; exact HH
theorem DR {v : Value} {ws : List (List UInt8)} (h : Bm w v ws) (H : ∀ w', Ext w w' → K (.bool (depF ws).isSome) w') : call P Ci [v] w K := by
 obtain ⟨s, rfl, hs⟩ := h
 refine Vy ?_
 unfold I1
 refine Du fun x w1 b1 e1 => ?_
 refine pr_w b1 ?_
 refine Zj (hs.ext e1) fun n w2 e2 _ => ?_
 rw [A8, Ax]
 exact H _ (e1.trans e2)
noncomputable def ndS (ws : List (List UInt8)) : Nat → Int
 | 0 => 0
 | i + 1 => max (ndS ws i) (varF (ws.getD i []) + 1)
theorem TB (ws : List (List UInt8)) : ∀ i, 0 ≤ ndS ws i ∧ ndS ws i ≤ 3
 | 0 => by simp [ndS]
 | i + 1 => by
  have h1 := TB ws i
  have h2 := MC (ws.getD i [])
  simp only [ndS]
  omega
theorem Adw {v : Value} {ws : List (List UInt8)} (h : Bm w v ws) (H : ∀ w', Ext w w' → K (.int .i64 (ndS ws ws.length)) w') : call P Js [v] w K := by
 obtain ⟨s, rfl, hs⟩ := h
 refine AbC ?_
 unfold Oq
 refine Du fun x w1 b1 e1 => ?_
 refine pr_w b1 ?_
 have h1 := hs.ext e1
 have hb := h1.bound
 rw [h1.len]
 refine ⟨fun g y x w' => w' = w1 ∧ ∃ i : Nat, x = .int .i64 i ∧ g + i = ws.length ∧ y = .int .i64 (ndS ws i), ⟨ws.length, rfl, 0, rfl, by omega, rfl⟩, ?_⟩
 rintro g y x junk w2 ⟨rfl, i, rfl, hg, rfl⟩
 rw [Ai]
 refine Ac (fun hlt => ?_) (fun hge => ?_)
 ·have hi : i < ws.length := by omega
  refine h1.at hi ?_
  refine X5 ?_
  have hv := MC ws[i]
  have hn := TB ws i
  rw [Aw, Ad (by omega) (by omega), Dj, Aw, Ad (by omega) (by omega)]
  refine ⟨g - 1, by omega, rfl, i + 1, rfl, by omega, ?_⟩
  simp only [ndS, LW hi]
 ·have hi : i = ws.length := by omega
  subst hi
  exact H _ e1
end


section
open Go Go.Vc
variable {w : World} {K : Value → World → Prop}
set_option maxRecDepth 20000 in
theorem Wy {l : List UInt8} (hl : l.length ≤ 4611686018427387904) (H : ∀ w', Ext w w' → K (.int .i64 (form0 l)) w') : call P Gr [str l] w K := by
 refine W9 ?_
 unfold Ke
 have H0 := H w (Ext.refl _)
 refine ⟨fun w' => w' = w ∧ form0 l = form3 l, ?_, ?_⟩
 ·rintro junk w3 ⟨rfl, hf⟩
  rw [hf] at H
  unfold form3 at H
  refine XD hl fun b w4 e4 _ => ?_
  rw [A8, Ax]
  refine Az (fun h => ?_) (fun h => ?_)
  ·have := H w4 e4
   rw [h] at this; exact this
  ·have := H w4 e4
   rw [h] at this; exact this
 refine ⟨fun x w' => w' = w ∧ ∃ b, x = .bool b ∧ (b = true → form0 l = 0) ∧ (b = false → form0 l = form1 l), ?_, ?_⟩
 rotate_left
 ·have T : form0 l = 0 → (w = w ∧ ∃ b, Value.bool true = .bool b ∧ (b = true → form0 l = 0) ∧ (b = false → form0 l = form1 l)) := fun h => ⟨rfl, true, rfl, fun _ => h, fun h => by cases h⟩
  rw [A7]
  refine Ac (fun h => ?_) (fun n1 => ?_)
  ·rw [decide_eq_true h]; exact T (by unfold form0; rw [if_pos h])
  rw [A7]
  refine Ac (fun h => ?_) (fun n2 => ?_)
  ·rw [decide_eq_true h]; exact T (by unfold form0; rw [if_neg n1, if_pos h])
  rw [A7]
  refine ⟨rfl, _, rfl, fun h => ?_, fun h => ?_⟩
  ·unfold form0; rw [if_neg n1, if_neg n2, if_pos (by simpa using h)]
  ·unfold form0; rw [if_neg n1, if_neg n2, if_neg (by simpa using h)]
 rintro x junk w1 ⟨rfl, b, rfl, hb1, hb2⟩
 refine Az (fun h => ?_) (fun h => ?_)
 ·rw [hb1 h] at H0; exact H0
 have hf := hb2 h
 refine ⟨fun x w' => w' = w1 ∧ ∃ b, x = .bool b ∧ (b = true → form0 l = 1) ∧ (b = false → form0 l = form2 l), ?_, ?_⟩
 rotate_left
 ·have T : form1 l = 1 → ∀ b : Bool, b = true → (w1 = w1 ∧ ∃ c, Value.bool b = .bool c ∧ (c = true → form0 l = 1) ∧ (c = false → form0 l = form2 l)) := fun h b hb => ⟨rfl, b, rfl, fun _ => by rw [hf, h], fun h => by rw [hb] at h; cases h⟩
  rw [A7]
  refine Ac (fun h => T (by unfold form1; rw [if_pos h]) _ (decide_eq_true h)) (fun n1 => ?_)
  rw [A7]
  refine Ac (fun h => T (by unfold form1; rw [if_neg n1, if_pos h]) _ (decide_eq_true h)) (fun n2 => ?_)
  rw [A7]
  refine Ac (fun h => T (by unfold form1; rw [if_neg n1, if_neg n2, if_pos h]) _ (decide_eq_true h)) (fun n3 => ?_)
  rw [A7]
  refine Ac (fun h => T (by unfold form1; rw [if_neg n1, if_neg n2, if_neg n3, if_pos h]) _ (decide_eq_true h)) (fun n4 => ?_)
  rw [A7]
  refine Ac (fun h => T (by unfold form1; rw [if_neg n1, if_neg n2, if_neg n3, if_neg n4, if_pos h]) _ (decide_eq_true h)) (fun n5 => ?_)
  rw [A7]
  refine Ac (fun h => T (by unfold form1; rw [if_neg n1, if_neg n2, if_neg n3, if_neg n4, if_neg n5, if_pos h]) _ (decide_eq_true h)) (fun n6 => ?_)
  rw [A7]
  refine Ac (fun h => T (by unfold form1; rw [if_neg n1, if_neg n2, if_neg n3, if_neg n4, if_neg n5, if_neg n6, if_pos h]) _ (decide_eq_true h)) (fun n7 => ?_)
  rw [A7]
  refine ⟨rfl, _, rfl, fun h => ?_, fun h => ?_⟩
  ·rw [hf]; unfold form1; rw [if_neg n1, if_neg n2, if_neg n3, if_neg n4, if_neg n5, if_neg n6, if_neg n7, if_pos (by simpa using h)]
  ·rw [hf]; unfold form1; rw [if_neg n1, if_neg n2, if_neg n3, if_neg n4, if_neg n5, if_neg n6, if_neg n7, if_neg (by simpa using h)]
 rintro x junk w2 ⟨rfl, b2, rfl, hc1, hc2⟩
 refine Az (fun h => ?_) (fun h => ?_)
 ·rw [hc1 h] at H0; exact H0
 have hf2 := hc2 h
 have T : form2 l = 2 → K (.int .i64 2) w2 := fun h => by rw [hf2, h] at H0; exact H0
 rw [A7]
 refine Ac (fun h => A9 (decide_eq_true h) (T (by unfold form2; rw [if_pos h]))) (fun n1 => ?_)
 rw [A7]
 refine Ac (fun h => A9 (decide_eq_true h) (T (by unfold form2; rw [if_neg n1, if_pos h]))) (fun n2 => ?_)
 rw [A7]
 refine Ac (fun h => A9 (decide_eq_true h) (T (by unfold form2; rw [if_neg n1, if_neg n2, if_pos h]))) (fun n3 => ?_)
 rw [A7]
 refine Ac (fun h => A9 (decide_eq_true h) (T (by unfold form2; rw [if_neg n1, if_neg n2, if_neg n3, if_pos h]))) (fun n4 => ?_)
 rw [A7]
 refine Ac (fun h => A9 (decide_eq_true h) (T (by unfold form2; rw [if_neg n1, if_neg n2, if_neg n3, if_neg n4, if_pos h]))) (fun n5 => ?_)
 rw [A7]
 refine Ac (fun h => (T (by unfold form2; rw [if_neg n1, if_neg n2, if_neg n3, if_neg n4, if_neg n5, if_pos h]))) (fun n6 => ?_)
 exact ⟨rfl, by rw [hf2]; unfold form2; rw [if_neg n1, if_neg n2, if_neg n3, if_neg n4, if_neg n5, if_neg n6]⟩
theorem Xr {v : Value} {ws : List (List UInt8)} (h : Bm w v ws) (H : ∀ w', Ext w w' → K (.int .i64 ((depF ws).getD 0)) w') : call P Gz [v] w K := by
 obtain ⟨s, rfl, hs⟩ := h
 refine Xu ?_
 unfold JW
 refine Du fun x w1 b1 e1 => ?_
 have h1 := hs.ext e1
 have hb := h1.bound
 have none0 : depF ws = none → ∀ w', Ext w1 w' → K (.int .i64 0) w' := fun h0 w' he => by
  have := H w' (e1.trans he)
  rw [h0] at this; exact this
 refine pr_w b1 ?_
 rw [h1.len, Ai]
 refine orJ (fun h2 => ?_) (fun h2 => ?_)
 ·rw [A6]
  exact none0 (by unfold depF; rw [if_neg (by simp only [decide_eq_true_eq] at h2; omega)]) _ (Ext.refl _)
 refine pr_w b1 ?_
 rw [h1.len, Aq]
 refine Ac (fun h3 => ?_) (fun h3 => ?_)
 ·exact none0 (by unfold depF; rw [if_neg (by omega)]) _ (Ext.refl _)
 have hlen : 1 ≤ ws.length ∧ ws.length ≤ 60 := by simp only [decide_eq_false_iff_not] at h2; omega
 refine ⟨fun g x4 x5 x w' => ∃ (i : Nat) (a b : Int), x = .int .i64 i ∧ g + i = ws.length ∧ x4 = .int .i64 a ∧ x5 = .int .i64 b ∧ dpS ws i = some (a, b) ∧ Ext w1 w', ⟨ws.length, 0, 0, 0, rfl, by omega, rfl, rfl, rfl, Ext.refl _⟩, ?_⟩
 rintro g x4 x5 y junk w2 ⟨i, a, b, rfl, hg, rfl, rfl, hdp, e2⟩
 have hr := GE ws i a b hdp
 refine pr_w (b1.ext e2) ?_
 rw [(h1.ext e2).len, Ai]
 refine Ac (fun hlt => ?_) (fun hge => ?_)
 ·have hi : i < ws.length := by omega
  refine pr_w (b1.ext e2) ?_
  refine (h1.ext e2).at hi ?_
  refine Wy (h1.le hi) fun w3 e3 => ?_
  have E := e2.trans e3
  have hf := J3 ws[i]
  rw [Ai]
  refine orJ (fun h3 => ?_) (fun h3 => ?_)
  ·rw [A6]
   exact none0 (Tk hi hdp (.inl (by simpa using h3))) _ E
  rw [Ai]
  refine Ac (fun h4 => none0 (Tk hi hdp (.inr h4)) _ E) (fun h4 => ?_)
  have hs := YI hi hdp (by simp only [decide_eq_false_iff_not] at h3; omega)
  rw [AC, Ad (by omega) (by omega), Aw, Ad (by omega) (by omega), Dj, Aw, Ad (by omega) (by omega)]
  refine ⟨g - 1, by omega, i + 1, _, _, rfl, by omega, rfl, rfl, ?_, E⟩
  rw [hs, show a - form0 ws[i] + 1 = a + 1 - form0 ws[i] by omega]
 ·have hi : i = ws.length := by omega
  subst hi
  have hdF : depF ws = if a = 1 ∧ b ≤ 16 then some b else none := by unfold depF; rw [if_pos hlen, hdp]
  have HH := H w2 (e1.trans e2)
  rw [B5]
  refine orJ (fun h3 => ?_) (fun h3 => ?_)
  ·simp only [decide_eq_true_eq] at h3
   rw [hdF, if_neg (fun h => h3 h.1)] at HH
   rw [A6]; exact HH
  ·simp only [decide_eq_false_iff_not, Decidable.not_not] at h3
   rw [Aq]
   refine Ac (fun h4 => ?_) (fun h4 => ?_)
   ·rw [hdF, if_neg (fun h => by omega)] at HH; exact HH
   ·rw [hdF, if_pos (by omega)] at HH; exact HH
theorem NX {v : Value} {ws : List (List UInt8)} (h : Bm w v ws) (H : ∀ w', Ext w w' → K (.bool (depF ws).isSome) w') : call P Dq [v] w K := by
 obtain ⟨s, rfl, hs⟩ := h
 refine Aby ?_
 unfold Ok
 refine Du fun x w1 b1 e1 => ?_
 refine Bb b1 ?_
 refine Xr ⟨s, rfl, hs.ext e1⟩ fun w2 e2 => ?_
 rw [Aq]
 have HH := H w2 (e1.trans e2)
 cases hd : depF ws with
 | none => rw [hd] at HH; exact HH
 | some m =>
  rw [hd] at HH
  have := (RS hd).1
  rw [show decide ((some m).getD 0 > 0) = true from decide_eq_true (by simpa using this)]
  exact HH
theorem HF {v : Value} {ws : List (List UInt8)} (h : Bm w v ws) (H : ∀ w', Ext w w' → K (.int .i64 (ndS ws ws.length)) w') : call P Cx [v] w K := by
 obtain ⟨s, rfl, hs⟩ := h
 refine SK ?_
 unfold Gp
 refine Du fun x w1 b1 e1 => ?_
 have h1 := hs.ext e1
 have hb := h1.bound
 refine ⟨fun g y x w' => w' = w1 ∧ ∃ i : Nat, x = .int .i64 i ∧ g + i = ws.length ∧ y = .int .i64 (ndS ws i), ⟨ws.length, rfl, 0, rfl, by omega, rfl⟩, ?_⟩
 rintro g y x' junk w2 ⟨rfl, i, rfl, hg, rfl⟩
 refine pr_w b1 ?_
 rw [h1.len, Ai]
 refine Ac (fun hlt => ?_) (fun hge => ?_)
 ·have hi : i < ws.length := by omega
  refine pr_w b1 ?_
  refine h1.at hi ?_
  refine Su ?_
  have hv := MC ws[i]
  have hn := TB ws i
  rw [Aw, Ad (by omega) (by omega), Dj, Aw, Ad (by omega) (by omega)]
  refine ⟨g - 1, by omega, rfl, i + 1, rfl, by omega, ?_⟩
  simp only [ndS, LW hi]
 ·have hi : i = ws.length := by omega
  subst hi
  exact H _ e1
noncomputable def isPF (ws : List (List UInt8)) : Bool := (depF ws).isSome
noncomputable def depthF (ws : List (List UInt8)) : Int × Int := match depF ws with | none => (0, 1) | some m => (m, 0)
noncomputable def varsF (ws : List (List UInt8)) : Int × Int := if isPF ws then (ndS ws ws.length, 0) else (0, 1)
theorem Acx {v : Value} {ws : List (List UInt8)} (h : Bm w v ws) (H : ∀ w', Ext w w' → K (.bool (isPF ws)) w') : call P Ci [v] w K := DR h H
theorem AcM {v : Value} {ws : List (List UInt8)} (h : Bm w v ws) (H : ∀ w', Ext w w' → K (.bool (isPF ws)) w') : call P IL [v] w K := by
 obtain ⟨s, rfl, hs⟩ := h
 refine VX ?_
 unfold IC
 refine Du fun x w1 b1 e1 => ?_
 refine Bb b1 ?_
 exact NX ⟨s, rfl, hs.ext e1⟩ fun w2 e2 => H w2 (e1.trans e2)
theorem Z5 {v : Value} {ws : List (List UInt8)} (h : Bm w v ws) (H : ∀ w', Ext w w' → K (.tuple #[.int .i64 (depthF ws).1, .int .i64 (depthF ws).2]) w') : call P HL [v] w K := by
 obtain ⟨s, rfl, hs⟩ := h
 refine YE ?_
 unfold Kw
 refine Du fun x w1 b1 e1 => ?_
 refine pr_w b1 ?_
 refine Zj (hs.ext e1) fun n w2 e2 hn => ?_
 rw [A8, Ax, A5]
 have HH := H w2 (e1.trans e2)
 unfold depthF at HH
 cases hd : depF ws with
 | none => rw [hd] at HH; exact HH
 | some m =>
  rw [hd] at HH
  rw [hn m hd]
  exact HH
theorem Agn {v : Value} {ws : List (List UInt8)} (h : Bm w v ws) (H : ∀ w', Ext w w' → K (.tuple #[.int .i64 (depthF ws).1, .int .i64 (depthF ws).2]) w') : call P Lo [v] w K := by
 obtain ⟨s, rfl, hs⟩ := h
 refine YP ?_
 unfold Lz
 refine Du fun x w1 b1 e1 => ?_
 refine Bb b1 ?_
 refine NX ⟨s, rfl, hs.ext e1⟩ fun w2 e2 => ?_
 rw [A5]
 have E := e1.trans e2
 have HH := fun w' he => H w' he
 unfold depthF at HH
 cases hd : depF ws with
 | none => rw [hd] at HH; exact HH _ E
 | some m =>
  rw [hd] at HH
  refine AD rfl ?_
  refine Bb (b1.ext e2) ?_
  refine Xr ⟨s, rfl, hs.ext E⟩ fun w3 e3 => ?_
  rw [hd]
  exact HH _ (E.trans e3)
theorem ZY {v : Value} {ws : List (List UInt8)} (h : Bm w v ws) (H : ∀ w', Ext w w' → K (.tuple #[.int .i64 (varsF ws).1, .int .i64 (varsF ws).2]) w') : call P G8 [v] w K := by
 obtain ⟨s, rfl, hs⟩ := h
 refine TJ ?_
 unfold GV
 refine Du fun x w1 b1 e1 => ?_
 refine Bb b1 ?_
 refine DR ⟨s, rfl, hs.ext e1⟩ fun w2 e2 => ?_
 rw [A5]
 have E := e1.trans e2
 unfold varsF isPF at H
 cases hd : (depF ws).isSome
 ·rw [hd] at H; exact H _ E
 ·rw [hd] at H
  refine AD rfl ?_
  refine Bb (b1.ext e2) ?_
  refine Adw ⟨s, rfl, hs.ext E⟩ fun w3 e3 => ?_
  exact H _ (E.trans e3)
theorem ZV {v : Value} {ws : List (List UInt8)} (h : Bm w v ws) (H : ∀ w', Ext w w' → K (.tuple #[.int .i64 (varsF ws).1, .int .i64 (varsF ws).2]) w') : call P GG [v] w K := by
 obtain ⟨s, rfl, hs⟩ := h
 refine TX ?_
 unfold GL
 refine Du fun x w1 b1 e1 => ?_
 refine Bb b1 ?_
 refine NX ⟨s, rfl, hs.ext e1⟩ fun w2 e2 => ?_
 rw [A5]
 have E := e1.trans e2
 unfold varsF isPF at H
 cases hd : (depF ws).isSome
 ·rw [hd] at H; exact H _ E
 ·rw [hd] at H
  refine AD rfl ?_
  refine Bb (b1.ext e2) ?_
  refine HF ⟨s, rfl, hs.ext E⟩ fun w3 e3 => ?_
  exact H _ (E.trans e3)
end


section
open Go Go.Vc
variable {w : World} {K : Value → World → Prop} {lo hi : Nat} {v : Value}
structure Alt (w : World) (v : Value) (l : List (List UInt8)) : Prop where
 row : Row 1 w v l.length (l.map str)
 lt : ∀ s ∈ l, s.length ≤ 9223372036854775807
 cap : CapOk v
abbrev Af1 := SS
def CB (w : World) (lo hi : Nat) (v : Value) (l : List (List UInt8)) : Prop := OwnR w lo hi AM 1 v l.length (l.map str) ∧ ∀ s ∈ l, s.length ≤ 137438953472
theorem CB.ext {l : List (List UInt8)} {w' : World} (h : CB w lo hi v l) (he : Ext w w') : CB w' lo hi v l := ⟨h.1.ext he, h.2⟩
theorem CB.I {l : List (List UInt8)} (h : CB w lo hi v l) : Af1 w v l := ⟨Bc h.1.own, h.2, RX h.1.own⟩
def Cd (w : World) (lo hi : Nat) (v : Value) (l : List (List UInt8)) : Prop := ∃ s, v = .agg #[s] ∧ CB w lo hi s l
theorem Cd.ext {l : List (List UInt8)} {w' : World} (h : Cd w lo hi v l) (he : Ext w w') : Cd w' lo hi v l := let ⟨s, h1, h2⟩ := h; ⟨s, h1, h2.ext he⟩
theorem Cd.I {l : List (List UInt8)} (h : Cd w lo hi v l) : Bm w v l := let ⟨s, h1, h2⟩ := h; ⟨s, h1, h2.I⟩
theorem CQ {s : Value} (h : ∃ a n c, s = .slice a n c) : ∀ x ∈ [s], x.oneCell' = true := by
 intro x hx
 simp only [List.mem_cons, List.not_mem_nil, or_false] at hx
 rw [hx]; exact Hu h
theorem SS.sl {l : List (List UInt8)} (h : SS w v l) : ∃ a n c, v = .slice a n c := by obtain ⟨_, _, a, c, rfl, _⟩ := h.row; exact ⟨_, _, _, rfl⟩
end


section
open Go Go.Vc
variable {w : World} {K : Value → World → Prop}
theorem AbU {o : Obj} : (w.alloc o).heap[w.heap.size]? = some o := by
 show (w.heap.push o)[w.heap.size]? = some o
 simp
def SL {α : Type} (R : World → List Value → α → Prop) (s : Nat) (e : TypeId) (w : World) (base : Nat) (v : Value) (ls : List α) : Prop :=
 ∃ cs : List (List Value), cs.length = ls.length ∧ (∀ c ∈ cs, c.length = s) ∧ w.ownsRow base e s v ls.length cs.flatten ∧ ∀ i (h : i < cs.length) (h' : i < ls.length), R w cs[i] ls[i]
theorem Vo {s : Nat} : ∀ {cs : List (List Value)}, (∀ c ∈ cs, c.length = s) → ∀ {i j : Nat} (hi : i < cs.length) {u : Value}, cs[i][j]? = some u → cs.flatten[i * s + j]? = some u
 | [], _, i, j, hi, _, _ => absurd hi (Nat.not_lt_zero _)
 | c :: cs, h, 0, j, hi, u, hu => by
  rw [Nat.zero_mul, Nat.zero_add, List.flatten_cons]
  simp only [List.getElem_cons_zero] at hu
  have hj := (List.getElem?_eq_some_iff.1 hu).1
  rw [List.getElem?_append_left hj]; exact hu
 | c :: cs, h, i + 1, j, hi, u, hu => by
  have hc := h c List.mem_cons_self
  simp only [List.getElem_cons_succ] at hu
  have := Vo (s := s) (fun c' hc' => h c' (List.mem_cons_of_mem _ hc')) (i := i) (j := j) (by simpa using hi) hu
  rw [List.flatten_cons, List.getElem?_append_right (by rw [hc, Nat.succ_mul]; omega), hc]
  rw [show (i + 1) * s + j - s = i * s + j by rw [Nat.succ_mul]; omega]
  exact this
theorem Row.atA {s n : Nat} {v : Value} {xs cs : List Value} {t e : TypeId} {z : Value} {b : Nat} {d : TypeDesc} {K : Value → Prop} {k : IntKind} {i : Nat} (h : Row s w v n xs) (hi : i < n) (hl : cs.length = s) (hx : ∀ j u, cs[j]? = some u → xs[i * s + j]? = some u)
  (hu : P.underlying t = some (.slice e)) (ht : TI P e z s b) (hue : P.underlying e = some d) (hd : aggB d = true) (H : K (.agg cs.toArray)) :
  ixa P t v (.int k (i : Int)) w (fun a => ld P e a w K) := by
 obtain ⟨h1, h2, a, cap, rfl, h3⟩ := h
 obtain ⟨bl, o, rfl, hc⟩ := h3 (by omega)
 rw [Ug hu ht (by omega) (by omega)]
 rw [Ace hue hd ht hl (fun j u hj => ?_)]
 ·exact H
 ·rw [Addr.add_lit, Int.toNat_natCast, Nat.add_assoc]
  exact hc _ u (hx j u hj)
section
variable {α : Type} {R : World → List Value → α → Prop} {s : Nat} {e t : TypeId} {base : Nat} {v : Value} {ls : List α} {z : Value} {b : Nat} {d : TypeDesc}
theorem SL.ext {w' : World} (hR : ∀ c a, R w c a → R w' c a) (h : SL R s e w base v ls) (he : Ext w w') : SL R s e w' base v ls := by
 obtain ⟨cs, h1, h2, h3, h4⟩ := h
 exact ⟨cs, h1, h2, Di h3 he, fun i hi hi' => hR _ _ (h4 i hi hi')⟩
theorem SL.len {ty : TypeId} {K : Value → Prop} (h : SL R s e w base v ls) (hu : P.underlying t = some (.slice e)) : bl0 P .len #[t] ty [v] w K = K (.int .i64 ls.length) := by
 obtain ⟨cs, h1, h2, h3, h4⟩ := h
 exact (Bc h3).len hu
theorem SL.at {K : Value → Prop} {k : IntKind} {i : Nat} (h : SL R s e w base v ls) (hi : i < ls.length) (hu : P.underlying t = some (.slice e)) (ht : TI P e z s b) (hue : P.underlying e = some d) (hd : aggB d = true)
  (H : ∀ c, R w c ls[i] → K (.agg c.toArray)) : ixa P t v (.int k (i : Int)) w (fun a => ld P e a w K) := by
 obtain ⟨cs, h1, h2, h3, h4⟩ := h
 have hi' : i < cs.length := by omega
 exact Row.atA (Bc h3) hi (h2 _ (List.getElem_mem hi')) (fun j u hj => Vo h2 hi' hj) hu ht hue hd (H _ (h4 i hi' hi))
theorem SL.nil {KW : Value → World → Prop} (hu : P.underlying t = some (.slice e)) (ht : TI P e z s b) (H : ∀ v w', Ext w w' → SL R s e w' w.heap.size v ([] : List α) → KW v w') : bsl P t 0 [] w KW := by
 refine DG hu ht (H _ _ (Bg w _) ⟨[], rfl, (fun c hc => by cases hc), ?_, fun i hi => by cases hi⟩)
 have := World.ownsRow_lit (w := w) (base := w.heap.size) (e := e) (size := s) #[] 0 (Nat.le_refl _) (by decide) (by simp)
 simpa using this
theorem SL.push {KW : Value → World → Prop} {ty : TypeId} {c : List Value} {a : α} {w0 : World} {x : Value} (h : SL R s e w0 base v ls) (hx : Row s w x 1 c) (hc : c.length = s) (h1 : ∀ u ∈ c, u.oneCell' = true) (he : Ext w0 w) (hbase : base ≤ w0.heap.size)
  (hR : ∀ w' c a row, R w0 c a → (∀ k, row = some k → base ≤ k) → w.grownBy w' row → Ty w row e → R w' c a) (ha : R w0 c a)
  (hu : P.underlying t = some (.slice e)) (ht : TI P e z s b) (hzs : z.cells.size = s) (hs : 0 < s) (hn : ls.length ≤ 1048576) (hb : b ≤ 1024)
  (H : ∀ v' w', SL R s e w' base v' (ls ++ [a]) → w.grownBy w' v.ownBlock → (∀ k, v.ownBlock = some k → base ≤ k) → KW v' w') : bl2 P .append #[t, t] ty [v, x] w KW := by
 obtain ⟨cs, g1, g2, g3, g4⟩ := h
 have g3' := Di g3 he
 have hby : (ls.length + 1) * b ≤ 140737488355328 := by
  have : (ls.length + 1) * b ≤ 1048577 * 1024 := Nat.mul_le_mul (by omega) hb
  omega
 refine Jk g3' hx h1 hu ht hzs hs (by simp only [maxLen]; omega) hby (Nat.le_trans hbase he.size) fun v' w' ho hg => ?_
 have hk : ∀ k, v.ownBlock = some k → base ≤ k := fun k hk => (g3'.lt k hk).1
 refine H v' w' ⟨cs ++ [c], by simp [g1], fun c' hc' => ?_, ?_, fun i hi hi' => ?_⟩ hg hk
 ·rcases List.mem_append.1 hc' with hc' | hc'
  ·exact g2 c' hc'
  ·rw [List.mem_singleton] at hc'; rw [hc']; exact hc
 ·rw [List.flatten_append, List.length_append]
  simpa using ho
 ·have ty' := Ty.owns g3'
  by_cases hlt : i < cs.length
  ·have hlt' : i < ls.length := by omega
   rw [List.getElem_append_left hlt, List.getElem_append_left hlt']
   exact hR w' _ _ _ (g4 i hlt hlt') hk hg ty'
  ·have hi0 : i = cs.length := by simp at hi; omega
   subst hi0
   rw [List.getElem_append_right (Nat.le_refl _), List.getElem_append_right (by omega)]
   simp only [Nat.sub_self, g1, List.getElem_cons_zero]
   exact hR w' _ _ _ ha hk hg ty'
end
section
variable {base : Nat} {v : Value} {lo hi : Nat} {qs : List Rat}
end
end


section
open Go Go.Vc
variable {w : World} {K : Value → World → Prop} {lo hi : Nat} {v : Value}
abbrev PG := List (List UInt8)
structure RP1 (R : World → Value → PG → Prop) (w : World) (v : Value) (ps : List PG) : Prop where
 ex : ∃ ss : List Value, ss.length = ps.length ∧ Row 1 w v ps.length ss ∧ ∀ i (h : i < ss.length) (h' : i < ps.length), R w ss[i] ps[i]
end


section
open Go Go.Vc
variable {w : World} {K : Value → World → Prop} {lo hi : Nat} {v : Value}
abbrev KP := List UInt8 × List UInt8
abbrev kc (k : KP) : List Value := [str k.1, str k.2]
def kcs (l : List KP) : List Value := l.flatMap kc
structure KR (B : Nat) (w : World) (v : Value) (ks : List KP) : Prop where
 row : Row 2 w v ks.length (kcs ks)
 lt : ∀ k ∈ ks, k.1.length ≤ B ∧ k.2.length ≤ B
 cap : CapOk v
end


section
open Go Go.Vc
variable {w : World} {K : Value → World → Prop}
end


section
open Go Go.Vc
variable {w : World} {K : Value → World → Prop}
end


section
open Go Go.Vc
variable {w : World} {K : Value → World → Prop}
theorem AiX (s : Nat) : IntKind.u64.wrap ((6364136223846793005 : Int) * (s : Int)) = ((6364136223846793005 * s % 18446744073709551616 : Nat) : Int) := by
 rw [show ((6364136223846793005 : Int) * (s : Int)) = ((6364136223846793005 * s : Nat) : Int) by rw [Int.natCast_mul]; rfl, LM]
theorem Afi (s : Nat) : nxt s = (6364136223846793005 * s % 18446744073709551616 + 1442695040888963407) % 18446744073709551616 := by
 have : nxt s = (6364136223846793005 * s + 1442695040888963407) % 18446744073709551616 := rfl
 rw [this, Nat.mod_add_mod]
def Src (w : World) (base : Nat) (x : Value) (bs : List Nat) (p s : Nat) : Prop := ∃ v w0, IR .u8 w0 v bs ∧ Ext w0 w ∧ w0.heap.size ≤ base ∧ Bx w base BF x [v, .int .i64 (p : Int), .int .u64 (s : Int)] ∧ (∀ b ∈ bs, b < 256) ∧ bs.length ≤ 4096 ∧ p ≤ bs.length ∧ s < 18446744073709551616
theorem Src.ext {base : Nat} {x : Value} {bs : List Nat} {p s : Nat} {w' : World} (h : Src w base x bs p s) (he : Ext w w') : Src w' base x bs p s := by
 obtain ⟨v, w0, h1, h2, h3, h4, h5⟩ := h
 exact ⟨v, w0, h1, h2.trans he, h3, h4.ext he, h5⟩
end


section
open Go Go.Vc
variable {w : World} {K : Value → World → Prop}
theorem Aak {l : List UInt8} {c : UInt8} (H : K (.int .i64 (l.count c : Nat)) w) : call P CM [str l, .int .u8 (c.toNat : Nat)] w K :=
 Gh I4 (by kernel_rfl) rfl (by kernel_rfl) (e := Extern.BytealgCount.count) (by kernel_rfl) (fun c' hc => by
  refine ⟨_, c', Lib.run_countString ⟨l.toArray⟩ _ c', ?_⟩
  rw [hc, Afx]; exact H)
theorem AgS {l : List UInt8} {c : UInt8} (H : K (.int .i64 (l.count c : Nat)) w) : call P JP [str l, str [c]] w K := by
 refine WH ?_
 unfold J8
 rw [By Av, Ae]
 refine AD rfl ?_
 rw [By Av, Ae]
 refine A9 rfl ?_
 rw [show (0 : Int) = ((0 : Nat) : Int) from rfl, Db (i := 0) Av (by simp)]
 exact Aak H
theorem Z3 {c : UInt8} : ∀ {l s : List UInt8}, s ∈ splitL c l → s.length ≤ l.length := by
 intro l
 induction l with
 | nil => intro s hs; simp [splitL] at hs; simp [hs]
 | cons x r ih =>
  intro s hs
  rw [splitL] at hs
  split at hs
  ·rcases List.mem_cons.1 hs with rfl | h
   ·simp
   ·have := ih h; simp; omega
  ·split at hs
   ·rename_i h t he
    rcases List.mem_cons.1 hs with rfl | hm
    ·have := ih (s := h) (by rw [he]; exact List.mem_cons_self ..)
     simp; omega
    ·have := ih (s := s) (by rw [he]; exact List.mem_cons_of_mem _ hm)
     simp; omega
   ·simp only [List.mem_singleton] at hs
    rw [hs]; simp
theorem AeJ {α : Type} (a : List α) (x z : α) (n : Nat) : (a ++ List.replicate (n + 1) z).set a.length x = (a ++ [x]) ++ List.replicate n z := by
 rw [List.set_append_right _ _ (Nat.le_refl _), Nat.sub_self, List.replicate_succ, List.set_cons_zero, List.append_assoc]; rfl
set_option maxRecDepth 20000 in
theorem Ajf {l : List UInt8} (hl : l.length ≤ 137438953472) (H : ∀ v w', Ext w w' → CB w' w.heap.size w'.heap.size v (splitL 32 l) → K v w') : call P Jp [str l, str [32]] w K := by
 refine Xy ?_
 unfold JB
 refine Ud ?_
 unfold GM
 rw [Ae]
 refine AD (by decide) ?_
 rw [A7 (b := [])]
 refine AD (by simp) ?_
 have hsl := Rw 32 l
 have hcl : l.count 32 ≤ l.length := List.count_le_length
 refine ⟨fun x w' => w' = w ∧ x = .int .i64 ((splitL 32 l).length : Nat), ?_, ?_⟩
 rotate_left
 ·rw [Ai]
  refine A9 (by decide) ?_
  refine AgS ?_
  rw [Aw, Ad (by omega) (by omega)]
  exact ⟨rfl, by rw [hsl]; congr 1⟩
 rintro x3 junk w1 ⟨rfl, rfl⟩
 rw [By Av, Aw, Ad (by omega) (by omega), Ge, show min ((splitL 32 l).length : Int) ((l.length : Int) + 1) = ((splitL 32 l).length : Nat) by omega]
 generalize hn : (splitL 32 l).length = n at hsl
 refine ZI AT Bz rfl (by omega) (by simp only [maxLen]; omega) fun w2 v ho he => ?_
 rw [AC, Ad (by omega) (by omega)]
 refine ⟨fun x0 x10 w' => ∃ (done : List (List UInt8)) (rest : List UInt8), x0 = str rest ∧ x10 = .int .i64 (done.length : Nat) ∧ splitL 32 l = done ++ [rest] ∧ Ext w1 w' ∧ w'.ownsRow w1.heap.size AM 1 v n ((done ++ List.replicate (n - done.length) []).map str), ?_, ?_⟩
 ·rintro x0 x10 junk w3 ⟨done, rest, rfl, rfl, hs, e3, o3⟩
  have hdl : done.length + 1 = n := by rw [← hn, hs]; simp
  refine Rz o3 (by omega) rfl AT Bz fun w4 o4 g4 => ?_
  rw [Aw, Ad (by omega) (by omega)]
  have e4 : Ext w1 w4 := Ab e3 (fun g hg => (o3.lt g hg).1) g4
  have hrow : ((done ++ List.replicate (n - done.length) []).map str).set done.length (str rest) = (splitL 32 l).map str := by
   rw [show n - done.length = 0 + 1 by omega, ← List.map_set, AeJ, hs]
   simp
  rw [hrow] at o4
  have o4' : w4.ownsRow w1.heap.size AM 1 v (splitL 32 l).length ((splitL 32 l).map str) := by rw [hn]; exact o4
  have fin : K v w4 := H v w4 e4 ⟨OwnR.of o4', fun s hs => Nat.le_trans (Z3 hs) hl⟩
  rcases o4.2 with ⟨_, h0⟩ | ⟨g, cap, cur, rfl, _, _, hnc, _⟩
  ·omega
  ·rw [show ((done.length : Nat) : Int) + 1 = ((n : Nat) : Int) by omega, sli_h AT Bz hnc]
   exact fin
 ·refine ⟨fun g x0 x10 w' => ∃ (done : List (List UInt8)) (rest : List UInt8), x0 = str rest ∧ x10 = .int .i64 (done.length : Nat) ∧ g + done.length = n ∧ splitL 32 l = done ++ splitL 32 rest ∧ rest.length ≤ l.length ∧ Ext w1 w' ∧ w'.ownsRow w1.heap.size AM 1 v n ((done ++ List.replicate (n - done.length) []).map str),
   ⟨n, [], l, rfl, rfl, rfl, rfl, Nat.le_refl _, he, by simpa using ho⟩, ?_⟩
  rintro g x0 x10 junk w3 ⟨done, rest, rfl, rfl, hg, hs, hrl, e3, o3⟩
  have hcount : done.length + (splitL 32 rest).length = n := by rw [← hn, hs]; simp
  have hrlen := Rw 32 rest
  rw [Ai]
  refine Ac (fun hlt => ?_) (fun hge => ?_)
  ·refine X7 ?_
   unfold JY
   refine Abv ?_
   have hmem : 32 ∈ rest := List.count_pos_iff.1 (by omega)
   obtain ⟨a, b, rfl, hno⟩ := Qg hmem
   rw [L6 hno]
   dsimp only
   rw [Ai]
   refine AD (by simp) ?_
   rw [List.length_append, List.length_cons] at hrl
   rw [Aw, Ad (by omega) (by omega), show ((a.length : Nat) : Int) + 0 = ((a.length : Nat) : Int) by omega, RB Av (by simp)]
   have e1 : (a ++ 32 :: b).take a.length = a := by simp
   rw [e1]
   refine Rz o3 (by omega) rfl AT Bz fun w4 o4 g4 => ?_
   have e4 : Ext w1 w4 := Ab e3 (fun g hg => (o3.lt g hg).1) g4
   rw [By Av, Aw, List.length_singleton, Ad (by omega) (by omega), show ((a.length : Nat) : Int) + ((1 : Nat) : Int) = ((a.length + 1 : Nat) : Int) by omega, DN Av (by simp)]
   have e2 : (a ++ 32 :: b).drop (a.length + 1) = b := by rw [← List.drop_drop]; simp
   rw [e2, Aw, Ad (by omega) (by omega)]
   rw [RZ hno] at hs
   refine ⟨g - 1, by omega, done ++ [a], b, rfl, ?_, by simp; omega, by rw [hs]; simp, by omega, e4, ?_⟩
   ·congr 1; simp
   ·have : ((done ++ List.replicate (n - done.length) []).map str).set done.length (str a) = ((done ++ [a]) ++ List.replicate (n - (done ++ [a]).length) []).map str := by
     rw [← List.map_set, show n - done.length = (n - (done ++ [a]).length) + 1 by simp; omega, AeJ]
    rw [this] at o4; exact o4
  ·have h1 : (splitL 32 rest).length = 1 := by
    have := Um 32 rest
    have : 0 < (splitL 32 rest).length := List.length_pos_iff.2 this
    omega
   have hno : 32 ∉ rest := fun hm => by
    have := List.count_pos_iff.2 hm
    omega
   rw [Qb hno] at hs
   exact ⟨done, rest, rfl, rfl, hs, e3, o3⟩
theorem AaC {v : Value} {l : List (List UInt8)} {s : List UInt8} {base : Nat} {KW : Value → World → Prop} (h : w.ownsRow base AM 1 v l.length (l.map str)) (hn : l.length ≤ 274877906944) (hbase : base ≤ w.heap.size)
  (H : ∀ v' w', w'.ownsRow base AM 1 v' (l ++ [s]).length ((l ++ [s]).map str) → w.grownBy w' v.ownBlock → KW v' w') : bsl P B4 1 [(0, str s)] w fun y w2 => bl2 P .append #[B4, B4] B4 [v, y] w2 KW :=
 Hc (fun _ _ q => q.2) (app1x h rfl AT Bz rfl (by simp only [maxLen]; omega) (by omega) hbase fun v' w' ho hg => H v' w' (by rw [List.length_append, List.map_append]; exact ho) hg)
set_option maxRecDepth 20000 in
theorem AdZ {l : List UInt8} (hl : l.length ≤ 137438953472) (H : ∀ v w', Ext w w' → CB w' w.heap.size w'.heap.size v (splitL 32 l) → K v w') : call P Jw [str l, .int .u8 32] w K := by
 refine XG ?_
 unfold JE
 refine DG AT Bz ?_
 have he := Bg w (.cells #[] AM)
 have hz : (w.alloc (.cells #[] AM)).ownsRow w.heap.size AM 1 (.slice (some ⟨w.heap.size, 0, none⟩) 0 0) 0 [] := B9 w [] AM
 generalize w.alloc (.cells #[] AM) = w1 at he hz ⊢
 refine ⟨fun g x5 x6 x7 w' => ∃ (done : List (List UInt8)) (i j : Nat), x6 = .int .i64 i ∧ x7 = .int .i64 j ∧ g + j = l.length ∧ i ≤ j ∧ done.length ≤ j ∧ splitL 32 l = done ++ splitL 32 (l.drop i) ∧ 32 ∉ (l.take j).drop i ∧ Ext w w' ∧ w'.ownsRow w.heap.size AM 1 x5 done.length (done.map str),
  ⟨l.length, [], 0, 0, rfl, rfl, rfl, Nat.le_refl _, Nat.le_refl _, by simp, by simp, he, hz⟩, ?_⟩
 rintro g x5 x6 x7 junk w2 ⟨done, i, j, rfl, rfl, hg, hij, hdl, hs, hno, e2, o2⟩
 rw [By Av, Ai]
 refine Ac (fun hlt => ?_) (fun hge => ?_)
 ·have hj : j < l.length := by omega
  have hdrop : l.drop i = (l.take j).drop i ++ l[j] :: l.drop (j + 1) := by
   conv => lhs; rw [← List.take_append_drop j l, List.drop_append_of_le_length (by rw [List.length_take]; omega), List.drop_eq_getElem_cons hj]
  rw [Db Av hj, Ae]
  refine Ac (fun h => ?_) (fun h => ?_)
  ·have hc : l[j] = 32 := UInt8.toNat_inj.1 (show l[j].toNat = 32 by omega)
   rw [Ahr Av hij (by omega)]
   refine AaC o2 (by omega) e2.size fun v' w3 o3 g3 => ?_
   rw [Aw, Ad (by omega) (by omega), Aw, Ad (by omega) (by omega)]
   rw [hdrop, hc, RZ hno] at hs
   refine ⟨g - 1, by omega, done ++ [(l.take j).drop i], j + 1, j + 1, rfl, rfl, by omega, Nat.le_refl _, by simp; omega, by rw [hs]; simp, ?_, Ab e2 (fun g hg => (o2.lt g hg).1) g3, o3⟩
   have : (l.take (j + 1)).drop (j + 1) = [] := List.drop_eq_nil_of_le (by rw [List.length_take]; omega)
   rw [this]; simp
  ·rw [Aw, Ad (by omega) (by omega)]
   refine ⟨g - 1, by omega, done, i, j + 1, rfl, rfl, by omega, by omega, by omega, hs, ?_, e2, o2⟩
   rw [List.take_succ_eq_append_getElem hj, List.drop_append_of_le_length (by rw [List.length_take]; omega)]
   intro hm
   rcases List.mem_append.1 hm with hm | hm
   ·exact hno hm
   ·simp only [List.mem_singleton] at hm
    rw [← hm] at h
    exact h rfl
 ·have hj : j = l.length := by omega
  subst hj
  rw [List.take_length] at hno
  rw [DN Av hij]
  refine AaC o2 (by omega) e2.size fun v' w3 o3 g3 => ?_
  have e3 : Ext w w3 := Ab e2 (fun g hg => (o2.lt g hg).1) g3
  rw [Qb hno] at hs
  rw [← hs] at o3
  exact H v' w3 e3 ⟨OwnR.of o3, fun s hs => Nat.le_trans (Z3 hs) hl⟩
noncomputable def parsePF (s : ByteArray) : List (List UInt8) × Int := if isPF (splitL 32 s.data.toList) then (splitL 32 s.data.toList, 0) else ([], 6)
theorem XF {s : Value} {K : Value → Prop} (hs : ∃ a l c, s = .slice a l c) : bld P AF [(0, s)] w K = K (.agg #[s]) := by
 obtain ⟨a, l, c, rfl⟩ := hs
 exact DT (by kernel_rfl)
theorem Ad6 {K : Value → Prop} : bld P AF [] w K = K (.agg #[.slice none 0 0]) := DT (by kernel_rfl)
theorem Af9 (w : World) (lo hi : Nat) : CB w lo hi (.slice none 0 0) [] := ⟨⟨⟨rfl, .inl ⟨rfl, rfl⟩⟩, fun k hk => by cases hk⟩, fun p hp => by cases hp⟩
theorem Aec {w1 w2 : World} {b1 b2 : Nat} {t1 t2 : TypeId} {p q : Value} {c1 c2 : List Value} (h1 : Bx w1 b1 t1 p c1) (h2 : Bx w2 b2 t2 q c2) (h : w1.heap.size ≤ b2) : blk q ≠ blk p := by
 obtain ⟨g, rfl, _, hg⟩ := h1
 obtain ⟨g', rfl, hb, _⟩ := h2
 have := Gf hg
 simp only [blk, ne_eq, Option.some.injEq]
 omega
theorem Ql {s : ByteArray} (hz : s.size ≤ 137438953472) (H : ∀ u w', Ext w w' → Cd w' w.heap.size w'.heap.size u (parsePF s).1 → K (.tuple #[u, .int .i64 (parsePF s).2]) w') : call P Ec [.string s] w K := by
 have hl : s.data.toList.length ≤ 137438953472 := by rw [Array.length_toList]; exact hz
 unfold parsePF at H
 rw [Agh]
 generalize s.data.toList = l at *
 refine SJ ?_
 unfold Gl
 refine BI As fun x w1 b1 e1 _ => ?_
 refine Ajf hl fun v w2 e2 o2 => ?_
 have E2 := e1.trans e2
 have hsl := o2.I.sl
 rw [XF hsl]
 refine BI As fun y w3 b3 e3 _ => ?_
 have n13 := Aec b1 b3 e2.size
 refine b3.put As (ds := [v]) rfl rfl (CQ hsl) fun w4 b4 g4 => ?_
 have e4 : Ext w2 w4 := Ab e3 (fun g hg => (b3.blk_lt hg).1) g4
 have o4 := o2.ext e4
 refine Bb b4 ?_
 refine DR ⟨v, rfl, o4.I⟩ fun w5 e5 => ?_
 have E5 := E2.trans (e4.trans e5)
 have b1 := ((b1.ext e2).ext e4).ext e5
 have o5 := o4.ext e5
 have b4 := b4.ext e5
 rw [A5]
 unfold isPF at H
 cases hp : (depF (splitL 32 l)).isSome
 ·rw [hp] at H
  refine A9 rfl ?_
  rw [Ad6]
  refine b1.put As (ds := [.slice none 0 0]) rfl rfl (CQ ⟨_, _, _, rfl⟩) fun w6 b6 g6 => ?_
  refine b6.getc Bo rfl As rfl ?_
  exact H _ w6 (Ab E5 (fun g hg => (b1.blk_lt hg).1) g6) ⟨_, rfl, Af9 _ _ _⟩
 ·rw [hp] at H
  refine AD rfl ?_
  refine Bb b4 ?_
  refine b1.put As (ds := [v]) rfl rfl (CQ hsl) fun w6 b6 g6 => ?_
  refine b6.getc Bo rfl As rfl ?_
  refine H _ w6 (Ab E5 (fun g hg => (b1.blk_lt hg).1) g6) ⟨v, rfl, ⟨⟨Cw (AX o5.1.own g6 (Ty.box b1) (by decide)) e1.size, fun k hk => Nat.lt_of_lt_of_le (o5.1.top k hk) ?_⟩, o5.2⟩⟩
  exact Nat.le_trans (e4.trans e5).size g6.size
theorem Yi {s : ByteArray} (hz : s.size ≤ 137438953472) (H : ∀ u w', Ext w w' → Bm w' u (parsePF s).1 → K (.tuple #[u, .int .i64 (parsePF s).2]) w') : call P Gk [.string s] w K := by
 have hl : s.data.toList.length ≤ 137438953472 := by rw [Array.length_toList]; exact hz
 unfold parsePF at H
 rw [Agh]
 generalize s.data.toList = l at *
 refine SN ?_
 unfold Gj
 refine BI As fun x w1 b1 e1 _ => ?_
 refine AdZ hl fun v w2 e2 o2 => ?_
 have E2 := e1.trans e2
 have hsl := o2.I.sl
 rw [XF hsl]
 refine BI As fun y w3 b3 e3 _ => ?_
 refine b3.put As (ds := [v]) rfl rfl (CQ hsl) fun w4 b4 g4 => ?_
 have e4 : Ext w2 w4 := Ab e3 (fun g hg => (b3.blk_lt hg).1) g4
 have o4 := o2.ext e4
 refine Bb b4 ?_
 refine NX ⟨v, rfl, o4.I⟩ fun w5 e5 => ?_
 have E5 := E2.trans (e4.trans e5)
 have b1 := ((b1.ext e2).ext e4).ext e5
 have o5 := o4.ext e5
 have b4 := b4.ext e5
 rw [A5]
 unfold isPF at H
 cases hp : (depF (splitL 32 l)).isSome
 ·rw [hp] at H
  refine A9 rfl ?_
  rw [Ad6]
  refine b1.put As (ds := [.slice none 0 0]) rfl rfl (CQ ⟨_, _, _, rfl⟩) fun w6 b6 g6 => ?_
  refine b6.getc Bo rfl As rfl ?_
  exact H _ w6 (Ab E5 (fun g hg => (b1.blk_lt hg).1) g6) ⟨_, rfl, (Af9 w6 0 0).I⟩
 ·rw [hp] at H
  refine AD rfl ?_
  refine Bb b4 ?_
  refine b1.put As (ds := [v]) rfl rfl (CQ hsl) fun w6 b6 g6 => ?_
  refine b6.getc Bo rfl As rfl ?_
  have o6 : CB w6 w1.heap.size w2.heap.size v (splitL 32 l) := ⟨⟨AX o5.1.own g6 (Ty.box b1) (by decide), o5.1.top⟩, o5.2⟩
  exact H _ w6 (Ab E5 (fun g hg => (b1.blk_lt hg).1) g6) ⟨v, rfl, o6.I⟩
end


section
open Go Go.Vc
variable {w : World} {K : Value → World → Prop}
end


section
open Go Go.Vc
variable {w : World} {K : Value → World → Prop}
end


section
open Go Go.Vc
variable {w : World} {K : Value → World → Prop}
structure ER (w : World) (v ov tv : Value) (o : List Nat) (t : List (List Nat)) (n : Nat) : Prop where
 val : v = .agg #[ov, tv]
 ord : FI w ov (o.map Int.ofNat)
 tab : FSS w tv t
 good : Good n t
 len : o.length = n
 lt : ∀ x ∈ o, x < n
structure FinL (n : Nat) (b : List Nat) : Prop where
 len : b.length = n
 fin : b.all finB = true
 lt : ∀ x ∈ b, x < 4294967296
end


section
open Go Go.Vc
variable {w : World} {K : Value → World → Prop}
theorem RL {f : FuncId} {cap : Array Value} {args : List Value} (H : call P f (args ++ cap.toList) w K) : callv P (.func (.func f) #[] cap) args w K := by
 unfold callv
 have e : (do let d ← Deferred.ofValue (.func (.func f) #[] cap) args.toArray; invoke d.target d.args) = callFunc f (args ++ cap.toList).toArray := by
  show callFunc f ((#[] ++ args.toArray) ++ cap) = _
  congr 1
  simp
 rw [e]; exact H
end


section
open Go Go.Vc
variable {w : World} {K : Value → World → Prop}
end


section
open Go Go.Vc
variable {w : World} {K : Value → World → Prop}
theorem Kt (md : Int) (q : Rat) : (rndQ md q).1 < 4294967296 := by
 have ho : ∀ b, overB md b < 4294967296 := by
  intro b
  unfold overB
  cases b <;> simp <;> split <;> omega
 have hr : ∀ m e, (roundF md m e).1 < 4294967296 := by
  intro m e
  unfold roundF
  split
  ·decide
  ·simp only
   split
   ·exact ho _
   ·exact OG _ _ _
 unfold rndQ
 split
 ·exact hr _ _
 ·decide
end


section
open Go Go.Vc
variable {w : World} {K : Value → World → Prop}
theorem AaJ {t : Nat} {q : Int} {s : Bool} (h : Cut t q) : Vc.Fin Ieee.single (W Ieee.single s t q) := by
 obtain ⟨k, l, r, _⟩ := CK (s := s) hss h.has
 rcases DF Ieee.single (W Ieee.single s t q) with h1 | h1 | h1
 ·exact h1
 ·rw [KC (by decide) h1] at r; cases r
 ·obtain ⟨x, hx⟩ := AlP (f := Ieee.single) (by decide) h1
  rw [hx] at r; cases r
theorem W6 {md m e : Int} (h : (roundF md m e).2 ≠ 5) : Vc.Fin Ieee.single (roundF md m e).1 := by
 unfold roundF at *
 split
 ·decide
 ·rename_i h0
  rw [if_neg h0] at h
  simp only at h ⊢
  split
  ·rename_i h1
   rw [if_pos h1] at h
   exact absurd rfl h
  ·rename_i h1
   have hq : -149 ≤ qOf m.natAbs e := by unfold qOf; omega
   exact AaJ ⟨U4 _ _ _ _, hq, by omega⟩
theorem AjV {l : List UInt8} {b : Nat} (h : pF l = some b) : b < 4294967296 ∧ Vc.Fin Ieee.single b := by
 unfold pF at h
 split at h
 ·cases h
 ·rename_i p hp
  split at h
  ·rename_i h0
   simp only [Option.some.injEq] at h
   subst h
   refine ⟨Kt _ _, ?_⟩
   rw [QH] at h0 ⊢
   exact W6 (by rw [h0]; decide)
  ·cases h
structure Mach (α : Type) where
 leaf : List UInt8 → α
 one : List UInt8 → α → α × Int
 two : List UInt8 → α → α → α × Int
 z : α
section
variable {α : Type} (M : Mach α) (ws : List (List UInt8))
noncomputable def Mach.step (l : List UInt8) (st : List α) : List α × Int :=
 if form0 l = 0 then (st ++ [M.leaf l], 0)
 else if form0 l = 1 then (st.take (st.length - 1) ++ [(M.one l (st.getD (st.length - 1) M.z)).1], (M.one l (st.getD (st.length - 1) M.z)).2)
 else (st.take (st.length - 2) ++ [(M.two l (st.getD (st.length - 2) M.z) (st.getD (st.length - 1) M.z)).1], (M.two l (st.getD (st.length - 2) M.z) (st.getD (st.length - 1) M.z)).2)
noncomputable def Mach.run : Nat → List α × Int
 | 0 => ([], 0)
 | i + 1 => if (Mach.run i).2 = 0 then M.step (ws.getD i []) (Mach.run i).1 else Mach.run i
noncomputable def Mach.res : α × Int := if (M.run ws ws.length).2 = 0 then ((M.run ws ws.length).1.getD 0 M.z, 0) else (M.z, (M.run ws ws.length).2)
theorem Mach.stop {i : Nat} (h : (M.run ws i).2 ≠ 0) : ∀ j, M.run ws (i + j) = M.run ws i
 | 0 => rfl
 | j + 1 => by
  rw [← Nat.add_assoc, Mach.run, Mach.stop h j, if_neg h]
theorem Mach.bad {i : Nat} (hi : i ≤ ws.length) (h : (M.run ws i).2 ≠ 0) : M.res ws = (M.z, (M.run ws i).2) := by
 have := M.stop ws h (ws.length - i)
 rw [Nat.add_sub_cancel' hi] at this
 unfold Mach.res
 rw [this, if_neg h]
theorem Mach.succ {i : Nat} {st : List α} (h : M.run ws i = (st, 0)) : M.run ws (i + 1) = M.step (ws.getD i []) st := by
 rw [Mach.run, h, if_pos rfl]
theorem Vu {ws : List (List UInt8)} {m : Int} (h : depF ws = some m) : ∃ m', dpS ws ws.length = some (1, m') ∧ m' = m ∧ ws.length ≤ 60 ∧ 1 ≤ ws.length := by
 unfold depF at h
 split at h
 ·rename_i h1
  split at h
  ·cases h
  ·rename_i a b e
   split at h
   ·rename_i h2
    obtain ⟨rfl, _⟩ := h2
    exact ⟨b, e, by simpa using h, h1.2, h1.1⟩
   ·cases h
 ·cases h
theorem Abg {ws : List (List UInt8)} {m : Int} (h : depF ws = some m) {i : Nat} (hi : i < ws.length) {a b : Int} (e : dpS ws i = some (a, b)) : 0 ≤ form0 ws[i] ∧ form0 ws[i] ≤ a ∧ dpS ws (i + 1) = some (a + 1 - form0 ws[i], max b (a + 1 - form0 ws[i])) := by
 have : ¬ (form0 ws[i] < 0 ∨ a < form0 ws[i]) := fun hb => by
  rw [Tk hi e hb] at h; cases h
 exact ⟨by omega, by omega, YI hi e this⟩
theorem Mach.step_all {p : α → Prop} {l : List UInt8} {st : List α} (hst : ∀ a ∈ st, p a) (hl : p (M.leaf l)) (h1 : ∀ a, p a → (M.one l a).2 = 0 → p (M.one l a).1) (h2 : ∀ a b, p a → p b → (M.two l a b).2 = 0 → p (M.two l a b).1)
  (hz : p M.z) (hc : (M.step l st).2 = 0) : ∀ a ∈ (M.step l st).1, p a := by
 have hg : ∀ i, p (st.getD i M.z) := fun i => by
  by_cases hi : i < st.length
  ·rw [List.getD_eq_getElem?_getD, List.getElem?_eq_getElem hi]; exact hst _ (List.getElem_mem hi)
  ·rw [List.getD_eq_getElem?_getD, List.getElem?_eq_none (by omega)]; exact hz
 unfold Mach.step at *
 split at hc
 ·rename_i h
  rw [if_pos h]
  intro a ha
  rcases List.mem_append.1 ha with ha | ha
  ·exact hst a ha
  ·rw [List.mem_singleton] at ha; rw [ha]; exact hl
 ·rename_i h
  rw [if_neg h]
  split at hc
  ·rename_i h'
   rw [if_pos h']
   intro a ha
   rcases List.mem_append.1 ha with ha | ha
   ·exact hst a (List.mem_of_mem_take ha)
   ·rw [List.mem_singleton] at ha; rw [ha]; exact h1 _ (hg _) hc
  ·rename_i h'
   rw [if_neg h']
   intro a ha
   rcases List.mem_append.1 ha with ha | ha
   ·exact hst a (List.mem_of_mem_take ha)
   ·rw [List.mem_singleton] at ha; rw [ha]; exact h2 _ _ (hg _) (hg _) hc
end
theorem El {α : Type} {l : List α} {i : Nat} (h : i < l.length) (d : α) : l.getD i d = l[i] := by
 rw [List.getD_eq_getElem?_getD, List.getElem?_eq_getElem h]; rfl
theorem Ux {s : Nat} : ∀ (k : Nat) {cs : List (List Value)}, (∀ c ∈ cs, c.length = s) → cs.flatten.take (k * s) = (cs.take k).flatten
 | 0, cs, _ => by simp
 | k + 1, [], _ => by simp
 | k + 1, c :: cs, h => by
  have hc := h c List.mem_cons_self
  rw [List.flatten_cons, List.take_succ_cons, List.flatten_cons, ← Ux k (fun c' h' => h c' (List.mem_cons_of_mem _ h')), List.take_append, hc,
   List.take_of_length_le (show c.length ≤ (k + 1) * s by rw [hc, Nat.succ_mul]; omega), show (k + 1) * s - s = k * s by rw [Nat.succ_mul]; omega]
section
variable {α : Type} {R : World → List Value → α → Prop} {s : Nat} {e t : TypeId} {base : Nat} {v : Value} {ls : List α} {z : Value} {b : Nat} {d : TypeDesc}
theorem AeW {n k : Nat} {a : Option Addr} {cap : Nat} {xs : List Value} (h : w.ownsRow base e s (.slice a n cap) n xs) (hk : k ≤ n) : w.ownsRow base e s (.slice a k cap) k (xs.take (k * s)) := by
 obtain ⟨h1, h2⟩ := h
 refine ⟨by rw [List.length_take, h1]; exact Nat.min_eq_left (Nat.mul_le_mul_right _ hk), ?_⟩
 rcases h2 with ⟨h3, h4⟩ | ⟨g, cap', cur, h3, h4, h5, h6, h7, h8, h9⟩
 ·simp only [Value.slice.injEq] at h3
  obtain ⟨rfl, _, rfl⟩ := h3
  exact .inl ⟨by rw [show k = 0 by omega], by omega⟩
 ·simp only [Value.slice.injEq, true_and] at h3
  obtain ⟨rfl, rfl⟩ := h3
  refine .inr ⟨g, cap, cur, rfl, h4, h5, by omega, h7, h8, ?_⟩
  rw [← h9, List.take_take, Nat.min_eq_left (Nat.mul_le_mul_right _ hk)]
theorem SL.take {K : Value → Prop} {ik : IntKind} {k : Nat} (h : SL R s e w base v ls) (hk : k ≤ ls.length) (hu : P.underlying t = some (.slice e)) (ht : TI P e z s b) (H : ∀ v', SL R s e w base v' (ls.take k) → K v') :
  sli P t v none (some (.int ik (k : Int))) none w K := by
 obtain ⟨cs, h1, h2, h3, h4⟩ := h
 have hv : ∃ a cap, v = .slice a ls.length cap ∧ ls.length ≤ cap := by
  rcases h3.2 with ⟨h5, h6⟩ | ⟨g, cap, cur, h5, _, _, h6, _⟩
  ·exact ⟨none, 0, by rw [h5, h6], by omega⟩
  ·exact ⟨_, cap, h5, h6⟩
 obtain ⟨a, cap, rfl, hcap⟩ := hv
 rw [sli_h hu ht (by omega)]
 refine H _ ⟨cs.take k, by simp [h1], fun c hc => h2 c (List.mem_of_mem_take hc), ?_, fun i hi hi' => ?_⟩
 ·have := AeW h3 hk
  rw [Ux k h2] at this
  rw [List.length_take, Nat.min_eq_left hk]
  exact this
 ·have := h4 i (by simp at hi; omega) (by simp at hi'; omega)
  simpa using this
end
noncomputable def askF (ws : List (List UInt8)) (fine : Bool) (n : Nat) : Int := if isPF ws = false ∨ fine = false then 1 else if (n : Int) < ndS ws ws.length ∨ 3 < n then 2 else 0
set_option maxRecDepth 20000 in
theorem AiE {v : Value} {ws : List (List UInt8)} {fine : Bool} {n : Nat} (h : Bm w v ws) (H : ∀ w', Ext w w' → K (.int .i64 (askF ws fine n)) w') : call P OW [v, .bool fine, .int .i64 (n : Nat)] w K := by
 obtain ⟨s, rfl, hs⟩ := h
 refine AbX ?_
 unfold On
 refine Du fun x w1 b1 e1 => ?_
 refine Bb b1 ?_
 refine DR ⟨s, rfl, hs.ext e1⟩ fun w2 e2 => ?_
 rw [A5]
 have E2 := e1.trans e2
 have b1 := b1.ext e2
 have hs := hs.ext E2
 refine orJ (fun h1 => ?_) (fun h1 => ?_)
 ·rw [A6]
  have : askF ws fine n = 1 := by unfold askF isPF; rw [if_pos (.inl (by simpa using h1))]
  rw [this] at H; exact H _ E2
 rw [A5]
 refine Az (fun h2 => ?_) (fun h2 => ?_)
 ·have : askF ws fine n = 1 := by unfold askF; rw [if_pos (.inr (by simpa using h2))]
  rw [this] at H; exact H _ E2
 refine Bb b1 ?_
 refine Adw ⟨s, rfl, hs⟩ fun w3 e3 => ?_
 have E3 := E2.trans e3
 have h0 : ¬ (isPF ws = false ∨ fine = false) := by unfold isPF; simp at h1 h2; simp [h1, h2]
 rw [Ai]
 refine orJ (fun h3 => ?_) (fun h3 => ?_)
 ·rw [A6]
  have : askF ws fine n = 2 := by unfold askF; rw [if_neg h0, if_pos (.inl (by simpa using h3))]
  rw [this] at H; exact H _ E3
 rw [Aq]
 refine Ac (fun h4 => ?_) (fun h4 => ?_)
 ·have : askF ws fine n = 2 := by unfold askF; rw [if_neg h0, if_pos (.inr (by omega))]
  rw [this] at H; exact H _ E3
 ·have : askF ws fine n = 0 := by unfold askF; rw [if_neg h0, if_neg (by simp at h3; omega)]
  rw [this] at H; exact H _ E3
set_option maxRecDepth 20000 in
theorem Afh {v u : Value} {ws : List (List UInt8)} {vs : List Nat} (h : Bm w v ws) (hu : FS w u vs) (H : ∀ w', Ext w w' → K (.int .i64 (askF ws (vs.all finB) vs.length)) w') : call P KI [v, u] w K := by
 obtain ⟨s, rfl, hs⟩ := h
 refine XP ?_
 unfold Lw
 refine Du fun x w1 b1 e1 => ?_
 refine Bb b1 ?_
 refine NX ⟨s, rfl, hs.ext e1⟩ fun w2 e2 => ?_
 rw [A5]
 have E2 := e1.trans e2
 have b1 := b1.ext e2
 have hs := hs.ext E2
 have hu := hu.ext E2
 have hb := hu.bound
 refine Az (fun h1 => ?_) (fun h1 => ?_)
 ·have : askF ws (vs.all finB) vs.length = 1 := by unfold askF isPF; rw [if_pos (.inl (by simpa using h1))]
  rw [this] at H; exact H _ E2
 refine ⟨fun m x w' => w' = w2 ∧ ∃ i : Nat, x = .int .i64 i ∧ m + i = vs.length ∧ (vs.take i).all finB = true, ⟨vs.length, rfl, 0, rfl, by omega, by simp⟩, ?_⟩
 rintro m x junk w' ⟨rfl, i, rfl, hm, hall⟩
 rw [hu.row.len B7, Ai]
 refine Ac (fun hlt => ?_) (fun hge => ?_)
 ·have hi : i < vs.length := by omega
  refine hu.at hi ?_
  refine BH ?_
  rw [A5]
  refine Az (fun hf => ?_) (fun hf => ?_)
  ·have : vs.all finB = false := by
    refine Bool.eq_false_iff.2 fun hall' => ?_
    have := List.all_eq_true.1 hall' vs[i] (List.getElem_mem hi)
    rw [this] at hf; cases hf
   have : askF ws (vs.all finB) vs.length = 1 := by unfold askF; rw [if_pos (.inr this)]
   rw [this] at H; exact H _ E2
  ·rw [Aw, Ad (by omega) (by omega)]
   refine ⟨m - 1, by omega, rfl, i + 1, rfl, by omega, ?_⟩
   rw [List.take_succ_eq_append_getElem hi, List.all_append, hall]
   simpa using hf
 ·have ht : vs.take i = vs := List.take_of_length_le (by omega)
  rw [ht] at hall
  rw [hall] at H
  have h0 : ¬ (isPF ws = false ∨ true = false) := by unfold isPF; simp at h1; simp [h1]
  rw [hu.row.len B7]
  refine Bb b1 ?_
  refine HF ⟨s, rfl, hs⟩ fun w3 e3 => ?_
  have E3 := E2.trans e3
  refine Yn ?_
  rw [A5]
  by_cases hr : ndS ws ws.length ≤ (vs.length : Int) ∧ (vs.length : Int) ≤ 3
  ·rw [decide_eq_true hr, Bool.not_true, Ao]
   have : askF ws true vs.length = 0 := by unfold askF; rw [if_neg h0, if_neg (by omega)]
   rw [this] at H; exact H _ E3
  ·rw [decide_eq_false hr, Bool.not_false, A6]
   have : askF ws true vs.length = 2 := by unfold askF; rw [if_neg h0, if_pos (by omega)]
   rw [this] at H; exact H _ E3
noncomputable def leafB (vs : List Nat) (l : List UInt8) : Nat := if 0 ≤ varF l then vs.getD (varF l).toNat 0 else (pF l).getD 0
theorem AaX (ws : List (List UInt8)) : ∀ i j, ndS ws i ≤ ndS ws (i + j)
 | i, 0 => Int.le_refl _
 | i, j + 1 => by
  rw [← Nat.add_assoc]
  have := AaX ws i j
  simp only [ndS]
  omega
theorem AeY {ws : List (List UInt8)} {n i : Nat} (hn : ndS ws ws.length ≤ n) (hi : i < ws.length) : varF ws[i] < n := by
 have h1 := AaX ws (i + 1) (ws.length - (i + 1))
 rw [Nat.add_sub_cancel' (by omega)] at h1
 simp only [ndS, LW hi] at h1
 omega
theorem Aim {l : List UInt8} (h : form0 l = 0) (hv : varF l < 0) : ∃ b, pF l = some b := by
 have : ¬ (l = [120]) := fun h => by rw [varF, if_pos h] at hv; omega
 have h2 : ¬ (l = [121]) := fun h => by rw [varF, if_neg (by rw [h]; decide), if_pos h] at hv; omega
 have h3 : ¬ (l = [122]) := fun h => by rw [varF, if_neg (by rw [h]; decide), if_neg (by rw [h]; decide), if_pos h] at hv; omega
 rw [form0, if_neg this, if_neg h2, if_neg h3] at h
 have : form3 l = 0 := by
  unfold form1 form2 at h
  repeat (first | omega | split at h)
 unfold form3 at this
 split at this
 ·rename_i hp; exact Option.isSome_iff_exists.1 hp
 ·omega
theorem ZE {vs : List Nat} {l : List UInt8} (hv : ∀ b ∈ vs, b < 4294967296 ∧ Vc.Fin Ieee.single b) : leafB vs l < 4294967296 ∧ Vc.Fin Ieee.single (leafB vs l) := by
 unfold leafB
 split
 ·by_cases hi : (varF l).toNat < vs.length
  ·rw [El hi]; exact hv _ (List.getElem_mem hi)
  ·rw [List.getD_eq_getElem?_getD, List.getElem?_eq_none (by omega)]; exact ⟨by decide, by decide⟩
 ·cases hp : pF l with
  | none => exact ⟨by decide, by decide⟩
  | some b =>
   exact AjV hp
theorem AeE {u : Value} {vs : List Nat} {l : List UInt8} (hu : FS w u vs) (hl : l.length ≤ 4611686018427387904) (hv : varF l < vs.length) (hf : form0 l = 0) (H : ∀ w', Ext w w' → K (fl (leafB vs l)) w') : call P LB [str l, u] w K := by
 refine Yu ?_
 unfold K9
 refine Su ?_
 have hr := MC l
 rw [B6]
 unfold leafB at H
 refine Ac (fun h => ?_) (fun h => ?_)
 ·rw [if_pos (by omega)] at H
  have hi : (varF l).toNat < vs.length := by omega
  rw [show varF l = (((varF l).toNat : Nat) : Int) by omega]
  refine hu.at hi ?_
  rw [El hi] at H
  exact H _ (Ext.refl _)
 ·rw [if_neg (by omega)] at H
  obtain ⟨b, hb⟩ := Aim hf (by omega)
  refine XD hl fun b' w1 e1 hx => ?_
  rw [A8, Ax, hx b hb]
  rw [hb] at H
  exact H _ e1
end


set_option maxRecDepth 20000
section
open Go Go.Vc Go.Shelf
def rh : Ren := ⟨fun k => cond (Nat.beq k 165) 157 ( cond (Nat.beq k 166) 158 ( cond (Nat.beq k 169) 159 ( cond (Nat.beq k 240) 206 ( cond (Nat.beq k 241) 207 ( cond (Nat.beq k 276) 244 ( cond (Nat.beq k 277) 245 (k))))))), fun k => cond (Nat.beq k 31) 22 ( cond (Nat.beq k 37) 72 ( cond (Nat.beq k 70) 184 ( cond (Nat.beq k 72) 186 ( cond (Nat.beq k 75) 189 ( cond (Nat.beq k 76) 190 ( cond (Nat.beq k 80) 192 ( cond (Nat.beq k 127) 226 ( cond (Nat.beq k 164) 255 (k))))))))), fun k => k⟩
theorem ly165 : Lays.n165 P rh where
 mixed := mixed
 f165 := by kernel_rfl
 f240 := by kernel_rfl
 f241 := by kernel_rfl
 f276 := by kernel_rfl
 f277 := by kernel_rfl
 t0 := by kernel_rfl
 a0 := Tryz.isAgg0
 z0 := Tryz.sizeOf0
 v0 := Tryz.zeroValue0
 t3 := by kernel_rfl
 a3 := Tryz.isAgg3
 z3 := Tryz.sizeOf3
 v3 := Tryz.zeroValue3
 t4 := by kernel_rfl
 a4 := Tryz.isAgg4
 z4 := Tryz.sizeOf4
 v4 := Tryz.zeroValue4
 t9 := by kernel_rfl
 a9 := Tryz.isAgg9
 z9 := Tryz.sizeOf9
 v9 := Tryz.zeroValue9
 t20 := by kernel_rfl
 a20 := Tryz.isAgg20
 z20 := Tryz.sizeOf20
 v20 := Tryz.zeroValue20
 t37 := by kernel_rfl
 a37 := Tryz.isAgg72
 z37 := Tryz.sizeOf72
 v37 := Tryz.zeroValue72
 t70 := by kernel_rfl
 a70 := Tryz.isAgg184
 z70 := Tryz.sizeOf184
 v70 := Tryz.zeroValue184
 t72 := by kernel_rfl
 a72 := Tryz.isAgg186
 z72 := Tryz.sizeOf186
 v72 := Tryz.zeroValue186
 t164 := by kernel_rfl
 a164 := Tryz.isAgg255
 z164 := Tryz.sizeOf255
 v164 := Tryz.zeroValue255
theorem ly166 : Lays.n166 P rh where
 mixed := mixed
 f166 := by kernel_rfl
 f240 := by kernel_rfl
 f276 := by kernel_rfl
 t0 := by kernel_rfl
 a0 := Tryz.isAgg0
 z0 := Tryz.sizeOf0
 v0 := Tryz.zeroValue0
 t3 := by kernel_rfl
 a3 := Tryz.isAgg3
 z3 := Tryz.sizeOf3
 v3 := Tryz.zeroValue3
 t4 := by kernel_rfl
 a4 := Tryz.isAgg4
 z4 := Tryz.sizeOf4
 v4 := Tryz.zeroValue4
 t9 := by kernel_rfl
 a9 := Tryz.isAgg9
 z9 := Tryz.sizeOf9
 v9 := Tryz.zeroValue9
 t20 := by kernel_rfl
 a20 := Tryz.isAgg20
 z20 := Tryz.sizeOf20
 v20 := Tryz.zeroValue20
 t37 := by kernel_rfl
 a37 := Tryz.isAgg72
 z37 := Tryz.sizeOf72
 v37 := Tryz.zeroValue72
 t70 := by kernel_rfl
 a70 := Tryz.isAgg184
 z70 := Tryz.sizeOf184
 v70 := Tryz.zeroValue184
 t72 := by kernel_rfl
 a72 := Tryz.isAgg186
 z72 := Tryz.sizeOf186
 v72 := Tryz.zeroValue186
 t75 := by kernel_rfl
 a75 := Tryz.isAgg189
 z75 := Tryz.sizeOf189
 v75 := Tryz.zeroValue189
 t164 := by kernel_rfl
 a164 := Tryz.isAgg255
 z164 := Tryz.sizeOf255
 v164 := Tryz.zeroValue255
theorem ly169 : Lays.n169 P rh where
 mixed := mixed
 f169 := by kernel_rfl
 t0 := by kernel_rfl
 a0 := Tryz.isAgg0
 z0 := Tryz.sizeOf0
 v0 := Tryz.zeroValue0
 t3 := by kernel_rfl
 a3 := Tryz.isAgg3
 z3 := Tryz.sizeOf3
 v3 := Tryz.zeroValue3
 t9 := by kernel_rfl
 a9 := Tryz.isAgg9
 z9 := Tryz.sizeOf9
 v9 := Tryz.zeroValue9
 t37 := by kernel_rfl
 a37 := Tryz.isAgg72
 z37 := Tryz.sizeOf72
 v37 := Tryz.zeroValue72
 t70 := by kernel_rfl
 a70 := Tryz.isAgg184
 z70 := Tryz.sizeOf184
 v70 := Tryz.zeroValue184
 t72 := by kernel_rfl
 a72 := Tryz.isAgg186
 z72 := Tryz.sizeOf186
 v72 := Tryz.zeroValue186
 t127 := by kernel_rfl
 a127 := Tryz.isAgg226
 z127 := Tryz.sizeOf226
 v127 := Tryz.zeroValue226
theorem bX : Builder.Extra P rh where
 sizeBuilder := by kernel_rfl
 liesBuilder := by kernel_rfl
 t5 := by kernel_rfl
 a5 := Tryz.isAgg5
 z5 := Tryz.sizeOf5
 v5 := Tryz.zeroValue5
 infoByte := by kernel_rfl
 cellsByte := by kernel_rfl
 sizeByte := by kernel_rfl
 neB5 := by decide
variable {w : World} {K : Value → World → Prop}
theorem VU {f : FuncId} {fn : Func} {c : Code} {args : List Value} (hf : P.funcs[f]? = some fn) (hb : fn.body = some c) (hn : (fn.name == "runtime.NumGoroutine") = false)
  (h : ∀ c, N c = w → Calls P f args.toArray c (fun e c' => ∃ v, e = .returned v ∧ K v (N c'))) : call P f args w K := by
 intro cw hcw
 refine ⟨.enter f args.toArray, cw, ?_, ?_⟩
 ·have hn' : ¬ fn.name = "runtime.NumGoroutine" := by simpa using hn
  simp [callFunc, program, Sem.run, hf, hn', hb]
 ·intro c2 hc2
  exact h c2 (hc2.trans hcw)
abbrev t_sB : TypeId := 186
theorem i_sB : TI P t_sB (.agg #[.pointer none, .slice none 0 0]) 2 32 := AZ (by kernel_rfl)
abbrev BS (w : World) (b : Nat) (l : List UInt8) : Prop := Lib.IsBuilder t_sB NR b b (Lib.byteCells l) w
theorem BS.lt {b : Nat} {l : List UInt8} (h : BS w b l) : b < w.heap.size := by
 rcases h with h | h <;> exact h.lt
theorem AiL {b n : Nat} (h : w.heap[b]? = some (.cells #[.pointer none, .slice none 0 0] t_sB (0, 0))) (hb : b < w.heap.size) (hn : n ≤ 281474976710656) (H : ∀ w', BS w' b [] → RowKit.Below b w w' → K (.tuple #[]) w') : call P Ip [.pointer (some ⟨b, 0, none⟩), .int .i64 n] w K := by
 refine VU (c := codeOf Tryz.f157) Tryz.func157 (by kernel_rfl) (by kernel_rfl) fun c hc => ?_
 subst hc
 refine (Any.Builder_Grow_fresh ly165 bX b b n c (Nat.le_refl _) h (Nat.le_of_lt hb) hn).mono fun e c' hq => ?_
 obtain ⟨he, h1, h2⟩ := hq
 exact ⟨_, he, H (N c') (.inr h1) ⟨h2.os, h2.tape, h2.output, h2.size, h2.block⟩⟩
theorem VA {b : Nat} {l s : List UInt8} (h : BS w b l) (hl : l.length + s.length ≤ 140737488355328) (H : ∀ v w', BS w' b (l ++ s) → RowKit.Below b w w' → K v w') : call P Cf [.pointer (some ⟨b, 0, none⟩), str s] w K := by
 refine VU (c := codeOf Tryz.f158) Tryz.func158 (by kernel_rfl) (by kernel_rfl) fun c hc => ?_
 subst hc
 refine (Any.Builder_WriteString ly166 bX b b (Lib.byteCells l) ⟨s.toArray⟩ c h (by rw [Lib.byteCells_length]; simpa [ByteArray.size] using hl) (Nat.le_of_lt h.lt)).mono fun e c' hq => ?_
 obtain ⟨he, h1, h2⟩ := hq
 refine ⟨_, he, H _ (N c') (.inr ?_) ⟨h2.os, h2.tape, h2.output, h2.size, h2.block⟩⟩
 have : Lib.byteCells (l ++ s) = Lib.byteCells l ++ Lib.strCells ⟨s.toArray⟩ := by unfold Lib.byteCells Lib.strCells; rw [List.map_append]
 rw [this]; exact h1
theorem Agg {b : Nat} {l : List UInt8} (h : BS w b l) (H : ∀ w', RowKit.Below b w w' → K (str l) w') : call P Hr [.pointer (some ⟨b, 0, none⟩)] w K := by
 refine VU (c := codeOf Tryz.f159) Tryz.func159 (by kernel_rfl) (by kernel_rfl) fun c hc => ?_
 subst hc
 refine (Any.Builder_String_any ly169 bX b b l c h (Nat.le_of_lt h.lt)).mono fun e c' hq => ?_
 obtain ⟨he, h2⟩ := hq
 exact ⟨_, he, H (N c') ⟨h2.os, h2.tape, h2.output, h2.size, h2.block⟩⟩
def jt (sp : List UInt8) (ws : List (List UInt8)) : Nat → List UInt8
 | 0 => []
 | i + 1 => (if 0 < i then jt sp ws i ++ sp else jt sp ws i) ++ ws.getD i []
theorem TD {ws : List (List UInt8)} {B : Nat} (hw : ∀ s ∈ ws, s.length ≤ B) : ∀ i, (jt [32] ws i).length ≤ i * (B + 1)
 | 0 => by simp [jt]
 | i + 1 => by
  have ih := TD hw i
  have hg : (ws.getD i []).length ≤ B := by
   by_cases hi : i < ws.length
   ·rw [List.getD_eq_getElem?_getD, List.getElem?_eq_getElem hi]; exact hw _ (List.getElem_mem hi)
   ·rw [List.getD_eq_getElem?_getD, List.getElem?_eq_none (by omega)]; simp
  unfold jt
  rw [List.length_append, Nat.succ_mul]
  split
  ·rw [List.length_append]; simp only [List.length_cons, List.length_nil]; omega
  ·omega
theorem SS.drop1 {v : Value} {ws : List (List UInt8)} (h : SS w v ws) (h1 : 1 ≤ ws.length) : ∃ v', (∀ (w' : World) (K : Value → Prop), sli P B4 v (some (.int .i64 1)) none none w' K = K v') ∧ ∀ w', SS w' v ws → SS w' v' (ws.drop 1) := by
 obtain ⟨⟨r1, r2, a, cap, rfl, r3⟩, lt, hc⟩ := h
 refine ⟨_, fun w' K => Vc.sli_l (l := 1) AT Bz h1, fun w' h' => ?_⟩
 have := h'.row.sli_l (l := 1) (ik := .i64) h'.cap AT Bz h1 (K := fun v => SS w' v (ws.drop 1)) fun v' hr hcap => ⟨by rw [List.length_drop]; rw [← List.map_drop] at hr; exact hr, fun s hs => h'.lt s (List.mem_of_mem_drop hs), hcap⟩
 rw [show (Value.int .i64 ((1 : Nat) : Int)) = .int .i64 1 from rfl] at this
 have e := Vc.sli_l (w := w') (a := a) (n := ws.length) (cap := cap) (l := 1) (ik := .i64) (K := fun v => SS w' v (ws.drop 1)) AT Bz h1
 rw [show (Value.int .i64 ((1 : Nat) : Int)) = .int .i64 1 from rfl] at e
 rw [e] at this
 exact this
set_option maxHeartbeats 1000000 in
theorem Ajp {s : Value} {ws : List (List UInt8)} (h : SS w s ws) (hn : ws.length ≤ 1000) (H : ∀ w', Ext w w' → K (str (jt [32] ws ws.length)) w') : call P Kv [s, str [32]] w K := by
 have hget : ∀ {i : Nat} (hi : i < ws.length), ws.getD i [] = ws[i] := fun hi => by rw [List.getD_eq_getElem?_getD, List.getElem?_eq_getElem hi]; rfl
 refine YZ ?_
 unfold L9
 rw [h.len, Ae]
 refine Ac (fun h0 => ?_) (fun h0 => ?_)
 ·have : ws.length = 0 := by omega
  rw [this] at H
  exact H w (Ext.refl _)
 rw [Ae]
 refine Ac (fun h1 => ?_) (fun h1 => ?_)
 ·have h1' : ws.length = 1 := by omega
  refine h.at (k := .i64) (i := 0) (by omega) ?_
  have := H w (Ext.refl _)
  rw [h1'] at this
  have e : jt [32] ws 1 = ws[0] := by rw [← hget (by omega)]; simp [jt]
  rw [e] at this; exact this
 refine ⟨fun x w' => w' = w ∧ ∃ m : Nat, x = .int .i64 m ∧ m ≤ 1000, ?_, ?_⟩
 ·rintro x junk w1 ⟨rfl, m, rfl, hm⟩
  rw [h.len]
  refine ⟨fun g x y w' => w' = w1 ∧ ∃ i m : Nat, y = .int .i64 i ∧ x = .int .i64 m ∧ g + i = ws.length ∧ m ≤ 1000 + i * 137438953472, ⟨ws.length, rfl, 0, m, rfl, rfl, rfl, by omega⟩, ?_⟩
  rintro g x y junk w2 ⟨rfl, i, m, rfl, rfl, hg, hm⟩
  rw [Ai]
  refine Ac (fun hlt => ?_) (fun hge => ?_)
  ·have hi : i < ws.length := by omega
   have hw := h.lt _ (List.getElem_mem hi)
   refine h.at hi ?_
   rw [By Av, AC, Ad (by omega) (by omega), Aq]
   refine Ac (fun hc => absurd hc (by omega)) (fun _ => ?_)
   rw [By Av, Aw, Ad (by omega) (by omega), Aw, Ad (by omega) (by omega)]
   exact ⟨g - 1, by omega, rfl, i + 1, m + ws[i].length, rfl, by first | rfl | (congr 1; omega), by omega, by omega⟩
  ·refine BI i_sB fun p w3 b3 e3 hp => ?_
   obtain ⟨b, rfl, hb, hc3⟩ := b3
   have hbe : b = w2.heap.size := by simpa [blk] using hp
   have hlt : b < w3.heap.size := by
    rcases Nat.lt_or_ge b w3.heap.size with h' | h'
    ·exact h'
    ·rw [Array.getElem?_eq_none h'] at hc3; cases hc3
   have toE : ∀ {wa wb : World}, Ext w2 wa → RowKit.Below b wa wb → Ext w2 wb := fun h1 h2 => RowKit.Below.trans h1 (by rw [← hbe]; exact h2)
   refine AiL hc3 hlt (by omega) fun w4 s4 g4 => ?_
   have e4 := toE e3 g4
   refine (h.ext e4).at (k := .i64) (i := 0) (by omega) ?_
   refine VA s4 (by have := h.lt _ (List.getElem_mem (show 0 < ws.length by omega)); simp only [List.length_nil]; omega) fun v w5 s5 g5 => ?_
   have e5 := toE e4 g5
   obtain ⟨v', hv, hd⟩ := h.drop1 (by omega)
   rw [hv, (hd _ (h.ext e5)).len, List.length_drop]
   refine ⟨fun g x w' => ∃ i : Nat, x = .int .i64 i ∧ g + i = ws.length - 1 ∧ Ext w2 w' ∧ BS w' b (jt [32] ws (i + 1)), ⟨ws.length - 1, 0, rfl, rfl, e5, ?_⟩, ?_⟩
   ·have e : jt [32] ws (0 + 1) = [] ++ ws[0] := by rw [← hget (by omega)]; simp [jt]
    rw [e]; exact s5
   rintro g x junk w6 ⟨i, rfl, hg, e6, s6⟩
   rw [Ai]
   have hj := TD h.lt (i + 1)
   refine Ac (fun hlt => ?_) (fun hge => ?_)
   ·have hi : i + 1 < ws.length := by omega
    refine (hd _ (h.ext e6)).at (i := i) (by rw [List.length_drop]; omega) ?_
    rw [List.getElem_drop]
    have hi' : 1 + i < ws.length := by omega
    have hw := h.lt _ (List.getElem_mem hi')
    refine VA s6 (by simp only [List.length_cons, List.length_nil]; omega) fun v w7 s7 g7 => ?_
    refine VA s7 (by rw [List.length_append]; simp only [List.length_cons, List.length_nil]; omega) fun v w8 s8 g8 => ?_
    rw [Aw, Ad (by omega) (by omega)]
    refine ⟨g - 1, by omega, i + 1, rfl, by omega, toE (toE e6 g7) g8, ?_⟩
    have e : jt [32] ws (i + 1 + 1) = (jt [32] ws (i + 1) ++ [32]) ++ ws[1 + i] := by
     show (if 0 < i + 1 then jt [32] ws (i + 1) ++ [32] else jt [32] ws (i + 1)) ++ ws.getD (i + 1) [] = _
     rw [if_pos (by omega), hget hi]
     congr 2
     omega
    rw [e]; exact s8
   ·have hi : ws.length = i + 1 := by omega
    refine Agg s6 fun w7 g7 => ?_
    have := H w7 (toE e6 g7)
    rw [hi] at this
    exact this
 ·rw [By Av, Aq]
  refine Ac (fun _ => ?_) (fun hc => absurd (show ((1 : Nat) : Int) > 0 by decide) hc)
  refine ⟨fun w' => w' = w, ?_, ?_⟩
  ·rintro junk w1 rfl
   rw [By Av, h.len, AC, Ad (by omega) (by omega), CR, Ad (by simp; omega) (by simp; omega), Aw, Ad (by simp; omega) (by simp; omega)]
   refine ⟨rfl, ws.length - 1, ?_, by omega⟩
   congr 1
   simp; omega
  ·rw [By Av, h.len, AC, Ad (by omega) (by omega)]
   have hk : ((ws.length : Int) - 1) = ((ws.length - 1 : Nat) : Int) := by omega
   rw [hk]
   rw [show (Value.int .i64 9223372036854775807) = .int .i64 ((9223372036854775807 : Nat) : Int) from rfl, D8 (b := ws.length - 1) (by omega) (by omega), B6]
   have : 2 ≤ 9223372036854775807 / (ws.length - 1) := (Nat.le_div_iff_mul_le (by omega)).2 (by omega)
   refine Ac (fun hc => ?_) (fun _ => rfl)
   exfalso
   generalize 9223372036854775807 / (ws.length - 1) = q at *
   simp at hc
   omega
end


section
open Go Go.Vc
variable {w : World} {K : Value → World → Prop}
def prT (ws : List (List UInt8)) : List UInt8 := jt [32] ws ws.length
noncomputable def textF (ws : List (List UInt8)) : List UInt8 × Int := if isPF ws then (prT ws, 0) else ([], 1)
theorem Aar {v : Value} {ws : List (List UInt8)} (h : Bm w v ws) (hn : ws.length ≤ 1000) (H : ∀ w', Ext w w' → K (str (prT ws)) w') : call P Hp [v] w K := by
 obtain ⟨s, rfl, hs⟩ := h
 refine Tv ?_
 unfold Hz
 refine Du fun x w1 b1 e1 => ?_
 refine pr_w b1 ?_
 exact Ajp (hs.ext e1) hn fun w2 e2 => H w2 (e1.trans e2)
theorem Zq {v : Value} {ws : List (List UInt8)} (h : Bm w v ws) (hn : ws.length ≤ 1000) (H : ∀ w', Ext w w' → K (str (prT ws)) w') : call P H9 [v] w K := by
 obtain ⟨s, rfl, hs⟩ := h
 refine Y7 ?_
 unfold KM
 refine Du fun x w1 b1 e1 => ?_
 have h1 := hs.ext e1
 refine ⟨fun g y x w' => w' = w1 ∧ ∃ i : Nat, x = .int .i64 i ∧ g + i = ws.length ∧ y = str (jt [32] ws i), ⟨ws.length, rfl, 0, rfl, by omega, rfl⟩, ?_⟩
 rintro g y x' junk w2 ⟨rfl, i, rfl, hg, rfl⟩
 have hj := TD h1.lt i
 refine pr_w b1 ?_
 rw [h1.len, Ai]
 refine Ac (fun hlt => ?_) (fun hge => ?_)
 ·have hi : i < ws.length := by omega
  have hw := h1.lt _ (List.getElem_mem hi)
  refine ⟨fun x w' => w' = w2 ∧ x = str (if 0 < i then jt [32] ws i ++ [32] else jt [32] ws i), ?_, ?_⟩
  ·rintro x3 junk w3 ⟨rfl, rfl⟩
   refine pr_w b1 ?_
   refine h1.at hi ?_
   have hl : (if 0 < i then jt [32] ws i ++ [32] else jt [32] ws i).length ≤ 140737488355328 := by
    split
    ·rw [List.length_append]; simp only [List.length_cons, List.length_nil]; omega
    ·omega
   rw [DM (by omega), Aw, Ad (by omega) (by omega)]
   refine ⟨g - 1, by omega, rfl, i + 1, rfl, by omega, ?_⟩
   show _ = str ((if 0 < i then jt [32] ws i ++ [32] else jt [32] ws i) ++ ws.getD i [])
   rw [List.getD_eq_getElem?_getD, List.getElem?_eq_getElem hi]
   rfl
  ·rw [Aq]
   refine Ac (fun hc => ?_) (fun hc => ?_)
   ·rw [show (Value.string ⟨#[32]⟩) = str [32] from rfl, DM (by simp only [List.length_cons, List.length_nil]; omega)]
    exact ⟨rfl, by rw [if_pos (by omega)]⟩
   ·exact ⟨rfl, by rw [if_neg (by omega)]⟩
 ·have hi : i = ws.length := by omega
  subst hi
  exact H _ e1
theorem AbR {ws : List (List UInt8)} (h : isPF ws = true) : ws.length ≤ 1000 := by
 obtain ⟨m, hm⟩ := Option.isSome_iff_exists.1 h
 obtain ⟨_, _, _, h60, _⟩ := Vu hm
 omega
theorem Sc {v : Value} {ws : List (List UInt8)} (h : Bm w v ws) (H : ∀ w', Ext w w' → K (.tuple #[str (textF ws).1, .int .i64 (textF ws).2]) w') : call P EL [v] w K := by
 obtain ⟨s, rfl, hs⟩ := h
 refine Us ?_
 unfold Hv
 refine Du fun x w1 b1 e1 => ?_
 refine Bb b1 ?_
 refine DR ⟨s, rfl, hs.ext e1⟩ fun w2 e2 => ?_
 rw [A5]
 unfold textF at H
 cases hp : isPF ws
 ·rw [hp] at H
  exact A9 (by rw [show (depF ws).isSome = false from hp]; rfl) (H w2 (e1.trans e2))
 ·rw [hp] at H
  refine AD (by rw [show (depF ws).isSome = true from hp]; rfl) ?_
  refine Bb (b1.ext e2) ?_
  exact Aar ⟨s, rfl, hs.ext (e1.trans e2)⟩ (AbR hp) fun w3 e3 => H w3 (e1.trans (e2.trans e3))
theorem Aai {v : Value} {ws : List (List UInt8)} (h : Bm w v ws) (H : ∀ w', Ext w w' → K (.tuple #[str (textF ws).1, .int .i64 (textF ws).2]) w') : call P GC [v] w K := by
 obtain ⟨s, rfl, hs⟩ := h
 refine TR ?_
 unfold GI
 refine Du fun x w1 b1 e1 => ?_
 refine Bb b1 ?_
 refine NX ⟨s, rfl, hs.ext e1⟩ fun w2 e2 => ?_
 rw [A5]
 unfold textF at H
 cases hp : isPF ws
 ·rw [hp] at H
  exact A9 (by rw [show (depF ws).isSome = false from hp]; rfl) (H w2 (e1.trans e2))
 ·rw [hp] at H
  refine AD (by rw [show (depF ws).isSome = true from hp]; rfl) ?_
  refine Bb (b1.ext e2) ?_
  exact Zq ⟨s, rfl, hs.ext (e1.trans e2)⟩ (AbR hp) fun w3 e3 => H w3 (e1.trans (e2.trans e3))
end


section
open Go Go.Vc
def joinR : List (List UInt8) → List UInt8
 | [] => []
 | [w] => w
 | w :: v :: r => w ++ 32 :: joinR (v :: r)
theorem Xg {w : List UInt8} {l : List (List UInt8)} (h : l ≠ []) : joinR (w :: l) = w ++ 32 :: joinR l := by
 cases l with
 | nil => exact absurd rfl h
 | cons v r => rfl
theorem Adc (w : List UInt8) (l : List (List UInt8)) : ∀ i, jt [32] (w :: l) (i + 2) = w ++ 32 :: jt [32] l (i + 1)
 | 0 => by simp [jt]
 | i + 1 => by
  have ih := Adc w l i
  rw [jt, ih, jt.eq_def [32] l (i + 1 + 1)]
  simp
theorem Ub : ∀ l : List (List UInt8), prT l = joinR l
 | [] => rfl
 | [w] => by simp [prT, jt, joinR]
 | w :: v :: r => by
  have ih := Ub (v :: r)
  unfold prT at ih ⊢
  rw [show (w :: v :: r).length = r.length + 2 from rfl, Adc, show r.length + 1 = (v :: r).length from rfl, ih]
  rfl
theorem Vk : ∀ l : List (List UInt8), l ≠ [] → (∀ s ∈ l, 32 ∉ s) → splitL 32 (joinR l) = l
 | [], h, _ => absurd rfl h
 | [w], _, h => Qb (h w (List.mem_singleton.2 rfl))
 | w :: v :: r, _, h => by
  rw [Xg (by simp), RZ (h w (List.mem_cons_self ..)), Vk (v :: r) (by simp) fun s hs => h s (List.mem_cons_of_mem _ hs)]
theorem Va : ∀ t : List UInt8, joinR (splitL 32 t) = t
 | [] => rfl
 | x :: r => by
  have ih := Va r
  have hne := Um 32 r
  rw [splitL]
  split
  ·rename_i h
   rw [Xg hne, ih, h]; rfl
  ·split
   ·rename_i h t e
    rw [e] at ih
    cases t with
    | nil => rw [← ih]; rfl
    | cons v t => rw [← ih]; rfl
   ·rename_i e; exact absurd e hne
theorem Acm {l : List UInt8} (h : isNum l = true) : 32 ∉ l := by
 intro hm
 unfold isNum numB at h
 simp only [Bool.and_eq_true] at h
 have hall := List.all_eq_true.1 h.1.1.2
 unfold body at hall
 split at hall
 ·rename_i hn
  unfold negB at hn
  have hh := of_decide_eq_true hn
  cases l with
  | nil => cases hm
  | cons x r =>
   simp only [List.head?_cons, Option.some.injEq] at hh
   rcases List.mem_cons.1 hm with e | e
   ·rw [hh] at e; exact absurd e (by decide)
   ·exact absurd (hall 32 e) (by decide)
 ·exact absurd (hall 32 hm) (by decide)
theorem AhG {l : List UInt8} (h : l.contains 112 = true) : l = cut1 l ++ 112 :: cut2 l := by
 have hm : (112 : UInt8) ∈ l := by simpa using h
 obtain ⟨a, b, e, hn⟩ := Qg hm
 obtain ⟨h1, h2⟩ := AeZ (b := b) hn
 rw [← e] at h1 h2
 rw [h1, h2]; exact e
theorem Ae0 {l : List UInt8} {p : Int × Int} (h : parseD l = some p) : 32 ∉ l := by
 unfold parseD at h
 split at h
 ·rename_i hc
  simp only [Bool.and_eq_true] at hc
  intro hm
  rw [AhG hc.1.1.1] at hm
  rcases List.mem_append.1 hm with h1 | h1
  ·exact Acm hc.1.1.2 h1
  ·rcases List.mem_cons.1 h1 with h2 | h2
   ·exact absurd h2 (by decide)
   ·exact Acm hc.1.2 h2
 ·cases h
theorem Ajq {l : List UInt8} (h : (pF l).isSome = true) : 32 ∉ l := by
 unfold pF at h
 split at h
 ·cases h
 ·rename_i p e; exact Ae0 e
theorem Aga {l : List UInt8} (h : ¬ form0 l < 0) : 32 ∉ l := by
 have aux : ∀ {a : List UInt8} {x y : Int}, 32 ∉ a → ¬ (if l = a then x else y) < 0 → (¬ y < 0 → 32 ∉ l) → 32 ∉ l := fun {a x y} ha h1 h2 => by
  by_cases e : l = a
  ·rw [e]; exact ha
  ·rw [if_neg e] at h1; exact h2 h1
 unfold form0 form1 form2 form3 at h
 refine aux (by decide) h fun h => aux (by decide) h fun h => aux (by decide) h fun h => aux (by decide) h fun h => aux (by decide) h fun h => aux (by decide) h fun h => aux (by decide) h fun h => aux (by decide) h fun h => aux (by decide) h fun h =>
  aux (by decide) h fun h => aux (by decide) h fun h => aux (by decide) h fun h => aux (by decide) h fun h => aux (by decide) h fun h => aux (by decide) h fun h => aux (by decide) h fun h => aux (by decide) h fun h => Ajq ?_
 by_cases e : (pF l).isSome = true
 ·exact e
 ·rw [if_neg e] at h; exact absurd (by decide) h
theorem Zo (ws : List (List UInt8)) : ∀ (i : Nat) (h m : Int), dpS ws i = some (h, m) → ∀ j, j < i → ¬ form0 (ws.getD j []) < 0
 | 0, _, _, _, j, hj => by omega
 | i + 1, h, m, e, j, hj => by
  unfold dpS at e
  split at e
  ·cases e
  ·rename_i h0 m0 e0
   have ih := Zo ws i h0 m0 e0
   split at e
   ·cases e
   ·rename_i hb
    rcases Nat.lt_or_ge j i with h' | h'
    ·exact ih j h'
    ·have : j = i := by omega
     subst this
     exact fun hc => hb (.inl hc)
theorem AeI {ws : List (List UInt8)} (h : isPF ws = true) : ws ≠ [] ∧ ∀ s ∈ ws, 32 ∉ s := by
 obtain ⟨m, hm⟩ := Option.isSome_iff_exists.1 h
 have h1 := RS hm
 refine ⟨fun e => by rw [e] at h1; simp at h1, fun s hs => ?_⟩
 unfold depF at hm
 rw [if_pos h1.2.2] at hm
 split at hm
 ·cases hm
 ·rename_i a b e
  obtain ⟨i, hi, rfl⟩ := List.getElem_of_mem hs
  have := Zo ws _ a b e i hi
  rw [LW hi] at this
  exact Aga this
theorem Aeo {ws : List (List UInt8)} (h : isPF ws = true) : 1 ≤ ws.length ∧ ws.length ≤ 60 := by
 obtain ⟨m, hm⟩ := Option.isSome_iff_exists.1 h
 exact (RS hm).2.2
theorem Ae2 {ws : List (List UInt8)} (h : isPF ws = true) : parsePF ⟨(prT ws).toArray⟩ = (ws, 0) := by
 obtain ⟨h1, h2⟩ := AeI h
 have e : splitL 32 (ByteArray.mk (prT ws).toArray).data.toList = ws := by
  show splitL 32 (prT ws) = ws
  rw [Ub]; exact Vk ws h1 h2
 unfold parsePF
 rw [e, if_pos h]
theorem Ac2 {ws : List (List UInt8)} (h : isPF ws = true) : ∃ m : Int, depthF ws = (m, 0) ∧ 1 ≤ m ∧ m ≤ ws.length := by
 obtain ⟨m, hm⟩ := Option.isSome_iff_exists.1 h
 have h1 := RS hm
 refine ⟨m, by unfold depthF; rw [hm], by omega, ?_⟩
 unfold depF at hm
 rw [if_pos h1.2.2] at hm
 split at hm
 ·cases hm
 ·rename_i a b e
  have := GE ws _ _ _ e
  split at hm
  ·simp only [Option.some.injEq] at hm; omega
  ·cases hm
theorem Aeq {s : ByteArray} (h : isPF (splitL 32 s.data.toList) = true) : textF (splitL 32 s.data.toList) = (s.data.toList, 0) := by
 unfold textF
 rw [if_pos h, Ub, Va]
end


section
open Go Go.Vc
variable {w : World} {K : Value → World → Prop}
theorem Aen {t : TypeId} {cx cy : Bool} {a : Nat} {K : Value → Prop} (ha : a < 18446744073709551616) : bin P .and t cx cy (.int .u64 (a : Int)) (.int .u64 16777215) w K = K (.int .u64 ((a % 16777216 : Nat) : Int)) := by
 rw [Kz]
 have e : (BitVec.ofInt IntKind.u64.bits (a : Int) &&& BitVec.ofInt IntKind.u64.bits 16777215).toNat = a % 16777216 := by
  rw [BitVec.toNat_and]
  have e1 : (BitVec.ofInt IntKind.u64.bits (a : Int)).toNat = a := by
   rw [BitVec.ofInt_natCast, BitVec.toNat_ofNat]
   exact Nat.mod_eq_of_lt ha
  rw [e1]
  exact AaV a
 rw [e, Is (by omega)]
theorem Src.lt {base : Nat} {x : Value} {bs : List Nat} {p s : Nat} (h : Src w base x bs p s) : s < 18446744073709551616 ∧ p ≤ bs.length ∧ bs.length ≤ 4096 := by
 obtain ⟨v, w0, h1, h2, h3, h4, h5, h6, h7, h8⟩ := h
 exact ⟨h8, h7, h6⟩
theorem Src.blk {base : Nat} {x : Value} {bs : List Nat} {p s : Nat} (h : Src w base x bs p s) : ∀ g, blk x = some g → base ≤ g := by
 obtain ⟨v, w0, h1, h2, h3, h4, h5⟩ := h
 exact fun g hg => (h4.blk_lt hg).1
theorem Src.ty {base : Nat} {x : Value} {bs : List Nat} {p s : Nat} (h : Src w base x bs p s) : Ty w (Vc.blk x) BF := by
 obtain ⟨v, w0, h1, h2, h3, h4, h5⟩ := h
 exact Ty.box h4
theorem AiF (s : Nat) : nxt s / 2 ^ 33 % 16777216 = shw (nxt s) := rfl
theorem Mh {base : Nat} {x : Value} {bs : List Nat} {p s m : Nat} (h : Src w base x bs p s) (hm : 0 < m) (hm2 : m ≤ 9223372036854775807)
  (H : ∀ (r p' : Nat) w', Src w' base x bs p' (nxt s) → w.grownBy w' (blk x) → r < m → (p < bs.length → p' = p + 1) → (p = bs.length → p' = p ∧ r = shw (nxt s) % m) → K (.int .i64 (r : Int)) w') :
  call P Am [x, .int .i64 (m : Int)] w K := by
 obtain ⟨v, w0, h1, h2, h3, h4, h5, h6, h7, h8⟩ := h
 refine Zb ?_
 unfold L5
 rw [Ai]
 refine Ac (fun hc => absurd hc (by omega)) (fun _ => ?_)
 obtain ⟨g, hxg, _⟩ := h4
 have h4 : Bx w base BF x [v, .int .i64 (p : Int), .int .u64 (s : Int)] := ⟨g, hxg, by assumption⟩
 have hn : ∀ K : Value → Prop, nch x K = K x := fun K => by rw [hxg]; rfl
 simp only [hn]
 refine h4.fld (off := 2) rfl Bi rfl Lv BL rfl ?_
 rw [CR, Int.mul_comm, AiX, Aw, show ((6364136223846793005 * s % 18446744073709551616 : Nat) : Int) + 1442695040888963407 = ((6364136223846793005 * s % 18446744073709551616 + 1442695040888963407 : Nat) : Int) by omega, LM, ← Afi]
 have hlt : nxt s < 18446744073709551616 := by rw [Afi]; exact Nat.mod_lt _ (by decide)
 have hsh : shw (nxt s) < 16777216 := by rw [← AiF]; exact Nat.mod_lt _ (by decide)
 refine h4.fput (off := 2) (show 2 < 3 by decide) Bi rfl Lv rfl fun w1 b1 g1 => ?_
 have b1 : Bx w1 base BF x [v, .int .i64 (p : Int), .int .u64 (nxt s : Int)] := b1
 have hge : ∀ k, blk x = some k → w0.heap.size ≤ k := fun k hk => Nat.le_trans h3 (h4.blk_lt hk).1
 have e1 : Ext w0 w1 := Ab h2 hge g1
 refine b1.fld (off := 2) rfl Bi rfl Lv BL rfl ?_
 generalize hz : nxt s = z at *
 rw [Cu (s := 33) (by decide), Aen (Nat.lt_of_le_of_lt (Nat.div_le_self _ _) hlt), AJ BL AB, Ad (by omega) (by omega)]
 rw [show z / 2 ^ 33 % 16777216 = shw z from rfl]
 refine b1.fld (off := 1) rfl Bi rfl LL DD rfl ?_
 refine b1.fld (off := 0) rfl Bi rfl TO Cb rfl ?_
 have r1 := h1.ext e1
 rw [r1.row.len Cb, Ai]
 refine Ac (fun hp => ?_) (fun hp => ?_)
 ·have hp' : p < bs.length := by omega
  refine b1.fld (off := 0) rfl Bi rfl TO Cb rfl ?_
  refine b1.fld (off := 1) rfl Bi rfl LL DD rfl ?_
  refine r1.at hp' Cb UE DH ?_
  have hb := h5 _ (List.getElem_mem hp')
  show cnv P 5 2 (.int .u8 ((bs[p] : Nat) : Int)) w1 _
  rw [AJ DH AB, Ad (by omega) (by omega), BG (by omega)]
  refine b1.fld (off := 1) rfl Bi rfl LL DD rfl ?_
  rw [AO (b := 1) (by omega)]
  refine b1.fput (off := 1) (show 1 < 3 by decide) Bi rfl LL rfl fun w2 b2 g2 => ?_
  have b2 : Bx w2 base BF x [v, .int .i64 ((p + 1 : Nat) : Int), .int .u64 (z : Int)] := b2
  rw [C7 (b := m) (by omega)]
  exact H _ (p + 1) w2 ⟨v, w0, h1, Ab e1 hge g2, h3, b2, h5, h6, hp', hlt⟩ (Bt g1 g2) (Nat.mod_lt _ hm) (fun _ => rfl) (fun hc => by omega)
 ·rw [C7 (b := m) (by omega)]
  exact H _ p w1 ⟨v, w0, h1, e1, h3, b1, h5, h6, h7, hlt⟩ g1 (Nat.mod_lt _ hm) (fun hc => by omega) (fun _ => ⟨rfl, rfl⟩)
def Sx (w : World) (base : Nat) (x : Value) (bs : List Nat) : Prop := ∃ p s, Src w base x bs p s
theorem Sx.ext {base : Nat} {x : Value} {bs : List Nat} {w' : World} (h : Sx w base x bs) (he : Ext w w') : Sx w' base x bs := let ⟨p, s, h⟩ := h; ⟨p, s, h.ext he⟩
theorem Sx.blk {base : Nat} {x : Value} {bs : List Nat} (h : Sx w base x bs) : ∀ g, Vc.blk x = some g → base ≤ g := let ⟨_, _, h⟩ := h; h.blk
theorem Sx.ty {base : Nat} {x : Value} {bs : List Nat} (h : Sx w base x bs) : Ty w (Vc.blk x) BF := let ⟨_, _, h⟩ := h; h.ty
theorem BR {base : Nat} {x : Value} {bs : List Nat} {m : Nat} (h : Sx w base x bs) (hm : 0 < m) (hm2 : m ≤ 9223372036854775807)
  (H : ∀ (r : Nat) w', Sx w' base x bs → w.grownBy w' (Vc.blk x) → r < m → K (.int .i64 (r : Int)) w') : call P Am [x, .int .i64 (m : Int)] w K := by
 obtain ⟨p, s, h⟩ := h
 exact Mh h hm hm2 fun r p' w' h' g hr _ _ => H r w' ⟨p', _, h'⟩ g hr
end


section
open Go Go.Vc Ieee
def quoB (n : Nat) (l : List Int) : Bool := (List.range n).all fun i => l.all fun d => finB (opF .quo (floatOfInt .f32 ((i : Int) - 1000)) (floatOfInt .f32 d))
theorem AeO : quoB 2001 [2, 4, 16, 128, 3, 10, 1000, 64] = true := by decide +kernel
end


section
open Go Go.Vc
variable {w : World} {K : Value → World → Prop} {lo hi : Nat} {v : Value}
abbrev IV := Nat × Nat
def ivB (p : IV) : Prop := p.1 < 4294967296 ∧ p.2 < 4294967296
section
variable {base : Nat} {x : Value} {a b : Nat} {K : Value → Prop} {t : TypeId}
end
structure AkI (w : World) (v : Value) (l : List IV) : Prop where
 row : Row 2 w v l.length (pfs l)
 lt : ∀ p ∈ l, ivB p
 cap : CapOk v
end


section
open Go Go.Vc Ieee
variable {w : World} {K : Value → World → Prop}
def zF (b : Nat) : Nat := if isZ b then 0 else b
theorem Ajj {b : Nat} (H : K (fl (zF b)) w) : call P OT [fl b] w K := by
 refine AbO ?_
 unfold Pa
 rw [DO]
 unfold zF at H
 refine Az (fun h => ?_) (fun h => ?_)
 ·rw [show isZ b = true from h, if_pos rfl] at H; exact H
 ·rw [show isZ b = false from h, if_neg (by decide)] at H; exact H
end
end Go.Proofs.YtjompmflommadaaGreatDoor
