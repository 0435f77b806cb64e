import Derived.Test.YtjompmflommadaaGreatDoorQFnProgramTextsVU1
import Derived.Test.YtjompmflommadaaGreatDoorQFnProgramTextsVVcL
import Derived.Test.YtjompmflommadaaGreatDoorQFnProgramTextsVU2
import Derived.Test.YtjompmflommadaaGreatDoorQFnProgramTextsVU3
import Derived.Test.YtjompmflommadaaGreatDoorQFnProgramTextsVU12
import Derived.Test.YtjompmflommadaaGreatDoorQFnProgramTextsVVcM
import Derived.Test.YtjompmflommadaaGreatDoorQFnProgramTextsVU7
import Derived.Test.YtjompmflommadaaGreatDoorQFnProgramTexts2
set_option linter.unusedSimpArgs false
set_option linter.unusedVariables false
namespace Go.Proofs.YtjompmflommadaaGreatDoor
section
open Go Go.Vc
variable {w : World} {K : Value → World → Prop}
def Mg (w : World) (v : Value) (n : Nat) : Prop := ∃ l, IR .u32 w v l ∧ Norm 4294967296 l ∧ val 4294967296 l = n ∧ Ty w v.ownBlock Ay
def MgO (w : World) (base : Nat) (v : Value) (n : Nat) : Prop := ∃ l, OD .u32 Ay w base v l ∧ Norm 4294967296 l ∧ val 4294967296 l = n
theorem AeX {w w' : World} {k : Option Nat} {e : TypeId} (h : Ty w k e) (he : Ext w w') : Ty w' k e := fun b hb => let ⟨c, f, hc⟩ := h b hb; ⟨c, f, by rw [he.block b (Gf hc)]; exact hc⟩
theorem Yl (w : World) (e : TypeId) : Ty w none e := fun b hb => by cases hb
theorem MgO.Mg {base n : Nat} {v : Value} (h : MgO w base v n) : Mg w v n := let ⟨l, h1, h2, h3⟩ := h; ⟨l, h1.IR, h2, h3, Ty.owns h1⟩
theorem Mg.ext {w' : World} {n : Nat} {v : Value} (h : Mg w v n) (he : Ext w w') : Mg w' v n := let ⟨l, h1, h2, h3, h4⟩ := h; ⟨l, h1.ext he, h2, h3, AeX h4 he⟩
theorem Mg.nil (w : World) : Mg w (.slice none 0 0) 0 := ⟨[], IR.nil _ _, Norm.nil _, rfl, Yl _ _⟩
theorem MgO.nil (w : World) (base : Nat) : MgO w base (.slice none 0 0) 0 := ⟨[], OD.nil _ _ _ _, Norm.nil _, rfl⟩
theorem Ej {l : List Nat} (h : Norm 4294967296 l) (hb : bl (val 4294967296 l) ≤ 1099511627776) : l.length ≤ 34359738369 := by
 have := (Norm.len_le (s := 32) (by decide) h).1
 have e : val (2 ^ 32) l = val 4294967296 l := rfl
 rw [e] at this
 omega
theorem Ais (x : Nat) : IntKind.u32.wrap (x : Int) = ((x % 4294967296 : Nat) : Int) := by simp [IntKind.wrap, IntKind.bits, IntKind.signed]
theorem LM (x : Nat) : IntKind.u64.wrap (x : Int) = ((x % 18446744073709551616 : Nat) : Int) := by simp [IntKind.wrap, IntKind.bits, IntKind.signed]
theorem Is {x : Nat} (h : x < 18446744073709551616) : IntKind.u64.wrap (x : Int) = (x : Int) := by rw [LM, Nat.mod_eq_of_lt h]
section
variable {t : TypeId} {cx cy : Bool} {k yk : IntKind} {a b s : Nat} {c : Int} {K : Value → Prop}
theorem Cu (hs : s ≤ k.bits) (hc : c = (s : Int) := by rfl) : bin P .shr t cx cy (.int k (a : Int)) (.int yk c) w K = K (.int k ((a / 2 ^ s : Nat) : Int)) := by
 subst hc
 rw [AcV _ _ _ _ _ _ _ _ (by omega)]
 congr 2
 have e : min ((s : Int).toNat) k.bits = s := by rw [Int.toNat_natCast]; omega
 rw [e, Int.fdiv_eq_ediv_of_nonneg _ (Int.pow_nonneg (by decide))]
 simp
theorem KH (h : a + b < 18446744073709551616) : bin P .add t cx cy (.int .u64 (a : Int)) (.int .u64 (b : Int)) w K = K (.int .u64 ((a + b : Nat) : Int)) := by
 rw [Aw, show (a : Int) + b = ((a + b : Nat) : Int) by omega, Is h]
theorem Acc (h : a * b < 18446744073709551616) : bin P .mul t cx cy (.int .u64 (a : Int)) (.int .u64 (b : Int)) w K = K (.int .u64 ((a * b : Nat) : Int)) := by
 rw [CR, show (a : Int) * b = ((a * b : Nat) : Int) by simp, Is h]
theorem BG (h : a + b ≤ 9223372036854775807) : bin P .add t cx cy (.int .i64 (a : Int)) (.int .i64 (b : Int)) w K = K (.int .i64 ((a + b : Nat) : Int)) := by
 rw [Aw, show (a : Int) + b = ((a + b : Nat) : Int) by omega, Ad (by omega) (by omega)]
theorem AO (h : a + b ≤ 9223372036854775807) (hc : c = (b : Int) := by rfl) : bin P .add t cx cy (.int .i64 (a : Int)) (.int .i64 c) w K = K (.int .i64 ((a + b : Nat) : Int)) := by
 subst hc; exact BG h
theorem EF (h : b ≤ a) (ha : a ≤ 9223372036854775807) (hc : c = (b : Int) := by rfl) : bin P .sub t cx cy (.int .i64 (a : Int)) (.int .i64 c) w K = K (.int .i64 ((a - b : Nat) : Int)) := by
 subst hc
 rw [AC, show (a : Int) - b = ((a - b : Nat) : Int) by omega, Ad (by omega) (by omega)]
theorem AeR : cnv P Ay Ea (.int .u32 (a : Int)) w K = K (.int .u64 ((a % 18446744073709551616 : Nat) : Int)) := by
 rw [AJ Be BL, LM]
theorem CO (h : a < 4294967296) : cnv P Ay Ea (.int .u32 (a : Int)) w K = K (.int .u64 (a : Int)) := by
 rw [AeR, Nat.mod_eq_of_lt (by omega)]
theorem DE : cnv P Ea Ay (.int .u64 (a : Int)) w K = K (.int .u32 ((a % 4294967296 : Nat) : Int)) := by
 rw [AJ BL Be, Ais]
end
theorem KZ : ∀ l : List Nat, trim (l ++ [0]) = trim l
 | [] => by simp [trim]
 | d :: l => by rw [List.cons_append, trim, trim, KZ l]
theorem ZB {l : List Nat} (h : l.getLast? ≠ some 0) : trim l = l := by
 induction l with
 | nil => rfl
 | cons d l ih =>
  rw [trim]
  cases l with
  | nil =>
   have : d ≠ 0 := by simpa using h
   rw [if_neg (fun q => this q.1)]; rfl
  | cons e l =>
   have h' : (e :: l).getLast? ≠ some 0 := by simpa using h
   rw [ih h', if_neg (fun q => by simp at q)]
theorem ZA {v : Value} {l : List Nat} (h : IR .u32 w v l)
  (H : ∀ v', IR .u32 w v' (trim l) → (∀ base, OD .u32 Ay w base v l → OD .u32 Ay w base v' (trim l)) → (v'.ownBlock = none ∨ v'.ownBlock = v.ownBlock) → K v' w) : call P Bp [v] w K := by
 refine YY ?_
 unfold K4
 have hb := h.bound
 refine ⟨fun m x w' => w' = w ∧ m ≤ l.length ∧ IR .u32 w x (l.take m) ∧ (∀ base, OD .u32 Ay w base v l → OD .u32 Ay w base x (l.take m)) ∧ trim (l.take m) = trim l ∧ (x.ownBlock = none ∨ x.ownBlock = v.ownBlock),
  ⟨l.length, rfl, Nat.le_refl _, by rw [List.take_length]; exact h, fun base ho => by rw [List.take_length]; exact ho, by rw [List.take_length], .inr rfl⟩, ?_⟩
 rintro m x junk w' ⟨rfl, hm, hx, ho, ht, hbk⟩
 have hl : (l.take m).length = m := by rw [List.length_take]; omega
 rw [hx.row.len Af, Aq, hl]
 refine ⟨_, fun _ _ _ h => h, ?_⟩
 have fin : (l.take m).getLast? ≠ some 0 → K x w' := fun hz => by
  rw [ZB hz] at ht
  exact H x (by rw [← ht]; exact hx) (fun base hq => by rw [← ht]; exact ho base hq) hbk
 refine Dn (fun h1 => ?_) (fun h1 => ?_)
 ·simp only [decide_eq_true_eq] at h1
  have hm0 : 0 < m := by omega
  rw [hx.row.len Af, hl, EF (b := 1) (by omega) (by omega)]
  have hi : m - 1 < (l.take m).length := by omega
  refine hx.at hi Af AG Be ?_
  rw [Ae, An]
  have hlast : (l.take m).getLast? = some (l.take m)[m - 1] := by
   rw [List.getLast?_eq_getElem?, hl]; exact List.getElem?_eq_getElem hi
  have htk : l.take m = l.take (m - 1) ++ [(l.take m)[m - 1]] := by
   have := List.take_succ_eq_append_getElem (l := l) (i := m - 1) (by omega)
   rw [show m - 1 + 1 = m by omega] at this
   rw [List.getElem_take]; exact this
  rw [decide_eq_true h1, cond_true]
  refine Ac (fun hz => ?_) (fun hz => ?_)
  ·have hz' : (l.take m)[m - 1] = 0 := by simpa using hz
   rw [hz'] at htk
   rw [hx.row.len Af, hl, EF (b := 1) (by omega) (by omega)]
   refine Row.sli_h hx.row hx.cap Af AG (by omega) fun v' r1 r2 r3 r4 => ?_
   have htt : (l.take m).take (m - 1) = l.take (m - 1) := by rw [List.take_take]; congr 1; omega
   have hl' : (l.take (m - 1)).length = m - 1 := by rw [List.length_take]; omega
   rw [← List.map_take, htt] at r1 r3
   refine ⟨m - 1, by omega, rfl, by omega, ⟨by rw [hl']; exact r1, r2⟩, fun base hq => ?_, ?_, ?_⟩
   ·have := r3 base (ho base hq)
    unfold OD; rw [hl']; exact this
   ·rw [← ht, htk, KZ]
   ·rcases r4 with rfl | r4
    ·exact .inl rfl
    ·rw [r4]; exact hbk
  ·exact fin (by rw [hlast]; simpa using hz)
 ·rw [h1, Bool.not_true, An]
  simp only [Bool.not_true, decide_eq_false_iff_not] at h1
  have hm0 : m = 0 := by omega
  subst hm0
  exact fin (by simp)
theorem Ku {base : Nat} {v : Value} {l : List Nat} (h : OD .u32 Ay w base v l) (hd : Dig 4294967296 l) (H : ∀ v', MgO w base v' (val 4294967296 l) → K v' w) : call P Bp [v] w K :=
 ZA h.IR fun v' h1 h2 _ => H v' ⟨trim l, h2 base h, Norm.trim hd, II _ _⟩
def cmpN (a b : Nat) : Int := if a < b then -1 else if b < a then 1 else 0
theorem Vd {v : Value} {a : Int} (H : K (.bool false) w) : call P Gt [.int .i64 a] w K := by
 refine WW ?_
 unfold Jl
 rw [B5]; simpa using H
theorem Vg {v : Value} {a : Int} (H : K (.bool false) w) : call P Ey [.int .u32 a] w K := by
 refine TE ?_
 unfold Hl
 rw [B5]; simpa using H
theorem ZR {a b : Nat} (H : K (.int .i64 (cmpN a b)) w) : call P Ij [.int .i64 (a : Int), .int .i64 (b : Int)] w K := by
 refine UM ?_
 unfold HY
 refine Vd (v := undef) (Vd (v := undef) ?_)
 rw [Ao, Ao, Ai]
 unfold cmpN at H
 refine Ac (fun h => ?_) (fun h => ?_)
 ·rw [if_pos (by omega)] at H; exact H
 ·rw [if_neg (by omega)] at H
  rw [Aq]
  refine Ac (fun h => ?_) (fun h => ?_)
  ·rw [if_pos (by omega)] at H; exact H
  ·rw [if_neg (by omega)] at H; exact H
theorem Aae {a b : Nat} (H : K (.int .i64 (cmpN a b)) w) : call P FB [.int .u32 (a : Int), .int .u32 (b : Int)] w K := by
 refine R4 ?_
 unfold FE
 refine Vg (v := undef) (Vg (v := undef) ?_)
 rw [Ao, Ao, Ai]
 unfold cmpN at H
 refine Ac (fun h => ?_) (fun h => ?_)
 ·rw [if_pos (by omega)] at H; exact H
 ·rw [if_neg (by omega)] at H
  rw [Aq]
  refine Ac (fun h => ?_) (fun h => ?_)
  ·rw [if_pos (by omega)] at H; exact H
  ·rw [if_neg (by omega)] at H; exact H
theorem Abo {b : Nat} {l r : List Nat} (hl : Norm b l) (hr : Norm b r) (h : l.length ≠ r.length) : cmpN (val b l) (val b r) = cmpN l.length r.length := by
 unfold cmpN
 rcases Nat.lt_or_gt_of_ne h with h | h
 ·rw [if_pos h, if_pos (R7 hl.1 hr h)]
 ·have := R7 hr.1 hl h
  rw [if_neg (show ¬ val b l < val b r by omega), if_pos this, if_neg (show ¬ l.length < r.length by omega), if_pos h]
theorem Abe {b : Nat} {l r : List Nat} {i : Nat} (hl : Dig b l) (hr : Dig b r) (hlen : l.length = r.length) (hi : i < l.length) (hd : l.drop (i + 1) = r.drop (i + 1)) (h : l[i] ≠ r[i]'(by omega)) : cmpN (val b l) (val b r) = cmpN l[i] (r[i]'(by omega)) := by
 unfold cmpN
 rcases Nat.lt_or_gt_of_ne h with h | h
 ·rw [if_pos h, if_pos (Ada hl hlen hi hd h)]
 ·have := Ada hr hlen.symm (by omega) hd.symm h
  rw [if_neg (show ¬ val b l < val b r by omega), if_pos this, if_neg (show ¬ l[i] < r[i] by omega), if_pos h]
theorem VK {u v : Value} {a b : Nat} (ha : Mg w u a) (hb : Mg w v b) (H : K (.int .i64 (cmpN a b)) w) : call P FU [u, v] w K := by
 obtain ⟨l, h1, n1, rfl, _⟩ := ha
 obtain ⟨r, h2, n2, rfl, _⟩ := hb
 refine Aa0 ?_
 unfold Nq
 have b1 := h1.bound
 have b2 := h2.bound
 rw [h1.row.len Af, h2.row.len Af, B5]
 refine Ac (fun h => ?_) (fun h => ?_)
 ·rw [h1.row.len Af, h2.row.len Af]
  rw [Abo n1 n2 (by omega)] at H
  exact ZR H
 ·have hlen : l.length = r.length := by omega
  rw [h1.row.len Af, AC, Ad (by omega) (by omega)]
  refine ⟨fun m x w' => w' = w ∧ x = .int .i64 ((m : Int) - 1) ∧ m ≤ l.length ∧ l.drop m = r.drop m, ⟨l.length, rfl, rfl, Nat.le_refl _, by rw [List.drop_length, hlen, List.drop_length]⟩, ?_⟩
  rintro m x junk w' ⟨rfl, rfl, hm, hd⟩
  rw [B6]
  refine Ac (fun hge => ?_) (fun hlt => ?_)
  ·have hm0 : 0 < m := by omega
   rw [show (m : Int) - 1 = ((m - 1 : Nat) : Int) by omega]
   refine h1.at (i := m - 1) (by omega) Af AG Be ?_
   refine h2.at (i := m - 1) (by omega) Af AG Be ?_
   rw [B5]
   refine Ac (fun hne => ?_) (fun heq => ?_)
   ·refine h1.at (i := m - 1) (by omega) Af AG Be ?_
    refine h2.at (i := m - 1) (by omega) Af AG Be ?_
    rw [Abe (i := m - 1) n1.1 n2.1 hlen (by omega) (by rw [show m - 1 + 1 = m by omega]; exact hd) (by omega)] at H
    exact Aae H
   ·rw [AC, Ad (by omega) (by omega)]
    refine ⟨m - 1, by omega, rfl, by congr 1, by omega, ?_⟩
    rw [List.drop_eq_getElem_cons (by omega : m - 1 < l.length), List.drop_eq_getElem_cons (by omega : m - 1 < r.length), show m - 1 + 1 = m by omega, hd]
    congr 1; omega
  ·have hm0 : m = 0 := by omega
   subst hm0
   have : l = r := by simpa using hd
   subst this
   unfold cmpN at H
   rw [if_neg (by omega), if_neg (by omega)] at H
   exact H
end


section
open Go Go.Vc
variable {w : World} {K : Value → World → Prop}
theorem Br (b : Nat) (l : List Nat) (i : Nat) : val b (l.take (i + 1)) = val b (l.take i) + b ^ i * l.getD i 0 := by
 by_cases h : i < l.length
 ·rw [BV b h, List.getD_eq_getElem?_getD]; simp [h]
 ·rw [List.take_of_length_le (by omega), List.take_of_length_le (by omega), List.getD_eq_getElem?_getD]; simp [show l.length ≤ i by omega]
theorem AgU {l : List Nat} {i x : Nat} (h : i < l.length) : (l.set i x).take (i + 1) = l.take i ++ [x] := by
 rw [List.take_succ_eq_append_getElem (by simpa using h)]
 simp [List.take_set_of_le]
theorem J2 (b : Nat) {l : List Nat} {i x : Nat} (h : i < l.length) : val b ((l.set i x).take (i + 1)) = val b (l.take i) + b ^ i * x := by
 rw [AgU h, De, List.length_take, Nat.min_eq_left (by omega)]
theorem Gd {b : Nat} {l : List Nat} {i x : Nat} (h : Dig b l) (hx : x < b) : Dig b (l.set i x) := fun d hd => by
 rcases List.mem_or_eq_of_mem_set hd with h1 | h1
 ·exact h d h1
 ·omega
theorem KN (b n : Nat) (hb : 0 < b) : Dig b (List.replicate n 0) := fun d hd => by rw [List.mem_replicate] at hd; omega
theorem Bj {b : Nat} {l : List Nat} (h : Dig b l) {i : Nat} (hi : i < l.length) : l[i] < b := h _ (List.getElem_mem hi)
theorem AY {l : List Nat} {i : Nat} (hi : i < l.length) : l.getD i 0 = l[i] := by rw [List.getD_eq_getElem?_getD]; simp [hi]
theorem Ab9 {b : Nat} {l r : List Nat} (hl : Norm b l) (hr : Norm b r) (h : val b r ≤ val b l) : r.length ≤ l.length := by
 rw [← Nat.not_lt]
 intro hc
 have := R7 hl.1 hr hc
 omega
theorem pB (i : Nat) : (4294967296 : Nat) ^ (i + 1) = 4294967296 ^ i * 4294967296 := Nat.pow_succ ..
theorem Ahl {V L R p c a b s : Nat} (hv : V + c * p = L + R) (hs : s = c + a + b) : V + p * (s % 4294967296) + s / 4294967296 * (p * 4294967296) = L + p * a + (R + p * b) := by
 have h := Nat.div_add_mod s 4294967296
 have h2 : p * (4294967296 * (s / 4294967296) + s % 4294967296) = p * (c + a + b) := by rw [h, hs]
 grind
theorem AdM {V L R p c a b s s0 s1 : Nat} (hv : V + R = L + c * p) (hs : s = c + b) (hk : s0 + s = a + s1 * 4294967296) : V + p * s0 + (R + p * b) = L + p * a + s1 * (p * 4294967296) := by
 have h2 : p * (s0 + s) = p * (a + s1 * 4294967296) := by rw [hk]
 rw [hs] at h2
 grind
theorem Cg {k : IntKind} {e : TypeId} {w w1 w2 : World} {v : Value} {l : List Nat} (he : Ext w w1) (ho : OD k e w1 w.heap.size v l) (hg : w1.grownBy w2 v.ownBlock) : Ext w w2 :=
 Ab he (fun g hg' => (ho.lt g hg').1) hg
theorem VC {u v : Value} {a b : Nat} (ha : Mg w u a) (hb : Mg w v b) (ba : bl a ≤ 1099511627776) (bb : bl b ≤ 1099511627776)
  (H : ∀ v' w', Ext w w' → MgO w' w.heap.size v' (a + b) → K v' w') : call P CV [u, v] w K := by
 have main : ∀ {u v : Value} {l r : List Nat}, IR .u32 w u l → IR .u32 w v r → Dig 4294967296 l → Dig 4294967296 r → r.length ≤ l.length → l.length ≤ 34359738369 → (∀ v' w', Ext w w' → MgO w' w.heap.size v' (val 4294967296 l + val 4294967296 r) → K v' w') →
   (bl0 P .len #[Co] Bw [u] w fun x17_6 =>
   bin P .add Bw false true x17_6 (.int .i64 1) w fun x18_7 =>
   mks P Co x18_7 x18_7 w fun x19_8 w9 =>
   bl0 P .len #[Co] Bw [u] w9 fun x21_10 =>
   ∃ I11 : Nat → Value → Value → World → Prop, (∃ m46, I11 m46 (.int .u64 0) (.int .i64 0) w9) ∧ ∀ (m14 : Nat) (x6_15 : Value) (x22_16 : Value) (junk12 : Env) (w13 : World), I11 m14 x6_15 x22_16 w13 →
    bin P .lss Bw false false x22_16 x21_10 w13 fun x23_17 =>
    cnd x23_17
     (ixa P Co u x22_16 w13 fun x25_18 =>
     ld P Ay x25_18 w13 fun x26_19 =>
     cnv P Ay Ea x26_19 w13 fun x29_20 =>
     bin P .add Ea false false x6_15 x29_20 w13 fun x30_21 =>
     ∃ J22 : Value → World → Prop, (∀ (x6_25 : Value) (junk23 : Env) (w24 : World), J22 x6_25 w24 →
      cnv P Ea Ay x6_25 w24 fun x45_26 =>
      ixa P Co x19_8 x22_16 w24 fun x46_27 =>
      sto P Ay x46_27 x45_26 w24 fun w29 =>
      bin P .shr Ea false true x6_25 (.int .u64 32) w29 fun x48_30 =>
      bin P .add Bw false true x22_16 (.int .i64 1) w29 fun x49_31 =>
      ∃ m32, m32 < m14 ∧ I11 m32 x48_30 x49_31 w29) ∧
      (bl0 P .len #[Co] Bw [v] w13 fun x33_33 =>
      bin P .lss Bw false false x22_16 x33_33 w13 fun x34_34 =>
      cnd x34_34
       (ixa P Co v x22_16 w13 fun x38_35 =>
       ld P Ay x38_35 w13 fun x39_36 =>
       cnv P Ay Ea x39_36 w13 fun x40_37 =>
       bin P .add Ea false false x30_21 x40_37 w13 fun x41_38 =>
       J22 x41_38 w13)
       (J22 x30_21 w13)))
     (bl0 P .len #[Co] Bw [u] w13 fun x52_39 =>
     cnv P Ea Ay x6_15 w13 fun x54_40 =>
     ixa P Co x19_8 x52_39 w13 fun x55_41 =>
     sto P Ay x55_41 x54_40 w13 fun w43 =>
     call P Bp [x19_8] w43 fun x57_44 w45 =>
     K x57_44 w45)) := by
  intro u v l r h1 h2 d1 d2 hlr hlen H
  rw [h1.row.len Af, AO (b := 1) (by omega)]
  refine OD.make Af AG (by omega) (by simp only [maxLen]; omega) fun w1 o ho he => ?_
  rw [(h1.ext he).row.len Af]
  refine ⟨fun m x y w' => ∃ (i c : Nat) (q : List Nat), m + i = l.length ∧ x = .int .u64 (c : Int) ∧ y = .int .i64 (i : Int) ∧ Ext w w' ∧ OD .u32 Ay w' w.heap.size o q ∧ q.length = l.length + 1 ∧ Dig 4294967296 q ∧ c ≤ 1 ∧
   val 4294967296 (q.take i) + c * 4294967296 ^ i = val 4294967296 (l.take i) + val 4294967296 (r.take i), ⟨l.length, 0, 0, _, rfl, rfl, rfl, he, ho, by simp, KN _ _ (by decide), by omega, by simp [val]⟩, ?_⟩
  rintro m x y junk w2 ⟨i, c, q, hm, rfl, rfl, e2, oq, hq, dq, hc, hv⟩
  rw [Ai]
  refine Ac (fun hlt => ?_) (fun hge => ?_)
  ·have hi : i < l.length := by omega
   refine (h1.ext e2).at hi Af AG Be ?_
   have g1 := Bj d1 hi
   rw [CO g1, KH (by omega)]
   refine ⟨fun x w' => w' = w2 ∧ ∃ s : Nat, x = .int .u64 (s : Int) ∧ s = c + l[i] + r.getD i 0 ∧ r.getD i 0 < 4294967296, ?_, ?_⟩
   ·rintro x junk w3 ⟨rfl, s, rfl, hs, hr⟩
    rw [DE]
    refine OD.set oq (by omega) Af AG fun w4 oq' hg => ?_
    rw [Cu (s := 32) (by decide), AO (b := 1) (by omega)]
    refine ⟨m - 1, by omega, i + 1, s / 2 ^ 32, _, by omega, rfl, rfl, Cg e2 oq hg, oq', by simpa using hq, Gd dq (Nat.mod_lt _ (by decide)), by omega, ?_⟩
    rw [J2 _ (by omega), Br, Br, AY hi, pB]
    exact Ahl hv hs
   ·rw [(h2.ext e2).row.len Af, Ai]
    refine Ac (fun h => ?_) (fun h => ?_)
    ·have hi2 : i < r.length := by omega
     refine (h2.ext e2).at hi2 Af AG Be ?_
     have g2 := Bj d2 hi2
     rw [CO g2, KH (by omega)]
     exact ⟨rfl, _, rfl, by rw [AY hi2], by rw [AY hi2]; exact g2⟩
    ·have : r.getD i 0 = 0 := by rw [List.getD_eq_getElem?_getD]; simp [show r.length ≤ i by omega]
     exact ⟨rfl, _, rfl, by omega, by omega⟩
  ·have hi : i = l.length := by omega
   subst hi
   rw [(h1.ext e2).row.len Af, DE]
   refine OD.set oq (by omega) Af AG fun w4 oq' hg => ?_
   have hcm : c % 4294967296 = c := Nat.mod_eq_of_lt (by omega)
   rw [hcm] at oq'
   refine Ku oq' (Gd dq (by omega)) fun v' hv' => ?_
   have e : val 4294967296 (q.set l.length c) = val 4294967296 l + val 4294967296 r := by
    have h3 := J2 4294967296 (l := q) (i := l.length) (x := c) (by omega)
    rw [List.take_of_length_le (by rw [List.length_set]; omega)] at h3
    rw [List.take_of_length_le (by omega : l.length ≤ l.length), List.take_of_length_le (by omega : r.length ≤ l.length)] at hv
    rw [h3, ← hv, Nat.mul_comm]
   rw [e] at hv'
   exact H _ _ (Cg e2 oq hg) hv'
 obtain ⟨l, h1, n1, rfl, _⟩ := ha
 obtain ⟨r, h2, n2, rfl, _⟩ := hb
 have l1 := Ej n1 ba
 have l2 := Ej n2 bb
 refine Aa6 ?_
 unfold MI
 refine ⟨_, fun _ _ _ _ h => h, ?_⟩
 rw [h1.row.len Af, h2.row.len Af, Ai]
 refine Ac (fun h => ?_) (fun h => ?_)
 ·exact main h2 h1 n2.1 n1.1 (by omega) l2 (by rw [Nat.add_comm]; exact H)
 ·exact main h1 h2 n1.1 n2.1 (by omega) l1 H
theorem Ab2 {x : Nat} (h0 : 0 < x) (h : x < 18446744073709551616) : IntKind.u64.wrap (-(x : Int)) = ((18446744073709551616 - x : Nat) : Int) := by
 simp [IntKind.wrap, IntKind.bits, IntKind.signed]; omega
theorem Ahu {t : TypeId} {cx cy : Bool} {a b : Nat} {K : Value → Prop} (ha : a < 18446744073709551616) (hb : b < 18446744073709551616) : bin P .sub t cx cy (.int .u64 (a : Int)) (.int .u64 (b : Int)) w K = K (.int .u64 (((a + 18446744073709551616 - b) % 18446744073709551616 : Nat) : Int)) := by
 rw [AC]
 congr 2
 by_cases h : b ≤ a
 ·rw [show (a : Int) - b = ((a - b : Nat) : Int) by omega, Is (by omega)]; omega
 ·rw [show (a : Int) - b = -((b - a : Nat) : Int) by omega, Ab2 (by omega) (by omega)]; omega
theorem Wd {u v : Value} {a b : Nat} (ha : Mg w u a) (hb : Mg w v b) (hle : b ≤ a) (ba : bl a ≤ 1099511627776)
  (H : ∀ v' w', Ext w w' → MgO w' w.heap.size v' (a - b) → K v' w') : call P FQ [u, v] w K := by
 obtain ⟨l, h1, n1, rfl, _⟩ := ha
 obtain ⟨r, h2, n2, rfl, _⟩ := hb
 have l1 := Ej n1 ba
 have hlr := Ab9 n1 n2 hle
 have d1 := n1.1
 have d2 := n2.1
 refine Aaw ?_
 unfold Nn
 rw [h1.row.len Af]
 refine OD.make Af AG (by omega) (by simp only [maxLen]; omega) fun w1 o ho he => ?_
 rw [(h1.ext he).row.len Af]
 refine ⟨fun m x y w' => ∃ (i c : Nat) (q : List Nat), m + i = l.length ∧ x = .int .u64 (c : Int) ∧ y = .int .i64 (i : Int) ∧ Ext w w' ∧ OD .u32 Ay w' w.heap.size o q ∧ q.length = l.length ∧ Dig 4294967296 q ∧ c ≤ 1 ∧
  val 4294967296 (q.take i) + val 4294967296 (r.take i) = val 4294967296 (l.take i) + c * 4294967296 ^ i, ⟨l.length, 0, 0, _, rfl, rfl, rfl, he, ho, by simp, KN _ _ (by decide), by omega, by simp [val]⟩, ?_⟩
 rintro m x y junk w2 ⟨i, c, q, hm, rfl, rfl, e2, oq, hq, dq, hc, hv⟩
 rw [Ai]
 refine Ac (fun hlt => ?_) (fun hge => ?_)
 ·have hi : i < l.length := by omega
  refine (h1.ext e2).at hi Af AG Be ?_
  have g1 := Bj d1 hi
  refine ⟨fun x w' => w' = w2 ∧ ∃ s : Nat, x = .int .u64 (s : Int) ∧ s = c + r.getD i 0 ∧ r.getD i 0 < 4294967296, ?_, ?_⟩
  ·rintro x junk w3 ⟨rfl, s, rfl, hs, hr⟩
   rw [CO g1, Ahu (by omega) (by omega), DE]
   refine OD.set oq (by omega) Af AG fun w4 oq' hg => ?_
   rw [Cu (s := 63) (by decide), AO (b := 1) (by omega)]
   have key : (l[i] + 18446744073709551616 - s) % 18446744073709551616 % 4294967296 + s = l[i] + (l[i] + 18446744073709551616 - s) % 18446744073709551616 / 2 ^ 63 * 4294967296 ∧ (l[i] + 18446744073709551616 - s) % 18446744073709551616 / 2 ^ 63 ≤ 1 := by
    simp only [show (2 : Nat) ^ 63 = 9223372036854775808 from rfl]
    omega
   obtain ⟨k1, k2⟩ := key
   refine ⟨m - 1, by omega, i + 1, _, _, by omega, rfl, rfl, Cg e2 oq hg, oq', by simpa using hq, Gd dq (Nat.mod_lt _ (by decide)), k2, ?_⟩
   rw [J2 _ (by omega), Br, Br, AY hi, pB]
   exact AdM hv hs k1
  ·rw [(h2.ext e2).row.len Af, Ai]
   refine Ac (fun h => ?_) (fun h => ?_)
   ·have hi2 : i < r.length := by omega
    refine (h2.ext e2).at hi2 Af AG Be ?_
    have g2 := Bj d2 hi2
    rw [CO g2, KH (by omega)]
    exact ⟨rfl, _, rfl, by rw [AY hi2], by rw [AY hi2]; exact g2⟩
   ·have : r.getD i 0 = 0 := by rw [List.getD_eq_getElem?_getD]; simp [show r.length ≤ i by omega]
    exact ⟨rfl, _, rfl, by omega, by omega⟩
 ·have hi : i = l.length := by omega
  subst hi
  rw [List.take_of_length_le (by omega : l.length ≤ l.length), List.take_of_length_le (by omega : r.length ≤ l.length), List.take_of_length_le (by omega : q.length ≤ l.length)] at hv
  have hc0 : c = 0 := by
   have h3 := B8 dq
   rw [hq] at h3
   rcases Nat.eq_zero_or_pos c with h | h
   ·exact h
   ·have : 1 * 4294967296 ^ l.length ≤ c * 4294967296 ^ l.length := Nat.mul_le_mul_right _ h
    omega
  subst hc0
  refine Ku oq dq fun v' hv' => ?_
  have e : val 4294967296 q = val 4294967296 l - val 4294967296 r := by omega
  rw [e] at hv'
  exact H _ _ e2 hv'
theorem Ah4 {t e : TypeId} {cx cy : Bool} {a : Option Addr} {n c : Nat} {K : Value → Prop} (hu : P.underlying t = some (.slice e)) : bin P .eql t cx cy (.slice a n c) (.slice none 0 0) w K = K (.bool a.isNone) := by
 refine BB (by unfold eqg eqGuard; rfl) ?_
 show rv P (do pure (Value.bool (← Op.equal t _ _))) w = _
 rw [AR]
 have : rv P (Op.equal t (.slice a n c) (.slice none 0 0)) w = some a.isNone := by
  show rv P (Op.equalIn (9999 + 1) t _ _) w = _
  rw [Op.equalIn, AR, A4 hu]
  cases a <;> rfl
 rw [this]; rfl
theorem Adz {v : Value} {n : Nat} (h : Mg w v n) (hn : bl n ≤ 1099511627776) (H : ∀ v' w', Ext w w' → MgO w' w.heap.size v' n → K v' w') : call P Cr [v] w K := by
 obtain ⟨l, h1, n1, rfl, _⟩ := h
 have l1 := Ej n1 hn
 refine Ld ?_
 unfold CZ
 have hrow := h1.row
 obtain ⟨_, _, a, cap, rfl, hcell⟩ := hrow
 rw [Ah4 Af]
 cases a with
 | none =>
  have hl0 : l.length = 0 := by
   refine Classical.byContradiction fun hne => ?_
   obtain ⟨_, _, h, _⟩ := hcell hne
   cases h
  obtain rfl : l = [] := List.eq_nil_of_length_eq_zero hl0
  exact A9 rfl (H _ _ (Ext.refl _) (MgO.nil _ _))
 | some a =>
  refine AD rfl ?_
  refine DG Af AG ?_
  have he := Bg w (.cells #[] Ay)
  have hz : (w.alloc (.cells #[] Ay)).ownsRow w.heap.size Ay 1 (.slice (some ⟨w.heap.size, 0, none⟩) 0 0) 0 [] := B9 w [] Ay
  generalize w.alloc (.cells #[] Ay) = w1 at he hz ⊢
  by_cases hl0 : l.length = 0
  ·obtain rfl : l = [] := List.eq_nil_of_length_eq_zero hl0
   refine Jk hz (h1.ext he).row (by simp) Af AG rfl (by decide) (Nat.zero_le _) (by decide) he.size fun v' w2 ho hg => ?_
   exact H _ _ (Ab he (fun g hq => (hz.lt g hq).1) hg) ⟨[], ho, n1, rfl⟩
  ·refine Aba (h1.ext he).row (by simp [Value.oneCell']) Af AG rfl (by decide) (by omega) (by omega) fun v' w2 ho he2 => ?_
   exact H _ _ (he.trans he2) ⟨l, Cw ho he.size, n1, rfl⟩
theorem Gc (b : Nat) {l : List Nat} {i x : Nat} (h : i < l.length) : val b (l.set i x) + b ^ i * l[i] = val b l + b ^ i * x := by
 have h1 := Ce b l (i := i) (by omega)
 have h2 := Ce b (l.set i x) (i := i) (by simp; omega)
 rw [List.take_set_of_le (by omega)] at h2
 have h3 : (l.set i x).drop i = x :: l.drop (i + 1) := by
  rw [List.drop_eq_getElem_cons (by simpa using h), List.getElem_set_self, List.drop_set_of_lt (by omega)]
 have h4 : l.drop i = l[i] :: l.drop (i + 1) := List.drop_eq_getElem_cons h
 rw [h3] at h2
 rw [h4] at h1
 simp only [val] at h1 h2
 grind
theorem Aha {V V' Q L p pi pk c x y o s : Nat} (hp : p = pi * pk) (hv : V + c * p = Q + x * L * pi) (hs : s = c + (x * y + o)) (hq : V' + p * o = V + p * (s % 4294967296)) :
  V' + s / 4294967296 * (p * 4294967296) = Q + x * (L + pk * y) * pi := by
 have h := Nat.div_add_mod s 4294967296
 have h2 : p * (4294967296 * (s / 4294967296) + s % 4294967296) = p * (c + (x * y + o)) := by rw [h, hs]
 subst hp
 grind
theorem AbA {V V' A x y p pi pk c : Nat} (hp : p = pi * pk) (hv : V + c * p = A * y + x * y * pi) (hq : V' + p * 0 = V + p * c) : V' = (A + pi * x) * y := by
 subst hp
 grind
theorem AgP {x y : Nat} (hx : x < 4294967296) (hy : y < 4294967296) : x * y ≤ 18446744065119617025 := by
 have : x * y ≤ 4294967295 * 4294967295 := Nat.mul_le_mul (by omega) (by omega)
 omega
theorem I2 {l : List Nat} {i j x : Nat} (h : i < l.length) : (l.set i x).getD j 0 = if i = j then x else l.getD j 0 := by
 simp only [List.getD_eq_getElem?_getD, List.getElem?_set]
 by_cases e : i = j
 ·subst e; simp [h]
 ·simp [e]
theorem Acj {u v : Value} {a b : Nat} (ha : Mg w u a) (hb : Mg w v b) (ba : bl a ≤ 1099511627776) (bb : bl b ≤ 1099511627776)
  (H : ∀ v' w', Ext w w' → MgO w' w.heap.size v' (a * b) → K v' w') : call P D7 [u, v] w K := by
 obtain ⟨l, h1, n1, rfl, _⟩ := ha
 obtain ⟨r, h2, n2, rfl, _⟩ := hb
 have l1 := Ej n1 ba
 have l2 := Ej n2 bb
 have d1 := n1.1
 have d2 := n2.1
 refine Aas ?_
 unfold Ns
 rw [h1.row.len Af, h2.row.len Af, BG (by omega)]
 refine OD.make Af AG (by omega) (by simp only [maxLen]; omega) fun w1 o ho he => ?_
 rw [(h1.ext he).row.len Af]
 refine ⟨fun m y w' => ∃ (i : Nat) (q : List Nat), m + i = l.length ∧ y = .int .i64 (i : Int) ∧ Ext w w' ∧ OD .u32 Ay w' w.heap.size o q ∧ q.length = l.length + r.length ∧ Dig 4294967296 q ∧ (∀ j, i + r.length ≤ j → q.getD j 0 = 0) ∧
  val 4294967296 q = val 4294967296 (l.take i) * val 4294967296 r, ⟨l.length, 0, _, rfl, rfl, he, ho, by simp, KN _ _ (by decide), fun j _ => by simp [List.getElem?_replicate]; split <;> rfl, by simp [val, FP]⟩, ?_⟩
 rintro m y junk w2 ⟨i, q, hm, rfl, e2, oq, hq, dq, hz, hv⟩
 rw [Ai]
 refine Ac (fun hlt => ?_) (fun hge => ?_)
 ·have hi : i < l.length := by omega
  refine (h1.ext e2).at hi Af AG Be ?_
  have g1 := Bj d1 hi
  rw [(h2.ext e2).row.len Af]
  refine ⟨fun m' x y w' => ∃ (k c : Nat) (q' : List Nat), m' + k = r.length ∧ x = .int .u64 (c : Int) ∧ y = .int .i64 (k : Int) ∧ Ext w w' ∧ OD .u32 Ay w' w.heap.size o q' ∧ q'.length = l.length + r.length ∧ Dig 4294967296 q' ∧ (∀ j, i + r.length ≤ j → q'.getD j 0 = 0) ∧ c < 4294967296 ∧
   val 4294967296 q' + c * 4294967296 ^ (i + k) = val 4294967296 (l.take i) * val 4294967296 r + l[i] * val 4294967296 (r.take k) * 4294967296 ^ i,
   ⟨r.length, 0, 0, q, rfl, rfl, rfl, e2, oq, hq, dq, hz, by omega, by simp [val, hv]⟩, ?_⟩
  rintro m' x y junk w3 ⟨k, c, q', hm', rfl, rfl, e3, oq', hq', dq', hz', hc, hv'⟩
  rw [Ai]
  refine Ac (fun hlt' => ?_) (fun hge' => ?_)
  ·have hk : k < r.length := by omega
   refine (h2.ext e3).at hk Af AG Be ?_
   have g2 := Bj d2 hk
   have hik : i + k < q'.length := by omega
   have g3 := Bj dq' hik
   have hw := AgP g1 g2
   rw [CO g1, CO g2, Acc (by omega), BG (by omega)]
   refine oq'.IR.at hik Af AG Be ?_
   rw [CO g3, KH (by omega), KH (by omega), BG (by omega), DE]
   refine OD.set oq' hik Af AG fun w4 oq4 hg => ?_
   rw [Cu (s := 32) (by decide), AO (b := 1) (by omega)]
   refine ⟨m' - 1, by omega, k + 1, _, _, by omega, rfl, rfl, Cg e3 oq' hg, oq4, by simpa using hq', Gd dq' (Nat.mod_lt _ (by decide)), fun j hj => ?_, ?_, ?_⟩
   ·rw [I2 hik, if_neg (by omega)]; exact hz' j hj
   ·have : c + (l[i] * r[k] + q'[i + k]) < 18446744073709551616 := by omega
    simp only [show (2 : Nat) ^ 32 = 4294967296 from rfl]
    omega
   ·rw [Br, AY hk, show (4294967296 : Nat) ^ (i + (k + 1)) = 4294967296 ^ (i + k) * 4294967296 from pB (i + k)]
    exact Aha (Nat.pow_add ..) hv' rfl (Gc _ hik)
  ·have hk : k = r.length := by omega
   subst hk
   have hik : i + r.length < q'.length := by omega
   rw [(h2.ext e3).row.len Af, BG (by omega), DE]
   refine OD.set oq' hik Af AG fun w4 oq4 hg => ?_
   rw [AO (b := 1) (by omega)]
   have hcm : c % 4294967296 = c := Nat.mod_eq_of_lt (by omega)
   rw [hcm] at oq4
   refine ⟨m - 1, by omega, i + 1, _, by omega, rfl, Cg e3 oq' hg, oq4, by simpa using hq', Gd dq' (by omega), fun j hj => ?_, ?_⟩
   ·rw [I2 hik, if_neg (by omega)]; exact hz' j (by omega)
   ·rw [Br, AY hi]
    rw [List.take_of_length_le (Nat.le_refl _)] at hv'
    refine AbA (Nat.pow_add ..) hv' ?_
    have h3 := Gc 4294967296 (l := q') (x := c) hik
    have h4 := hz' (i + r.length) (Nat.le_refl _)
    rw [AY hik] at h4
    rw [h4] at h3
    exact h3
 ·have hi : i = l.length := by omega
  subst hi
  rw [List.take_of_length_le (Nat.le_refl _)] at hv
  refine Ku oq dq fun v' hv' => ?_
  rw [hv] at hv'
  exact H _ _ e2 hv'
end


section
open Go Go.Vc
variable {w : World} {K : Value → World → Prop}
section
variable {t : TypeId} {cx cy : Bool} {k yk : IntKind} {a b s : Nat} {c : Int} {K : Value → Prop}
theorem Ajn (k : IntKind) : k.min ≤ 0 := by cases k <;> decide
theorem FK {k : IntKind} {x : Nat} (h : (x : Int) ≤ k.max) : k.wrap (x : Int) = (x : Int) := NP (Int.le_trans (Ajn k) (Int.natCast_nonneg _)) h
theorem Hg (h : (a : Int) ≤ k.max) (hb : b ≠ 0) (hc : c = (b : Int) := by rfl) : bin P .quo t cx cy (.int k (a : Int)) (.int k c) w K = K (.int k ((a / b : Nat) : Int)) := by
 subst hc
 rw [Ad9 _ _ _ _ _ _ _ (by omega)]
 have e : Int.tdiv (a : Int) (b : Int) = ((a / b : Nat) : Int) := by rw [Int.ofNat_tdiv]
 rw [e, FK (Int.le_trans (by
  have := Nat.div_le_self a b
  omega) h)]
theorem RA (hb : b ≠ 0) (hc : c = (b : Int) := by rfl) : bin P .rem t cx cy (.int k (a : Int)) (.int k c) w K = K (.int k ((a % b : Nat) : Int)) := by
 subst hc
 rw [Adx _ _ _ _ _ _ _ (by omega)]
 have e : Int.tmod (a : Int) (b : Int) = ((a % b : Nat) : Int) := by rw [Int.ofNat_tmod]
 rw [e]
theorem Ph (hs : s ≤ k.bits) (h : ((a * 2 ^ s : Nat) : Int) ≤ k.max) (hc : c = (s : Int) := by rfl) : bin P .shl t cx cy (.int k (a : Int)) (.int yk c) w K = K (.int k ((a * 2 ^ s : Nat) : Int)) := by
 subst hc
 rw [Ys _ _ _ _ _ _ _ _ (by omega)]
 have e : min ((s : Int).toNat) k.bits = s := by rw [Int.toNat_natCast]; omega
 rw [e]
 have : (a : Int) * 2 ^ s = ((a * 2 ^ s : Nat) : Int) := by simp
 rw [this, FK h]
theorem FG {n a : Nat} (h : a < 2 ^ n) : (BitVec.ofInt n (a : Int)).toNat = a := by
 rw [BitVec.ofInt_natCast, BitVec.toNat_ofNat, Nat.mod_eq_of_lt h]
theorem NT (ha : a < 2 ^ k.bits) (hb : b < 2 ^ k.bits) (hk : k.signed = false) (hc : c = (b : Int) := by rfl) : bin P .or t cx cy (.int k (a : Int)) (.int k c) w K = K (.int k ((a ||| b : Nat) : Int)) := by
 subst hc
 rw [Agm, BitVec.toNat_or, FG ha, FG hb]
 have h := Nat.or_lt_two_pow ha hb
 rw [FK]
 cases k <;> simp [IntKind.signed] at hk <;> simp [IntKind.max, IntKind.signed, IntKind.bits] at h ⊢ <;> omega
theorem RU (ha : a < 2 ^ k.bits) (hb : b < 2 ^ k.bits) (hk : k.signed = false) (hc : c = (b : Int) := by rfl) : bin P .and t cx cy (.int k (a : Int)) (.int k c) w K = K (.int k ((a &&& b : Nat) : Int)) := by
 subst hc
 rw [Kz, BitVec.toNat_and, FG ha, FG hb]
 have h : a &&& b ≤ a := Nat.and_le_left
 rw [FK]
 cases k <;> simp [IntKind.signed] at hk <;> simp [IntKind.max, IntKind.signed, IntKind.bits] at ha ⊢ <;> omega
theorem Fo : IntKind.u64.max = 18446744073709551615 := rfl
theorem AiJ : IntKind.u32.max = 4294967295 := rfl
theorem max_i64 : IntKind.i64.max = 9223372036854775807 := rfl
theorem OZ (h : a ≤ 9223372036854775807) : cnv P Ab6 Bw (.int .u64 (a : Int)) w K = K (.int .i64 (a : Int)) := by
 rw [AJ TQ DD, Ad (by omega) (by omega)]
theorem Jv (h : a ≤ 9223372036854775807) : cnv P Bw Ab6 (.int .i64 (a : Int)) w K = K (.int .u64 (a : Int)) := by
 rw [AJ DD TQ, Is (by omega)]
end
theorem Ad4 {d s old : Nat} (hs : s < 32) (hd : d < 4294967296) (ho : old < 2 ^ s) : old ||| (d * 2 ^ s % 4294967296) = old + d * 2 ^ s % 4294967296 := by
 have e : d * 2 ^ s % 4294967296 = 2 ^ s * (d % 2 ^ (32 - s)) := by
  have h32 : (4294967296 : Nat) = 2 ^ s * 2 ^ (32 - s) := by rw [← Nat.pow_add, show s + (32 - s) = 32 by omega]
  rw [h32, Nat.mul_comm d, Nat.mul_mod_mul_left]
 rw [e, Nat.or_comm, ← Nat.two_pow_add_eq_or_of_lt ho, Nat.add_comm]
theorem Af2 {V V1 V2 T x p q2 old wd f d p0 : Nat} (hV : V = T * f) (h1 : V1 + p * old = V + p * (old + wd % 4294967296)) (h2 : V2 + p * 4294967296 * 0 = V1 + p * 4294967296 * (wd / 4294967296)) (hp : p * wd = p0 * d * f) : V2 = (T + p0 * d) * f := by
 have h := Nat.div_add_mod wd 4294967296
 have h3 : p * (4294967296 * (wd / 4294967296) + wd % 4294967296) = p0 * d * f := by rw [h, hp]
 subst hV
 grind
theorem Afz {u : Value} {a n : Nat} (ha : Mg w u a) (ba : bl a ≤ 1099511627776) (bn : n ≤ 1099511627776)
  (H : ∀ v' w', Ext w w' → MgO w' w.heap.size v' (a * 2 ^ n) → K v' w') : call P KY [u, .int .u64 (n : Int)] w K := by
 obtain ⟨l, h1, n1, rfl, _⟩ := ha
 have l1 := Ej n1 ba
 have d1 := n1.1
 refine Ze ?_
 unfold LG
 rw [h1.row.len Af, Ae]
 refine Ac (fun h0 => ?_) (fun h0 => ?_)
 ·obtain rfl : l = [] := List.eq_nil_of_length_eq_zero (by omega)
  have := H _ _ (Ext.refl _) (by
   have := MgO.nil w w.heap.size
   simpa [val] using this)
  exact this
 ·rw [Hg (b := 32) (by rw [Fo]; omega) (by decide), OZ (by omega), h1.row.len Af, BG (by omega), AO (b := 1) (by omega)]
  refine OD.make Af AG (by omega) (by simp only [maxLen]; omega) fun w1 o ho he => ?_
  rw [(h1.ext he).row.len Af]
  refine ⟨fun m y w' => ∃ (i : Nat) (q : List Nat), m + i = l.length ∧ y = .int .i64 (i : Int) ∧ Ext w w' ∧ OD .u32 Ay w' w.heap.size o q ∧ q.length = n / 32 + l.length + 1 ∧ Dig 4294967296 q ∧ (∀ j, n / 32 + i < j → q.getD j 0 = 0) ∧ q.getD (n / 32 + i) 0 < 2 ^ (n % 32) ∧
   val 4294967296 q = val 4294967296 (l.take i) * 2 ^ n, ⟨l.length, 0, _, rfl, rfl, he, ho, by simp, KN _ _ (by decide), fun j _ => by simp [List.getElem?_replicate]; split <;> rfl, by
    have : (List.replicate (n / 32 + l.length + 1) 0).getD (n / 32 + 0) 0 = 0 := by simp [List.getElem?_replicate]; split <;> rfl
    rw [this]; exact Nat.two_pow_pos _, by simp [val, FP]⟩, ?_⟩
  rintro m y junk w2 ⟨i, q, hm, rfl, e2, oq, hq, dq, hz, hold, hv⟩
  rw [Ai]
  refine Ac (fun hlt => ?_) (fun hge => ?_)
  ·have hi : i < l.length := by omega
   refine (h1.ext e2).at hi Af AG Be ?_
   have g1 := Bj d1 hi
   have hs : n % 32 < 32 := Nat.mod_lt _ (by decide)
   have hps : 2 ^ (n % 32) ≤ 2147483648 := by
    have := Nat.pow_le_pow_right (n := 2) (by decide) (show n % 32 ≤ 31 by omega)
    exact this
   have hwd : l[i] * 2 ^ (n % 32) ≤ 4294967295 * 2147483648 := Nat.mul_le_mul (by omega) hps
   have hi1 : n / 32 + i < q.length := by omega
   have hi2 : n / 32 + i + 1 < q.length := by omega
   rw [CO g1, RA (b := 32) (by decide), Ph (s := n % 32) (by simp only [IntKind.bits]; omega) (by rw [Fo]; omega)]
   rw [Hg (b := 32) (by rw [Fo]; omega) (by decide), OZ (by omega), BG (by omega)]
   refine oq.IR.at hi1 Af AG Be ?_
   have g3 := Bj dq hi1
   rw [DE, NT (by simpa [IntKind.bits] using g3) (by have := Nat.mod_lt (l[i] * 2 ^ (n % 32)) (show 0 < 4294967296 by decide); simpa [IntKind.bits] using this) rfl]
   rw [AY hi1] at hold
   rw [Ad4 hs g1 hold]
   refine OD.set oq hi1 Af AG fun w3 oq3 hg3 => ?_
   have e3 := Cg e2 oq hg3
   rw [Hg (b := 32) (by rw [Fo]; omega) (by decide), OZ (by omega), BG (by omega), AO (b := 1) (by omega), Cu (s := 32) (by decide), DE]
   refine OD.set oq3 (by simpa using hi2) Af AG fun w4 oq4 hg4 => ?_
   rw [AO (b := 1) (by omega)]
   have hhi : l[i] * 2 ^ (n % 32) / 2 ^ 32 < 2 ^ (n % 32) := by
    rw [Nat.div_lt_iff_lt_mul (Nat.two_pow_pos _), Nat.mul_comm]
    exact Nat.mul_lt_mul_of_pos_left g1 (Nat.two_pow_pos _)
   have hmod : l[i] * 2 ^ (n % 32) / 2 ^ 32 % 4294967296 = l[i] * 2 ^ (n % 32) / 2 ^ 32 := Nat.mod_eq_of_lt (by omega)
   rw [hmod] at oq4
   have hlo : q[n / 32 + i] + l[i] * 2 ^ (n % 32) % 4294967296 < 4294967296 := by
    rw [← Ad4 hs g1 hold]
    exact Nat.or_lt_two_pow (n := 32) g3 (Nat.mod_lt _ (by decide))
   refine ⟨m - 1, by omega, i + 1, _, by omega, rfl, Cg e3 oq3 hg4, oq4, by simpa using hq, Gd (Gd dq hlo) (by omega), fun j hj => ?_, ?_, ?_⟩
   ·rw [I2 (by simpa using hi2), if_neg (by omega), I2 hi1, if_neg (by omega)]
    exact hz j (by omega)
   ·rw [show n / 32 + (i + 1) = n / 32 + i + 1 from rfl, I2 (by simpa using hi2), if_pos rfl]; exact hhi
   ·rw [Br, AY hi]
    have a1 := Gc 4294967296 (l := q) (x := q[n / 32 + i] + l[i] * 2 ^ (n % 32) % 4294967296) hi1
    have hi2' : n / 32 + i + 1 < (q.set (n / 32 + i) (q[n / 32 + i] + l[i] * 2 ^ (n % 32) % 4294967296)).length := by simpa using hi2
    have a2 := Gc 4294967296 (x := l[i] * 2 ^ (n % 32) / 2 ^ 32) hi2'
    have hz0 : (q.set (n / 32 + i) (q[n / 32 + i] + l[i] * 2 ^ (n % 32) % 4294967296))[n / 32 + i + 1] = 0 := by
     have := hz (n / 32 + i + 1) (by omega)
     rw [AY hi2] at this
     rw [List.getElem_set_ne (by omega)]; exact this
    rw [hz0, pB] at a2
    refine Af2 (x := 0) (q2 := 0) hv a1 a2 ?_
    have hn : 2 ^ n = 4294967296 ^ (n / 32) * 2 ^ (n % 32) := by
     conv => lhs; rw [← Nat.div_add_mod n 32, Nat.pow_add, Nat.pow_mul]
    rw [hn, Nat.pow_add]
    grind
  ·have hi : i = l.length := by omega
   subst hi
   rw [List.take_of_length_le (Nat.le_refl _)] at hv
   refine Ku oq dq fun v' hv' => ?_
   rw [hv] at hv'
   exact H _ _ e2 hv'
theorem Abm {d x : Nat} (hd : d < 4294967296) : d ||| x * 4294967296 = d + x * 4294967296 := by
 have := Nat.two_pow_add_eq_or_of_lt (i := 32) hd x
 rw [Nat.or_comm, Nat.mul_comm x, show (4294967296 : Nat) = 2 ^ 32 from rfl, ← this, Nat.add_comm]
theorem AeF {l : List Nat} {i s : Nat} (hd : Dig 4294967296 l) (hi : i < l.length) (hs : s < 32) :
  val 4294967296 l / 2 ^ s / 4294967296 ^ i % 4294967296 = (l[i] + l.getD (i + 1) 0 * 4294967296) / 2 ^ s % 4294967296 := by
 have h1 : val 4294967296 l / 2 ^ s / 4294967296 ^ i = val 4294967296 l / 4294967296 ^ i / 2 ^ s := by
  rw [Nat.div_div_eq_div_mul, Nat.div_div_eq_div_mul, Nat.mul_comm]
 have h2 : val 4294967296 l / 4294967296 ^ i = val 4294967296 (l.drop i) := by
  have hp : 0 < 4294967296 ^ i := Nat.pow_pos (by decide)
  rw [Ce _ l (Nat.le_of_lt hi), Nat.add_mul_div_left _ _ hp, Nat.div_eq_of_lt, Nat.zero_add]
  have := B8 (hd.take i)
  rw [List.length_take, Nat.min_eq_left (by omega)] at this
  exact this
 have h3 : ∃ X, val 4294967296 (l.drop i) = l[i] + l.getD (i + 1) 0 * 4294967296 + 18446744073709551616 * X := by
  rw [List.drop_eq_getElem_cons hi, val]
  by_cases h : i + 1 < l.length
  ·rw [List.drop_eq_getElem_cons h, val, AY h]
   exact ⟨val 4294967296 (l.drop (i + 1 + 1)), by grind⟩
  ·rw [List.drop_eq_nil_of_le (by omega), val]
   have : l.getD (i + 1) 0 = 0 := by rw [List.getD_eq_getElem?_getD]; simp [show l.length ≤ i + 1 by omega]
   exact ⟨0, by rw [this]⟩
 obtain ⟨X, hX⟩ := h3
 rw [h1, h2, hX]
 have h4 : 18446744073709551616 * X = 2 ^ s * (4294967296 * (2 ^ (32 - s) * X)) := by
  have : (4294967296 : Nat) = 2 ^ s * 2 ^ (32 - s) := by rw [← Nat.pow_add, show s + (32 - s) = 32 by omega]
  have h5 : (18446744073709551616 : Nat) = 4294967296 * (2 ^ s * 2 ^ (32 - s)) := by rw [← this]
  rw [h5]; grind
 rw [h4, Nat.add_mul_div_left _ _ (Nat.two_pow_pos _), Nat.add_mul_mod_self_left]
theorem Wt {u : Value} {a n : Nat} (ha : Mg w u a) (ba : bl a ≤ 1099511627776) (bn : n ≤ 9223372036854775807)
  (H : ∀ v' w', Ext w w' → MgO w' w.heap.size v' (a / 2 ^ n) → K v' w') : call P Gu [u, .int .u64 (n : Int)] w K := by
 obtain ⟨l, h1, n1, rfl, _⟩ := ha
 have l1 := Ej n1 ba
 have d1 := n1.1
 have hn : 2 ^ n = 4294967296 ^ (n / 32) * 2 ^ (n % 32) := by
  conv => lhs; rw [← Nat.div_add_mod n 32, Nat.pow_add, Nat.pow_mul]
 refine WZ ?_
 unfold Ji
 rw [h1.row.len Af, Jv (by omega), Hg (b := 32) (by rw [Fo]; omega) (by decide), Dx]
 refine Ac (fun h0 => ?_) (fun h0 => ?_)
 ·have e : val 4294967296 l / 2 ^ n = 0 := by
   refine Nat.div_eq_of_lt (Nat.lt_of_lt_of_le (B8 d1) ?_)
   rw [hn]
   refine Nat.le_trans (Nat.pow_le_pow_right (by decide) (by omega : l.length ≤ n / 32)) (Nat.le_mul_of_pos_right _ (Nat.two_pow_pos _))
  rw [e] at H
  exact H _ _ (Ext.refl _) (MgO.nil _ _)
 ·have hle : n / 32 < l.length := by omega
  rw [Hg (b := 32) (by rw [Fo]; omega) (by decide)]
  refine Row.sli_l h1.row h1.cap Af AG (by omega) fun v' r1 r2 => ?_
  have hl' : (l.drop (n / 32)).length = l.length - n / 32 := List.length_drop
  have hm : IR .u32 w v' (l.drop (n / 32)) := ⟨by rw [hl', List.map_drop]; exact r1, r2⟩
  have hdiv : val 4294967296 l / 2 ^ n = val 4294967296 (l.drop (n / 32)) / 2 ^ (n % 32) := by
   rw [hn, ← Nat.div_div_eq_div_mul]
   congr 1
   have hp : 0 < 4294967296 ^ (n / 32) := Nat.pow_pos (by decide)
   conv => lhs; rw [Ce _ l (Nat.le_of_lt hle)]
   rw [Nat.add_mul_div_left _ _ hp, Nat.div_eq_of_lt, Nat.zero_add]
   have := B8 (d1.take (n / 32))
   rw [List.length_take, Nat.min_eq_left (by omega)] at this
   exact this
  have dm : Dig 4294967296 (l.drop (n / 32)) := d1.drop _
  rw [hdiv] at H
  generalize l.drop (n / 32) = r at *
  have hs : n % 32 < 32 := Nat.mod_lt _ (by decide)
  rw [hm.row.len Af]
  refine OD.make Af AG (by omega) (by simp only [maxLen]; omega) fun w1 o ho he => ?_
  rw [(hm.ext he).row.len Af]
  refine ⟨fun m y w' => ∃ (i : Nat) (q : List Nat), m + i = r.length ∧ y = .int .i64 (i : Int) ∧ Ext w w' ∧ OD .u32 Ay w' w.heap.size o q ∧ q.length = r.length ∧ Dig 4294967296 q ∧
   val 4294967296 (q.take i) = val 4294967296 r / 2 ^ (n % 32) % 4294967296 ^ i, ⟨r.length, 0, _, rfl, rfl, he, ho, by simp, KN _ _ (by decide), by simp [val, Nat.mod_one]⟩, ?_⟩
  rintro m y junk w2 ⟨i, q, hmi, rfl, e2, oq, hq, dq, hv⟩
  rw [Ai]
  refine Ac (fun hlt => ?_) (fun hge => ?_)
  ·have hi : i < r.length := by omega
   refine (hm.ext e2).at hi Af AG Be ?_
   have g1 := Bj dm hi
   rw [CO g1]
   refine ⟨fun x w' => w' = w2 ∧ x = .int .u64 ((r[i] + r.getD (i + 1) 0 * 4294967296 : Nat) : Int) ∧ r.getD (i + 1) 0 < 4294967296, ?_, ?_⟩
   ·rintro x junk w3 ⟨rfl, rfl, hx⟩
    rw [RA (b := 32) (by decide), Cu (s := n % 32) (by simp only [IntKind.bits]; omega), DE]
    refine OD.set oq (by omega) Af AG fun w4 oq4 hg => ?_
    rw [AO (b := 1) (by omega)]
    refine ⟨m - 1, by omega, i + 1, _, by omega, rfl, Cg e2 oq hg, oq4, by simpa using hq, Gd dq (Nat.mod_lt _ (by decide)), ?_⟩
    rw [J2 _ (by omega), hv, ← AeF dm hi hs, Nat.mod_pow_succ]
   ·rw [AO (b := 1) (by omega), (hm.ext e2).row.len Af, Ai]
    refine Ac (fun h => ?_) (fun h => ?_)
    ·have hi2 : i + 1 < r.length := by omega
     have g2 := Bj dm hi2
     rw [AO (b := 1) (by omega)]
     refine (hm.ext e2).at hi2 Af AG Be ?_
     rw [CO g2, Ph (s := 32) (by decide) (by rw [Fo]; simp only [show (2 : Nat) ^ 32 = 4294967296 from rfl]; omega)]
     rw [show (2 : Nat) ^ 32 = 4294967296 from rfl]
     rw [NT (b := r[i + 1] * 4294967296) (by simp only [IntKind.bits]; omega) (by simp only [IntKind.bits]; omega) rfl, Abm g1, AY hi2]
     exact ⟨rfl, rfl, g2⟩
    ·have : r.getD (i + 1) 0 = 0 := by rw [List.getD_eq_getElem?_getD]; simp [show r.length ≤ i + 1 by omega]
     rw [this]
     exact ⟨rfl, by simp, by decide⟩
  ·have hi : i = r.length := by omega
   subst hi
   rw [List.take_of_length_le (by omega), Nat.mod_eq_of_lt (Nat.lt_of_le_of_lt (Nat.div_le_self _ _) (B8 dm))] at hv
   refine Ku oq dq fun v' hv' => ?_
   rw [hv] at hv'
   exact H _ _ e2 hv'
theorem Agb {k low top : Nat} (hl : low < 2 ^ k) (ht : top ≠ 0) : bl (low + 2 ^ k * top) = k + bl top := by
 have h1 := Zy ht
 have h2 := GT top
 have h3 := Eu ht
 have := Aii (n := low + 2 ^ k * top) (k := k + (bl top - 1)) (by
  rw [Nat.pow_add]
  have := Nat.mul_le_mul_left (2 ^ k) h1
  omega) (by
  rw [show k + (bl top - 1) + 1 = k + bl top by omega, Nat.pow_add]
  have h4 : 2 ^ k * (top + 1) ≤ 2 ^ k * 2 ^ bl top := Nat.mul_le_mul_left _ h2
  rw [Nat.mul_add] at h4
  omega)
 omega
theorem Ak5 {l : List Nat} (h : Norm 4294967296 l) (hl : 0 < l.length) : bl (val 4294967296 l) = 32 * (l.length - 1) + bl (l[l.length - 1]) ∧ l[l.length - 1] ≠ 0 := by
 have hz : l[l.length - 1] ≠ 0 := by
  intro hz
  have := h.2
  rw [List.getLast?_eq_getElem?, List.getElem?_eq_getElem (by omega), hz] at this
  exact this rfl
 refine ⟨?_, hz⟩
 have h1 := Ce 4294967296 l (i := l.length - 1) (by omega)
 rw [List.drop_eq_getElem_cons (by omega), List.drop_eq_nil_of_le (by omega)] at h1
 simp only [val, Nat.mul_zero, Nat.add_zero] at h1
 have h2 := B8 (h.1.take (l.length - 1))
 rw [List.length_take, Nat.min_eq_left (by omega)] at h2
 have hp : (4294967296 : Nat) ^ (l.length - 1) = 2 ^ (32 * (l.length - 1)) := by rw [Nat.pow_mul]
 rw [hp] at h1 h2
 rw [h1, Agb h2 hz]
theorem AfX {u : Value} {a : Nat} (ha : Mg w u a) (ba : bl a ≤ 1099511627776) (H : K (.int .i64 (bl a : Nat)) w) : call P LF [u] w K := by
 obtain ⟨l, h1, n1, rfl, _⟩ := ha
 have l1 := Ej n1 ba
 refine YL ?_
 unfold LH
 rw [h1.row.len Af, Ae]
 refine Ac (fun h0 => ?_) (fun h0 => ?_)
 ·obtain rfl : l = [] := List.eq_nil_of_length_eq_zero (by omega)
  exact H
 ·have hl : 0 < l.length := by omega
  obtain ⟨e1, e2⟩ := Ak5 n1 hl
  rw [h1.row.len Af, EF (b := 1) (by omega) (by omega), CR, Ad (by omega) (by omega), h1.row.len Af, EF (b := 1) (by omega) (by omega)]
  refine h1.at (by omega) Af AG Be ?_
  have g1 := Bj n1.1 (show l.length - 1 < l.length by omega)
  refine ⟨fun m x y w' => w' = w ∧ ∃ d c : Nat, x = .int .i64 (c : Int) ∧ y = .int .u32 (d : Int) ∧ m = bl d ∧ c + bl d = bl (val 4294967296 l), ⟨bl l[l.length - 1], rfl, l[l.length - 1], 32 * (l.length - 1), by congr 1, rfl, rfl, by omega⟩, ?_⟩
  rintro m x y junk w' ⟨rfl, d, c, rfl, rfl, rfl, hc⟩
  rw [Aq]
  refine Ac (fun hd => ?_) (fun hd => ?_)
  ·rw [AO (b := 1) (by omega), Cu (s := 1) (by decide)]
   have hb := AbD d 1
   have hp := Eu (n := d) (by omega)
   exact ⟨_, by rw [hb]; omega, rfl, _, _, rfl, rfl, rfl, by rw [hb]; omega⟩
  ·have : d = 0 := by omega
   subst this
   rw [Lh] at hc
   rw [← hc] at H
   exact H
end


section
open Go Go.Vc
variable {w : World} {K : Value → World → Prop}
def isSl : Value → Prop
 | .slice _ _ _ => True
 | _ => False
def IntR (w : World) (p : Value) (m : Int) : Prop := ∃ s, Bx w 0 BA p [.bool (decide (m < 0)), s] ∧ Mg w s m.natAbs
def ZO (w : World) (base : Nat) (z : Value) : Prop := ∃ b s, Bx w base BA z [.bool b, s] ∧ isSl s
theorem IntR.ext {w' : World} {p : Value} {m : Int} (h : IntR w p m) (he : Ext w w') : IntR w' p m := let ⟨s, h1, h2⟩ := h; ⟨s, h1.ext he, h2.ext he⟩
theorem ZO.ext {w' : World} {base : Nat} {z : Value} (h : ZO w base z) (he : Ext w w') : ZO w' base z := let ⟨b, s, h1, h2⟩ := h; ⟨b, s, h1.ext he, h2⟩
theorem ZO.low {base base' : Nat} {z : Value} (h : ZO w base z) (hb : base' ≤ base) : ZO w base' z := let ⟨b, s, h1, h2⟩ := h; ⟨b, s, h1.low hb, h2⟩
theorem Mg.isSl {v : Value} {n : Nat} (h : Mg w v n) : isSl v := by
 obtain ⟨l, h1, _⟩ := h
 obtain ⟨_, _, a, cap, rfl, _⟩ := h1.row
 trivial
theorem isSl.one {v : Value} (h : isSl v) : v.oneCell' = true := by
 unfold isSl at h
 split at h
 ·rfl
 ·exact h.elim
theorem AP {base : Nat} {t : TypeId} {p : Value} {cs : List Value} {K : Value → Prop} (h : Bx w base t p cs) : nch p K = K p := by
 obtain ⟨g, rfl, _⟩ := h
 rfl
theorem AcU {k : IntKind} {w' : World} {v z : Value} {l : List Nat} {base : Nat} (h : IR k w v l) (hz : ZO w base z) (hg : w.grownBy w' (blk z)) : IR k w' v l := by
 obtain ⟨b, s, ⟨g, rfl, _, hb⟩, hs⟩ := hz
 refine ⟨?_, h.cap⟩
 obtain ⟨r1, r2, a, cap, rfl, r3⟩ := h.row
 refine ⟨r1, r2, a, cap, rfl, fun hn => ?_⟩
 obtain ⟨bb, o, rfl, q⟩ := r3 hn
 refine ⟨bb, o, rfl, fun j u hu => ?_⟩
 have hq := q j u hu
 have hne : bb ≠ g := by
  rintro rfl
  obtain ⟨d, hd⟩ : ∃ d : Nat, u = iv k d := by
   rw [List.getElem?_map] at hu
   cases hl : l[j]? with
   | none => rw [hl] at hu; cases hu
   | some d => rw [hl] at hu; cases hu; exact ⟨d, rfl⟩
  subst hd
  unfold World.cell? at hq
  simp only [hb] at hq
  have : [Value.bool b, s][o + j]? = some (iv k d) := by simpa using hq
  match o + j, this with
  | 0, h => simp at h
  | 1, h => simp at h; subst h; exact hs
  | _ + 2, h => simp at h
 have hlt : bb < w.heap.size := by
  unfold World.cell? at hq
  rcases Nat.lt_or_ge bb w.heap.size with h | h
  ·exact h
  ·rw [Array.getElem?_eq_none h] at hq; simp at hq
 unfold World.cell? at hq ⊢
 rw [hg.block bb hlt (by simp [blk]; omega)]
 exact hq
theorem Mg.kept_box {w' : World} {v z : Value} {n : Nat} {base : Nat} (h : Mg w v n) (hz : ZO w base z) (hg : w.grownBy w' (blk z)) : Mg w' v n :=
 let ⟨l, h1, h2, h3, h4⟩ := h; ⟨l, AcU h1 hz hg, h2, h3, by
  obtain ⟨b, s, hb, _⟩ := hz
  intro k hk
  obtain ⟨c, f, hc⟩ := h4 k hk
  have hne : some k ≠ blk z := by
   intro e
   obtain ⟨c', f', hc'⟩ := Ty.box hb k e.symm
   rw [hc] at hc'
   simp only [Option.some.injEq, Obj.cells.injEq] at hc'
   exact absurd hc'.2.1 (by decide)
  exact ⟨c, f, by rw [hg.block k (Gf hc) hne]; exact hc⟩⟩
theorem IntR.kept {w' : World} {x z : Value} {m : Int} {base : Nat} (h : IntR w x m) (hz : ZO w base z) (hg : w.grownBy w' (blk z)) (hne : x ≠ z) : IntR w' x m := by
 obtain ⟨s, h1, h2⟩ := h
 refine ⟨s, h1.kept hg ?_, h2.kept_box hz hg⟩
 obtain ⟨b, s', ⟨g, rfl, _⟩, _⟩ := hz
 obtain ⟨g', rfl, _⟩ := h1
 right
 simp [blk] at hne ⊢
 omega
theorem IR.kept_at {k : IntKind} {w' : World} {v : Value} {l : List Nat} {row : Option Nat} (h : IR k w v l) (hg : w.grownBy w' row) (hne : v.ownBlock = none ∨ v.ownBlock ≠ row) : IR k w' v l := by
 refine ⟨?_, h.cap⟩
 obtain ⟨r1, r2, a, cap, rfl, r3⟩ := h.row
 refine ⟨r1, r2, a, cap, rfl, fun hn => ?_⟩
 obtain ⟨bb, o, rfl, q⟩ := r3 hn
 refine ⟨bb, o, rfl, fun j u hu => ?_⟩
 have hq := q j u hu
 have hlt : bb < w.heap.size := by
  unfold World.cell? at hq
  rcases Nat.lt_or_ge bb w.heap.size with h | h
  ·exact h
  ·rw [Array.getElem?_eq_none h] at hq; simp at hq
 unfold World.cell? at hq ⊢
 rw [hg.block bb hlt (by
  rcases hne with h | h
  ·simp [Value.ownBlock] at h
  ·simpa [Value.ownBlock] using h)]
 exact hq
theorem Adp {w' : World} {k row : Option Nat} {e e' : TypeId} (h : Ty w k e) (hg : w.grownBy w' row) (ht : Ty w row e') (hne : e ≠ e') : Ty w' k e := fun b hb => by
 obtain ⟨c, f, hc⟩ := h b hb
 refine ⟨c, f, ?_⟩
 rw [hg.block b (Gf hc) (fun e1 => by
  obtain ⟨c', f', hc'⟩ := ht b e1.symm
  rw [hc] at hc'
  simp only [Option.some.injEq, Obj.cells.injEq] at hc'
  exact hne hc'.2.1)]
 exact hc
theorem Mg.kt {w' : World} {v : Value} {n : Nat} {row : Option Nat} {e' : TypeId} (h : Mg w v n) (hg : w.grownBy w' row) (ht : Ty w row e') (hne : Ay ≠ e') : Mg w' v n :=
 let ⟨l, h1, h2, h3, h4⟩ := h; ⟨l, IR.kept_at h1 hg (h4.apart ht hne), h2, h3, Adp h4 hg ht hne⟩
theorem IntR.kt {w' : World} {p : Value} {m : Int} {row : Option Nat} {e' : TypeId} (h : IntR w p m) (hg : w.grownBy w' row) (ht : Ty w row e') (h1 : Ay ≠ e') (h2 : BA ≠ e') : IntR w' p m :=
 let ⟨s, a, b⟩ := h; ⟨s, Bl a hg ht h2, b.kt hg ht h1⟩
theorem ZO.kt {w' : World} {base : Nat} {p : Value} {row : Option Nat} {e' : TypeId} (h : ZO w base p) (hg : w.grownBy w' row) (ht : Ty w row e') (h2 : BA ≠ e') : ZO w' base p :=
 let ⟨b, s, a, c⟩ := h; ⟨b, s, Bl a hg ht h2, c⟩
theorem ZO.ty {base : Nat} {p : Value} (h : ZO w base p) : Ty w (blk p) BA := let ⟨_, _, a, _⟩ := h; Ty.box a
theorem ZO.blk_ge {base : Nat} {z : Value} (h : ZO w base z) {k : Nat} (hk : blk z = some k) : base ≤ k := by
 obtain ⟨b, s, h1, _⟩ := h
 exact (h1.blk_lt hk).1
theorem Fg {KW : Value → World → Prop} (H : ∀ p w', ZO w' w.heap.size p → IntR w' p 0 → Ext w w' → KW p w') : alc P BA w KW :=
 BI XR fun p w' hb he _ => H p w' ⟨false, .slice none 0 0, hb, trivial⟩ ⟨.slice none 0 0, hb.low (Nat.zero_le _), Mg.nil _⟩ he
section
variable {p : Value} {m : Int} {K : Value → Prop}
theorem IntR.neg {base : Nat} {s : Value} {b : Bool} (h : Bx w base BA p [.bool b, s]) (H : K (.bool b)) : fda P BA p 0 w (fun a => ld P Ake a w K) :=
 h.fld (off := 0) rfl DK rfl AbE Qk rfl H
theorem IntR.mag {base : Nat} {s : Value} {b : Bool} (h : Bx w base BA p [.bool b, s]) (H : K s) : fda P BA p 1 w (fun a => ld P Co a w K) :=
 h.fld (off := 1) rfl DK rfl RW Af rfl H
end
def sgnI (neg : Bool) (n : Nat) : Int := if neg then -(n : Int) else n
theorem Ag8 (neg : Bool) (n : Nat) : (sgnI neg n).natAbs = n := by unfold sgnI; split <;> simp
theorem AgO (neg : Bool) (n : Nat) : decide (sgnI neg n < 0) = (neg && decide (0 < n)) := by
 unfold sgnI
 cases neg
 ·simp
 ·simp
theorem AaI {z s : Value} {neg : Bool} {l : List Nat} {base : Nat} (hz : ZO w base z) (hs : IR .u32 w s l) (hty : Ty w s.ownBlock Ay) (hd : Dig 4294967296 l)
  (H : ∀ w', ZO w' base z → IntR w' z (sgnI neg (val 4294967296 l)) → w.grownBy w' (blk z) → K z w') : call P AQ [z, .bool neg, s] w K := by
 refine SU ?_
 unfold He
 refine ZA hs fun s' hs' _ hbk => ?_
 obtain ⟨b, s0, hb, hs0⟩ := hz
 have hz : ZO w base z := ⟨b, s0, hb, hs0⟩
 rw [AP hb]
 have hM : Mg w s' (val 4294967296 l) := ⟨_, hs', Norm.trim hd, II _ _, by
  rcases hbk with e | e
  ·rw [e]; exact Yl _ _
  ·rw [e]; exact hty⟩
 refine hb.fput (off := 1) (by simp) DK rfl RW hM.isSl.one fun w1 hb1 g1 => ?_
 have hM1 := hM.kept_box hz g1
 have hs1 := AcU hs' hz g1
 have hb1 : Bx w1 base BA z [.bool b, s'] := hb1
 refine ⟨fun x w' => w' = w1 ∧ (x = .bool (decide (0 < val 4294967296 l)) ∨ neg = false), ?_, ?_⟩
 ·rintro x junk w' ⟨rfl, hx⟩
  have hp : ∃ y, y = (neg && decide (0 < val 4294967296 l)) ∧ pick (.bool neg) x (.bool false) = fun K => K (.bool y) := by
   refine ⟨_, rfl, ?_⟩
   funext K
   rw [An]
   rcases hx with rfl | rfl
   ·cases neg <;> simp
   ·simp
  obtain ⟨y, hy, hp⟩ := hp
  rw [hp]
  show nch z _
  rw [AP hb1]
  refine hb1.fput (off := 0) (by simp) DK rfl AbE rfl fun w2 hb2 g2 => ?_
  have hb2 : Bx w2 base BA z [.bool y, s'] := hb2
  have hz1 : ZO w' base z := ⟨b, s', hb1, hM.isSl⟩
  refine H w2 ⟨y, s', hb2, hM.isSl⟩ ⟨s', ?_, ?_⟩ (Bt g1 g2)
  ·rw [AgO, ← hy]
   exact hb2.low (Nat.zero_le _)
  ·rw [Ag8]
   exact hM1.kept_box hz1 g2
 ·refine Dn (fun hn => ?_) (fun hn => ?_)
  ·rw [AP hb1]
   refine IntR.mag hb1 ?_
   rw [hs1.row.len Af, Aq]
   refine ⟨rfl, .inl ?_⟩
   congr 1
   rw [decide_eq_decide]
   have h1 := (Norm.trim hd).eq_nil (by decide)
   rw [II] at h1
   have h2 : (trim l).length = 0 ↔ val 4294967296 l = 0 := List.length_eq_zero_iff.trans h1
   omega
  ·exact ⟨rfl, .inr (by simpa using hn)⟩
theorem Il {z s : Value} {neg : Bool} {n : Nat} {base : Nat} (hz : ZO w base z) (hs : Mg w s n)
  (H : ∀ w', ZO w' base z → IntR w' z (sgnI neg n) → w.grownBy w' (blk z) → K z w') : call P AQ [z, .bool neg, s] w K := by
 obtain ⟨l, h1, h2, rfl, h4⟩ := hs
 exact AaI hz h1 h4 h2.1 H
theorem CT {a b c : World} {row : Option Nat} (he : Ext a b) (hg : b.grownBy c row) : a.grownBy c row := Hn he hg
theorem XC {p : Value} {m : Int} (h : IntR w p m) (H : K (.int .i64 m.sign) w) : call P Cy [p] w K := by
 obtain ⟨s, hb, hm⟩ := h
 refine SI ?_
 unfold Gq
 rw [AP hb]
 refine IntR.neg hb ?_
 refine Ac (fun hn => ?_) (fun hn => ?_)
 ·rw [Int.sign_eq_neg_one_of_neg hn] at H; exact H
 ·rw [AP hb]
  refine IntR.mag hb ?_
  obtain ⟨l, h1, h2, h3, _⟩ := hm
  rw [h1.row.len Af, Aq]
  have e := h2.eq_nil (by decide)
  rw [h3] at e
  have e2 : l.length = 0 ↔ m.natAbs = 0 := List.length_eq_zero_iff.trans e
  refine Ac (fun hp => ?_) (fun hp => ?_)
  ·have : 0 < m := by omega
   rw [Int.sign_eq_one_of_pos this] at H; exact H
  ·have : m = 0 := by omega
   subst this; exact H
theorem OL {p : Value} {m : Int} (h : IntR w p m) (hb : bl m.natAbs ≤ 1099511627776) (H : K (.int .i64 (bl m.natAbs : Nat)) w) : call P BK [p] w K := by
 obtain ⟨s, hx, hm⟩ := h
 refine QE ?_
 unfold Fl
 rw [AP hx]
 exact IntR.mag hx (AfX hm hb H)
def cmpI (a b : Int) : Int := if a < b then -1 else if b < a then 1 else 0
theorem AkZ {p q : Value} {a b : Int} (h1 : IntR w p a) (h2 : IntR w q b) (H : K (.int .i64 (cmpI a b)) w) : call P Hq [p, q] w K := by
 obtain ⟨s, b1, m1⟩ := h1
 obtain ⟨t, b2, m2⟩ := h2
 refine TC ?_
 unfold GO
 rw [AP b1]
 refine IntR.neg b1 ?_
 refine ⟨fun x w' => w' = w ∧ (a < 0 → x = .bool (decide (b < 0))), ?_, ?_⟩
 ·rintro x junk w' ⟨rfl, hx⟩
  rw [An]
  by_cases ha : a < 0
  ·rw [hx ha, decide_eq_true ha, cond_true]
   refine Ac (fun hb => ?_) (fun hb => ?_)
   ·rw [AP b2]
    refine IntR.mag b2 ?_
    rw [AP b1]
    refine IntR.mag b1 ?_
    refine VK m2 m1 ?_
    have : cmpN b.natAbs a.natAbs = cmpI a b := by unfold cmpN cmpI; split <;> split <;> (try split) <;> (try split) <;> omega
    rw [this]; exact H
   ·rw [AP b1]
    refine IntR.neg b1 ?_
    refine A9 (decide_eq_true ha) ?_
    have : cmpI a b = -1 := by unfold cmpI; rw [if_pos (by omega)]
    rw [this] at H; exact H
  ·rw [decide_eq_false ha, cond_false, Ao, AP b1]
   refine IntR.neg b1 ?_
   refine AD (decide_eq_false ha) ?_
   rw [AP b2]
   refine IntR.neg b2 ?_
   refine Ac (fun hb => ?_) (fun hb => ?_)
   ·have : cmpI a b = 1 := by unfold cmpI; rw [if_neg (by omega), if_pos (by omega)]
    rw [this] at H; exact H
   ·rw [AP b1]
    refine IntR.mag b1 ?_
    rw [AP b2]
    refine IntR.mag b2 ?_
    refine VK m1 m2 ?_
    have : cmpN a.natAbs b.natAbs = cmpI a b := by unfold cmpN cmpI; split <;> split <;> (try split) <;> (try split) <;> omega
    rw [this]; exact H
 ·refine Dn (fun hn => ?_) (fun hn => ?_)
  ·rw [AP b2]
   exact IntR.neg b2 ⟨rfl, fun _ => rfl⟩
  ·exact ⟨rfl, fun ha => by rw [decide_eq_true ha] at hn; cases hn⟩
section
variable {z x y : Value} {a b : Int} {base : Nat}
theorem AhY (hz : ZO w base z) (hx : IntR w x a) (ba : bl a.natAbs ≤ 1099511627776) (H : ∀ w', ZO w' base z → IntR w' z (-a) → w.grownBy w' (blk z) → K z w') : call P EC [z, x] w K := by
 obtain ⟨s, hb, hm⟩ := hx
 refine Tl ?_
 unfold Hy
 rw [AP hb]
 refine IntR.neg hb ?_
 rw [A5, AP hb]
 refine IntR.mag hb ?_
 refine Adz hm ba fun v w1 e1 h1 => ?_
 refine ⟨e1, Il (hz.ext e1) h1.Mg fun w2 z2 i2 g2 => H w2 z2 ?_ (CT e1 g2)⟩
 have : sgnI (!decide (a < 0)) a.natAbs = -a := by unfold sgnI; by_cases h : a < 0 <;> simp [h] <;> omega
 rw [this] at i2; exact i2
theorem Ai0 (hz : ZO w base z) (hx : IntR w x a) (ba : bl a.natAbs ≤ 1099511627776) (H : ∀ w', ZO w' base z → IntR w' z a.natAbs → w.grownBy w' (blk z) → K z w') : call P EB [z, x] w K := by
 obtain ⟨s, hb, hm⟩ := hx
 refine Tf ?_
 unfold G9
 rw [AP hb]
 refine IntR.mag hb ?_
 refine Adz hm ba fun v w1 e1 h1 => ?_
 exact Il (hz.ext e1) h1.Mg fun w2 z2 i2 g2 => H w2 z2 i2 (CT e1 g2)
theorem AeL {s : Value} {neg : Bool} {n : Nat} (hz : ZO w base z) (hx : IntR w x a) (hs : Mg w s n) (ba : bl a.natAbs ≤ 1099511627776) (bb : bl n ≤ 1099511627776)
  (hn : n = 0 → True) (H : ∀ w', ZO w' base z → IntR w' z (a + sgnI neg n) → w.grownBy w' (blk z) → K z w') : call P Ed [z, x, .bool neg, s] w K := by
 obtain ⟨s1, hb, hm⟩ := hx
 refine SM ?_
 unfold Gm
 rw [AP hb]
 refine IntR.neg hb ?_
 rw [Ahc _ _ _ _ _ _ Qk]
 refine Az (fun h => ?_) (fun h => ?_)
 ·have h : decide (a < 0) = neg := by simpa using h
  rw [AP hb]
  refine IntR.mag hb ?_
  refine VC hm hs ba bb fun v w1 e1 h1 => ?_
  refine Il (hz.ext e1) h1.Mg fun w2 z2 i2 g2 => H w2 z2 ?_ (CT e1 g2)
  have : sgnI neg (a.natAbs + n) = a + sgnI neg n := by unfold sgnI; subst h; by_cases h : a < 0 <;> simp [h] <;> omega
  rw [this] at i2; exact i2
 ·have h : (decide (a < 0)) = !neg := by
   cases neg <;> by_cases ha : a < 0 <;> simp [ha] at h ⊢
  rw [AP hb]
  refine IntR.mag hb ?_
  refine VK hm hs ?_
  rw [B6]
  refine Ac (fun hc => ?_) (fun hc => ?_)
  ·have hle : n ≤ a.natAbs := by unfold cmpN at hc; split at hc <;> (try split at hc) <;> omega
   rw [AP hb]
   refine IntR.neg hb ?_
   rw [AP hb]
   refine IntR.mag hb ?_
   refine Wd hm hs hle ba fun v w1 e1 h1 => ?_
   refine ⟨e1, Il (hz.ext e1) h1.Mg fun w2 z2 i2 g2 => H w2 z2 ?_ (CT e1 g2)⟩
   have : sgnI (decide (a < 0)) (a.natAbs - n) = a + sgnI neg n := by unfold sgnI; rw [h]; cases neg <;> simp at h ⊢ <;> omega
   rw [this] at i2; exact i2
  ·have hle : a.natAbs ≤ n := by unfold cmpN at hc; split at hc <;> (try split at hc) <;> omega
   rw [AP hb]
   refine IntR.mag hb ?_
   refine Wd hs hm hle bb fun v w1 e1 h1 => ?_
   refine Il (hz.ext e1) h1.Mg fun w2 z2 i2 g2 => H w2 z2 ?_ (CT e1 g2)
   have : sgnI neg (n - a.natAbs) = a + sgnI neg n := by unfold sgnI; cases neg <;> simp at h ⊢ <;> omega
   rw [this] at i2; exact i2
theorem AhV (hz : ZO w base z) (hx : IntR w x a) (hy : IntR w y b) (ba : bl a.natAbs ≤ 1099511627776) (bb : bl b.natAbs ≤ 1099511627776)
  (H : ∀ w', ZO w' base z → IntR w' z (a + b) → w.grownBy w' (blk z) → K z w') : call P BP [z, x, y] w K := by
 obtain ⟨s, hb, hm⟩ := hy
 refine SZ ?_
 unfold Ha
 rw [AP hb]
 refine IntR.neg hb ?_
 rw [AP hb]
 refine IntR.mag hb ?_
 refine AeL hz hx hm ba bb (fun _ => trivial) fun w2 z2 i2 g2 => H w2 z2 ?_ g2
 have : sgnI (decide (b < 0)) b.natAbs = b := by unfold sgnI; by_cases h : b < 0 <;> simp [h] <;> omega
 rw [this] at i2; exact i2
theorem AkT (hz : ZO w base z) (hx : IntR w x a) (hy : IntR w y b) (ba : bl a.natAbs ≤ 1099511627776) (bb : bl b.natAbs ≤ 1099511627776)
  (H : ∀ w', ZO w' base z → IntR w' z (a - b) → w.grownBy w' (blk z) → K z w') : call P GU [z, x, y] w K := by
 obtain ⟨s, hb, hm⟩ := hy
 refine To ?_
 unfold H6
 rw [AP hb]
 refine IntR.neg hb ?_
 rw [A5, AP hb]
 refine IntR.mag hb ?_
 refine AeL hz hx hm ba bb (fun _ => trivial) fun w2 z2 i2 g2 => H w2 z2 ?_ g2
 have : a + sgnI (!decide (b < 0)) b.natAbs = a - b := by unfold sgnI; by_cases h : b < 0 <;> simp [h] <;> omega
 rw [this] at i2; exact i2
theorem Alf (hz : ZO w base z) (hx : IntR w x a) (hy : IntR w y b) (ba : bl a.natAbs ≤ 1099511627776) (bb : bl b.natAbs ≤ 1099511627776)
  (H : ∀ w', ZO w' base z → IntR w' z (a * b) → w.grownBy w' (blk z) → K z w') : call P GW [z, x, y] w K := by
 obtain ⟨s, hb, hm⟩ := hx
 obtain ⟨s', hb', hm'⟩ := hy
 refine Tj ?_
 unfold GD
 rw [AP hb]
 refine IntR.neg hb ?_
 rw [AP hb']
 refine IntR.neg hb' ?_
 rw [VI _ _ _ _ _ _ Qk, AP hb]
 refine IntR.mag hb ?_
 rw [AP hb']
 refine IntR.mag hb' ?_
 refine Acj hm hm' ba bb fun v w1 e1 h1 => ?_
 refine ⟨e1, Il (hz.ext e1) h1.Mg fun w2 z2 i2 g2 => H w2 z2 ?_ (CT e1 g2)⟩
 have : sgnI (!(decide (a < 0) == decide (b < 0))) (a.natAbs * b.natAbs) = a * b := by
  rw [← Int.natAbs_mul]
  unfold sgnI
  by_cases h1 : a < 0 <;> by_cases h2 : b < 0 <;> simp [h1, h2]
  ·exact Int.le_of_lt (Int.mul_pos_of_neg_of_neg h1 h2) |> fun h => by omega
  ·have := Int.mul_nonpos_of_nonpos_of_nonneg (Int.le_of_lt h1) (Int.not_lt.1 h2); omega
  ·have := Int.mul_nonpos_of_nonneg_of_nonpos (Int.not_lt.1 h1) (Int.le_of_lt h2); omega
  ·have := Int.mul_nonneg (Int.not_lt.1 h1) (Int.not_lt.1 h2); omega
 rw [this] at i2; exact i2
theorem Xz {n : Nat} (hz : ZO w base z) (hx : IntR w x a) (ba : bl a.natAbs ≤ 1099511627776) (bn : n ≤ 1099511627776)
  (H : ∀ w', ZO w' base z → IntR w' z (a * 2 ^ n) → w.grownBy w' (blk z) → K z w') : call P Cm [z, x, .int .u64 (n : Int)] w K := by
 obtain ⟨s, hb, hm⟩ := hx
 refine T5 ?_
 unfold Hx
 rw [AP hb]
 refine IntR.neg hb ?_
 rw [AP hb]
 refine IntR.mag hb ?_
 refine Afz hm ba bn fun v w1 e1 h1 => ?_
 refine ⟨e1, Il (hz.ext e1) h1.Mg fun w2 z2 i2 g2 => H w2 z2 ?_ (CT e1 g2)⟩
 have : sgnI (decide (a < 0)) (a.natAbs * 2 ^ n) = a * 2 ^ n := by
  unfold sgnI
  by_cases h : a < 0
  ·simp only [h, decide_true, if_true, Int.natCast_mul, Int.natCast_pow]
   have : (a.natAbs : Int) = -a := by omega
   rw [this, Int.neg_mul, Int.neg_neg]; rfl
  ·simp only [h, decide_false, Bool.false_eq_true, if_false, Int.natCast_mul, Int.natCast_pow]
   have : (a.natAbs : Int) = a := by omega
   rw [this]; rfl
 rw [this] at i2; exact i2
theorem AiV {a p : Int} (h : a < 0) (hp : 0 < p) : -((-a - 1) / p + 1) = a / p := by
 have h1 := Int.mul_ediv_add_emod (-a - 1) p
 have h2 := Int.emod_nonneg (-a - 1) (Int.ne_of_gt hp)
 have h3 := Int.emod_lt_of_pos (-a - 1) hp
 generalize (-a - 1) / p = d at *
 generalize (-a - 1) % p = r at *
 have h4 : a = (p - r - 1) + p * (-(d + 1)) := by grind
 rw [h4, Int.add_mul_ediv_left _ _ (Int.ne_of_gt hp), Int.ediv_eq_zero_of_lt (by omega) (by omega)]
 omega
theorem UD {d : Nat} {KW : Value → World → Prop} (hd : d < 4294967296) (h0 : d ≠ 0) (H : ∀ v w', Ext w w' → Mg w' v d → KW v w') : bsl P Co 1 [(0, .int .u32 (d : Int))] w KW := by
 refine Qx Af AG rfl rfl ?_
 have he := Bg w (.cells #[.int .u32 (d : Int)] Ay)
 have ho : OD .u32 Ay (w.alloc (.cells #[.int .u32 (d : Int)] Ay)) w.heap.size (.slice (some ⟨w.heap.size, 0, none⟩) 1 1) [d] := B9 w [.int .u32 (d : Int)] Ay (by simp [maxLen])
 exact H _ _ he ⟨[d], ho.IR, ⟨fun x hx => by simp at hx; omega, by simpa using h0⟩, by simp [val], Ty.owns ho⟩
theorem Ait {n : Nat} (hz : ZO w base z) (hx : IntR w x a) (ba : bl a.natAbs ≤ 1099511627775) (bn : n ≤ 9223372036854775807)
  (H : ∀ w', ZO w' base z → IntR w' z (a / 2 ^ n) → w.grownBy w' (blk z) → K z w') : call P EK [z, x, .int .u64 (n : Int)] w K := by
 obtain ⟨s, hb, hm⟩ := hx
 refine SR ?_
 unfold H4
 have hpc : ((2 ^ n : Nat) : Int) = (2 : Int) ^ n := by simp
 rw [AP hb]
 refine IntR.neg hb ?_
 rw [A5]
 refine Az (fun h => ?_) (fun h => ?_)
 ·have h : ¬ a < 0 := by simpa using h
  rw [AP hb]
  refine IntR.mag hb ?_
  refine Wt hm (by omega) bn fun v w1 e1 h1 => ?_
  refine Il (hz.ext e1) h1.Mg fun w2 z2 i2 g2 => H w2 z2 ?_ (CT e1 g2)
  have : sgnI false (a.natAbs / 2 ^ n) = a / 2 ^ n := by
   show ((a.natAbs / 2 ^ n : Nat) : Int) = _
   rw [Int.natCast_ediv, hpc, show (a.natAbs : Int) = a by omega]
  rw [this] at i2; exact i2
 ·have h : a < 0 := by simpa using h
  rw [AP hb]
  refine IntR.mag hb ?_
  refine UD (d := 1) (by decide) (by decide) fun v1 w1 e1 m1 => ?_
  refine Wd (hm.ext e1) m1 (by omega) (by omega) fun v2 w2 e2 m2 => ?_
  have hs := Af3 a.natAbs 1
  refine Wt m2.Mg (by omega) bn fun v3 w3 e3 m3 => ?_
  refine UD (d := 1) (by decide) (by decide) fun v4 w4 e4 m4 => ?_
  have hs2 := AbD (a.natAbs - 1) n
  refine VC (m3.Mg.ext e4) m4 (by omega) (by rw [Akf]; decide) fun v5 w5 e5 m5 => ?_
  have E := e1.trans (e2.trans (e3.trans (e4.trans e5)))
  refine Il (hz.ext E) m5.Mg fun w6 z6 i6 g6 => H w6 z6 ?_ (CT E g6)
  have : sgnI true ((a.natAbs - 1) / 2 ^ n + 1) = a / 2 ^ n := by
   have hp : (0 : Int) < 2 ^ n := Int.pow_pos (by decide)
   show -((((a.natAbs - 1) / 2 ^ n + 1 : Nat)) : Int) = _
   rw [Int.natCast_add, Int.natCast_ediv, hpc]
   have h2 : ((a.natAbs - 1 : Nat) : Int) = -a - 1 := by omega
   rw [h2]
   exact AiV (by omega) hp
  rw [this] at i6; exact i6
end
end


section
open Go Go.Vc
variable {w : World} {K : Value → World → Prop}
theorem AdR {z : Value} {n : Int} {base : Nat} (hz : ZO w base z) (h1 : -9223372036854775808 ≤ n) (h2 : n ≤ 9223372036854775807)
  (H : ∀ w', ZO w' base z → IntR w' z n → w.grownBy w' (blk z) → K z w') : call P Ee [z, .int .i64 n] w K := by
 refine Pj ?_
 unfold Ef
 rw [AJ AB BL]
 refine ⟨fun x w' => w' = w ∧ x = .int .u64 (n.natAbs : Int), ?_, ?_⟩
 ·rintro x junk w' ⟨rfl, rfl⟩
  rw [Ai, DE, Cu (s := 32) (by decide), DE]
  rw [show (2 : Nat) ^ 32 = 4294967296 from rfl]
  have hm : n.natAbs / 4294967296 % 4294967296 = n.natAbs / 4294967296 := Nat.mod_eq_of_lt (by omega)
  rw [hm]
  refine Adb Af AG rfl rfl rfl ?_
  have he := Bg w' (.cells #[.int .u32 ((n.natAbs % 4294967296 : Nat) : Int), .int .u32 ((n.natAbs / 4294967296 : Nat) : Int)] Ay)
  have ho : OD .u32 Ay (w'.alloc (.cells #[.int .u32 ((n.natAbs % 4294967296 : Nat) : Int), .int .u32 ((n.natAbs / 4294967296 : Nat) : Int)] Ay)) w'.heap.size (.slice (some ⟨w'.heap.size, 0, none⟩) 2 2) [n.natAbs % 4294967296, n.natAbs / 4294967296] :=
   B9 w' [.int .u32 ((n.natAbs % 4294967296 : Nat) : Int), .int .u32 ((n.natAbs / 4294967296 : Nat) : Int)] Ay (by simp [maxLen])
  have hd : Dig 4294967296 [n.natAbs % 4294967296, n.natAbs / 4294967296] := fun d hd => by
   simp only [List.mem_cons, List.not_mem_nil, or_false] at hd
   rcases hd with rfl | rfl
   ·exact Nat.mod_lt _ (by decide)
   ·omega
  refine AaI (hz.ext he) ho.IR (Ty.owns ho) hd fun w2 z2 i2 g2 => H w2 z2 ?_ (CT he g2)
  have e : val 4294967296 [n.natAbs % 4294967296, n.natAbs / 4294967296] = n.natAbs := by
   simp only [val]
   have := Nat.div_add_mod n.natAbs 4294967296
   omega
  rw [e] at i2
  have : sgnI (decide (n < 0)) n.natAbs = n := by unfold sgnI; by_cases h : n < 0 <;> simp [h] <;> omega
  rw [this] at i2; exact i2
 ·rw [Ai]
  have hw : IntKind.u64.wrap n = if n < 0 then n + 18446744073709551616 else n := by
   simp [IntKind.wrap, IntKind.bits, IntKind.signed]; split <;> omega
  refine Ac (fun h => ?_) (fun h => ?_)
  ·rw [Cz, hw, if_pos h]
   refine ⟨rfl, ?_⟩
   congr 1
   have : IntKind.u64.wrap (0 - (n + 18446744073709551616)) = (-n) % 18446744073709551616 := by
    simp [IntKind.wrap, IntKind.bits, IntKind.signed]; omega
   rw [this]; omega
  ·rw [hw, if_neg h]
   exact ⟨rfl, by congr 1; omega⟩
theorem Oz {n : Int} (h1 : -9223372036854775808 ≤ n) (h2 : n ≤ 9223372036854775807)
  (H : ∀ p w', Ext w w' → ZO w' w.heap.size p → IntR w' p n → K p w') : call P CW [.int .i64 n] w K := by
 refine Aaj ?_
 unfold MO
 refine Fg fun p w1 z1 _ e1 => ?_
 exact AdR z1 h1 h2 fun w2 z2 i2 g2 => H p w2 (Ab e1 (fun g hg => z1.blk_ge hg) g2) z2 i2
theorem Ge {ats : Array TypeId} {ty : TypeId} {k : IntKind} {a b : Int} {K : Value → Prop} : bl0 P .min ats ty [.int k a, .int k b] w K = K (.int k (min a b)) := by
 unfold bl0
 have : rv P (builtin .min ats ty #[] [.int k a, .int k b].toArray) w = some (.value (.int k (min a b))) := by
  have e : min a b = if b < a then b else a := by split <;> omega
  rw [e]
  simp [builtin, Builtin.min_, Builtin.min2]
 rw [this]
 simp [valK]
theorem Dj {ats : Array TypeId} {ty : TypeId} {k : IntKind} {a b : Int} {K : Value → Prop} : bl0 P .max ats ty [.int k a, .int k b] w K = K (.int k (max a b)) := by
 unfold bl0
 have : rv P (builtin .max ats ty #[] [.int k a, .int k b].toArray) w = some (.value (.int k (max a b))) := by
  have e : max a b = if a < b then b else a := by split <;> omega
  rw [e]
  simp [builtin, Builtin.max_, Builtin.max2]
 rw [this]
 simp [valK]
theorem Aik {p : Value} {m : Int} (h : IntR w p m) (hm : m.natAbs < 18446744073709551616) (H : K (.int .u64 (m.natAbs : Int)) w) : call P EM [p] w K := by
 obtain ⟨s, hb, l, h1, h2, h3, _⟩ := h
 have b1 := h1.bound
 refine Uk ?_
 unfold GB
 rw [AP hb]
 refine IntR.mag hb ?_
 rw [h1.row.len Af]
 have hlen : l.length ≤ 2 := by
  refine Nat.le_of_not_lt fun hc => ?_
  have := h2.ge (by rintro rfl; simp at hc)
  have h4 : (4294967296 : Nat) ^ 2 ≤ 4294967296 ^ (l.length - 1) := Nat.pow_le_pow_right (by decide) (by omega)
  have h5 : (4294967296 : Nat) ^ 2 = 18446744073709551616 := by decide
  omega
 have hmin : bl0 P .min #[Bw, Bw] Bw [.int .i64 (l.length : Int), .int .i64 2] w = fun K => K (.int .i64 (l.length : Int)) := by
  funext K
  rw [Ge]
  congr 2; omega
 rw [hmin]
 show bin P .sub Bw false true (.int .i64 (l.length : Int)) (.int .i64 1) w _
 rw [AC, Ad (by omega) (by omega)]
 refine ⟨fun g x y w' => w' = w ∧ ∃ u : Nat, x = .int .u64 (u : Int) ∧ y = .int .i64 ((g : Int) - 1) ∧ g ≤ l.length ∧ u = val 4294967296 (l.drop g), ⟨l.length, rfl, 0, rfl, rfl, Nat.le_refl _, by simp [val]⟩, ?_⟩
 rintro g x y junk w' ⟨rfl, u, rfl, rfl, hg, hu⟩
 rw [B6]
 refine Ac (fun hge => ?_) (fun hlt => ?_)
 ·have hg0 : 0 < g := by omega
  have hi : g - 1 < l.length := by omega
  have g1 := Bj h2.1 hi
  have hul : u < 4294967296 := by
   have := B8 (h2.1.drop g)
   rw [List.length_drop, ← hu] at this
   have h4 : (4294967296 : Nat) ^ (l.length - g) ≤ 4294967296 ^ 1 := Nat.pow_le_pow_right (by decide) (by omega)
   omega
  rw [Ph (s := 32) (by decide) (by rw [Fo, show (2 : Nat) ^ 32 = 4294967296 from rfl]; omega), show (2 : Nat) ^ 32 = 4294967296 from rfl]
  rw [AP hb]
  refine IntR.mag hb ?_
  rw [show (g : Int) - 1 = ((g - 1 : Nat) : Int) by omega]
  refine h1.at hi Af AG Be ?_
  rw [CO g1, NT (b := l[g - 1]) (by simp only [IntKind.bits]; omega) (by simp only [IntKind.bits]; omega) rfl, Nat.or_comm, Abm g1]
  rw [AC, Ad (by omega) (by omega)]
  refine ⟨g - 1, by omega, rfl, _, rfl, by congr 1, by omega, ?_⟩
  rw [List.drop_eq_getElem_cons hi, val, show g - 1 + 1 = g by omega, ← hu, Nat.mul_comm]
 ·have : g = 0 := by omega
  subst this
  rw [List.drop_zero, h3] at hu
  subst hu
  exact H
theorem Adv {p : Value} {m : Int} (h : IntR w p m) (hm : m.natAbs < 9223372036854775808) (H : K (.int .i64 m) w) : call P CI [p] w K := by
 have h0 := h
 obtain ⟨s, hb, l, h1, h2, h3, _⟩ := h
 refine RD ?_
 unfold FC
 rw [AP hb]
 refine IntR.neg hb ?_
 refine Ac (fun hn => ?_) (fun hn => ?_)
 ·refine Aik h0 (by omega) ?_
  rw [AJ BL AB, Ad (by omega) (by omega), Cz, Ad (by omega) (by omega)]
  rw [show (0 : Int) - (m.natAbs : Int) = m by omega]
  exact H
 ·refine Aik h0 (by omega) ?_
  rw [AJ BL AB, Ad (by omega) (by omega)]
  rw [show (m.natAbs : Int) = m by omega]
  exact H
theorem Ajh {l : List Nat} (hd : Dig 4294967296 l) (i : Nat) : val 4294967296 l / 2 ^ i % 2 = l.getD (i / 32) 0 / 2 ^ (i % 32) % 2 := by
 have hn : 2 ^ i = 4294967296 ^ (i / 32) * 2 ^ (i % 32) := by
  conv => lhs; rw [← Nat.div_add_mod i 32, Nat.pow_add, Nat.pow_mul]
 have hs : i % 32 < 32 := Nat.mod_lt _ (by decide)
 rw [hn, ← Nat.div_div_eq_div_mul]
 by_cases h : i / 32 < l.length
 ·have hp : 0 < 4294967296 ^ (i / 32) := Nat.pow_pos (by decide)
  have h1 : val 4294967296 l / 4294967296 ^ (i / 32) = val 4294967296 (l.drop (i / 32)) := by
   rw [Ce _ l (Nat.le_of_lt h), Nat.add_mul_div_left _ _ hp, Nat.div_eq_of_lt, Nat.zero_add]
   have := B8 (hd.take (i / 32))
   rw [List.length_take, Nat.min_eq_left (by omega)] at this
   exact this
  rw [h1, List.drop_eq_getElem_cons h, val, AY h]
  have h2 : (4294967296 : Nat) = 2 ^ (i % 32) * (2 * 2 ^ (31 - i % 32)) := by
   rw [← Nat.pow_succ', ← Nat.pow_add, show i % 32 + (31 - i % 32).succ = 32 by omega]
  have h3 : ∀ X, 4294967296 * X = 2 ^ (i % 32) * (2 * (2 ^ (31 - i % 32) * X)) := fun X => by
   conv => lhs; rw [h2]
   grind
  rw [h3, Nat.add_mul_div_left _ _ (Nat.two_pow_pos _), Nat.add_mul_mod_self_left]
 ·have h1 : val 4294967296 l / 4294967296 ^ (i / 32) = 0 :=
   Nat.div_eq_of_lt (Nat.lt_of_lt_of_le (B8 hd) (Nat.pow_le_pow_right (by decide) (by omega)))
  have h2 : l.getD (i / 32) 0 = 0 := by rw [List.getD_eq_getElem?_getD]; simp [show l.length ≤ i / 32 by omega]
  rw [h1, h2]
theorem Ald {p : Value} {m : Int} {i : Nat} (h : IntR w p m) (hi : i ≤ 9223372036854775807) (H : K (.int .u64 ((m.natAbs / 2 ^ i % 2 : Nat) : Int)) w) : call P Er [p, .int .i64 (i : Int)] w K := by
 obtain ⟨s, hb, l, h1, h2, h3, _⟩ := h
 have hv := Ajh h2.1 i
 rw [h3] at hv
 rw [hv] at H
 refine Uu ?_
 unfold Ho
 rw [Hg (b := 32) (by rw [max_i64]; omega) (by decide), AP hb]
 refine IntR.mag hb ?_
 rw [h1.row.len Af, B6]
 refine Ac (fun hge => ?_) (fun hlt => ?_)
 ·have h2 : l.getD (i / 32) 0 = 0 := by rw [List.getD_eq_getElem?_getD]; simp [show l.length ≤ i / 32 by omega]
  rw [h2] at H
  simpa using H
 ·have hlt : i / 32 < l.length := by omega
  rw [AP hb]
  refine IntR.mag hb ?_
  rw [Hg (b := 32) (by rw [max_i64]; omega) (by decide)]
  refine h1.at hlt Af AG Be ?_
  have g1 := Bj h2.1 hlt
  rw [RA (b := 32) (by decide), Cu (s := i % 32) (by simp only [IntKind.bits]; omega)]
  have hq : l[i / 32] / 2 ^ (i % 32) < 2 ^ IntKind.u32.bits := Nat.lt_of_le_of_lt (Nat.div_le_self _ _) g1
  rw [RU (b := 1) hq (by decide) rfl, Nat.and_one_is_mod, AJ Be TQ, Is (by omega)]
  rw [AY hlt] at H
  exact H
def IsTz (n k : Nat) : Prop := if n = 0 then k = 0 else n % 2 ^ k = 0 ∧ n / 2 ^ k % 2 = 1
end


section
open Go Go.Vc
variable {w : World} {K : Value → World → Prop}
theorem JV {a b : Value} (ha : a.oneCell' = true) (hb : b.oneCell' = true) : ∀ x ∈ [a, b], x.oneCell' = true := by
 intro x hx
 simp only [List.mem_cons, List.not_mem_nil, or_false] at hx
 rcases hx with rfl | rfl <;> assumption
theorem U9 {a b c : Value} (ha : a.oneCell' = true) (hb : b.oneCell' = true) (hc : c.oneCell' = true) : ∀ x ∈ [a, b, c], x.oneCell' = true := by
 intro x hx
 simp only [List.mem_cons, List.not_mem_nil, or_false] at hx
 rcases hx with rfl | rfl | rfl <;> assumption
theorem Aa9 {w : World} {base : Nat} {t ty : TypeId} {p : Value} {cs : List Value} {fs : Array Field} {f off b : Nat} {z : Value} {d : TypeDesc} (h : Bx w base t p cs) (hu : P.underlying t = some (.struct fs)) (hf : (fs[f]?).map (fun x => (x.type, x.offset)) = some (ty, off)) (ht : TI P ty z 1 b)
  (hue : P.underlying ty = some d) (hd : aggB d = false) :
  ∃ a, (∀ (w : World) (K : Value → Prop), fda P t p f w K = K a) ∧ (∀ {w' : World} {base' : Nat} {cs' : List Value} {x : Value}, Bx w' base' t p cs' → cs'[off]? = some x → ∀ K, ld P ty a w' K = K x) ∧
   (∀ {w' : World} {base' : Nat} {cs' : List Value} {x : Value} {K : World → Prop}, Bx w' base' t p cs' → off < cs'.length → x.oneCell' = true → (∀ w'', Bx w'' base' t p (cs'.set off x) → w'.grownBy w'' (blk p) → K w'') → sto P ty a x w' K) := by
 obtain ⟨g, rfl, hb, hg⟩ := h
 have ha : (Addr.mk g 0 none).add off = ⟨g, off, none⟩ := by rw [Addr.add_lit, Nat.zero_add]
 refine ⟨.pointer (some ⟨g, off, none⟩), fun w K => by rw [Bu hu hf ht (by decide), ha], fun h' hx K => ?_, fun h' ho h1 H => ?_⟩
 ·obtain ⟨g', e, _, hg'⟩ := h'
  cases e
  rw [F4 hue hd (v := _)]
  unfold World.cell?
  simp [hg', hx]
 ·obtain ⟨g', e, hb', hg'⟩ := h'
  cases e
  rename_i cs' x K
  refine NM ht h1 (u := cs'[off]) ?_ ?_ (H _ ⟨g, rfl, hb', Iw hg'⟩ Iv)
  ·simp [World.cell?, hg', ho]
  ·simp [World.frozen?, hg']
theorem XJ {k : IntKind} {t e : TypeId} {b base : Nat} {v : Value} {l : List Nat} {d : Nat} {KW : Value → World → Prop} (h : OD k e w base v l) (hu : P.underlying t = some (.slice e)) (ht : TI P e (.int k 0) 1 b) (hn : l.length + 1 ≤ maxLen) (hby : (l.length + 1) * b ≤ 140737488355328) (hbase : base ≤ w.heap.size)
  (H : ∀ v' w', OD k e w' base v' (l ++ [d]) → w.grownBy w' v.ownBlock → KW v' w') : bsl P t 1 [(0, iv k d)] w fun y w2 => Ext w w2 ∧ bl2 P .append #[t, t] t [v, y] w2 KW := by
 refine app1x h rfl hu ht rfl hn hby hbase fun v' w' ho hg => H v' w' ?_ hg
 unfold OD
 rw [List.length_append, List.map_append]
 exact ho
theorem MA {k : IntKind} {t e : TypeId} {b base : Nat} {v : Value} {l : List Nat} {d : Nat} {KW : Value → World → Prop} (h : OD k e w base v l) (hu : P.underlying t = some (.slice e)) (ht : TI P e (.int k 0) 1 b) (hn : l.length + 1 ≤ maxLen) (hby : (l.length + 1) * b ≤ 140737488355328) (hbase : base ≤ w.heap.size)
  (H : ∀ v' w', OD k e w' base v' (l ++ [d]) → w.grownBy w' v.ownBlock → KW v' w') : bsl P t 1 [(0, iv k d)] w fun y w2 => bl2 P .append #[t, t] t [v, y] w2 KW :=
 Hc (fun _ _ q => q.2) (XJ h hu ht hn hby hbase H)
theorem Zk {a b x y k : Nat} (ha : a < 2 ^ k) (hb : b < 2 ^ k) : (a + 2 ^ k * x) &&& (b + 2 ^ k * y) = (a &&& b) + 2 ^ k * (x &&& y) := by
 have hab : a &&& b < 2 ^ k := Nat.lt_of_le_of_lt Nat.and_le_left ha
 apply Nat.eq_of_testBit_eq
 intro j
 rw [Nat.testBit_and, Nat.add_comm a, Nat.add_comm b, Nat.add_comm (a &&& b), Nat.testBit_two_pow_mul_add _ ha, Nat.testBit_two_pow_mul_add _ hb, Nat.testBit_two_pow_mul_add _ hab]
 split <;> rw [Nat.testBit_and]
theorem p32 (i : Nat) : (4294967296 : Nat) ^ i = 2 ^ (32 * i) := by rw [Nat.pow_mul]
theorem AkY {z x y : Value} {a b : Int} {base : Nat} (hz : ZO w base z) (hx : IntR w x a) (hy : IntR w y b) (ba : bl a.natAbs ≤ 1099511627776)
  (H : ∀ w', ZO w' base z → IntR w' z (a.natAbs &&& b.natAbs : Nat) → w.grownBy w' (blk z) → K z w') : call P GK [z, x, y] w K := by
 obtain ⟨s1, hb1, l, h1, n1, v1, _⟩ := hx
 obtain ⟨s2, hb2, r, h2, n2, v2, _⟩ := hy
 have d1 := n1.1
 have d2 := n2.1
 have l1 := Ej n1 (by rw [v1]; exact ba)
 refine Uo ?_
 unfold Hi
 refine DG Af AG ?_
 have he := Bg w (.cells #[] Ay)
 have ho : OD .u32 Ay (w.alloc (.cells #[] Ay)) w.heap.size (.slice (some ⟨w.heap.size, 0, none⟩) 0 0) [] := B9 w [] Ay
 generalize w.alloc (.cells #[] Ay) = w1 at he ho ⊢
 rw [AP hb1]
 refine IntR.mag (hb1.ext he) ?_
 rw [(h1.ext he).row.len Af, AP hb2]
 refine IntR.mag (hb2.ext he) ?_
 rw [(h2.ext he).row.len Af, Ge, show min (l.length : Int) (r.length : Int) = ((min l.length r.length : Nat) : Int) by omega]
 refine ⟨fun g x y w' => ∃ (i : Nat) (q : List Nat), g + i = min l.length r.length ∧ y = .int .i64 (i : Int) ∧ Ext w w' ∧ OD .u32 Ay w' w.heap.size x q ∧ q.length = i ∧ Dig 4294967296 q ∧
  val 4294967296 q = val 4294967296 (l.take i) &&& val 4294967296 (r.take i), ⟨min l.length r.length, 0, [], rfl, rfl, he, ho, rfl, (by intro d hd; cases hd), by simp [val]⟩, ?_⟩
 rintro g x y junk w2 ⟨i, q, hg, rfl, e2, oq, hq, dq, hv⟩
 rw [Ai]
 refine Ac (fun hlt => ?_) (fun hge => ?_)
 ·have hi1 : i < l.length := by omega
  have hi2 : i < r.length := by omega
  rw [AP hb1]
  refine IntR.mag (hb1.ext e2) ?_
  refine (h1.ext e2).at hi1 Af AG Be ?_
  rw [AP hb2]
  refine IntR.mag (hb2.ext e2) ?_
  refine (h2.ext e2).at hi2 Af AG Be ?_
  have g1 := Bj d1 hi1
  have g2 := Bj d2 hi2
  rw [RU (b := r[i]) (by simpa [IntKind.bits] using g1) (by simpa [IntKind.bits] using g2) rfl]
  refine MA oq Af AG (by rw [hq]; simp only [maxLen]; omega) (by omega) e2.size fun v' w3 o3 hg3 => ?_
  rw [AO (b := 1) (by omega)]
  have hand : l[i] &&& r[i] < 4294967296 := Nat.lt_of_le_of_lt Nat.and_le_left g1
  refine ⟨g - 1, by omega, i + 1, _, by omega, rfl, Cg e2 oq hg3, o3, by simp [hq], fun d hd => ?_, ?_⟩
  ·rcases List.mem_append.1 hd with hd | hd
   ·exact dq d hd
   ·simp at hd; omega
  ·rw [De, BV _ hi1, BV _ hi2, hv, hq, p32]
   refine (Zk ?_ ?_).symm
   ·have := B8 (d1.take i)
    rw [List.length_take, Nat.min_eq_left (by omega), p32] at this; exact this
   ·have := B8 (d2.take i)
    rw [List.length_take, Nat.min_eq_left (by omega), p32] at this; exact this
 ·have hi : i = min l.length r.length := by omega
  have e : val 4294967296 q = a.natAbs &&& b.natAbs := by
   rw [hv, ← v1, ← v2]
   have s1 := Ce 4294967296 l (i := i) (by omega)
   have s2 := Ce 4294967296 r (i := i) (by omega)
   have t1 := B8 (d1.take i)
   rw [List.length_take, Nat.min_eq_left (by omega), p32] at t1
   have t2 := B8 (d2.take i)
   rw [List.length_take, Nat.min_eq_left (by omega), p32] at t2
   have hz : val 4294967296 (l.drop i) &&& val 4294967296 (r.drop i) = 0 := by
    rcases Nat.le_total l.length r.length with h | h
    ·rw [List.drop_eq_nil_of_le (by omega : l.length ≤ i)]; simp [val]
    ·rw [List.drop_eq_nil_of_le (by omega : r.length ≤ i)]; simp [val]
   rw [s1, s2, p32, Zk t1 t2, hz]
   simp
  have hz2 := hz.ext e2
  refine AaI hz2 oq.IR (Ty.owns oq) dq fun w3 z3 i3 g3 => H w3 z3 ?_ (CT e2 g3)
  rw [e] at i3; exact i3
def Wl (l : List Nat) (m : Int) : Prop := Norm 16777216 l ∧ val 16777216 l = m.natAbs
structure LR (w : World) (s : Value) (l : List Nat) : Prop extends IR .i64 w s l where
 ty : Ty w s.ownBlock Ar
instance {w : World} {s : Value} {l : List Nat} : Coe (LR w s l) (IR .i64 w s l) := ⟨LR.toIR⟩
theorem LR.ext {w' : World} {s : Value} {l : List Nat} (h : LR w s l) (he : Ext w w') : LR w' s l := ⟨h.toIR.ext he, AeX h.ty he⟩
theorem LR.of {base : Nat} {s : Value} {l : List Nat} (h : OD .i64 Ar w base s l) : LR w s l := ⟨OD.IR h, Ty.owns h⟩
theorem LR.nil (w : World) : LR w (.slice none 0 0) [] := ⟨IR.nil _ _, Yl _ _⟩
theorem LR.kt {w' : World} {s : Value} {l : List Nat} {row : Option Nat} {e' : TypeId} (h : LR w s l) (hg : w.grownBy w' row) (ht : Ty w row e') (hne : Ar ≠ e') : LR w' s l :=
 ⟨IR.kept_at h.toIR hg (h.ty.apart ht hne), Adp h.ty hg ht hne⟩
def Wr (w : World) (v : Value) (m : Int) : Prop := ∃ s l, v = .agg #[.int .i64 m.sign, s] ∧ LR w s l ∧ Wl l m
def Wo (w : World) (lo hi : Nat) (v : Value) (m : Int) : Prop := ∃ s l, v = .agg #[.int .i64 m.sign, s] ∧ OwnR w lo hi Ar 1 s l.length (l.map (iv .i64)) ∧ Wl l m
theorem Wr.ext {w' : World} {v : Value} {m : Int} (h : Wr w v m) (he : Ext w w') : Wr w' v m := let ⟨s, l, h1, h2, h3⟩ := h; ⟨s, l, h1, h2.ext he, h3⟩
theorem Wo.ext {w' : World} {lo hi : Nat} {v : Value} {m : Int} (h : Wo w lo hi v m) (he : Ext w w') : Wo w' lo hi v m := let ⟨s, l, h1, h2, h3⟩ := h; ⟨s, l, h1, h2.ext he, h3⟩
theorem Wo.Wr {lo hi : Nat} {v : Value} {m : Int} (h : Wo w lo hi v m) : Wr w v m := let ⟨s, l, h1, h2, h3⟩ := h; ⟨s, l, h1, LR.of h2.own, h3⟩
theorem Wl.zero : Wl [] 0 := ⟨Norm.nil _, rfl⟩
theorem Wr.zero (w : World) : Wr w (.agg #[.int .i64 0, .slice none 0 0]) 0 := ⟨_, [], rfl, LR.nil _, Wl.zero⟩
theorem Kc {K : Value → Prop} : bld P Aj [] w K = K (.agg #[.int .i64 0, .slice none 0 0]) := DT (by kernel_rfl)
theorem Aek {n : Int} {K : Value → Prop} : bld P Aj [(0, .int .i64 n)] w K = K (.agg #[.int .i64 n, .slice none 0 0]) := DT (by kernel_rfl)
end


section
open Go Go.Vc
variable {w : World} {K : Value → World → Prop}
theorem AaV (a : Nat) : a &&& 16777215 = a % 16777216 := Nat.and_two_pow_sub_one_eq_mod a 24
theorem Akc {w1 w2 : World} {b1 b2 : Nat} {t1 t2 : TypeId} {p q : Value} {c1 c2 : List Value} (h1 : Bx w1 b1 t1 p c1) (h2 : Bx w2 b2 t2 q c2) (h : w1.heap.size ≤ b2) : blk p = none ∨ blk p ≠ blk q := by
 obtain ⟨g, rfl, _, hg⟩ := h1
 obtain ⟨g', rfl, hb, _⟩ := h2
 have := Gf hg
 right
 simp only [blk, ne_eq, Option.some.injEq]
 omega
theorem Z9 {Q p r n q0 q1 : Nat} (h : Q + p * r = n) (h0 : q0 = r % 16777216) (h1 : q1 = r / 16777216) : Q + p * q0 + p * 16777216 * q1 = n := by
 have := Nat.div_add_mod r 16777216
 subst h0 h1
 rw [← h]
 conv => rhs; rw [← this]
 grind
theorem AeS {p : Value} {m : Int} (h : IntR w p m) (hb : bl m.natAbs ≤ 1099511627775)
  (H0 : 2400 < bl m.natAbs → ∀ w', Ext w w' → K (.tuple #[.agg #[.int .i64 0, .slice none 0 0], .bool false]) w')
  (H1 : bl m.natAbs ≤ 2400 → ∀ v w', Ext w w' → Wo w' w.heap.size w'.heap.size v m → K (.tuple #[v, .bool true]) w') : call P Lj [p] w K := by
 refine Y3 ?_
 unfold K1
 refine BI AK fun x2 w2 b2 e2 _ => ?_
 have h2 := h.ext e2
 refine OL h2 (by omega) ?_
 rw [Aq]
 refine Ac (fun hgt => ?_) (fun hle => ?_)
 ·rw [Kc]
  refine b2.put AK (ds := [.int .i64 0, .slice none 0 0]) rfl rfl (JV rfl rfl) fun w3 b3 g3 => ?_
  refine b3.getc Bh rfl AK rfl ?_
  exact H0 (by omega) _ (Ab e2 (fun g hg => (b2.blk_lt hg).1) g3)
 ·have hle : bl m.natAbs ≤ 2400 := by omega
  refine XC h2 ?_
  rw [Aek]
  refine BI AK fun x4 w4 b4 e4 _ => ?_
  refine b4.put AK (ds := [.int .i64 m.sign, .slice none 0 0]) rfl rfl (JV rfl rfl) fun w5 b5 g5 => ?_
  have ne24 := Akc b2 b4 (Nat.le_refl _)
  have b25 := (b2.ext e4).kept g5 (by rcases ne24 with q | q; exact .inr (by rw [q]; obtain ⟨g, rfl, _⟩ := b4; simp [blk]); exact .inr fun e => q e.symm)
  have e5 : Ext w2 w5 := Ab e4 (fun g hg => (b4.blk_lt hg).1) g5
  have E5 := e2.trans e5
  refine Fg fun x14 w6 z6 _ e6 => ?_
  refine Ai0 z6 ((h.ext E5).ext e6) (by omega) fun w7 z7 i7 g7 => ?_
  have e7 : Ext w5 w7 := Ab e6 (fun g hg => z6.blk_ge hg) g7
  refine Oz (by decide) (by decide) fun x17 w8 e8 z8 i8 => ?_
  have E8 := E5.trans (e7.trans e8)
  have s2 := e2.size
  have s5 := E5.size
  have s58 := (e7.trans e8).size
  have ne : x17 ≠ x14 := by
   rintro rfl
   obtain ⟨b, s, q1, _⟩ := z7
   obtain ⟨b', s', q2, _⟩ := z8
   obtain ⟨g, rfl, _, hg⟩ := q1
   obtain ⟨g', e, hge, _⟩ := q2
   cases e
   have := Gf hg
   omega
  refine ⟨fun g w' => ∃ (q : List Nat) (r : Nat) (s : Value), r = g ∧ Ext w w' ∧ (∃ cs, cs.length = 2 ∧ Bx w' w.heap.size Aj x2 cs) ∧ Bx w' w.heap.size Aj x4 [.int .i64 m.sign, s] ∧ OD .i64 Ar w' w.heap.size s q ∧ ZO w' w.heap.size x14 ∧ IntR w' x14 (r : Int) ∧ IntR w' x17 16777215 ∧
   val 16777216 q + 16777216 ^ q.length * r = m.natAbs ∧ Dig 16777216 q ∧ (r = 0 → q.getLast? ≠ some 0),
   ⟨m.natAbs, [], m.natAbs, _, rfl, E8, ⟨_, rfl, (b25.ext (e7.trans e8)).low (Nat.le_refl _)⟩, (b5.ext (e7.trans e8)).low s2, OD.nil _ _ _ _, (z7.ext e8).low s5, i7.ext e8, i8, by simp [val], (by intro d hd; cases hd), by simp⟩, ?_⟩
  rintro g junk w9 ⟨q, r, s, rfl, e9, ⟨cs, hcs, bx2⟩, bx4, oq, zr, ir, im, hv, dq, hlast⟩
  refine XC ir ?_
  rw [Aq]
  have hrb : bl r ≤ bl m.natAbs := by
   refine HO ?_
   rw [← hv]
   have : 1 * r ≤ 16777216 ^ q.length * r := Nat.mul_le_mul_right _ (Nat.pow_pos (by decide))
   omega
  refine Ac (fun hpos => ?_) (fun hz => ?_)
  ·have hr0 : 0 < r := by
    rcases Nat.eq_zero_or_pos r with h0 | h0
    ·subst h0; exact absurd hpos (by decide)
    ·exact h0
   have hql : q.length < 100 := by
    have h1 : 16777216 ^ q.length * 1 ≤ 16777216 ^ q.length * r := Nat.mul_le_mul_left _ hr0
    have h2 : 2 ^ (24 * q.length) ≤ m.natAbs := by rw [Nat.pow_mul, show (2 : Nat) ^ 24 = 16777216 from rfl]; omega
    rw [← NL] at h2
    omega
   obtain ⟨a, fa, la, sa⟩ := Aa9 (f := 1) (off := 1) (ty := BO) bx4 Bh rfl Uc Ah rfl
   rw [fa, la bx4 rfl]
   refine Fg fun x23 w10 z10 _ e10 => ?_
   refine ⟨e10, ?_⟩
   refine AkY z10 (ir.ext e10) (im.ext e10) (by simpa using (by omega : bl r ≤ 1099511627776)) fun w11 z11 i11 g11 => ?_
   have e11 : Ext w9 w11 := Ab e10 (fun g hg => z10.blk_ge hg) g11
   have bx4' := bx4.ext e11
   rw [fa]
   refine ⟨rfl, ?_⟩
   rw [la bx4' rfl]
   refine ⟨rfl, ?_⟩
   have hand : ((r : Int).natAbs &&& (16777215 : Int).natAbs : Nat) = r % 16777216 := AaV r
   rw [hand] at i11
   have hmod : r % 16777216 < 16777216 := Nat.mod_lt _ (by decide)
   refine Adv i11 (by simp only [Int.natAbs_natCast]; omega) ?_
   refine ⟨Ext.refl _, ?_⟩
   have oq' := Di oq e11
   have hsz := (e9.trans e11).size
   refine XJ oq' Ah AE (by simp only [maxLen]; omega) (by omega) hsz fun s' w12 o12 g12 => ?_
   have t12 := Ty.owns oq'
   have bx4'' := Bl bx4' g12 t12 (by decide)
   rw [fa]
   refine sa bx4'' (by simp) (by
    obtain ⟨_, _, a, c, e, _⟩ := (OD.IR o12).row
    rw [e]; rfl) fun w13 bx13 g13 => ?_
   have t13 := Ty.box bx4''
   have zr13 := ((zr.ext e11).kt g12 t12 (by decide)).kt g13 t13 (by decide)
   have ir13 := ((ir.ext e11).kt g12 t12 (by decide) (by decide)).kt g13 t13 (by decide) (by decide)
   have im13 := ((im.ext e11).kt g12 t12 (by decide) (by decide)).kt g13 t13 (by decide) (by decide)
   have o13 := AX o12 g13 t13 (by decide)
   have bx2' := Bl (bx2.ext e11) g12 t12 (by decide)
   have ne24' : blk x2 ≠ blk x4 := by
    rcases ne24 with q | q
    ·obtain ⟨g, rfl, _⟩ := b2; simp [blk] at q
    ·exact q
   have bx2'' := bx2'.kept g13 (.inr fun e => ne24' e.symm)
   have E13 : Ext w w13 := Ab (Ab (e9.trans e11) (fun g hg => (oq'.lt g hg).1) g12) (fun g hg => (bx4''.blk_lt hg).1) g13
   refine Ait (n := 24) zr13 ir13 (by simpa using (by omega : bl r ≤ 1099511627775)) (by decide) fun w14 z14 i14 g14 => ?_
   have t14 := zr13.ty
   refine ⟨r / 16777216, by omega, q ++ [r % 16777216], r / 16777216, s', rfl, Ab E13 (fun g hg => zr13.blk_ge hg) g14, ⟨cs, hcs, Bl bx2'' g14 t14 (by decide)⟩, Bl bx13 g14 t14 (by decide), AX o13 g14 t14 (by decide), z14, ?_, im13.kept zr13 g14 ne, ?_, ?_, ?_⟩
   ·have : (r : Int) / 2 ^ 24 = ((r / 16777216 : Nat) : Int) := by simp
    rw [this] at i14; exact i14
   ·rw [De, List.length_append, List.length_singleton, Nat.pow_succ]
    exact Z9 hv rfl rfl
   ·intro d hd
    rcases List.mem_append.1 hd with hd | hd
    ·exact dq d hd
    ·simp at hd; omega
   ·intro h0
    rw [List.getLast?_append]
    simp
    omega
  ·have hr0 : r = 0 := by
    rcases Nat.eq_zero_or_pos r with h0 | h0
    ·exact h0
    ·exact absurd (by rw [Int.sign_eq_one_of_pos (by omega)]; decide) hz
   subst hr0
   refine bx4.get Bh rfl AK rfl ?_
   have hs1 : s.oneCell' = true := by
    obtain ⟨_, _, a, c, e, _⟩ := (OD.IR oq).row
    rw [e]; rfl
   refine bx2.put AK (ds := [.int .i64 m.sign, s]) rfl hcs (JV rfl hs1) fun w10 b10 g10 => ?_
   refine b10.getc Bh rfl AK rfl ?_
   have t10 := Ty.box bx2
   have e10 : Ext w w10 := Ab e9 (fun g hg => (bx2.blk_lt hg).1) g10
   have o10 := AX oq g10 t10 (by decide)
   refine H1 hle _ _ e10 ⟨s, q, rfl, OwnR.of o10, ⟨dq, hlast rfl⟩, by simpa using hv⟩
end


section
open Go Go.Vc
variable {w : World} {K : Value → World → Prop}
def Nm (w : World) (v : Value) (m e : Int) : Prop := ∃ p, v = .agg #[p, .int .i64 e] ∧ IntR w p m
def NQ (w : World) (v : Value) (lo hi : Nat) (q : Rat) : Prop := ∃ m e, Nm w v m e ∧ Bd lo hi m e ∧ q = dy m e
theorem Nm.ext {w' : World} {v : Value} {m e : Int} (h : Nm w v m e) (he : Ext w w') : Nm w' v m e := let ⟨p, h1, h2⟩ := h; ⟨p, h1, h2.ext he⟩
theorem NQ.ext {w' : World} {v : Value} {lo hi : Nat} {q : Rat} (h : NQ w v lo hi q) (he : Ext w w') : NQ w' v lo hi q := let ⟨m, e, h1, h2⟩ := h; ⟨m, e, h1.ext he, h2⟩
theorem NQ.mono {v : Value} {lo hi lo' hi' : Nat} {q : Rat} (h : NQ w v lo hi q) (h1 : lo ≤ lo') (h2 : hi ≤ hi') : NQ w v lo' hi' q := let ⟨m, e, a, b, c⟩ := h; ⟨m, e, a, b.mono h1 h2, c⟩
theorem IntR.ptr {p : Value} {m : Int} (h : IntR w p m) : ∃ a, p = .pointer (some a) := by
 obtain ⟨s, ⟨g, rfl, _⟩, _⟩ := h
 exact ⟨_, rfl⟩
theorem IntR.one {p : Value} {m : Int} (h : IntR w p m) : p.oneCell' = true := by obtain ⟨a, rfl⟩ := h.ptr; rfl
theorem QU {p : Value} {e : Int} {K : Value → Prop} (hp : ∃ a, p = .pointer (some a)) : bld P AI [(0, p), (1, .int .i64 e)] w K = K (.agg #[p, .int .i64 e]) := by
 obtain ⟨a, rfl⟩ := hp
 exact DT (by kernel_rfl)
def nm (p : Value) (e : Int) : List Value := [p, .int .i64 e]
theorem RO {base : Nat} {x p : Value} {e : Int} {K : Value → Prop} (h : Bx w base AI x (nm p e)) (H : K p) : fda P AI x 0 w (fun a => ld P Vx a w K) :=
 h.fld (off := 0) rfl EJ rfl Ox Wg rfl H
theorem N9 {base : Nat} {x p : Value} {e : Int} {K : Value → Prop} (h : Bx w base AI x (nm p e)) (H : K (.int .i64 e)) : fda P AI x 1 w (fun a => ld P Bw a w K) :=
 h.fld (off := 1) rfl EJ rfl LL DD rfl H
theorem DJ {base : Nat} {x p : Value} {e : Int} {K : Value → Prop} (h : Bx w base AI x (nm p e)) (H : K (.agg #[p, .int .i64 e])) : ld P AI x w K :=
 h.get EJ rfl F6 rfl H
theorem AbM {base : Nat} {x p : Value} {e : Int} (h : Bx w base AI x (nm p e)) :
  ∃ a, (∀ (w : World) (K : Value → Prop), fda P AI x 1 w K = K a) ∧ (∀ {w' : World} {base' : Nat} {p' : Value} {e' : Int}, Bx w' base' AI x (nm p' e') → ∀ K, ld P Bw a w' K = K (.int .i64 e')) := by
 obtain ⟨a, h1, h2, _⟩ := Aa9 (f := 1) (off := 1) (ty := Bw) h EJ rfl LL DD rfl
 exact ⟨a, h1, fun h' => h2 h' rfl⟩
theorem Jb {base : Nat} {x p : Value} {e : Int} {cs : List Value} (hb : Bx w base AI x cs) (hl : cs.length = 2) (hp : p.oneCell' = true) (H : ∀ w', w.grownBy w' (blk x) → K (.agg #[p, .int .i64 e]) w') :
  sto P AI x (.agg #[p, .int .i64 e]) w fun w' => ldc P AI x w' fun r => K r w' := by
 refine hb.put F6 (ds := [p, .int .i64 e]) rfl hl (JV hp rfl) fun w' b' g' => ?_
 exact b'.getc EJ rfl F6 rfl (H w' g')
theorem FY {x : Value} {p : Value} {e : Int} {KW : Value → World → Prop} (H : ∀ x w', Bx w' w.heap.size AI x (nm p e) → Ext w w' → KW x w') : bx P AI (.agg #[p, .int .i64 e]) w KW :=
 Ix fun x w' b e _ => H x w' b e
theorem NN {KW : Value → World → Prop} (H : ∀ x w', (∃ cs, cs.length = 2 ∧ Bx w' w.heap.size AI x cs) → Ext w w' → KW x w') : alc P AI w KW :=
 BI F6 fun x w' b e _ => H x w' ⟨_, rfl, b⟩ e
theorem Nm.grown {w1 w2 : World} {base : Nat} {x p : Value} {cs : List Value} {m : Int} (h : IntR w1 p m) (hb : Bx w1 base AI x cs) (hg : w1.grownBy w2 (blk x)) : IntR w2 p m := h.kt hg (Ty.box hb) (by decide) (by decide)
def sgQ (q : Rat) : Int := if q < 0 then -1 else if 0 < q then 1 else 0
theorem Abn (m e : Int) : sgQ (dy m e) = m.sign := by
 unfold sgQ
 simp only [X8, Aks]
 split
 ·rename_i h; rw [Int.sign_eq_neg_one_of_neg h]
 ·split
  ·rename_i h; rw [Int.sign_eq_one_of_pos h]
  ·have : m = 0 := by omega
   subst this; rfl
theorem Uz {v : Value} {m e : Int} (h : Nm w v m e) (H : ∀ w', Ext w w' → K (.int .i64 m.sign) w') : call P BD [v] w K := by
 obtain ⟨p, rfl, hp⟩ := h
 refine WQ ?_
 unfold JN
 refine FY (x := undef) fun x w1 b1 e1 => ?_
 refine RO b1 ?_
 exact XC (hp.ext e1) (H _ e1)
theorem XB {v : Value} {lo hi : Nat} {q : Rat} (h : NQ w v lo hi q) (H : ∀ w', Ext w w' → K (.int .i64 (sgQ q)) w') : call P BD [v] w K := by
 obtain ⟨m, e, h1, h2, rfl⟩ := h
 refine Uz h1 fun w' he => ?_
 rw [← Abn m e]; exact H w' he
theorem AfK {v : Value} {lo hi : Nat} {q : Rat} (h : NQ w v lo hi q) (hl : lo ≤ 1000000000) (hh : hi ≤ 1000000000) (H : ∀ v' w', Ext w w' → NQ w' v' lo hi (-q) → K v' w') : call P Lp [v] w K := by
 obtain ⟨m, e, ⟨p, rfl, hp⟩, hb, rfl⟩ := h
 have hbl := hb.bl
 refine YD ?_
 unfold LK
 refine FY (x := undef) fun x1 w1 b1 e1 => ?_
 refine NN fun x2 w2 ⟨cs, hcs, b2⟩ e2 => ?_
 have b1 := b1.ext e2
 have E2 := e1.trans e2
 refine RO b1 ?_
 obtain ⟨a, fa, la⟩ := AbM b1
 rw [fa, la b1]
 refine Fg fun x3 w3 z3 _ e3 => ?_
 refine ⟨e3, ?_⟩
 refine AhY z3 ((hp.ext E2).ext e3) (by omega) fun w4 z4 i4 g4 => ?_
 have e4 : Ext w2 w4 := Ab e3 (fun g hg => z3.blk_ge hg) g4
 rw [fa, la (b1.ext e4)]
 refine ⟨rfl, rfl, ?_⟩
 rw [QU i4.ptr]
 have b2 := b2.ext e4
 refine Jb b2 hcs i4.one fun w5 g5 => ?_
 have e5 : Ext w w5 := Ab (E2.trans e4) (fun g hg => Nat.le_trans e1.size (b2.blk_lt hg).1) g5
 exact H _ _ e5 ⟨-m, e, ⟨x3, rfl, Nm.grown i4 b2 g5⟩, hb.neg, (Fi m e).symm⟩
theorem Afa {u v : Value} {lo hi lo' hi' : Nat} {q r : Rat} (hu : NQ w u lo hi q) (hv : NQ w v lo' hi' r) (hl : lo ≤ 100000000) (hh : hi ≤ 100000000) (hl' : lo' ≤ 100000000) (hh' : hi' ≤ 100000000)
  (H : ∀ v' w', Ext w w' → NQ w' v' (lo + lo') (hi + hi') (q * r) → K v' w') : call P KQ [u, v] w K := by
 obtain ⟨m, e, ⟨p, rfl, hp⟩, hb, rfl⟩ := hu
 obtain ⟨n, g, ⟨p', rfl, hp'⟩, hb', rfl⟩ := hv
 have hbl := hb.bl
 have hbl' := hb'.bl
 have := hb.low; have := hb.top; have := hb'.low; have := hb'.top
 refine Yj ?_
 unfold Kq
 refine FY (x := undef) fun x1 w1 b1 e1 => ?_
 refine FY (x := undef) fun x2 w2 b2 e2 => ?_
 refine NN fun x3 w3 ⟨cs, hcs, b3⟩ e3 => ?_
 have b1 := (b1.ext e2).ext e3
 have b2 := b2.ext e3
 have E2 := e1.trans e2
 have E3 := E2.trans e3
 refine RO b1 ?_
 refine RO b2 ?_
 obtain ⟨a, fa, la⟩ := AbM b1
 obtain ⟨a', fa', la'⟩ := AbM b2
 rw [fa, la b1, fa', la' b2, Aw, Ad (by omega) (by omega)]
 refine Fg fun x5 w4 z4 _ e4 => ?_
 refine ⟨e4, ?_⟩
 refine Alf z4 ((hp.ext E3).ext e4) ((hp'.ext E3).ext e4) (by omega) (by omega) fun w5 z5 i5 g5 => ?_
 have e5 : Ext w3 w5 := Ab e4 (fun g hg => z4.blk_ge hg) g5
 rw [fa, la (b1.ext e5), fa', la' (b2.ext e5), Aw, Ad (by omega) (by omega)]
 refine ⟨rfl, rfl, rfl, rfl, rfl, ?_⟩
 rw [QU i5.ptr]
 have b3 := b3.ext e5
 refine Jb b3 hcs i5.one fun w6 g6 => ?_
 have e6 : Ext w w6 := Ab (E3.trans e5) (fun g hg => Nat.le_trans E2.size (b3.blk_lt hg).1) g6
 exact H _ _ e6 ⟨m * n, e + g, ⟨x5, rfl, Nm.grown i5 b3 g6⟩, hb.mul hb', Qu m e n g⟩
theorem c_at {v : Value} {m e e0 : Int} (h : Nm w v m e) (hle : e0 ≤ e) (hd : e - e0 ≤ 1099511627776) (h0 : -1099511627776 ≤ e0) (hb : bl m.natAbs ≤ 1099511627776)
  (H : ∀ p w', Ext w w' → ZO w' w.heap.size p → IntR w' p (m * 2 ^ (e - e0).toNat) → K p w') : call P D4 [v, .int .i64 e0] w K := by
 obtain ⟨p, rfl, hp⟩ := h
 refine ZX ?_
 unfold Nl
 refine FY (x := undef) fun x1 w1 b1 e1 => ?_
 refine Fg fun x5 w2 z2 _ e2 => ?_
 have b1 := b1.ext e2
 refine RO b1 ?_
 refine N9 b1 ?_
 rw [AC, Ad (by omega) (by omega), show e - e0 = (((e - e0).toNat : Nat) : Int) by omega, Jv (by omega)]
 refine Xz z2 (hp.ext (e1.trans e2)) hb (by omega) fun w3 z3 i3 g3 => ?_
 have e3 : Ext w w3 := Ab (e1.trans e2) (fun g hg => Nat.le_trans e1.size (z2.blk_ge hg)) g3
 exact H _ _ e3 (z3.low e1.size) i3
theorem T4 {u v : Value} {lo hi : Nat} {q r : Rat} (hu : NQ w u lo hi q) (hv : NQ w v lo hi r) (hl : lo ≤ 1000000000) (hh : hi ≤ 1000000000)
  (H : ∀ v' w', Ext w w' → NQ w' v' lo (hi + 1) (q + r) → K v' w') : call P Ft [u, v] w K := by
 obtain ⟨m, e, ⟨p, rfl, hp⟩, hb, rfl⟩ := hu
 obtain ⟨n, g, ⟨p', rfl, hp'⟩, hb', rfl⟩ := hv
 have hbl := hb.bl
 have hbl' := hb'.bl
 have := hb.low; have := hb.top; have := hb'.low; have := hb'.top
 refine XN ?_
 unfold Lg
 refine FY (x := undef) fun x1 w1 b1 e1 => ?_
 refine FY (x := undef) fun x2 w2 b2 e2 => ?_
 refine NN fun x3 w3 ⟨cs, hcs, b3⟩ e3 => ?_
 have b1 := (b1.ext e2).ext e3
 have b2 := b2.ext e3
 have E2 := e1.trans e2
 have E3 := E2.trans e3
 refine DJ b1 ?_
 refine Uz ⟨p, rfl, hp.ext E3⟩ fun w4 e4 => ?_
 rw [Ae]
 have E4 := E3.trans e4
 refine Ac (fun h0 => ?_) (fun h0 => ?_)
 ·have hm : m = 0 := Int.sign_eq_zero_iff_zero.1 h0
  refine DJ (b2.ext e4) ?_
  have b3 := b3.ext e4
  have ip := hp'.ext E4
  refine Jb b3 hcs ip.one fun w5 g5 => ?_
  have e5 : Ext w w5 := Ab E4 (fun g hg => Nat.le_trans E2.size (b3.blk_lt hg).1) g5
  refine H _ _ e5 ⟨n, g, ⟨p', rfl, Nm.grown ip b3 g5⟩, hb'.mono (Nat.le_refl _) (Nat.le_succ _), ?_⟩
  rw [hm, Dv, Rat.zero_add]
 ·refine DJ (b2.ext e4) ?_
  refine Uz ⟨p', rfl, hp'.ext E4⟩ fun w5 e5 => ?_
  have E5 := E4.trans e5
  rw [Ae]
  refine Ac (fun h1 => ?_) (fun h1 => ?_)
  ·have hn : n = 0 := Int.sign_eq_zero_iff_zero.1 h1
   refine DJ ((b1.ext e4).ext e5) ?_
   have b3 := (b3.ext e4).ext e5
   have ip := hp.ext E5
   refine Jb b3 hcs ip.one fun w6 g6 => ?_
   have e6 : Ext w w6 := Ab E5 (fun g hg => Nat.le_trans E2.size (b3.blk_lt hg).1) g6
   refine H _ _ e6 ⟨m, e, ⟨p, rfl, Nm.grown ip b3 g6⟩, hb.mono (Nat.le_refl _) (Nat.le_succ _), ?_⟩
   rw [hn, Dv, Rat.add_zero]
  ·have b1 := (b1.ext e4).ext e5
   have b2 := (b2.ext e4).ext e5
   have b3 := (b3.ext e4).ext e5
   refine N9 b1 ?_
   refine N9 b2 ?_
   rw [Ge]
   refine ⟨_, fun _ _ h => h, ?_⟩
   refine DJ b1 ?_
   refine DJ b2 ?_
   have ip := hp.ext E5
   have ip' := hp'.ext E5
   have hs1 := JL m (e - min e g).toNat
   have hs2 := JL n (g - min e g).toNat
   have fin : ∀ (z a b : Value) (w6 w0 : World), Ext w5 w0 → ZO w6 w5.heap.size z → Ext w5 w6 → IntR w6 a (m * 2 ^ (e - min e g).toNat) → IntR w6 b (n * 2 ^ (g - min e g).toNat) →
     call P BP [z, a, b] w6 fun x28 w7 => bld P AI [(0, x28), (1, .int .i64 (min e g))] w7 fun x30 => sto P AI x3 x30 w7 fun w8 => ldc P AI x3 w8 fun r => K r w8 := by
    intro z a b w6 w0 _ hz e6 ia ib
    refine AhV hz ia ib (by omega) (by omega) fun w7 z7 i7 g7 => ?_
    have e7 : Ext w5 w7 := Ab e6 (fun g hg => hz.blk_ge hg) g7
    rw [QU i7.ptr]
    have b3 := b3.ext e7
    refine Jb b3 hcs i7.one fun w8 g8 => ?_
    have e8 : Ext w w8 := Ab (E5.trans e7) (fun g hg => Nat.le_trans E2.size (b3.blk_lt hg).1) g8
    exact H _ _ e8 ⟨addM m e n g, min e g, ⟨z, rfl, Nm.grown i7 b3 g8⟩, hb.add hb', (XY m e n g).symm⟩
   refine ⟨?_, ?_⟩
   ·refine Fg fun z w6 z6 _ e6 => ?_
    refine ⟨e6, ?_⟩
    refine c_at (e := e) ⟨p, rfl, ip.ext e6⟩ (by omega) (by omega) (by omega) (by omega) fun a w7 e7 z7 i7 => ?_
    refine ⟨e7, ?_⟩
    refine c_at (e := g) ⟨p', rfl, (ip'.ext e6).ext e7⟩ (by omega) (by omega) (by omega) (by omega) fun b w8 e8 z8 i8 => ?_
    exact fin z a b w8 w5 (Ext.refl _) ((z6.ext e7).ext e8) (e6.trans (e7.trans e8)) (i7.ext e8) i8
   ·refine c_at (e := e) ⟨p, rfl, ip⟩ (by omega) (by omega) (by omega) (by omega) fun a w7 e7 z7 i7 => ?_
    refine ⟨e7, ?_, ?_⟩
    ·refine Fg fun z w6 z6 _ e6 => ?_
     refine ⟨e6, ?_⟩
     refine c_at (e := g) ⟨p', rfl, (ip'.ext e7).ext e6⟩ (by omega) (by omega) (by omega) (by omega) fun b w8 e8 z8 i8 => ?_
     exact fin z a b w8 w5 (Ext.refl _) ((z6.low e7.size).ext e8) (e7.trans (e6.trans e8)) ((i7.ext e6).ext e8) i8
    ·refine c_at (e := g) ⟨p', rfl, ip'.ext e7⟩ (by omega) (by omega) (by omega) (by omega) fun b w8 e8 z8 i8 => ?_
     refine Fg fun z w6 z6 _ e6 => ?_
     refine ⟨e6, ?_⟩
     exact fin z a b w6 w5 (Ext.refl _) (z6.low (e7.trans e8).size) (e7.trans (e8.trans e6)) ((i7.ext e8).ext e6) (i8.ext e6)
theorem Z4 {u v : Value} {lo hi : Nat} {q r : Rat} (hu : NQ w u lo hi q) (hv : NQ w v lo hi r) (hl : lo ≤ 1000000000) (hh : hi ≤ 1000000000)
  (H : ∀ v' w', Ext w w' → NQ w' v' lo (hi + 1) (q - r) → K v' w') : call P HM [u, v] w K := by
 obtain ⟨m, e, ⟨p, rfl, hp⟩, hb, hq⟩ := hu
 obtain ⟨n, g, ⟨p', rfl, hp'⟩, hb', hr⟩ := hv
 refine YQ ?_
 unfold K0
 refine FY (x := undef) fun x1 w1 b1 e1 => ?_
 refine FY (x := undef) fun x2 w2 b2 e2 => ?_
 refine NN fun x3 w3 ⟨cs, hcs, b3⟩ e3 => ?_
 have E2 := e1.trans e2
 have E3 := E2.trans e3
 refine DJ ((b1.ext e2).ext e3) ?_
 refine DJ (b2.ext e3) ?_
 refine AfK ⟨n, g, ⟨p', rfl, hp'.ext E3⟩, hb', hr⟩ hl hh fun v1 w4 e4 n4 => ?_
 refine ⟨e4, ?_⟩
 refine T4 ⟨m, e, ⟨p, rfl, hp.ext (E3.trans e4)⟩, hb, hq⟩ n4 hl hh fun v2 w5 e5 n5 => ?_
 obtain ⟨m', e', ⟨p2, rfl, h2⟩, hb2, hq2⟩ := n5
 have b3 := (b3.ext e4).ext e5
 refine Jb b3 hcs h2.one fun w6 g6 => ?_
 have e6 : Ext w w6 := Ab (E3.trans (e4.trans e5)) (fun g hg => Nat.le_trans E2.size (b3.blk_lt hg).1) g6
 refine H _ _ e6 ⟨m', e', ⟨p2, rfl, Nm.grown h2 b3 g6⟩, hb2, ?_⟩
 rw [← hq2, Rat.sub_eq_add_neg]
def cmpQ (q r : Rat) : Int := sgQ (q - r)
theorem AfA {u v : Value} {lo hi : Nat} {q r : Rat} (hu : NQ w u lo hi q) (hv : NQ w v lo hi r) (hl : lo ≤ 1000000000) (hh : hi ≤ 1000000000)
  (H : ∀ w', Ext w w' → K (.int .i64 (cmpQ q r)) w') : call P Ls [u, v] w K := by
 obtain ⟨m, e, ⟨p, rfl, hp⟩, hb, hq⟩ := hu
 obtain ⟨n, g, ⟨p', rfl, hp'⟩, hb', hr⟩ := hv
 refine Ye ?_
 unfold Kx
 refine FY (x := undef) fun x1 w1 b1 e1 => ?_
 refine FY (x := undef) fun x2 w2 b2 e2 => ?_
 have E2 := e1.trans e2
 refine DJ (b1.ext e2) ?_
 refine DJ b2 ?_
 refine Z4 ⟨m, e, ⟨p, rfl, hp.ext E2⟩, hb, hq⟩ ⟨n, g, ⟨p', rfl, hp'.ext E2⟩, hb', hr⟩ hl hh fun v1 w3 e3 n3 => ?_
 exact XB n3 fun w4 e4 => H w4 (E2.trans (e3.trans e4))
end


section
open Go Go.Vc
variable {w : World} {K : Value → World → Prop}
theorem Afr {m : Int} {k : Nat} (hm : m ≠ 0) (h : IsTz m.natAbs k) : m / 2 ^ k * 2 ^ k = m ∧ (m / 2 ^ k) % 2 = 1 := by
 unfold IsTz at h
 rw [if_neg (by omega)] at h
 obtain ⟨h1, h2⟩ := h
 have hp : (0 : Int) < 2 ^ k := Int.pow_pos (by decide)
 have hd : ((2 : Int) ^ k) ∣ m := by
  have : ((2 ^ k : Nat) : Int) ∣ m := Int.ofNat_dvd_left.2 (Nat.dvd_of_mod_eq_zero h1)
  simpa using this
 obtain ⟨c, hc⟩ := hd
 have e : m / 2 ^ k = c := by rw [hc]; exact Int.mul_ediv_cancel_left _ (Int.ne_of_gt hp)
 rw [e]
 refine ⟨by rw [hc, Int.mul_comm], ?_⟩
 have h3 : m.natAbs = 2 ^ k * c.natAbs := by rw [hc, Int.natAbs_mul, CE]
 rw [h3, Nat.mul_div_cancel_left _ (Nat.two_pow_pos _)] at h2
 omega
structure Cn (lo hi : Nat) (q : Rat) (m e : Int) : Prop where
 canon : Canon m e
 bd : Bd lo hi m e
 val : q = dy m e
theorem Cn.odd {lo hi : Nat} {m e : Int} {k : Nat} (hb : Bd lo hi m e) (hm : m ≠ 0) (h : IsTz m.natAbs k) : Cn lo hi (dy m e) (m / 2 ^ k) (e + k) := by
 obtain ⟨h1, h2⟩ := Afr hm h
 have hc : m / 2 ^ k ≠ 0 := by intro h0; rw [h0] at h2; cases h2
 refine ⟨.inr h2, ⟨?_, ?_, fun _ => ?_⟩, ?_⟩
 ·have := hb.low; omega
 ·have := hb.mag hm
  have h4 := U6 hc k
  rw [h1] at h4
  have h5 := Eu (n := (m / 2 ^ k).natAbs) (by omega)
  omega
 ·have := hb.mag hm
  have h4 := U6 hc k
  rw [h1] at h4
  omega
 ·rw [← BE (m := m / 2 ^ k) (e := e + k) (e' := e) (k := k) (by omega), h1]
def Do (w : World) (lo hi : Nat) (v : Value) (m e : Int) : Prop := ∃ s l, v = .agg #[.int .i64 m.sign, s, .int .i64 e] ∧ OwnR w lo hi Ar 1 s l.length (l.map (iv .i64)) ∧ Wl l m
def fitsD (m e : Int) : Prop := bl m.natAbs ≤ 2400 ∧ -3000 ≤ e ∧ e ≤ 3000
instance (m e : Int) : Decidable (fitsD m e) := by unfold fitsD; infer_instance
theorem Do.zero (w : World) (lo hi : Nat) : Do w lo hi (.agg #[.int .i64 0, .slice none 0 0, .int .i64 0]) 0 0 := ⟨_, [], rfl, ⟨OD.nil _ _ _ _, fun k hk => by cases hk⟩, Wl.zero⟩
theorem Qc {K : Value → Prop} : bld P Al [] w K = K (.agg #[.int .i64 0, .slice none 0 0, .int .i64 0]) := DT (by kernel_rfl)
theorem Xd {n e : Int} {s : Value} {K : Value → Prop} (hs : ∃ a l c, s = .slice a l c) : bld P Al [(0, .agg #[.int .i64 n, s]), (1, .int .i64 e)] w K = K (.agg #[.int .i64 n, s, .int .i64 e]) := by
 obtain ⟨a, l, c, rfl⟩ := hs
 exact DT (by kernel_rfl)
theorem Ab7 {lo hi n : Nat} {e : TypeId} {s : Value} {xs : List Value} (h : OwnR w lo hi e 1 s n xs) : ∃ a l c, s = .slice a l c := by
 obtain ⟨_, _, a, c, rfl, _⟩ := Bc h.own
 exact ⟨_, _, _, rfl⟩
theorem Ai6 {lo hi n : Nat} {e : TypeId} {s : Value} {xs : List Value} (h : OwnR w lo hi e 1 s n xs) : s.oneCell' = true := by
 obtain ⟨a, l, c, rfl⟩ := Ab7 h
 rfl
def fM (b : Nat) : Int := let m : Nat := b % 8388608 + (if 0 < b / 8388608 % 256 then 8388608 else 0); if b / 2147483648 % 2 = 1 then -(m : Int) else m
def fE (b : Nat) : Int := (if 0 < b / 8388608 % 256 then ((b / 8388608 % 256 : Nat) : Int) else 1) - 150
def fq (b : Nat) : Rat := dy (fM b) (fE b)
theorem QO (b : Nat) : (fM b).natAbs < 16777216 := by
 unfold fM
 have := Nat.mod_lt b (show 0 < 8388608 by decide)
 simp only
 split <;> split <;> omega
theorem f_bd {b : Nat} (h : Fin Ieee.single b) : Bd 149 128 (fM b) (fE b) := by
 rw [Ow] at h
 have h1 := Nat.mod_lt (b / 8388608) (show 0 < 256 by decide)
 have h2 := QO b
 have h3 : bl (fM b).natAbs ≤ 24 := Bf.2 (by exact h2)
 have h4 : -149 ≤ fE b ∧ fE b ≤ 104 := by unfold fE; split <;> omega
 exact ⟨by omega, by omega, fun _ => by omega⟩
theorem Ai4 {b : Nat} (hb : b < 4294967296) (H : K (.tuple #[.int .i64 (fM b), .int .i64 (fE b)]) w) : call P Oj [fl b] w K := by
 refine AbI ?_
 unfold Ot
 refine Sn ?_
 have e1 : b / 8388608 &&& 255 = b / 8388608 % 256 := Nat.and_two_pow_sub_one_eq_mod _ 8
 have e2 : b &&& 8388607 = b % 8388608 := Nat.and_two_pow_sub_one_eq_mod _ 23
 have h1 := Nat.mod_lt (b / 8388608) (show 0 < 256 by decide)
 have h2 := Nat.mod_lt b (show 0 < 8388608 by decide)
 rw [Cu (s := 23) (by decide), show (2 : Nat) ^ 23 = 8388608 from rfl]
 rw [RU (b := 255) (by simp only [IntKind.bits]; omega) (by decide) rfl, e1, AJ Be AB, Ad (by omega) (by omega)]
 rw [RU (b := 8388607) (by simp only [IntKind.bits]; omega) (by decide) rfl, e2, AJ Be AB, Ad (by omega) (by omega)]
 refine ⟨fun x y w' => w' = w ∧ x = .int .i64 (fE b + 150) ∧ y = .int .i64 ((fM b).natAbs : Int), ?_, ?_⟩
 ·rintro x y junk w' ⟨rfl, rfl, rfl⟩
  have hE : -149 ≤ fE b ∧ fE b ≤ 105 := by unfold fE; split <;> omega
  have hM := QO b
  rw [Cu (s := 31) (by decide), B5, show (2 : Nat) ^ 31 = 2147483648 from rfl]
  refine Ac (fun h => ?_) (fun h => ?_)
  ·rw [Cz, Ad (by omega) (by omega), AC, Ad (by omega) (by omega)]
   have h3 : b / 2147483648 % 2 = 1 := by omega
   have : (0 : Int) - ((fM b).natAbs : Int) = fM b := by
    unfold fM; simp only [h3, if_true]; omega
   rw [this, show fE b + 150 - 150 = fE b by omega]
   exact H
  ·rw [AC, Ad (by omega) (by omega)]
   have h3 : ¬ b / 2147483648 % 2 = 1 := by omega
   have : ((fM b).natAbs : Int) = fM b := by
    unfold fM; simp only [h3, if_false]; omega
   rw [this, show fE b + 150 - 150 = fE b by omega]
   exact H
 ·rw [Aq]
  refine Ac (fun h => ?_) (fun h => ?_)
  ·have h3 : 0 < b / 8388608 % 256 := by omega
   rw [Aw, Ad (by omega) (by omega)]
   refine ⟨rfl, ?_, ?_⟩
   ·congr 1; unfold fE; rw [if_pos h3]; omega
   ·congr 1; unfold fM; simp only [h3, if_true]; split <;> omega
  ·have h3 : ¬ 0 < b / 8388608 % 256 := by omega
   refine ⟨rfl, ?_, ?_⟩
   ·congr 1; unfold fE; rw [if_neg h3]; omega
   ·congr 1; unfold fM; simp only [h3, if_false]; split <;> omega
theorem Ahg {b : Nat} (hb : b < 4294967296) (H : ∀ v w', Ext w w' → Nm w' v (fM b) (fE b) → K v w') : call P C4 [fl b] w K := by
 refine Ab5 ?_
 unfold OB
 refine NN fun x1 w1 ⟨cs, hcs, b1⟩ e1 => ?_
 refine Ai4 hb ?_
 rw [A8, Ax]
 have h1 := QO b
 refine Oz (by omega) (by omega) fun p w2 e2 z2 i2 => ?_
 rw [QU i2.ptr]
 have b1 := b1.ext e2
 refine Jb b1 hcs i2.one fun w3 g3 => ?_
 have e3 : Ext w w3 := Ab (e1.trans e2) (fun g hg => (b1.blk_lt hg).1) g3
 exact H _ _ e3 ⟨p, rfl, Nm.grown i2 b1 g3⟩
theorem K7 {b : Nat} (hb : b < 4294967296) (hf : Fin Ieee.single b) (H : ∀ v w', Ext w w' → NQ w' v 149 128 (fq b) → K v w') : call P C4 [fl b] w K :=
 Ahg hb fun v w' he hn => H v w' he ⟨_, _, hn, f_bd hf, rfl⟩
end


section
open Go Go.Vc
variable {w : World} {K : Value → World → Prop}
theorem RI {d : UInt8} : digB d = true ↔ ¬ ((d.toNat : Int) < 48) ∧ ¬ ((57 : Int) < (d.toNat : Int)) := by
 unfold digB
 simp only [Bool.and_eq_true, decide_eq_true_eq]
 omega
theorem Aat {l : List UInt8} {i : Nat} (hi : i < l.length) (p : UInt8 → Bool) : (l.take (i + 1)).all p = ((l.take i).all p && p l[i]) := by
 rw [List.take_succ_eq_append_getElem hi, List.all_append]; simp
theorem AiA {l : List UInt8} {p : UInt8 → Bool} {i : Nat} (hi : i < l.length) (h : p l[i] = false) : l.all p = false := by
 refine Bool.eq_false_iff.2 fun hall => ?_
 have := List.all_eq_true.1 hall l[i] (List.getElem_mem hi)
 rw [h] at this; cases this
set_option maxRecDepth 20000 in
theorem UW {l : List UInt8} (hl : l.length ≤ 4611686018427387904) (H : K (.bool (isNum l)) w) : call P FM [str l] w K := by
 refine VS ?_
 unfold I7
 refine ⟨fun x w' => Hide (w' = w ∧ x = str (body l) ∧ (negB l && decide (body l = [48])) = false), ?_, ?_⟩
 ·rintro x junk w2 h
  obtain ⟨rfl, rfl, hneg⟩ := h.out
  clear h
  have hK : K (.bool (numB (body l))) w2 := by
   have e : isNum l = numB (body l) := by unfold isNum; rw [hneg]; simp
   rw [← e]; exact H
  have hbl := NO l
  generalize body l = r at *
  rw [A7 (b := [])]
  cases r with
  | nil =>
   have e : decide (([] : List UInt8) = []) = true := by simp
   rw [e]
   repeat (first | (refine ⟨_, fun _ _ _ h => h, ?_⟩) | simp only [-eq_self, Au, At, Ak, Ap, An, cond_true, cond_false, A6, Ao])
   exact hK
  | cons d r =>
   have e : decide ((d :: r) = []) = false := by simp
   have hidx : ∀ (w : World) (K : Value → Prop), idx P AM (str (d :: r)) (.int .i64 0) w K = K (.int .u8 (d.toNat : Nat)) := fun w K => Db (i := 0) Av (by simp)
   rw [e]
   have digits : ∀ C : Value → World → Prop, C (.bool ((d :: r).all digB)) w2 →
     (∃ I20 : Nat → Value → World → Prop, (∃ m37, I20 m37 (.int .i64 0) w2) ∧ ∀ (m23 : Nat) (x30_24 : Value) (junk21 : Env) (w22 : World), I20 m23 x30_24 w22 →
       bin P .lss 3 false false x30_24 (.int .i64 (((d :: r).length : Nat) : Int)) w22 fun x31_25 =>
       cnd x31_25
        (idx P AM (str (d :: r)) x30_24 w22 fun x35_26 =>
        bin P .lss 5 false true x35_26 (.int .u8 48) w22 fun x36_27 =>
        ∃ J28 : Value → World → Prop, (∀ (x41_29 : Value) (junk31 : Env) (w30 : World), J28 x41_29 w30 →
         pick x36_27 (.bool true) x41_29 fun x42_32 =>
         cnd x42_32
          (C (.bool false) w30)
          (bin P .add 3 false true x30_24 (.int .i64 1) w30 fun x43_33 =>
          ∃ m34, m34 < m23 ∧ I20 m34 x43_33 w30)) ∧
         grd x36_27 false
          (idx P AM (str (d :: r)) x30_24 w22 fun x40_35 =>
          bin P .gtr 5 false true x40_35 (.int .u8 57) w22 fun x41_36 =>
          J28 x41_36 w22)
          (J28 undef w22))
        (C (.bool true) w22)) := by
    intro C hC
    generalize d :: r = q at *
    refine ⟨fun g x w' => Hide (∃ i : Nat, w' = w2 ∧ x = .int .i64 (i : Int) ∧ g + i = q.length ∧ (q.take i).all digB = true), ⟨q.length, Hide.mk ⟨0, rfl, rfl, rfl, rfl⟩⟩, ?_⟩
    rintro g x junk w3 h
    obtain ⟨i, rfl, rfl, hg, hall⟩ := h.out
    rw [Ai]
    refine Ac (fun hlt => ?_) (fun hge => ?_)
    ·have hi : i < q.length := by omega
     have hx : ∀ (w : World) (K : Value → Prop), idx P AM (str q) (.int .i64 (i : Int)) w K = K (.int .u8 (q[i].toNat : Nat)) := fun w K => Db Av hi
     by_cases hd : digB q[i] = true
     ·obtain ⟨a1, a2⟩ := RI.1 hd
      repeat (first | (refine ⟨_, fun _ _ _ h => h, ?_⟩) | simp only [-eq_self, hx, Ai, Aq, decide_eq_false a1, decide_eq_false a2, Au, At, Ak, Ap, An, cond_true, cond_false, A6, Ao])
      rw [AO (b := 1) (by omega)]
      exact ⟨g - 1, by omega, Hide.mk ⟨i + 1, rfl, rfl, by omega, by rw [Aat hi, hall, hd]; rfl⟩⟩
     ·rw [Bool.not_eq_true] at hd
      rw [AiA hi hd] at hC
      by_cases a1 : ((q[i].toNat : Nat) : Int) < 48
      ·repeat (first | (refine ⟨_, fun _ _ _ h => h, ?_⟩) | simp only [-eq_self, hx, Ai, Aq, decide_eq_true a1, Au, At, Ak, Ap, An, cond_true, cond_false, A6, Ao])
       exact hC
      ·have a2 : (57 : Int) < ((q[i].toNat : Nat) : Int) := by
        refine Classical.byContradiction fun h => ?_
        have := RI.2 ⟨a1, h⟩
        rw [hd] at this; cases this
       repeat (first | (refine ⟨_, fun _ _ _ h => h, ?_⟩) | simp only [-eq_self, hx, Ai, Aq, decide_eq_false a1, decide_eq_true a2, Au, At, Ak, Ap, An, cond_true, cond_false, A6, Ao])
       exact hC
    ·have hi : i = q.length := by omega
     subst hi
     rw [List.take_of_length_le (Nat.le_refl _)] at hall
     rw [hall] at hC
     exact hC
   have lenx : ∀ (w : World) (K : Value → Prop), bl0 P .len #[AM] Bw [str (d :: r)] w K = K (.int .i64 ((d :: r).length : Nat)) := fun w K => By Av
   by_cases h1 : d = 48
   ·have d1 : decide (((d.toNat : Nat) : Int) = 48) = true := decide_eq_true (by rw [h1]; rfl)
    by_cases h2 : 1 < (d :: r).length
    ·have d2 : decide ((1 : Int) < (((d :: r).length : Nat) : Int)) = true := decide_eq_true (by omega)
     repeat (first | (refine ⟨_, fun _ _ _ h => h, ?_⟩) | simp only [-eq_self, hidx, lenx, Ae, Aq, d1, d2, Au, At, Ak, Ap, An, cond_true, cond_false, A6, Ao])
     have : numB (d :: r) = false := by
      unfold numB
      have a : decide ((d :: r).head? ≠ some 48) = false := by rw [h1]; simp
      have b : decide ((d :: r).length ≤ 1) = false := decide_eq_false (by omega)
      rw [a, b]; simp
     rw [this] at hK; exact hK
    ·have d2 : decide ((1 : Int) < (((d :: r).length : Nat) : Int)) = false := decide_eq_false (by omega)
     have hd := digits K (by
      have : numB (d :: r) = (d :: r).all digB := by
       unfold numB
       have b : decide ((d :: r).length ≤ 1) = true := decide_eq_true (by omega)
       rw [b]; simp
      rw [← this]; exact hK)
     repeat (first | exact hd | (refine ⟨_, fun _ _ _ h => h, ?_⟩) | simp only [-eq_self, hidx, lenx, Ae, Aq, d1, d2, Au, At, Ak, Ap, An, cond_true, cond_false, A6, Ao])
   ·have d1 : decide (((d.toNat : Nat) : Int) = 48) = false := decide_eq_false fun e => h1 (UInt8.toNat_inj.1 (by rw [show (48 : UInt8).toNat = 48 from rfl]; omega))
    have hd := digits K (by
     have : numB (d :: r) = (d :: r).all digB := by
      unfold numB
      have a : decide ((d :: r).head? ≠ some 48) = true := by simp [h1]
      rw [a]; simp
     rw [← this]; exact hK)
    repeat (first | exact hd | (refine ⟨_, fun _ _ _ h => h, ?_⟩) | simp only [-eq_self, hidx, lenx, Ae, Aq, d1, Au, At, Ak, Ap, An, cond_true, cond_false, A6, Ao])
 ·rw [By Av]
  cases l with
  | nil =>
   have d0 : decide ((0 : Int) < ((([] : List UInt8).length : Nat) : Int)) = false := rfl
   repeat (first | (refine ⟨_, fun _ _ _ h => h, ?_⟩) | simp only [-eq_self, Aq, d0, Au, At, Ak, Ap, An, cond_true, cond_false, A6, Ao])
   exact Hide.mk ⟨rfl, rfl, rfl⟩
  | cons d r =>
   have d0 : decide ((0 : Int) < (((d :: r).length : Nat) : Int)) = true := decide_eq_true (by simp)
   have hidx : ∀ (w : World) (K : Value → Prop), idx P AM (str (d :: r)) (.int .i64 0) w K = K (.int .u8 (d.toNat : Nat)) := fun w K => Db (i := 0) Av (by simp)
   by_cases h1 : d = 45
   ·have d1 : decide (((d.toNat : Nat) : Int) = 45) = true := decide_eq_true (by rw [h1]; rfl)
    have hn : negB (d :: r) = true := by unfold negB; rw [h1]; rfl
    have hb : body (d :: r) = r := by unfold body; rw [hn]; rfl
    repeat (first | (refine ⟨_, fun _ _ _ h => h, ?_⟩) | simp only [-eq_self, hidx, Ae, Aq, d0, d1, Au, At, Ak, Ap, An, cond_true, cond_false, A6, Ao])
    rw [show (1 : Int) = ((1 : Nat) : Int) from rfl, DN Av (by simp), A7 (b := [48])]
    refine Ac (fun h2 => ?_) (fun h2 => ?_)
    ·have e : isNum (d :: r) = false := by
      unfold isNum
      rw [hn, hb]
      have : r = [48] := h2
      rw [this]; rfl
     rw [e] at H; exact H
    ·refine Hide.mk ⟨rfl, by rw [hb]; rfl, ?_⟩
     rw [hn, hb]
     have : ¬ r = [48] := h2
     simp [this]
   ·have d1 : decide (((d.toNat : Nat) : Int) = 45) = false := decide_eq_false fun e => h1 (UInt8.toNat_inj.1 (by rw [show (45 : UInt8).toNat = 45 from rfl]; omega))
    have hn : negB (d :: r) = false := by unfold negB; simp [h1]
    have hb : body (d :: r) = d :: r := by unfold body; rw [hn]; rfl
    repeat (first | (refine ⟨_, fun _ _ _ h => h, ?_⟩) | simp only [-eq_self, hidx, Ae, Aq, d0, d1, Au, At, Ak, Ap, An, cond_true, cond_false, A6, Ao])
    exact Hide.mk ⟨rfl, by rw [hb], by rw [hn]; rfl⟩
end
section
open Go Go.Vc
variable {w : World} {K : Value → World → Prop}
theorem AhC {d : Nat} {KW : Value → World → Prop} (hd : d < 4294967296) (H : ∀ v w', Ext w w' → Mg w' v d → KW v w') :
  bsl P Co 1 [(0, .int .u32 (d : Int))] w fun x w2 => Ext w w2 ∧ call P Bp [x] w2 KW := by
 refine Qx Af AG rfl rfl ?_
 have he := Bg w (.cells #[.int .u32 (d : Int)] Ay)
 have ho : OD .u32 Ay (w.alloc (.cells #[.int .u32 (d : Int)] Ay)) w.heap.size (.slice (some ⟨w.heap.size, 0, none⟩) 1 1) [d] := B9 w [.int .u32 (d : Int)] Ay (by simp [maxLen])
 refine ⟨he, Ku ho (fun x hx => by simp at hx; omega) fun v' h => H _ _ he ?_⟩
 have : val 4294967296 [d] = d := by simp [val]
 rw [this] at h
 exact h.Mg
theorem AaM {d : Nat} {KW : Value → World → Prop} (hd : d < 4294967296) (H : ∀ v w', Ext w w' → (∀ w'' (K : Value → World → Prop), Ext w' w'' → (∀ u, Mg w'' u d → K u w'') → call P Bp [v] w'' K) → KW v w') :
  bsl P Co 1 [(0, .int .u32 (d : Int))] w KW := by
 refine Qx Af AG rfl rfl ?_
 have he := Bg w (.cells #[.int .u32 (d : Int)] Ay)
 have ho : OD .u32 Ay (w.alloc (.cells #[.int .u32 (d : Int)] Ay)) w.heap.size (.slice (some ⟨w.heap.size, 0, none⟩) 1 1) [d] := B9 w [.int .u32 (d : Int)] Ay (by simp [maxLen])
 refine H _ _ he fun w'' K e2 hK => ?_
 have ho2 : OD .u32 Ay w'' w.heap.size (.slice (some ⟨w.heap.size, 0, none⟩) 1 1) [d] := Di ho e2
 refine Ku ho2 (fun x hx => by simp at hx; omega) fun v' h => hK _ ?_
 have : val 4294967296 [d] = d := by simp [val]
 rw [this] at h
 exact h.Mg
set_option maxRecDepth 20000 in
theorem Acw {z : Value} {base : Nat} {l : List UInt8} (hz : ZO w base z) (hn : isNum l = true) (hl : l.length ≤ 800)
  (H : ∀ w1 w', Ext w w1 → ZO w1 base z → w1.grownBy w' (blk z) → ZO w' base z → IntR w' z (numI l) → K (.tuple #[z, .bool true]) w') : call P DY [z, str l, .int .i64 10] w K := by
 have hnb := Gg hn
 have hall : (body l).all digB = true := by
  simp only [numB, Bool.and_eq_true] at hnb; exact hnb.1.2
 have hne : body l ≠ [] := by
  simp only [numB, Bool.and_eq_true] at hnb; exact of_decide_eq_true hnb.1.1
 have hbl := NO l
 have hlne : l ≠ [] := by
  rintro rfl; exact hne rfl
 obtain ⟨d0, r0, rfl⟩ := List.exists_cons_of_ne_nil hlne
 refine OJ ?_
 unfold DW
 have hidx : ∀ (w : World) (K : Value → Prop), idx P AM (str (d0 :: r0)) (.int .i64 0) w K = K (.int .u8 (d0.toNat : Nat)) := fun w K => Db (i := 0) Av (by simp)
 have hneq : decide (d0 :: r0 ≠ []) = true := by simp
 rw [Yo (b := []), hneq]
 have h45 : decide (((d0.toNat : Nat) : Int) = 45) = negB (d0 :: r0) := by
  unfold negB
  have : ((d0 :: r0).head? = some 45) ↔ d0 = 45 := by simp
  rw [decide_eq_decide, this]
  constructor
  ·intro e; exact UInt8.toNat_inj.1 (by rw [show (45 : UInt8).toNat = 45 from rfl]; omega)
  ·rintro rfl; rfl
 refine ⟨fun y w' => w' = w ∧ y = .bool (negB (d0 :: r0)), ?_, ?_⟩
 ·rintro y junk w2 ⟨rfl, rfl⟩
  rw [An, cond_true]
  refine ⟨fun x w' => w' = w2 ∧ x = str (body (d0 :: r0)), ?_, ?_⟩
  ·rintro x junk w3 ⟨rfl, rfl⟩
   unfold numI at H
   generalize body (d0 :: r0) = q at *
   generalize negB (d0 :: r0) = ng at *
   have hzz : ∃ v0 w4, Ext w3 w4 ∧ Mg w4 v0 0 := ⟨_, w3, Ext.refl _, Mg.nil _⟩
   refine DG Af AG ?_
   have he := Bg w3 (.cells #[] Ay)
   have ho : OD .u32 Ay (w3.alloc (.cells #[] Ay)) w3.heap.size (.slice (some ⟨w3.heap.size, 0, none⟩) 0 0) [] := B9 w3 [] Ay
   have hm0 : Mg (w3.alloc (.cells #[] Ay)) (.slice (some ⟨w3.heap.size, 0, none⟩) 0 0) 0 := ⟨[], ho.IR, Norm.nil _, rfl, Ty.owns ho⟩
   generalize w3.alloc (.cells #[] Ay) = w4 at he hm0 ⊢
   generalize (Value.slice (some ⟨w3.heap.size, 0, none⟩) 0 0) = v0 at hm0 ⊢
   rw [By Av]
   refine ⟨fun g v x w' => ∃ i : Nat, x = .int .i64 (i : Int) ∧ g + i = q.length ∧ Ext w3 w' ∧ Mg w' v (decV (q.take i)), ⟨q.length, 0, rfl, rfl, he, hm0⟩, ?_⟩
   rintro g v x junk w5 ⟨i, rfl, hg, e5, m5⟩
   rw [Ai]
   refine Ac (fun hlt => ?_) (fun hge => ?_)
   ·have hi : i < q.length := by omega
    have hd : digB q[i] = true := List.all_eq_true.1 hall q[i] (List.getElem_mem hi)
    obtain ⟨a1, a2⟩ := RI.1 hd
    have hx : ∀ (w : World) (K : Value → Prop), idx P AM (str q) (.int .i64 (i : Int)) w K = K (.int .u8 (q[i].toNat : Nat)) := fun w K => Db Av hi
    rw [hx, Ai, decide_eq_false a1]
    refine ⟨fun y w' => w' = w5 ∧ y = .bool false, ?_, ?_⟩
    ·rintro y junk w6 ⟨rfl, rfl⟩
     rw [An, cond_false, Ao]
     have hbl5 : bl (decV (q.take i)) ≤ 3200 := Nat.le_trans (AfO hall i) (by omega)
     have hval : decV (q.take (i + 1)) = decV (q.take i) * 10 + (q[i].toNat - 48) := by
      rw [List.take_succ_eq_append_getElem hi]
      exact SX 0 _ _
     refine ⟨fun v' w' => Ext w6 w' ∧ Mg w' v' (decV (q.take (i + 1))), ?_, ?_⟩
     ·rintro v' junk w7 ⟨e7, m7⟩
      rw [AO (b := 1) (by omega)]
      exact ⟨g - 1, by omega, i + 1, rfl, by omega, e5.trans e7, m7⟩
     ·rw [AJ DD Be, hx, AC]
      have hs8 : IntKind.u8.wrap (((q[i].toNat : Nat) : Int) - 48) = ((q[i].toNat - 48 : Nat) : Int) := by
       rw [show ((q[i].toNat : Nat) : Int) - 48 = ((q[i].toNat - 48 : Nat) : Int) by omega]
       exact FK (by show _ ≤ (255 : Int); omega)
      have hw10 : IntKind.u32.wrap 10 = ((10 : Nat) : Int) := rfl
      rw [hs8, AJ DH Be, Ais, Nat.mod_eq_of_lt (by omega), hw10]
      have fin : ∀ {a b c w'}, Ext w6 w' → Mg w' a (decV (q.take i)) → Mg w' b 10 → Mg w' c (q[i].toNat - 48) → True := fun _ _ _ _ => trivial
      have add : ∀ {a c : Value} {w' : World}, Ext w6 w' → Mg w' a (decV (q.take i) * 10) → Mg w' c (q[i].toNat - 48) → call P CV [a, c] w' fun x w'' => Ext w6 w'' ∧ Mg w'' x (decV (q.take (i + 1))) := by
       intro a c w' he ha hc
       have hb1 := AeG (decV (q.take i)) 10
       have hb2 : bl 10 = 4 := by decide
       have hb3 : bl (q[i].toNat - 48) ≤ 8 := Bf.2 (by omega)
       refine VC ha hc (by omega) (by omega) fun v' w'' e h => ⟨he.trans e, ?_⟩
       rw [hval]; exact h.Mg
      have mul : ∀ {a b : Value} {w' : World} {KW : Value → World → Prop}, Mg w' a (decV (q.take i)) → Mg w' b 10 → (∀ v w'', Ext w' w'' → Mg w'' v (decV (q.take i) * 10) → KW v w'') → call P D7 [a, b] w' KW := by
       intro a b w' KW ha hb hK
       refine Acj ha hb (by omega) (by decide) fun v' w'' e h => hK v' w'' e h.Mg
      refine ⟨?_, ?_⟩
      ·refine UD (by decide) (by decide) fun v7 w7 e7 m10 => ?_
       refine ⟨e7, ?_, ?_⟩
       ·refine mul (m5.ext e7) m10 fun v8 w8 e8 m8 => ?_
        refine ⟨e8, ?_⟩
        refine AhC (by omega) fun v9 w9 e9 m9 => ?_
        exact add ((e7.trans e8).trans e9) (m8.ext e9) m9
       ·refine AaM (by omega) fun v8 w8 e8 ht => ?_
        refine ⟨e8, ?_⟩
        refine mul ((m5.ext e7).ext e8) (m10.ext e8) fun v9 w9 e9 m9 => ?_
        refine ⟨e9, ?_⟩
        refine ht w9 _ e9 fun u mu => ?_
        exact add ((e7.trans e8).trans e9) m9 mu
      ·refine AaM (by omega) fun v7 w7 e7 ht => ?_
       refine ⟨e7, ?_⟩
       refine UD (by decide) (by decide) fun v8 w8 e8 m10 => ?_
       refine ⟨e8, ?_⟩
       refine mul ((m5.ext e7).ext e8) m10 fun v9 w9 e9 m9 => ?_
       refine ⟨e9, ?_⟩
       refine ht w9 _ (e8.trans e9) fun u mu => ?_
       exact add ((e7.trans e8).trans e9) m9 mu
    ·rw [Ak, hx, Aq, decide_eq_false a2]
     exact ⟨rfl, rfl⟩
   ·have hi : i = q.length := by omega
    subst hi
    rw [List.take_of_length_le (Nat.le_refl _)] at m5
    rw [A7 (b := []), decide_eq_false hne, Ao]
    refine Il (hz.ext e5) m5 fun w6 z6 i6 g6 => ?_
    refine H w5 w6 e5 (hz.ext e5) g6 z6 ?_
    have : sgnI ng (decV q) = if ng = true then -(decV q : Int) else decV q := by unfold sgnI; rfl
    rw [this] at i6; exact i6
  ·rw [Yo (b := []), hneq]
   by_cases hg : negB (d0 :: r0) = true
   ·have hb : body (d0 :: r0) = r0 := by unfold body; rw [hg]; rfl
    repeat (first | (refine ⟨_, fun _ _ _ h => h, ?_⟩) | simp only [-eq_self, hidx, Ae, h45, hg, Au, At, Ak, Ap, An, cond_true, cond_false, A6, Ao])
    rw [show (1 : Int) = ((1 : Nat) : Int) from rfl, DN Av (by simp)]
    exact ⟨rfl, by rw [hb]; rfl⟩
   ·rw [Bool.not_eq_true] at hg
    have hb : body (d0 :: r0) = d0 :: r0 := by unfold body; rw [hg]; rfl
    have hd : digB d0 = true := by
     rw [hb] at hall
     exact List.all_eq_true.1 hall d0 (List.mem_cons_self ..)
    obtain ⟨a1, a2⟩ := RI.1 hd
    have h43 : decide (((d0.toNat : Nat) : Int) = 43) = false := decide_eq_false (by omega)
    repeat (first | (refine ⟨_, fun _ _ _ h => h, ?_⟩) | simp only [-eq_self, hidx, Ae, h45, h43, hg, Au, At, Ak, Ap, An, cond_true, cond_false, A6, Ao])
    exact ⟨rfl, by rw [hb]⟩
 ·rw [Au, hidx, Ae, h45]
  exact ⟨rfl, rfl⟩
end


section
open Go Go.Vc
variable {w : World} {K : Value → World → Prop}
theorem AiP {l : List Nat} (h : Norm 16777216 l) (hb : bl (val 16777216 l) ≤ 1099511627776) : l.length ≤ 45812984491 := by
 have := (Norm.len_le (s := 24) (by decide) h).1
 have e : val (2 ^ 24) l = val 16777216 l := rfl
 rw [e] at this
 omega
theorem IR.sl {k : IntKind} {v : Value} {l : List Nat} (h : IR k w v l) : ∃ a n c, v = .slice a n c := by
 obtain ⟨_, _, a, c, rfl, _⟩ := h.row
 exact ⟨_, _, _, rfl⟩
theorem Hu {v : Value} (h : ∃ a n c, v = .slice a n c) : v.oneCell' = true := by obtain ⟨_, _, _, rfl⟩ := h; rfl
theorem Ael {n : Int} {s : Value} {K : Value → Prop} (hs : ∃ a l c, s = .slice a l c) : bld P Aj [(0, .int .i64 n), (1, s)] w K = K (.agg #[.int .i64 n, s]) := by
 obtain ⟨a, l, c, rfl⟩ := hs
 exact DT (by kernel_rfl)
theorem AbZ {base : Nat} {x v : Value} {m : Int} {lo hi : Nat} {cs : List Value} (hb : Bx w base Aj x cs) (hl : cs.length = 2) (hv : Wo w lo hi v m) (H : ∀ w', w.grownBy w' (blk x) → Wo w' lo hi v m → K v w') :
  sto P Aj x v w fun w' => ldc P Aj x w' fun r => K r w' := by
 obtain ⟨s, l, rfl, ho, hw⟩ := hv
 refine hb.put AK (ds := [.int .i64 m.sign, s]) rfl hl (JV rfl (Hu (IR.sl (OD.IR ho.own)))) fun w' b' g' => ?_
 exact b'.getc Bh rfl AK rfl (H w' g' ⟨s, l, rfl, ⟨AX ho.own g' (Ty.box hb) (by decide), ho.top⟩, hw⟩)
theorem Yk {lo hi lo' hi' : Nat} {v : Value} {m : Int} (h : Wo w lo hi v m) (h1 : lo' ≤ lo) (h2 : hi ≤ hi') : Wo w lo' hi' v m := let ⟨s, l, a, b, c⟩ := h; ⟨s, l, a, b.mono h1 h2, c⟩
theorem Abx {s : Value} {l : List Nat} (h : IR .i64 w s l) (hl : l.length ≤ 100000000000) (H : ∀ v' w', Ext w w' → OD .i64 Ar w' w.heap.size v' l → K v' w') : call P FV [s] w K := by
 refine Aaa ?_
 unfold MP
 refine DG Ah AE ?_
 have he := Bg w (.cells #[] Ar)
 have hz : (w.alloc (.cells #[] Ar)).ownsRow w.heap.size Ar 1 (.slice (some ⟨w.heap.size, 0, none⟩) 0 0) 0 [] := B9 w [] Ar
 generalize w.alloc (.cells #[] Ar) = w1 at he hz ⊢
 refine Jk hz (h.ext he).row (by simp [Value.oneCell']) Ah AE rfl (by decide) (by simp only [maxLen]; omega) (by omega) he.size fun v' w2 ho hg => ?_
 refine H _ _ (Ab he (fun g hq => (hz.lt g hq).1) hg) ?_
 simpa using ho
theorem AfY {s : Value} {l : List Nat} {sg m : Int} (h : IR .i64 w s l) (hd : Dig 16777216 l) (hm : m.natAbs = val 16777216 l) (hs : m ≠ 0 → m.sign = sg) (hl : l.length ≤ 100000000000)
  (H : ∀ v' w', Ext w w' → Wo w' w.heap.size w'.heap.size v' m → K v' w') : call P Bk [.int .i64 sg, s] w K := by
 refine Y6 ?_
 unfold KE
 refine BI AK fun x w1 b1 e1 _ => ?_
 have h1 := h.ext e1
 rw [h1.row.len Ah]
 refine ⟨fun g y w' => w' = w1 ∧ y = .int .i64 (g : Int) ∧ g ≤ l.length ∧ trim (l.take g) = trim l, ⟨l.length, rfl, rfl, Nat.le_refl _, by rw [List.take_length]⟩, ?_⟩
 rintro g y junk w' ⟨rfl, rfl, hg, ht⟩
 have hlt : (l.take g).length = g := by rw [List.length_take]; omega
 rw [Aq]
 have fin : (l.take g).getLast? ≠ some 0 → bin P .eql Bw false true (.int .i64 (g : Int)) (.int .i64 0) w' fun x21_17 =>
   cnd x21_17 (bld P Aj [] w' fun x22_18 => sto P Aj x x22_18 w' fun w20 => ldc P Aj x w20 fun r21 => K r21 w20)
    (sli P BO s none (some (.int .i64 (g : Int))) none w' fun x26_22 => call P FV [x26_22] w' fun x27_23 w24 => bld P Aj [(0, .int .i64 sg), (1, x27_23)] w24 fun x28_25 => sto P Aj x x28_25 w24 fun w27 => ldc P Aj x w27 fun r28 => K r28 w27) := by
  intro hz
  rw [ZB hz] at ht
  rw [Ae]
  refine Ac (fun h0 => ?_) (fun h0 => ?_)
  ·have hg0 : g = 0 := by omega
   subst hg0
   have hv0 : val 16777216 l = 0 := by rw [← II, ← ht]; rfl
   have hm0 : m = 0 := by omega
   subst hm0
   rw [Kc]
   have hz0 : Wo w' w.heap.size w.heap.size (.agg #[.int .i64 0, .slice none 0 0]) 0 := ⟨_, [], rfl, ⟨OD.nil _ _ _ _, fun k hk => by cases hk⟩, Wl.zero⟩
   refine AbZ b1 rfl hz0 fun w2 g2 h2 => ?_
   have e2 := Ab e1 (fun g hg => (b1.blk_lt hg).1) g2
   exact H _ _ e2 (Yk h2 (Nat.le_refl _) e2.size)
  ·refine Row.sli_h h1.row h1.cap Ah AE hg fun v' r1 r2 _ _ => ?_
   have hI : IR .i64 w' v' (l.take g) := ⟨by rw [hlt, List.map_take]; exact r1, r2⟩
   refine Abx hI (by omega) fun s' w2 e2 o2 => ?_
   rw [Ael (IR.sl (OD.IR o2))]
   have b2 := b1.ext e2
   have hn : Norm 16777216 (l.take g) := by rw [ht]; exact Norm.trim hd
   have hv : val 16777216 (l.take g) = m.natAbs := by rw [hm, ht, II]
   have hm0 : m ≠ 0 := by
    rintro rfl
    have : l.take g ≠ [] := by
     intro e
     rw [e] at hlt
     simp at hlt
     omega
    have := hn.pos (by decide) this
    rw [hv] at this
    exact absurd this (by decide)
   have hW : Wo w2 w.heap.size w2.heap.size (.agg #[.int .i64 sg, s']) m := ⟨s', _, by rw [hs hm0], OwnR.of (Cw o2 e1.size), hn, hv⟩
   refine AbZ b2 rfl hW fun w3 g3 h3 => ?_
   have e3 : Ext w w3 := Ab (e1.trans e2) (fun g hg => (b2.blk_lt hg).1) g3
   exact H _ _ e3 (Yk h3 (Nat.le_refl _) g3.size)
 refine ⟨_, fun _ _ _ h => h, ?_⟩
 refine Dn (fun hp => ?_) (fun hp => ?_)
 ·simp only [decide_eq_true_eq] at hp
  have hg0 : 0 < g := by omega
  rw [EF (b := 1) (by omega) (by have := h.bound; omega)]
  refine h1.at (i := g - 1) (by omega) Ah AE AB ?_
  rw [Ae, An, decide_eq_true hp, cond_true]
  have hlast : (l.take g).getLast? = some l[g - 1] := by
   rw [List.getLast?_eq_getElem?, hlt, List.getElem?_take, if_pos (by omega)]
   exact List.getElem?_eq_getElem (by omega)
  refine Ac (fun hz => ?_) (fun hz => ?_)
  ·have hz' : l[g - 1] = 0 := by simpa using hz
   rw [EF (b := 1) (by omega) (by have := h.bound; omega)]
   refine ⟨g - 1, by omega, rfl, rfl, by omega, ?_⟩
   have htk := List.take_succ_eq_append_getElem (l := l) (i := g - 1) (by omega)
   rw [show g - 1 + 1 = g by omega, hz'] at htk
   rw [← ht, htk, KZ]
  ·exact fin (by rw [hlast]; simpa using hz)
 ·rw [hp, Bool.not_true, An, cond_false, Ao]
  simp only [Bool.not_true, decide_eq_false_iff_not] at hp
  have hg0 : g = 0 := by omega
  subst hg0
  exact fin (by simp)
theorem F8 {m : Int} {s : Value} {KW : Value → World → Prop} (H : ∀ x w', Bx w' w.heap.size Aj x [.int .i64 m, s] → Ext w w' → KW x w') : bx P Aj (.agg #[.int .i64 m, s]) w KW :=
 Ix fun x w' b e _ => H x w' b e
theorem wh_s {base : Nat} {x s : Value} {m : Int} {K : Value → Prop} (h : Bx w base Aj x [.int .i64 m, s]) (H : K (.int .i64 m)) : fda P Aj x 0 w (fun a => ld P Ar a w K) :=
 h.fld (off := 0) rfl Bh rfl AE AB rfl H
theorem wh_l {base : Nat} {x s : Value} {m : Int} {K : Value → Prop} (h : Bx w base Aj x [.int .i64 m, s]) (H : K s) : fda P Aj x 1 w (fun a => ld P BO a w K) :=
 h.fld (off := 1) rfl Bh rfl Uc Ah rfl H
theorem Mf {base : Nat} {x s : Value} {m : Int} {K : Value → Prop} (h : Bx w base Aj x [.int .i64 m, s]) (H : K (.agg #[.int .i64 m, s])) : ld P Aj x w K :=
 h.get Bh rfl AK rfl H
theorem Eb {KW : Value → World → Prop} (H : ∀ x w', (∃ cs, cs.length = 2 ∧ Bx w' w.heap.size Aj x cs) → Ext w w' → KW x w') : alc P Aj w KW :=
 BI AK fun x w' b e _ => H x w' ⟨_, rfl, b⟩ e
theorem En {base : Nat} {x s : Value} {l : List Nat} {sg m : Int} {cs : List Value} {w0 : World} (he : Ext w0 w) (hb : Bx w base Aj x cs) (hcs : cs.length = 2) (hbase : w0.heap.size ≤ base) (h : IR .i64 w s l) (hd : Dig 16777216 l) (hm : m.natAbs = val 16777216 l) (hs : m ≠ 0 → m.sign = sg) (hl : l.length ≤ 100000000000)
  (H : ∀ v' w', Ext w0 w' → Wo w' w0.heap.size w'.heap.size v' m → K v' w') : call P Bk [.int .i64 sg, s] w fun r w1 => sto P Aj x r w1 fun w2 => ldc P Aj x w2 fun r => K r w2 := by
 refine AfY h hd hm hs hl fun v' w1 e1 h1 => ?_
 have b1 := hb.ext e1
 refine AbZ b1 hcs h1 fun w2 g2 h2 => ?_
 have e2 : Ext w0 w2 := Ab (he.trans e1) (fun g hg => Nat.le_trans hbase (b1.blk_lt hg).1) g2
 exact H _ _ e2 (Yk h2 he.size g2.size)
theorem AgX (a : Int) : (a.tmod 16777216).natAbs = a.natAbs % 16777216 := Int.natAbs_tmod a 16777216
theorem Ah6 (a : Int) : (a.tdiv 16777216).natAbs = a.natAbs / 16777216 := Int.natAbs_tdiv a 16777216
theorem Uy {n : Int} (h1 : -9223372036854775807 ≤ n) (h2 : n ≤ 9223372036854775807) (H : ∀ v' w', Ext w w' → Wo w' w.heap.size w'.heap.size v' n → K v' w') : call P DX [.int .i64 n] w K := by
 refine AbW ?_
 unfold O4
 refine Eb fun x w1 ⟨cs, hcs, b1⟩ e1 => ?_
 refine DG Ah AE ?_
 have he := Bg w1 (.cells #[] Ar)
 have hz : OD .i64 Ar (w1.alloc (.cells #[] Ar)) w1.heap.size (.slice (some ⟨w1.heap.size, 0, none⟩) 0 0) [] := B9 w1 [] Ar
 generalize w1.alloc (.cells #[] Ar) = w2 at he hz ⊢
 refine ⟨fun y w' => w' = w2 ∧ y = .int .i64 (if n < 0 then -1 else 1), ?_, ?_⟩
 ·rintro y junk w' ⟨rfl, rfl⟩
  refine ⟨fun g x y w' => ∃ (a : Int) (q : List Nat), g = a.natAbs ∧ x = .int .i64 a ∧ Ext w1 w' ∧ OD .i64 Ar w' w1.heap.size y q ∧ q.length ≤ 64 ∧ val 16777216 q + 16777216 ^ q.length * a.natAbs = n.natAbs ∧ Dig 16777216 q ∧ a.natAbs ≤ n.natAbs,
   ⟨n.natAbs, n, [], rfl, rfl, he, hz, Nat.zero_le _, by simp [val], (by intro d hd; cases hd), Nat.le_refl _⟩, ?_⟩
  rintro g x y junk w3 ⟨a, q, rfl, rfl, e3, oq, hq64, hv, dq, ha⟩
  have E3 := e1.trans e3
  have hql : a ≠ 0 → q.length < 64 := fun ha0 => by
   have h3 : 16777216 ^ q.length * 1 ≤ 16777216 ^ q.length * a.natAbs := Nat.mul_le_mul_left _ (by omega)
   have h4 : 2 ^ (24 * q.length) ≤ n.natAbs := by rw [Nat.pow_mul, show (2 : Nat) ^ 24 = 16777216 from rfl]; omega
   refine Nat.lt_of_not_le fun hc => ?_
   have : 2 ^ 64 ≤ 2 ^ (24 * q.length) := Nat.pow_le_pow_right (by decide) (by omega)
   have h64 : (2 : Nat) ^ 64 = 18446744073709551616 := by decide
   omega
  rw [B5]
  refine Ac (fun hne => ?_) (fun heq => ?_)
  ·rw [Adx _ _ _ _ _ _ _ (by decide)]
   have hm := AgX a
   have hq := Ah6 a
   have hmod := Nat.mod_lt a.natAbs (show 0 < 16777216 by decide)
   refine ⟨fun y w' => w' = w3 ∧ y = .int .i64 ((a.natAbs % 16777216 : Nat) : Int), ?_, ?_⟩
   ·rintro y' junk w4 ⟨rfl, rfl⟩
    have := hql (by omega)
    refine MA oq Ah AE (by simp only [maxLen]; omega) (by omega) e3.size fun v' w5 o5 g5 => ?_
    rw [Ad9 _ _ _ _ _ _ _ (by decide), Ad (by omega) (by omega)]
    refine ⟨_, ?_, a.tdiv 16777216, _, rfl, rfl, Ab e3 (fun g hg => (oq.lt g hg).1) g5, o5, by simp; omega, ?_, ?_, by omega⟩
    ·rw [hq]; omega
    ·rw [De, List.length_append, List.length_singleton, Nat.pow_succ, hq]
     exact Z9 hv rfl rfl
    ·intro d hd
     rcases List.mem_append.1 hd with hd | hd
     ·exact dq d hd
     ·simp at hd; omega
   ·rw [Ai]
    refine Ac (fun hneg => ?_) (fun hpos => ?_)
    ·rw [Cz, Ad (by omega) (by omega)]
     exact ⟨rfl, by congr 1; omega⟩
    ·exact ⟨rfl, by congr 1; omega⟩
  ·have ha0 : a = 0 := by omega
   subst ha0
   refine En E3 (b1.ext e3) hcs (Nat.le_refl _) (OD.IR oq) dq (by simpa using hv.symm) (fun hn => ?_) ?_ fun v' w' he' hw' => H v' w' he' hw'
   ·split
    ·rename_i h; exact Int.sign_eq_neg_one_of_neg h
    ·exact Int.sign_eq_one_of_pos (by omega)
   ·omega
 ·rw [Ai]
  refine Ac (fun hneg => ?_) (fun hpos => ?_)
  ·exact ⟨rfl, by rw [if_pos hneg]⟩
  ·exact ⟨rfl, by rw [if_neg hpos]⟩
end


section
open Go Go.Vc
variable {w : World} {K : Value → World → Prop}
theorem pL (i : Nat) : (16777216 : Nat) ^ (i + 1) = 16777216 ^ i * 16777216 := Nat.pow_succ ..
theorem Lm {b : Nat} {l : List Nat} {x : Nat} (h : Dig b l) (hx : x < b) : Dig b (l ++ [x]) := fun d hd => by
 rcases List.mem_append.1 hd with hd | hd
 ·exact h d hd
 ·simp at hd; omega
theorem Ek {l : List Nat} {i : Nat} (h : l.length ≤ i) : l.getD i 0 = 0 := by rw [List.getD_eq_getElem?_getD]; simp [h]
theorem C7 {t : TypeId} {cx cy : Bool} {a b : Nat} {c : Int} {K : Value → Prop} (hb : b ≠ 0) (hc : c = (b : Int) := by rfl) : bin P .rem t cx cy (.int .i64 (a : Int)) (.int .i64 c) w K = K (.int .i64 ((a % b : Nat) : Int)) := RA hb hc
theorem D8 {t : TypeId} {cx cy : Bool} {a b : Nat} {c : Int} {K : Value → Prop} (ha : a ≤ 9223372036854775807) (hb : b ≠ 0) (hc : c = (b : Int) := by rfl) : bin P .quo t cx cy (.int .i64 (a : Int)) (.int .i64 c) w K = K (.int .i64 ((a / b : Nat) : Int)) := Hg (by rw [max_i64]; omega) hb hc
theorem UN {u v : Value} {l r : List Nat} (h1 : IR .i64 w u l) (h2 : IR .i64 w v r) (n1 : Norm 16777216 l) (n2 : Norm 16777216 r) (H : K (.int .i64 (cmpN (val 16777216 l) (val 16777216 r))) w) : call P EX [u, v] w K := by
 refine Qd ?_
 unfold ET
 have b1 := h1.bound
 have b2 := h2.bound
 have one : ∀ {a b : Nat} {K : Prop}, a ≠ b → (∀ {w : World} {K : Value → World → Prop}, K (.int .i64 (cmpN a b)) w → (if a < b then K (.int .i64 (-1)) w else K (.int .i64 1) w)) := by
  intro a b _ hne w K hk
  unfold cmpN at hk
  split
  ·rename_i h; rw [if_pos h] at hk; exact hk
  ·rename_i h; rw [if_neg h, if_pos (by omega)] at hk; exact hk
 rw [h1.row.len Ah, h2.row.len Ah, B5]
 refine Ac (fun h => ?_) (fun h => ?_)
 ·rw [h1.row.len Ah, h2.row.len Ah, Ai]
  rw [Abo n1 n2 (by omega)] at H
  have := one (K := True) (show l.length ≠ r.length by omega) H
  refine Ac (fun hl => ?_) (fun hl => ?_)
  ·rw [if_pos (by omega)] at this; exact this
  ·rw [if_neg (by omega)] at this; exact this
 ·have hlen : l.length = r.length := by omega
  rw [h1.row.len Ah, AC, Ad (by omega) (by omega)]
  refine ⟨fun m x w' => w' = w ∧ x = .int .i64 ((m : Int) - 1) ∧ m ≤ l.length ∧ l.drop m = r.drop m, ⟨l.length, rfl, rfl, Nat.le_refl _, by rw [List.drop_length, hlen, List.drop_length]⟩, ?_⟩
  rintro m x junk w' ⟨rfl, rfl, hm, hd⟩
  rw [B6]
  refine Ac (fun hge => ?_) (fun hlt => ?_)
  ·have hm0 : 0 < m := by omega
   rw [show (m : Int) - 1 = ((m - 1 : Nat) : Int) by omega]
   refine h1.at (i := m - 1) (by omega) Ah AE AB ?_
   refine h2.at (i := m - 1) (by omega) Ah AE AB ?_
   rw [B5]
   refine Ac (fun hne => ?_) (fun heq => ?_)
   ·refine h1.at (i := m - 1) (by omega) Ah AE AB ?_
    refine h2.at (i := m - 1) (by omega) Ah AE AB ?_
    have hne' : l[m - 1] ≠ r[m - 1] := by omega
    rw [Abe (i := m - 1) n1.1 n2.1 hlen (by omega) (by rw [show m - 1 + 1 = m by omega]; exact hd) hne'] at H
    have := one (K := True) hne' H
    rw [Ai]
    refine Ac (fun hl => ?_) (fun hl => ?_)
    ·rw [if_pos (by omega)] at this; exact this
    ·rw [if_neg (by omega)] at this; exact this
   ·rw [AC, Ad (by omega) (by omega)]
    refine ⟨m - 1, by omega, rfl, by congr 1, by omega, ?_⟩
    rw [List.drop_eq_getElem_cons (by omega : m - 1 < l.length), List.drop_eq_getElem_cons (by omega : m - 1 < r.length), show m - 1 + 1 = m by omega, hd]
    congr 1; omega
  ·have hm0 : m = 0 := by omega
   subst hm0
   have : l = r := by simpa using hd
   subst this
   unfold cmpN at H
   rw [if_neg (by omega), if_neg (by omega)] at H
   exact H
theorem Aep {V L R p c a b s : Nat} (hv : V + c * p = L + R) (hs : s = c + a + b) : V + p * (s % 16777216) + s / 16777216 * (p * 16777216) = L + p * a + (R + p * b) := by
 have h := Nat.div_add_mod s 16777216
 have h2 : p * (16777216 * (s / 16777216) + s % 16777216) = p * (c + a + b) := by rw [h, hs]
 grind
theorem Agi {u v : Value} {l r : List Nat} (h1 : IR .i64 w u l) (h2 : IR .i64 w v r) (d1 : Dig 16777216 l) (d2 : Dig 16777216 r) (l1 : l.length ≤ 45812984491) (l2 : r.length ≤ 45812984491)
  (H : ∀ v' w' q, Ext w w' → OD .i64 Ar w' w.heap.size v' q → Dig 16777216 q → val 16777216 q = val 16777216 l + val 16777216 r → q.length ≤ 45812984492 → K v' w') : call P Lx [u, v] w K := by
 refine Za ?_
 unfold KO
 refine DG Ah AE ?_
 have he := Bg w (.cells #[] Ar)
 have hz : OD .i64 Ar (w.alloc (.cells #[] Ar)) w.heap.size (.slice (some ⟨w.heap.size, 0, none⟩) 0 0) [] := B9 w [] Ar
 generalize w.alloc (.cells #[] Ar) = w1 at he hz ⊢
 refine ⟨fun g x y z w' => ∃ (i c : Nat) (q : List Nat), g + i = max l.length r.length + 1 ∧ y = .int .i64 (c : Int) ∧ z = .int .i64 (i : Int) ∧ Ext w w' ∧ OD .i64 Ar w' w.heap.size x q ∧ q.length = i ∧ Dig 16777216 q ∧ c ≤ 1 ∧
  val 16777216 q + c * 16777216 ^ i = val 16777216 (l.take i) + val 16777216 (r.take i) ∧ (max l.length r.length < i → c = 0), ⟨max l.length r.length + 1, 0, 0, [], rfl, rfl, rfl, he, hz, rfl, (by intro d hd; cases hd), by omega, by simp [val], by omega⟩, ?_⟩
 rintro g x y z junk w2 ⟨i, c, q, hg, rfl, rfl, e2, oq, hq, dq, hc, hv, hfin⟩
 rw [(h1.ext e2).row.len Ah, Ai]
 have more : i < l.length ∨ i < r.length ∨ 0 < c → ∃ J22 : Value → World → Prop, (∀ (x6_25 : Value) (junk23 : Env) (w24 : World), J22 x6_25 w24 →
           ∃ J26 : Value → World → Prop, (∀ (x6_29 : Value) (junk27 : Env) (w28 : World), J26 x6_29 w28 →
       bin P .rem Ar false true x6_29 (.int .i64 16777216) w28 fun x47_30 =>
       bsl P BO 1 [(0, x47_30)] w28 fun x48_31 w32 =>
       bl2 P .append #[BO, BO] BO [x, x48_31] w32 fun x49_33 w34 =>
       bin P .quo Ar false true x6_29 (.int .i64 16777216) w34 fun x51_35 =>
       bin P .add Bw false true (.int .i64 (i : Int)) (.int .i64 1) w34 fun x24_36 =>
       ∃ m37, m37 < g ∧ ∃ (i c : Nat) (q : List Nat), m37 + i = max l.length r.length + 1 ∧ x51_35 = .int .i64 (c : Int) ∧ x24_36 = .int .i64 (i : Int) ∧ Ext w w34 ∧ OD .i64 Ar w34 w.heap.size x49_33 q ∧ q.length = i ∧ Dig 16777216 q ∧ c ≤ 1 ∧
        val 16777216 q + c * 16777216 ^ i = val 16777216 (l.take i) + val 16777216 (r.take i) ∧ (max l.length r.length < i → c = 0)) ∧
       (bl0 P .len #[BO] Bw [v] w24 fun x37_38 =>
       bin P .lss Bw false false (.int .i64 (i : Int)) x37_38 w24 fun x38_39 =>
       cnd x38_39
        (ixa P BO v (.int .i64 (i : Int)) w24 fun x42_40 =>
        ld P Ar x42_40 w24 fun x43_41 =>
        bin P .add Ar false false x6_25 x43_41 w24 fun x44_42 =>
        J26 x44_42 w24)
        (J26 x6_25 w24))) ∧
           (bl0 P .len #[BO] Bw [u] w2 fun x27_43 =>
           bin P .lss Bw false false (.int .i64 (i : Int)) x27_43 w2 fun x28_44 =>
           cnd x28_44
       (ixa P BO u (.int .i64 (i : Int)) w2 fun x32_45 =>
       ld P Ar x32_45 w2 fun x33_46 =>
       bin P .add Ar false false (.int .i64 (c : Int)) x33_46 w2 fun x34_47 =>
       J22 x34_47 w2)
       (J22 (.int .i64 (c : Int)) w2)) := by
  intro hor
  have hi : i ≤ max l.length r.length := by
   rcases hor with h | h | h
   ·omega
   ·omega
   ·refine Nat.le_of_not_lt fun hlt => ?_
    have := hfin hlt; omega
  have ga : l.getD i 0 < 16777216 := by
   by_cases h : i < l.length
   ·rw [AY h]; exact Bj d1 h
   ·rw [Ek (by omega)]; decide
  have gb : r.getD i 0 < 16777216 := by
   by_cases h : i < r.length
   ·rw [AY h]; exact Bj d2 h
   ·rw [Ek (by omega)]; decide
  refine ⟨fun x w' => w' = w2 ∧ x = .int .i64 ((c + l.getD i 0 : Nat) : Int), ?_, ?_⟩
  ·rintro x' junk w3 ⟨rfl, rfl⟩
   refine ⟨fun x w' => w' = w3 ∧ x = .int .i64 ((c + l.getD i 0 + r.getD i 0 : Nat) : Int), ?_, ?_⟩
   ·rintro x' junk w4 ⟨rfl, rfl⟩
    rw [C7 (b := 16777216) (by decide)]
    refine MA oq Ah AE (by simp only [maxLen]; omega) (by omega) e2.size fun v' w5 o5 g5 => ?_
    rw [D8 (b := 16777216) (by omega) (by decide), AO (b := 1) (by omega)]
    refine ⟨g - 1, by omega, i + 1, _, _, by omega, rfl, rfl, Cg e2 oq g5, o5, by simp [hq], Lm dq (Nat.mod_lt _ (by decide)), by omega, ?_, fun hlt => ?_⟩
    ·rw [De, hq, Br, Br, pL]
     exact Aep hv rfl
    ·have h3 : i = max l.length r.length := by omega
     rw [Ek (by omega : l.length ≤ i), Ek (by omega : r.length ≤ i)]
     omega
   ·rw [(h2.ext e2).row.len Ah, Ai]
    refine Ac (fun h => ?_) (fun h => ?_)
    ·have h' : i < r.length := by omega
     refine (h2.ext e2).at h' Ah AE AB ?_
     rw [AY h'] at gb ⊢
     rw [BG (by omega)]
     exact ⟨rfl, rfl⟩
    ·exact ⟨rfl, by rw [Ek (l := r) (by omega)]; rfl⟩
  ·rw [(h1.ext e2).row.len Ah, Ai]
   refine Ac (fun h => ?_) (fun h => ?_)
   ·have h' : i < l.length := by omega
    refine (h1.ext e2).at h' Ah AE AB ?_
    rw [AY h'] at ga ⊢
    rw [BG (by omega)]
    exact ⟨rfl, rfl⟩
   ·exact ⟨rfl, by rw [Ek (l := l) (by omega)]; rfl⟩
 refine ⟨fun x w' => w' = w2 ∧ (¬ (i : Int) < l.length → x = .bool (decide (i < r.length))), ?_, ?_⟩
 ·rintro x' junk w3 ⟨rfl, hx⟩
  have hp : ∃ b1 : Bool, b1 = decide (i < l.length ∨ i < r.length) ∧ pick (.bool (decide ((i : Int) < l.length))) (.bool true) x' = fun K => K (.bool b1) := by
   refine ⟨_, rfl, ?_⟩
   funext K
   rw [An]
   by_cases h : (i : Int) < l.length
   ·rw [decide_eq_true h, cond_true, decide_eq_true (by left; omega)]
   ·rw [decide_eq_false h, cond_false, hx h]
    congr 2
    rw [decide_eq_decide]; omega
  obtain ⟨b1, hb1, hp⟩ := hp
  rw [hp]
  refine ⟨fun x w' => w' = w3 ∧ (b1 = false → x = .bool (decide (0 < c))), ?_, ?_⟩
  ·rintro x'' junk w4 ⟨rfl, hx2⟩
   rw [An]
   cases hb : b1
   ·rw [cond_false, hx2 hb]
    refine Ac (fun hc0 => ?_) (fun hc0 => ?_)
    ·exact more (.inr (.inr hc0))
    ·rw [hb] at hb1
     have hb1 := (decide_eq_false_iff_not.1 hb1.symm)
     have hc0 : c = 0 := by omega
     subst hc0
     rw [List.take_of_length_le (by omega), List.take_of_length_le (by omega)] at hv
     exact H _ _ _ e2 oq dq (by simpa using hv) (by omega)
   ·rw [cond_true, A6]
    rw [hb] at hb1
    have hb1 := of_decide_eq_true hb1.symm
    exact more (by rcases hb1 with h | h; exact .inl h; exact .inr (.inl h))
  ·refine Dn (fun h => ?_) (fun h => ?_)
   ·rw [Aq]
    exact ⟨rfl, fun _ => by congr 1; rw [decide_eq_decide]; omega⟩
   ·exact ⟨rfl, fun h2 => by rw [h2] at h; cases h⟩
 ·refine Dn (fun h => ?_) (fun h => ?_)
  ·rw [(h2.ext e2).row.len Ah, Ai]
   exact ⟨rfl, fun _ => by congr 1; rw [decide_eq_decide]; omega⟩
  ·exact ⟨rfl, fun h2 => by rw [decide_eq_false h2] at h; cases h⟩
theorem Ww {V L R p c a b s0 s1 : Nat} (hv : V + R = L + c * p) (hk : s0 + (c + b) = a + s1 * 16777216) : V + p * s0 + (R + p * b) = L + p * a + s1 * (p * 16777216) := by
 have h2 : p * (s0 + (c + b)) = p * (a + s1 * 16777216) := by rw [hk]
 grind
theorem WT {u v : Value} {l r : List Nat} (h1 : IR .i64 w u l) (h2 : IR .i64 w v r) (n1 : Norm 16777216 l) (n2 : Norm 16777216 r) (hle : val 16777216 r ≤ val 16777216 l) (l1 : l.length ≤ 45812984491)
  (H : ∀ v' w' q, Ext w w' → OD .i64 Ar w' w.heap.size v' q → Dig 16777216 q → val 16777216 q = val 16777216 l - val 16777216 r → q.length ≤ 45812984492 → K v' w') : call P Gs [u, v] w K := by
 have d1 := n1.1
 have d2 := n2.1
 have hlr := Ab9 n1 n2 hle
 refine WI ?_
 unfold JX
 refine DG Ah AE ?_
 have he := Bg w (.cells #[] Ar)
 have hz : OD .i64 Ar (w.alloc (.cells #[] Ar)) w.heap.size (.slice (some ⟨w.heap.size, 0, none⟩) 0 0) [] := B9 w [] Ar
 generalize w.alloc (.cells #[] Ar) = w1 at he hz ⊢
 refine ⟨fun g x y z w' => ∃ (i c : Nat) (q : List Nat), g + i = l.length ∧ y = .int .i64 (c : Int) ∧ z = .int .i64 (i : Int) ∧ Ext w w' ∧ OD .i64 Ar w' w.heap.size x q ∧ q.length = i ∧ Dig 16777216 q ∧ c ≤ 1 ∧
  val 16777216 q + val 16777216 (r.take i) = val 16777216 (l.take i) + c * 16777216 ^ i, ⟨l.length, 0, 0, [], rfl, rfl, rfl, he, hz, rfl, (by intro d hd; cases hd), by omega, by simp [val]⟩, ?_⟩
 rintro g x y z junk w2 ⟨i, c, q, hg, rfl, rfl, e2, oq, hq, dq, hc, hv⟩
 rw [(h1.ext e2).row.len Ah, Ai]
 refine Ac (fun hlt => ?_) (fun hge => ?_)
 ·have hi : i < l.length := by omega
  refine (h1.ext e2).at hi Ah AE AB ?_
  have g1 := Bj d1 hi
  have gb : r.getD i 0 < 16777216 := by
   by_cases h : i < r.length
   ·rw [AY h]; exact Bj d2 h
   ·rw [Ek (by omega)]; decide
  rw [AC, Ad (by omega) (by omega)]
  refine ⟨fun x w' => w' = w2 ∧ x = .int .i64 ((l[i] : Int) - c - (r.getD i 0 : Nat)), ?_, ?_⟩
  ·rintro x' junk w3 ⟨rfl, rfl⟩
   rw [Ai]
   refine Ac (fun hneg => ?_) (fun hpos => ?_)
   ·rw [Aw, Ad (by omega) (by omega), show (l[i] : Int) - c - (r.getD i 0 : Nat) + 16777216 = ((l[i] + 16777216 - (c + r.getD i 0) : Nat) : Int) by omega]
    refine MA oq Ah AE (by simp only [maxLen]; omega) (by omega) e2.size fun v' w5 o5 g5 => ?_
    rw [AO (b := 1) (by omega)]
    refine ⟨g - 1, by omega, i + 1, 1, _, by omega, rfl, rfl, Cg e2 oq g5, o5, by simp [hq], Lm dq (by omega), by omega, ?_⟩
    rw [De, hq, Br, Br, pL, AY hi]
    exact Ww hv (by omega)
   ·rw [show (l[i] : Int) - c - (r.getD i 0 : Nat) = ((l[i] - (c + r.getD i 0) : Nat) : Int) by omega]
    refine MA oq Ah AE (by simp only [maxLen]; omega) (by omega) e2.size fun v' w5 o5 g5 => ?_
    rw [AO (b := 1) (by omega)]
    refine ⟨g - 1, by omega, i + 1, 0, _, by omega, rfl, rfl, Cg e2 oq g5, o5, by simp [hq], Lm dq (by omega), by omega, ?_⟩
    rw [De, hq, Br, Br, pL, AY hi]
    exact Ww hv (by omega)
  ·rw [(h2.ext e2).row.len Ah, Ai]
   refine Ac (fun h => ?_) (fun h => ?_)
   ·have h' : i < r.length := by omega
    refine (h2.ext e2).at h' Ah AE AB ?_
    rw [AY h'] at gb ⊢
    rw [AC, Ad (by omega) (by omega)]
    exact ⟨rfl, rfl⟩
   ·exact ⟨rfl, by rw [Ek (l := r) (by omega)]; simp⟩
 ·have hi : i = l.length := by omega
  subst hi
  rw [List.take_of_length_le (by omega : l.length ≤ l.length), List.take_of_length_le (by omega : r.length ≤ l.length)] at hv
  have hc0 : c = 0 := by
   have h3 := B8 dq
   rw [hq] at h3
   rcases Nat.eq_zero_or_pos c with h | h
   ·exact h
   ·have : 1 * 16777216 ^ l.length ≤ c * 16777216 ^ l.length := Nat.mul_le_mul_right _ h
    omega
  subst hc0
  exact H _ _ _ e2 oq dq (by omega) (by omega)
end


section
open Go Go.Vc
variable {w : World} {K : Value → World → Prop}
theorem AiO {m n : Int} (h : m.sign = n.sign) : (m < 0 ↔ n < 0) ∧ (0 < m ↔ 0 < n) := by
 rcases Int.lt_trichotomy m 0 with h1 | h1 | h1 <;> rcases Int.lt_trichotomy n 0 with h2 | h2 | h2 <;>
  simp_all [Int.sign_eq_neg_one_of_neg, Int.sign_eq_one_of_pos] <;> omega
theorem sign_neg {m : Int} (h : m < 0) : m.sign = -1 := Int.sign_eq_neg_one_of_neg h
theorem DA {m : Int} (h : 0 < m) : m.sign = 1 := Int.sign_eq_one_of_pos h
theorem AcX (m : Int) : -1 ≤ m.sign ∧ m.sign ≤ 1 := by
 rcases Int.lt_trichotomy m 0 with h1 | h1 | h1
 ·rw [sign_neg h1]; decide
 ·rw [h1]; decide
 ·rw [DA h1]; decide
theorem Wl.len {l : List Nat} {m : Int} (h : Wl l m) (hb : bl m.natAbs ≤ 1099511627776) : l.length ≤ 45812984491 := AiP h.1 (by rw [h.2]; exact hb)
theorem AaR {u v : Value} {m n : Int} (hu : Wr w u m) (hv : Wr w v n) (bm : bl m.natAbs ≤ 1099511627776) (bn : bl n.natAbs ≤ 1099511627776)
  (H : ∀ v' w', Ext w w' → Wo w' w.heap.size w'.heap.size v' (m + n) → K v' w') : call P Ga [u, v] w K := by
 obtain ⟨s, l, rfl, h1, wl⟩ := hu
 obtain ⟨t, r, rfl, h2, wr⟩ := hv
 have l1 := wl.len bm
 have l2 := wr.len bn
 obtain ⟨n1, v1⟩ := wl
 obtain ⟨n2, v2⟩ := wr
 refine Aad ?_
 unfold Nk
 refine F8 fun x1 w1 b1 e1 => ?_
 refine F8 fun x2 w2 b2 e2 => ?_
 refine Eb fun x3 w3 ⟨cs, hcs, b3⟩ e3 => ?_
 have b1 := (b1.ext e2).ext e3
 have b2 := b2.ext e3
 have E2 := e1.trans e2
 have E3 := E2.trans e3
 have h1 := h1.ext E3
 have h2 := h2.ext E3
 refine wh_s b1 ?_
 rw [Ae]
 refine Ac (fun h0 => ?_) (fun h0 => ?_)
 ·have hm : m = 0 := Int.sign_eq_zero_iff_zero.1 h0
  refine wh_s b2 ?_
  refine wh_l b2 ?_
  refine En (m := m + n) E3 b3 hcs E2.size h2 n2.1 (by rw [v2, hm, Int.zero_add]) (fun _ => by rw [hm, Int.zero_add]) (by omega) H
 ·have hm : m ≠ 0 := by rintro rfl; exact h0 rfl
  refine wh_s b2 ?_
  rw [Ae]
  refine Ac (fun h0' => ?_) (fun h0' => ?_)
  ·have hn : n = 0 := Int.sign_eq_zero_iff_zero.1 h0'
   refine wh_s b1 ?_
   refine wh_l b1 ?_
   refine En (m := m + n) E3 b3 hcs E2.size h1 n1.1 (by rw [v1, hn, Int.add_zero]) (fun _ => by rw [hn, Int.add_zero]) (by omega) H
  ·have hn : n ≠ 0 := by rintro rfl; exact h0' rfl
   refine wh_s b1 ?_
   refine wh_s b2 ?_
   rw [Ae]
   refine Ac (fun hs => ?_) (fun hs => ?_)
   ·obtain ⟨q1, q2⟩ := AiO hs
    refine wh_s b1 ?_
    refine wh_l b1 ?_
    refine wh_l b2 ?_
    refine Agi h1 h2 n1.1 n2.1 l1 l2 fun v' w4 q e4 oq dq hq hl => ?_
    refine ⟨e4, ?_⟩
    refine En (m := m + n) (E3.trans e4) (b3.ext e4) hcs E2.size (OD.IR oq) dq (by omega) (fun _ => ?_) (by omega) H
    rcases Int.lt_or_gt_of_ne hm with h | h
    ·rw [sign_neg h, sign_neg (by omega)]
    ·rw [DA h, DA (by omega)]
   ·refine wh_l b1 ?_
    refine wh_l b2 ?_
    refine UN h1 h2 n1 n2 ?_
    rw [B6, v1, v2]
    have hopp : (m < 0 ∧ 0 < n) ∨ (0 < m ∧ n < 0) := by
     rcases Int.lt_or_gt_of_ne hm with h | h <;> rcases Int.lt_or_gt_of_ne hn with h' | h'
     ·exact absurd (by rw [sign_neg h, sign_neg h']) hs
     ·exact .inl ⟨h, h'⟩
     ·exact .inr ⟨h, h'⟩
     ·exact absurd (by rw [DA h, DA h']) hs
    refine Ac (fun hc => ?_) (fun hc => ?_)
    ·have hle : n.natAbs ≤ m.natAbs := by unfold cmpN at hc; split at hc <;> (try split at hc) <;> omega
     refine wh_s b1 ?_
     refine wh_l b1 ?_
     refine wh_l b2 ?_
     refine WT h1 h2 n1 n2 (by rw [v1, v2]; exact hle) l1 fun v' w4 q e4 oq dq hq hl => ?_
     refine ⟨e4, ?_⟩
     refine En (m := m + n) (E3.trans e4) (b3.ext e4) hcs E2.size (OD.IR oq) dq (by omega) (fun _ => ?_) (by omega) H
     rcases hopp with ⟨h, h'⟩ | ⟨h, h'⟩
     ·rw [sign_neg h, sign_neg (by omega)]
     ·rw [DA h, DA (by omega)]
    ·have hle : m.natAbs ≤ n.natAbs := by unfold cmpN at hc; split at hc <;> (try split at hc) <;> omega
     refine wh_s b2 ?_
     refine wh_l b2 ?_
     refine wh_l b1 ?_
     refine WT h2 h1 n2 n1 (by rw [v1, v2]; exact hle) l2 fun v' w4 q e4 oq dq hq hl => ?_
     refine ⟨e4, ?_⟩
     refine En (m := m + n) (E3.trans e4) (b3.ext e4) hcs E2.size (OD.IR oq) dq (by omega) (fun _ => ?_) (by omega) H
     rcases hopp with ⟨h, h'⟩ | ⟨h, h'⟩
     ·rw [DA h', DA (by omega)]
     ·rw [sign_neg h', sign_neg (by omega)]
theorem AhO {v : Value} {m : Int} (h : Wr w v m) (bm : bl m.natAbs ≤ 1099511627776) (H : ∀ v' w', Ext w w' → Wo w' w.heap.size w'.heap.size v' (-m) → K v' w') : call P ML [v] w K := by
 obtain ⟨s, l, rfl, h1, wl⟩ := h
 have l1 := wl.len bm
 refine Aac ?_
 unfold MK
 refine F8 fun x1 w1 b1 e1 => ?_
 refine Eb fun x2 w2 ⟨cs, hcs, b2⟩ e2 => ?_
 have b1 := b1.ext e2
 have E2 := e1.trans e2
 refine wh_s b1 ?_
 have hs := AcX m
 rw [Cz, Ad (by omega) (by omega)]
 refine wh_l b1 ?_
 refine En (m := -m) E2 b2 hcs e1.size (h1.ext E2) wl.1.1 (by rw [wl.2, Int.natAbs_neg]) (fun _ => by rw [Int.sign_neg]; omega) (by omega) H
theorem Ah0 {v : Value} {m : Int} (h : Wr w v m) (bm : bl m.natAbs ≤ 1099511627776) (H : ∀ v' w', Ext w w' → Wo w' w.heap.size w'.heap.size v' (m.natAbs : Int) → K v' w') : call P MG [v] w K := by
 obtain ⟨s, l, rfl, h1, wl⟩ := h
 have l1 := wl.len bm
 refine Aaf ?_
 unfold Np
 refine F8 fun x1 w1 b1 e1 => ?_
 refine Eb fun x2 w2 ⟨cs, hcs, b2⟩ e2 => ?_
 have b1 := b1.ext e2
 have E2 := e1.trans e2
 refine wh_s b1 ?_
 refine wh_s b1 ?_
 have hsq : IntKind.i64.wrap (m.sign * m.sign) = (if m = 0 then 0 else 1) := by
  rcases Int.lt_trichotomy m 0 with h | h | h
  ·rw [sign_neg h, if_neg (by omega)]; decide
  ·rw [if_pos h, h]; decide
  ·rw [DA h, if_neg (by omega)]; decide
 rw [CR, hsq]
 refine wh_l b1 ?_
 refine En (m := (m.natAbs : Int)) E2 b2 hcs e1.size (h1.ext E2) wl.1.1 (by rw [wl.2, Int.natAbs_natCast]) (fun hne => ?_) (by omega) H
 rw [if_neg (by omega), DA (by omega)]
theorem AdK {V V' Q L p pi pk c x y o s : Nat} (hp : p = pi * pk) (hv : V + c * p = Q + x * L * pi) (hs : s = c + o + x * y) (hq : V' + p * o = V + p * (s % 16777216)) :
  V' + s / 16777216 * (p * 16777216) = Q + x * (L + pk * y) * pi := by
 have h := Nat.div_add_mod s 16777216
 have h2 : p * (16777216 * (s / 16777216) + s % 16777216) = p * (c + o + x * y) := by rw [h, hs]
 subst hp
 grind
theorem Ag2 {x y : Nat} (hx : x < 16777216) (hy : y < 16777216) : x * y ≤ 281474943156225 := by
 have : x * y ≤ 16777215 * 16777215 := Nat.mul_le_mul (by omega) (by omega)
 omega
theorem Ahm {u v : Value} {m n : Int} (hu : Wr w u m) (hv : Wr w v n) (bm : bl m.natAbs ≤ 1099511627776) (bn : bl n.natAbs ≤ 1099511627776)
  (H : ∀ v' w', Ext w w' → Wo w' w.heap.size w'.heap.size v' (m * n) → K v' w') : call P Na [u, v] w K := by
 obtain ⟨s, l, rfl, h1, wl⟩ := hu
 obtain ⟨t, r, rfl, h2, wr⟩ := hv
 have l1 := wl.len bm
 have l2 := wr.len bn
 obtain ⟨n1, v1⟩ := wl
 obtain ⟨n2, v2⟩ := wr
 have d1 := n1.1
 have d2 := n2.1
 refine Aa3 ?_
 unfold Nb
 refine F8 fun x1 w1 b1 e1 => ?_
 refine F8 fun x2 w2 b2 e2 => ?_
 refine Eb fun x3 w3 ⟨cs, hcs, b3⟩ e3 => ?_
 have b1 := (b1.ext e2).ext e3
 have b2 := b2.ext e3
 have E2 := e1.trans e2
 have E3 := E2.trans e3
 have h1 := h1.ext E3
 have h2 := h2.ext E3
 refine wh_l b1 ?_
 rw [h1.row.len Ah]
 refine wh_l b2 ?_
 rw [h2.row.len Ah, BG (by omega), AO (b := 1) (by omega)]
 refine OD.make Ah AE (by omega) (by simp only [maxLen]; omega) fun w4 o ho he => ?_
 refine ⟨fun g y w' => ∃ (i : Nat) (q : List Nat), g + i = l.length ∧ y = .int .i64 (i : Int) ∧ Ext w3 w' ∧ OD .i64 Ar w' w3.heap.size o q ∧ q.length = l.length + r.length + 1 ∧ Dig 16777216 q ∧ (∀ j, i + r.length ≤ j → q.getD j 0 = 0) ∧
  val 16777216 q = val 16777216 (l.take i) * val 16777216 r, ⟨l.length, 0, _, rfl, rfl, he, ho, by simp, KN _ _ (by decide), fun j _ => by simp [List.getElem?_replicate]; split <;> rfl, by simp [val, FP]⟩, ?_⟩
 rintro g y junk w5 ⟨i, q, hg, rfl, e5, oq, hq, dq, hz, hv⟩
 refine wh_l (b1.ext e5) ?_
 rw [(h1.ext e5).row.len Ah, Ai]
 refine Ac (fun hlt => ?_) (fun hge => ?_)
 ·have hi : i < l.length := by omega
  have g1 := Bj d1 hi
  refine ⟨fun m' x y w' => ∃ (k c : Nat) (q' : List Nat), m' + k = r.length ∧ x = .int .i64 (c : Int) ∧ y = .int .i64 (k : Int) ∧ Ext w3 w' ∧ OD .i64 Ar w' w3.heap.size o q' ∧ q'.length = l.length + r.length + 1 ∧ Dig 16777216 q' ∧ (∀ j, i + r.length ≤ j → q'.getD j 0 = 0) ∧ c < 16777216 ∧
   val 16777216 q' + c * 16777216 ^ (i + k) = val 16777216 (l.take i) * val 16777216 r + l[i] * val 16777216 (r.take k) * 16777216 ^ i,
   ⟨r.length, 0, 0, q, rfl, rfl, rfl, e5, oq, hq, dq, hz, by omega, by simp [val, hv]⟩, ?_⟩
  rintro m' x y junk w6 ⟨k, c, q', hm', rfl, rfl, e6, oq', hq', dq', hz', hc, hv'⟩
  refine wh_l (b2.ext e6) ?_
  rw [(h2.ext e6).row.len Ah, Ai]
  refine Ac (fun hlt' => ?_) (fun hge' => ?_)
  ·have hk : k < r.length := by omega
   have hik : i + k < q'.length := by omega
   have g2 := Bj d2 hk
   have g3 := Bj dq' hik
   have hw := Ag2 g1 g2
   rw [BG (by omega)]
   refine (OD.IR oq').at hik Ah AE AB ?_
   rw [BG (by omega)]
   refine wh_l (b1.ext e6) ?_
   refine (h1.ext e6).at hi Ah AE AB ?_
   refine wh_l (b2.ext e6) ?_
   refine (h2.ext e6).at hk Ah AE AB ?_
   rw [CR, show (l[i] : Int) * r[k] = ((l[i] * r[k] : Nat) : Int) by simp, Ad (by omega) (by omega), BG (by omega), BG (by omega), C7 (b := 16777216) (by decide)]
   refine OD.set oq' hik Ah AE fun w7 o7 g7 => ?_
   rw [D8 (b := 16777216) (by omega) (by decide), AO (b := 1) (by omega)]
   refine ⟨m' - 1, by omega, k + 1, _, _, by omega, rfl, rfl, Cg e6 oq' g7, o7, by simpa using hq', Gd dq' (Nat.mod_lt _ (by decide)), fun j hj => ?_, by omega, ?_⟩
   ·rw [I2 hik, if_neg (by omega)]; exact hz' j hj
   ·rw [Br, AY hk, show (16777216 : Nat) ^ (i + (k + 1)) = 16777216 ^ (i + k) * 16777216 from pL (i + k)]
    exact AdK (Nat.pow_add ..) hv' rfl (Gc _ hik)
  ·have hk : k = r.length := by omega
   subst hk
   have hik : i + r.length < q'.length := by omega
   refine wh_l (b2.ext e6) ?_
   rw [(h2.ext e6).row.len Ah, BG (by omega)]
   refine OD.set oq' hik Ah AE fun w7 o7 g7 => ?_
   rw [AO (b := 1) (by omega)]
   refine ⟨g - 1, by omega, i + 1, _, by omega, rfl, Cg e6 oq' g7, o7, by simpa using hq', Gd dq' hc, fun j hj => ?_, ?_⟩
   ·rw [I2 hik, if_neg (by omega)]; exact hz' j (by omega)
   ·rw [Br, AY hi]
    rw [List.take_of_length_le (Nat.le_refl _)] at hv'
    refine AbA (Nat.pow_add ..) hv' ?_
    have h3 := Gc 16777216 (l := q') (x := c) hik
    have h4 := hz' (i + r.length) (Nat.le_refl _)
    rw [AY hik] at h4
    rw [h4] at h3
    exact h3
 ·have hi : i = l.length := by omega
  subst hi
  rw [List.take_of_length_le (Nat.le_refl _)] at hv
  refine wh_s (b1.ext e5) ?_
  refine wh_s (b2.ext e5) ?_
  have hsg : IntKind.i64.wrap (m.sign * n.sign) = (m * n).sign := by
   rw [Int.sign_mul]
   have := AcX (m * n)
   rw [Int.sign_mul] at this
   exact Ad (by omega) (by omega)
  rw [CR, hsg]
  refine En (m := m * n) (E3.trans e5) (b3.ext e5) hcs E2.size (OD.IR oq) dq (by rw [hv, v1, v2, Int.natAbs_mul]) (fun _ => rfl) (by omega) H
theorem Qa {v : Value} {m : Int} (h : Wr w v m) (bm : bl m.natAbs ≤ 1099511627776) (H : ∀ w', Ext w w' → K (.int .i64 (bl m.natAbs : Nat)) w') : call P DZ [v] w K := by
 obtain ⟨s, l, rfl, h1, wl⟩ := h
 have l1 := wl.len bm
 obtain ⟨n1, v1⟩ := wl
 refine VZ ?_
 unfold ID
 refine F8 fun x1 w1 b1 e1 => ?_
 have h1 := h1.ext e1
 refine wh_l b1 ?_
 rw [h1.row.len Ah, Ae]
 refine Ac (fun h0 => ?_) (fun h0 => ?_)
 ·obtain rfl : l = [] := List.eq_nil_of_length_eq_zero (by omega)
  have := H w1 e1
  rw [← v1] at this
  exact this
 ·have hl : 0 < l.length := by omega
  have hz : l[l.length - 1] ≠ 0 := by
   intro hz
   have := n1.2
   rw [List.getLast?_eq_getElem?, List.getElem?_eq_getElem (by omega), hz] at this
   exact this rfl
  have e : bl m.natAbs = 24 * (l.length - 1) + bl l[l.length - 1] := by
   have h1 := Ce 16777216 l (i := l.length - 1) (by omega)
   rw [List.drop_eq_getElem_cons (by omega), List.drop_eq_nil_of_le (by omega)] at h1
   simp only [val, Nat.mul_zero, Nat.add_zero] at h1
   have h2 := B8 (n1.1.take (l.length - 1))
   rw [List.length_take, Nat.min_eq_left (by omega)] at h2
   have hp : (16777216 : Nat) ^ (l.length - 1) = 2 ^ (24 * (l.length - 1)) := by rw [Nat.pow_mul]
   rw [hp] at h1 h2
   rw [← v1, h1, Agb h2 hz]
  rw [EF (b := 1) (by omega) (by omega), CR, Ad (by omega) (by omega)]
  refine wh_l b1 ?_
  rw [EF (b := 1) (by omega) (by omega)]
  refine h1.at (i := l.length - 1) (by omega) Ah AE AB ?_
  have g1 := Bj n1.1 (show l.length - 1 < l.length by omega)
  refine ⟨fun g x y w' => w' = w1 ∧ ∃ d c : Nat, x = .int .i64 (c : Int) ∧ y = .int .i64 (d : Int) ∧ g = bl d ∧ c + bl d = bl m.natAbs ∧ d < 16777216, ⟨bl l[l.length - 1], rfl, l[l.length - 1], 24 * (l.length - 1), by congr 1; omega, rfl, rfl, by omega, g1⟩, ?_⟩
  rintro g x y junk w' ⟨rfl, d, c, rfl, rfl, rfl, hc, hd16⟩
  rw [Aq]
  refine Ac (fun hd => ?_) (fun hd => ?_)
  ·rw [AO (b := 1) (by omega), D8 (b := 2) (by omega) (by decide)]
   have hb := AbD d 1
   rw [Nat.pow_one] at hb
   have hp := Eu (n := d) (by omega)
   exact ⟨_, by rw [hb]; omega, rfl, _, _, rfl, rfl, rfl, by rw [hb]; omega, by omega⟩
  ·have : d = 0 := by omega
   subst this
   rw [Lh] at hc
   have := H w' e1
   rw [← hc] at this
   exact this
theorem AeV {l : List Nat} (hd : Dig 16777216 l) (i : Nat) : val 16777216 l / 2 ^ i % 2 = l.getD (i / 24) 0 / 2 ^ (i % 24) % 2 := by
 have hn : 2 ^ i = 16777216 ^ (i / 24) * 2 ^ (i % 24) := by
  conv => lhs; rw [← Nat.div_add_mod i 24, Nat.pow_add, Nat.pow_mul]
 have hs : i % 24 < 24 := Nat.mod_lt _ (by decide)
 rw [hn, ← Nat.div_div_eq_div_mul]
 by_cases h : i / 24 < l.length
 ·have hp : 0 < 16777216 ^ (i / 24) := Nat.pow_pos (by decide)
  have h1 : val 16777216 l / 16777216 ^ (i / 24) = val 16777216 (l.drop (i / 24)) := by
   rw [Ce _ l (Nat.le_of_lt h), Nat.add_mul_div_left _ _ hp, Nat.div_eq_of_lt, Nat.zero_add]
   have := B8 (hd.take (i / 24))
   rw [List.length_take, Nat.min_eq_left (by omega)] at this
   exact this
  rw [h1, List.drop_eq_getElem_cons h, val, AY h]
  have h2 : (16777216 : Nat) = 2 ^ (i % 24) * (2 * 2 ^ (23 - i % 24)) := by
   rw [← Nat.pow_succ', ← Nat.pow_add, show i % 24 + (23 - i % 24).succ = 24 by omega]
  have h3 : ∀ X, 16777216 * X = 2 ^ (i % 24) * (2 * (2 ^ (23 - i % 24) * X)) := fun X => by
   conv => lhs; rw [h2]
   grind
  rw [h3, Nat.add_mul_div_left _ _ (Nat.two_pow_pos _), Nat.add_mul_mod_self_left]
 ·have h1 : val 16777216 l / 16777216 ^ (i / 24) = 0 :=
   Nat.div_eq_of_lt (Nat.lt_of_lt_of_le (B8 hd) (Nat.pow_le_pow_right (by decide) (by omega)))
  rw [h1, Ek (by omega)]
theorem Ahj {t : TypeId} {cx cy : Bool} {a : Nat} {K : Value → Prop} (ha : a ≤ 9223372036854775807) : bin P .and t cx cy (.int .i64 (a : Int)) (.int .i64 1) w K = K (.int .i64 ((a % 2 : Nat) : Int)) := by
 rw [Kz, BitVec.toNat_and, FG (by simp only [IntKind.bits]; omega)]
 have : (BitVec.ofInt IntKind.i64.bits 1).toNat = 1 := by decide
 rw [this, Nat.and_one_is_mod, Ad (by omega) (by omega)]
theorem Wa {v : Value} {m : Int} {i : Nat} (h : Wr w v m) (hi : i ≤ 9223372036854775807) (H : ∀ w', Ext w w' → K (.int .i64 ((m.natAbs / 2 ^ i % 2 : Nat) : Int)) w') : call P FO [v, .int .i64 (i : Int)] w K := by
 obtain ⟨s, l, rfl, h1, n1, v1⟩ := h
 have hv := AeV n1.1 i
 rw [v1] at hv
 rw [hv] at H
 refine Aa8 ?_
 unfold MR
 refine F8 fun x1 w1 b1 e1 => ?_
 have h1 := h1.ext e1
 have H := H w1 e1
 rw [D8 (b := 24) (by omega) (by decide)]
 refine wh_l b1 ?_
 rw [h1.row.len Ah, B6]
 refine Ac (fun hge => ?_) (fun hlt => ?_)
 ·rw [Ek (by omega)] at H
  simpa using H
 ·have hlt : i / 24 < l.length := by omega
  refine wh_l b1 ?_
  rw [D8 (b := 24) (by omega) (by decide)]
  refine h1.at hlt Ah AE AB ?_
  have g1 := Bj n1.1 hlt
  have hs : i % 24 < 24 := Nat.mod_lt _ (by decide)
  rw [C7 (b := 24) (by decide), AJ AB BL, Is (by omega), Cu (s := i % 24) (by simp only [IntKind.bits]; omega)]
  have := Nat.div_le_self l[i / 24] (2 ^ (i % 24))
  rw [Ahj (by omega)]
  rw [AY hlt] at H
  exact H
theorem Af7 {v : Value} {m : Int} (h : Wr w v m) (hm : m ≠ 0) (bm : bl m.natAbs ≤ 1099511627776) (H : ∀ (k : Nat) w', Ext w w' → IsTz m.natAbs k → k ≤ bl m.natAbs → K (.int .i64 (k : Int)) w') : call P LI [v] w K := by
 obtain ⟨s, l, rfl, h1, wl⟩ := h
 refine Y8 ?_
 unfold Ll
 refine F8 fun x1 w1 b1 e1 => ?_
 have hlt : ∀ k : Nat, m.natAbs % 2 ^ k = 0 → k < bl m.natAbs := fun k hk => by
  have := Nat.le_of_dvd (by omega) (Nat.dvd_of_mod_eq_zero hk)
  rwa [← NL] at this
 refine ⟨fun g x w' => ∃ k : Nat, x = .int .i64 (k : Int) ∧ g + k = bl m.natAbs ∧ m.natAbs % 2 ^ k = 0 ∧ Ext w1 w', ⟨bl m.natAbs, 0, rfl, rfl, by simp [Nat.mod_one], Ext.refl _⟩, ?_⟩
 rintro g x junk w' ⟨k, rfl, hg, hz, e2⟩
 have hk := hlt k hz
 refine Mf (b1.ext e2) ?_
 refine Wa ⟨s, l, rfl, h1.ext (e1.trans e2), wl⟩ (by omega) fun w3 e3 => ?_
 rw [Ae]
 refine Ac (fun h2 => ?_) (fun h2 => ?_)
 ·rw [AO (b := 1) (by omega)]
  have h3 : m.natAbs / 2 ^ k % 2 = 0 := by omega
  exact ⟨g - 1, by omega, k + 1, rfl, by omega, by rw [Nat.mod_pow_succ, hz, h3]; rfl, e2.trans e3⟩
 ·refine H k w3 (e1.trans (e2.trans e3)) ?_ (by omega)
  unfold IsTz
  rw [if_neg (by omega)]
  exact ⟨hz, by have := Nat.mod_lt (m.natAbs / 2 ^ k) (show 0 < 2 by decide); omega⟩
end


section
open Go Go.Vc
variable {w : World} {K : Value → World → Prop}
theorem AkU {base : Nat} {x s : Value} {m : Int} (h : Bx w base Aj x [.int .i64 m, s]) :
  ∃ a, (∀ (w : World) (K : Value → Prop), fda P Aj x 0 w K = K a) ∧ (∀ {w' : World} {base' : Nat} {m' : Int} {s' : Value}, Bx w' base' Aj x [.int .i64 m', s'] → ∀ K, ld P Ar a w' K = K (.int .i64 m')) := by
 obtain ⟨a, h1, h2, _⟩ := Aa9 (f := 0) (off := 0) (ty := Ar) h Bh rfl AE AB rfl
 exact ⟨a, h1, fun h' => h2 h' rfl⟩
theorem VH {t : TypeId} {cx cy : Bool} {yk : IntKind} {a s : Nat} {c : Int} {K : Value → Prop} (hs : s ≤ 64) (h : a * 2 ^ s ≤ 9223372036854775807) (hc : c = (s : Int) := by rfl) : bin P .shl t cx cy (.int .i64 (a : Int)) (.int yk c) w K = K (.int .i64 ((a * 2 ^ s : Nat) : Int)) :=
 Ph hs (by rw [max_i64]; omega) hc
theorem p24 (k : Nat) : 2 ^ k = 16777216 ^ (k / 24) * 2 ^ (k % 24) := by
 conv => lhs; rw [← Nat.div_add_mod k 24, Nat.pow_add, Nat.pow_mul]
theorem AcK {V T c d s p x S F : Nat} (hv : V + c * p = T * S * F) (hs : x = c + d * S) (hp : p = s * F) : V + p * (x % 16777216) + x / 16777216 * (p * 16777216) = (T + s * d) * S * F := by
 have h := Nat.div_add_mod x 16777216
 have h2 : p * (16777216 * (x / 16777216) + x % 16777216) = p * (c + d * S) := by rw [h, hs]
 subst hp
 grind
theorem T7 {v : Value} {m : Int} {k : Nat} (h : Wr w v m) (bm : bl m.natAbs ≤ 1099511627776) (bk : k ≤ 1099511627776) (H : ∀ v' w', Ext w w' → Wo w' w.heap.size w'.heap.size v' (m * 2 ^ k) → K v' w') : call P Fk [v, .int .i64 (k : Int)] w K := by
 obtain ⟨s, l, rfl, h1, wl⟩ := h
 have l1 := wl.len bm
 obtain ⟨n1, v1⟩ := wl
 have d1 := n1.1
 refine YC ?_
 unfold Kp
 refine F8 fun x1 w1 b1 e1 => ?_
 refine Eb fun x2 w2 ⟨cs, hcs, b2⟩ e2 => ?_
 have b1 := b1.ext e2
 have E2 := e1.trans e2
 have h1 := h1.ext E2
 rw [D8 (b := 24) (by omega) (by decide)]
 refine OD.make Ah AE (by omega) (by simp only [maxLen]; omega) fun w3 o ho he => ?_
 have hs : k % 24 < 24 := Nat.mod_lt _ (by decide)
 have hps : 2 ^ (k % 24) ≤ 8388608 := Nat.pow_le_pow_right (n := 2) (by decide) (show k % 24 ≤ 23 by omega)
 have hpp := Nat.two_pow_pos (k % 24)
 refine ⟨fun g x y z w' => ∃ (i c : Nat) (q : List Nat), g + i = l.length ∧ y = .int .i64 (c : Int) ∧ z = .int .i64 (i : Int) ∧ Ext w2 w' ∧ OD .i64 Ar w' w2.heap.size x q ∧ q.length = k / 24 + i ∧ Dig 16777216 q ∧ c < 16777216 ∧
  val 16777216 q + c * 16777216 ^ (k / 24 + i) = val 16777216 (l.take i) * 2 ^ (k % 24) * 16777216 ^ (k / 24), ⟨l.length, 0, 0, _, rfl, rfl, rfl, he, ho, by simp, KN _ _ (by decide), by omega, by simp [val, FP]⟩, ?_⟩
 rintro g x y z junk w4 ⟨i, c, q, hg, rfl, rfl, e4, oq, hq, dq, hc, hv⟩
 have E4 := E2.trans e4
 refine wh_l (b1.ext e4) ?_
 rw [(h1.ext e4).row.len Ah, Ai]
 refine Ac (fun hlt => ?_) (fun hge => ?_)
 ·have hi : i < l.length := by omega
  have g1 := Bj d1 hi
  refine wh_l (b1.ext e4) ?_
  refine (h1.ext e4).at hi Ah AE AB ?_
  have hmul : l[i] * 2 ^ (k % 24) ≤ 16777215 * 8388608 := Nat.mul_le_mul (by omega) hps
  rw [C7 (b := 24) (by decide), AJ AB BL, Is (by omega), VH (s := k % 24) (by omega) (by omega), BG (by omega), C7 (b := 16777216) (by decide)]
  refine MA oq Ah AE (by simp only [maxLen]; omega) (by omega) e4.size fun v' w5 o5 g5 => ?_
  rw [D8 (b := 16777216) (by omega) (by decide), AO (b := 1) (by omega)]
  refine ⟨g - 1, by omega, i + 1, _, _, by omega, rfl, rfl, Cg e4 oq g5, o5, by simp [hq]; omega, Lm dq (Nat.mod_lt _ (by decide)), ?_, ?_⟩
  ·rw [Nat.div_lt_iff_lt_mul (by decide)]; omega
  ·rw [De, hq, BV _ hi, show (16777216 : Nat) ^ (k / 24 + (i + 1)) = 16777216 ^ (k / 24 + i) * 16777216 from pL _]
   exact AcK hv rfl (by rw [Nat.pow_add, Nat.mul_comm])
 ·have hi : i = l.length := by omega
  subst hi
  rw [List.take_of_length_le (Nat.le_refl _)] at hv
  have b14 := b1.ext e4
  obtain ⟨a, fa, la⟩ := AkU b14
  rw [fa, la b14]
  refine XJ oq Ah AE (by simp only [maxLen]; omega) (by omega) e4.size fun v' w5 o5 g5 => ?_
  have e5 := Cg e4 oq g5
  rw [fa, la (b1.ext e5)]
  refine ⟨rfl, rfl, ?_⟩
  have hval : val 16777216 (q ++ [c]) = m.natAbs * 2 ^ k := by
   rw [De, hq, Nat.mul_comm, hv, v1, p24 k]
   grind
  refine En (m := m * 2 ^ k) (E2.trans e5) (b2.ext e5) hcs e1.size (OD.IR o5) (Lm dq hc) (by rw [hval, Int.natAbs_mul, CE]) (fun _ => ?_) (by simp; omega) H
  rw [Int.sign_mul, Int.sign_eq_one_of_pos (Int.pow_pos (by decide)), Int.mul_one]
theorem Acu {l : List Nat} {i s : Nat} (hd : Dig 16777216 l) (hi : i < l.length) (hs : s < 24) :
  val 16777216 l / 2 ^ s / 16777216 ^ i % 16777216 = (l[i] / 2 ^ s + l.getD (i + 1) 0 * 2 ^ (24 - s)) % 16777216 := by
 have h1 : val 16777216 l / 2 ^ s / 16777216 ^ i = val 16777216 l / 16777216 ^ i / 2 ^ s := by
  rw [Nat.div_div_eq_div_mul, Nat.div_div_eq_div_mul, Nat.mul_comm]
 have h2 : val 16777216 l / 16777216 ^ i = val 16777216 (l.drop i) := by
  have hp : 0 < 16777216 ^ i := Nat.pow_pos (by decide)
  rw [Ce _ l (Nat.le_of_lt hi), Nat.add_mul_div_left _ _ hp, Nat.div_eq_of_lt, Nat.zero_add]
  have := B8 (hd.take i)
  rw [List.length_take, Nat.min_eq_left (by omega)] at this
  exact this
 have h3 : ∃ X, val 16777216 (l.drop i) = l[i] + l.getD (i + 1) 0 * 16777216 + 281474976710656 * X := by
  rw [List.drop_eq_getElem_cons hi, val]
  by_cases h : i + 1 < l.length
  ·rw [List.drop_eq_getElem_cons h, val, AY h]
   exact ⟨val 16777216 (l.drop (i + 1 + 1)), by grind⟩
  ·rw [List.drop_eq_nil_of_le (by omega), val, Ek (by omega)]
   exact ⟨0, rfl⟩
 obtain ⟨X, hX⟩ := h3
 have hb : (16777216 : Nat) = 2 ^ s * 2 ^ (24 - s) := by rw [← Nat.pow_add, show s + (24 - s) = 24 by omega]
 rw [h1, h2, hX]
 have h4 : l[i] + l.getD (i + 1) 0 * 16777216 + 281474976710656 * X = l[i] + 2 ^ s * (l.getD (i + 1) 0 * 2 ^ (24 - s) + 16777216 * (2 ^ (24 - s) * X)) := by
  have h5 : (281474976710656 : Nat) = 16777216 * 16777216 := rfl
  have h6 : l.getD (i + 1) 0 * 16777216 = 2 ^ s * (l.getD (i + 1) 0 * 2 ^ (24 - s)) := by
   conv => lhs; rw [hb]
   grind
  have h7 : 281474976710656 * X = 2 ^ s * (16777216 * (2 ^ (24 - s) * X)) := by
   rw [h5]
   conv => lhs; rw [show (16777216 * 16777216 : Nat) = 16777216 * (2 ^ s * 2 ^ (24 - s)) by rw [← hb]]
   grind
  rw [h6, h7]; grind
 rw [h4, Nat.add_mul_div_left _ _ (Nat.two_pow_pos _), ← Nat.add_assoc, Nat.add_mul_mod_self_left]
theorem Abd {v : Value} {m m' : Int} {k : Nat} (h : Wr w v m) (bm : bl m.natAbs ≤ 1099511627776) (bk : k ≤ 9223372036854775807) (hm : m'.natAbs = m.natAbs / 2 ^ k) (hs : m' ≠ 0 → m'.sign = m.sign) (H : ∀ v' w', Ext w w' → Wo w' w.heap.size w'.heap.size v' m' → K v' w') : call P Iy [v, .int .i64 (k : Int)] w K := by
 obtain ⟨s, l, rfl, h1, wl⟩ := h
 have l1 := wl.len bm
 obtain ⟨n1, v1⟩ := wl
 have d1 := n1.1
 refine Aa2 ?_
 unfold MM
 refine F8 fun x1 w1 b1 e1 => ?_
 refine Eb fun x2 w2 ⟨cs, hcs, b2⟩ e2 => ?_
 have b1 := b1.ext e2
 have E2 := e1.trans e2
 have h1 := h1.ext E2
 refine DG Ah AE ?_
 have he := Bg w2 (.cells #[] Ar)
 have hz : OD .i64 Ar (w2.alloc (.cells #[] Ar)) w2.heap.size (.slice (some ⟨w2.heap.size, 0, none⟩) 0 0) [] := B9 w2 [] Ar
 generalize w2.alloc (.cells #[] Ar) = w3 at he hz ⊢
 rw [D8 (b := 24) (by omega) (by decide)]
 have hs24 : k % 24 < 24 := Nat.mod_lt _ (by decide)
 have hdiv : m.natAbs / 2 ^ k = val 16777216 (l.drop (k / 24)) / 2 ^ (k % 24) := by
  rw [p24 k, ← Nat.div_div_eq_div_mul, ← v1]
  congr 1
  by_cases hle : k / 24 ≤ l.length
  ·have hp : 0 < 16777216 ^ (k / 24) := Nat.pow_pos (by decide)
   conv => lhs; rw [Ce _ l hle]
   rw [Nat.add_mul_div_left _ _ hp, Nat.div_eq_of_lt, Nat.zero_add]
   have := B8 (d1.take (k / 24))
   rw [List.length_take, Nat.min_eq_left hle] at this
   exact this
  ·rw [List.drop_eq_nil_of_le (by omega), val]
   exact Nat.div_eq_of_lt (Nat.lt_of_lt_of_le (B8 d1) (Nat.pow_le_pow_right (by decide) (by omega)))
 have dr : Dig 16777216 (l.drop (k / 24)) := d1.drop _
 have hrl : (l.drop (k / 24)).length = l.length - k / 24 := List.length_drop
 have hget : ∀ j, (l.drop (k / 24)).getD j 0 = l.getD (k / 24 + j) 0 := fun j => by simp [List.getD_eq_getElem?_getD, List.getElem?_drop]
 generalize hR : l.drop (k / 24) = R at *
 refine ⟨fun g x y w' => ∃ (j : Nat) (q : List Nat), g + j = R.length ∧ y = .int .i64 ((k / 24 + j : Nat) : Int) ∧ Ext w2 w' ∧ OD .i64 Ar w' w2.heap.size x q ∧ q.length = j ∧ Dig 16777216 q ∧
  val 16777216 q = val 16777216 R / 2 ^ (k % 24) % 16777216 ^ j, ⟨R.length, 0, [], rfl, rfl, he, hz, rfl, (by intro d hd; cases hd), by simp [val, Nat.mod_one]⟩, ?_⟩
 rintro g x y junk w4 ⟨j, q, hg, rfl, e4, oq, hq, dq, hv⟩
 refine wh_l (b1.ext e4) ?_
 rw [(h1.ext e4).row.len Ah, Ai]
 refine Ac (fun hlt => ?_) (fun hge => ?_)
 ·have hi : k / 24 + j < l.length := by omega
  have hj : j < R.length := by omega
  have g1 := Bj d1 hi
  have hRj : R[j] = l[k / 24 + j] := by
   have := hget j
   rw [AY hj, AY hi] at this; exact this
  refine wh_l (b1.ext e4) ?_
  refine (h1.ext e4).at hi Ah AE AB ?_
  have hle := Nat.div_le_self l[k / 24 + j] (2 ^ (k % 24))
  have key := Acu dr hj hs24
  rw [hRj, hget] at key
  rw [C7 (b := 24) (by decide), AJ AB BL, Is (by omega), Cu (s := k % 24) (by simp only [IntKind.bits]; omega), AO (b := 1) (by omega)]
  refine wh_l (b1.ext e4) ?_
  rw [(h1.ext e4).row.len Ah, Ai]
  have app : ∀ d : Nat, d = (l[k / 24 + j] / 2 ^ (k % 24) + l.getD (k / 24 + (j + 1)) 0 * 2 ^ (24 - k % 24)) % 16777216 → bsl P BO 1 [(0, .int .i64 (d : Int))] w4 fun x49_41 w42 =>
    bl2 P .append #[BO, BO] BO [x, x49_41] w42 fun x50_43 w44 =>
    bin P .add Ar false true (.int .i64 ((k / 24 + j : Nat) : Int)) (.int .i64 1) w44 fun x17_45 =>
    ∃ m46, m46 < g ∧ ∃ (j : Nat) (q : List Nat), m46 + j = R.length ∧ x17_45 = .int .i64 ((k / 24 + j : Nat) : Int) ∧ Ext w2 w44 ∧ OD .i64 Ar w44 w2.heap.size x50_43 q ∧ q.length = j ∧ Dig 16777216 q ∧ val 16777216 q = val 16777216 R / 2 ^ (k % 24) % 16777216 ^ j := by
   intro d hd
   refine MA oq Ah AE (by simp only [maxLen]; omega) (by omega) e4.size fun v' w5 o5 g5 => ?_
   rw [AO (b := 1) (by omega)]
   refine ⟨g - 1, by omega, j + 1, _, by omega, rfl, Cg e4 oq g5, o5, by simp [hq], Lm dq (by rw [hd]; exact Nat.mod_lt _ (by decide)), ?_⟩
   rw [De, hq, hv, hd, ← key, Nat.mod_pow_succ]
  refine Ac (fun h2 => ?_) (fun h2 => ?_)
  ·have hi2 : k / 24 + j + 1 < l.length := by omega
   have g2 := Bj d1 hi2
   refine wh_l (b1.ext e4) ?_
   rw [AO (b := 1) (by omega)]
   refine (h1.ext e4).at hi2 Ah AE AB ?_
   have hp2 : 2 ^ (24 - k % 24) ≤ 16777216 := Nat.pow_le_pow_right (n := 2) (by decide) (show 24 - k % 24 ≤ 24 by omega)
   have hmul : l[k / 24 + j + 1] * 2 ^ (24 - k % 24) ≤ 16777215 * 16777216 := Nat.mul_le_mul (by omega) hp2
   rw [C7 (b := 24) (by decide), AC, Ad (by omega) (by omega), show (24 : Int) - ((k % 24 : Nat) : Int) = ((24 - k % 24 : Nat) : Int) by omega, AJ AB BL, Is (by omega),
    VH (s := 24 - k % 24) (by omega) (by omega), BG (by omega), C7 (b := 16777216) (by decide)]
   exact app _ (by rw [show k / 24 + (j + 1) = k / 24 + j + 1 from rfl, AY hi2])
  ·refine app _ ?_
   rw [Ek (by omega : l.length ≤ k / 24 + (j + 1)), Nat.zero_mul, Nat.add_zero]
   exact (Nat.mod_eq_of_lt (by omega)).symm
 ·have hj : R.length ≤ j := by omega
  refine wh_s (b1.ext e4) ?_
  have hval : val 16777216 q = m'.natAbs := by
   rw [hm, hdiv, hv, Nat.mod_eq_of_lt]
   refine Nat.lt_of_le_of_lt (Nat.div_le_self _ _) (Nat.lt_of_lt_of_le (B8 dr) (Nat.pow_le_pow_right (by decide) hj))
  exact En (m := m') (E2.trans e4) (b2.ext e4) hcs e1.size (OD.IR oq) dq hval.symm hs (by omega) H
theorem Yn {n lo hi : Int} (H : K (.bool (decide (lo ≤ n ∧ n ≤ hi))) w) : call P GF [.int .i64 n, .int .i64 lo, .int .i64 hi] w K := by
 refine Abf ?_
 unfold O6
 rw [B6]
 refine ⟨_, fun _ _ _ h => h, ?_⟩
 refine Dn (fun h => ?_) (fun h => ?_)
 ·rw [Dx, An, h, cond_true]
  have h := of_decide_eq_true h
  have e : decide (lo ≤ n ∧ n ≤ hi) = decide (n ≤ hi) := by rw [decide_eq_decide]; exact ⟨fun q => q.2, fun q => ⟨h, q⟩⟩
  rw [e] at H; exact H
 ·rw [h, An, Bool.not_true, cond_false]
  have h := of_decide_eq_false h
  have e : decide (lo ≤ n ∧ n ≤ hi) = false := by rw [decide_eq_false_iff_not]; exact fun q => h q.1
  rw [e] at H; exact H
theorem AhB {v : Value} {want : Bool} {A B : Prop} (hA : A) (hB : B) : grd v want A B := by
 unfold grd
 split
 ·generalize (_ == want) = c
  cases c
  ·exact hB
  ·exact hA
 ·exact hB
theorem len100 {l : List Nat} (h : Norm 16777216 l) : l.length ≤ 100 ↔ bl (val 16777216 l) ≤ 2400 := by
 have h1 := (Norm.len_le (s := 24) (by decide) h)
 have e : val (2 ^ 24) l = val 16777216 l := rfl
 rw [e] at h1
 constructor
 ·intro h2; omega
 ·intro h2
  refine Nat.le_of_not_lt fun hc => ?_
  have := Norm.len_lt (s := 24) (by decide) h (by rintro rfl; simp at hc)
  rw [e] at this
  omega
theorem AcY {v : Value} {m : Int} (h : Wr w v m) (H : ∀ w', Ext w w' → K (.bool (decide (bl m.natAbs ≤ 2400))) w') : call P JS [v] w K := by
 obtain ⟨s, l, rfl, h1, n1, v1⟩ := h
 have hb := h1.bound
 refine Abp ?_
 unfold NZ
 refine F8 fun x1 w1 b1 e1 => ?_
 have h1 := h1.ext e1
 have H1 := H w1 e1
 rw [← v1] at H1
 clear H
 refine wh_l b1 ?_
 rw [h1.row.len Ah]
 refine ⟨fun g x w' => w' = w1 ∧ ∃ i : Nat, x = .int .i64 (i : Int) ∧ g + i = l.length, ⟨l.length, rfl, 0, rfl, by omega⟩, ?_⟩
 rintro g x junk w' ⟨rfl, i, rfl, hg⟩
 rw [Ai]
 refine Ac (fun hlt => ?_) (fun hge => ?_)
 ·have hi : i < l.length := by omega
  refine wh_l b1 ?_
  refine h1.at hi Ah AE AB ?_
  have g1 := Bj n1.1 hi
  refine Yn ?_
  rw [decide_eq_true (by omega), A5, Bool.not_true, Ao, AO (b := 1) (by omega)]
  exact ⟨g - 1, by omega, rfl, i + 1, rfl, by omega⟩
 ·rw [Ae]
  refine Ac (fun h0 => ?_) (fun h0 => ?_)
  ·obtain rfl : l = [] := List.eq_nil_of_length_eq_zero (by omega)
   refine wh_s b1 ?_
   have hm : m = 0 := by simp only [val] at v1; omega
   subst hm
   rw [Ae]
   simpa [val, Lh] using H1
  ·have hl : 0 < l.length := by omega
   have hz : l[l.length - 1] ≠ 0 := by
    intro hz
    have := n1.2
    rw [List.getLast?_eq_getElem?, List.getElem?_eq_getElem (by omega), hz] at this
    exact this rfl
   have hpos := n1.pos (by decide) (by rintro rfl; simp at hl : l ≠ [])
   have hm0 : m ≠ 0 := by omega
   rw [Dx]
   have e100 : decide ((l.length : Int) ≤ 100) = decide (bl (val 16777216 l) ≤ 2400) := by
    rw [decide_eq_decide, ← len100 n1]; omega
   rw [e100]
   generalize decide (bl (val 16777216 l) ≤ 2400) = B at H1 ⊢
   refine ⟨fun x w'' => w'' = w' ∧ (B = true → x = .bool true), ?_, ?_⟩
   ·rintro x junk w2 ⟨rfl, hx⟩
    have hp : pick (.bool B) x (.bool false) = fun K => K (.bool B) := by
     funext K; rw [An]; cases B
     ·rfl
     ·rw [hx rfl]; rfl
    rw [hp]
    refine ⟨fun x w'' => w'' = w2 ∧ (B = true → x = .bool (decide (m.sign = 1))), ?_, ?_⟩
    ·rintro x junk w3 ⟨rfl, hx⟩
     refine ⟨fun y w'' => w'' = w3 ∧ (B = true → m.sign ≠ 1 → y = .bool (decide (m.sign = -1))), ?_, ?_⟩
     ·rintro y junk w4 ⟨rfl, hy⟩
      refine ⟨fun z w'' => w'' = w4 ∧ (B = true → z = .bool true), ?_, ?_⟩
      ·rintro z junk w5 ⟨rfl, hz⟩
       rw [An]
       cases B
       ·exact H1
       ·rw [hz rfl]; exact H1
      ·refine Dn (fun hB => ?_) (fun hB => ?_)
       ·rw [hx hB, An]
        refine ⟨rfl, fun _ => ?_⟩
        by_cases hs : m.sign = 1
        ·rw [decide_eq_true hs]; rfl
        ·rw [decide_eq_false hs, cond_false, hy hB hs]
         have := sign_neg (m := m) (by
          rcases Int.lt_trichotomy m 0 with h | h | h
          ·exact h
          ·exact absurd h hm0
          ·exact absurd (DA h) hs)
         rw [decide_eq_true this]
       ·exact ⟨rfl, fun hB' => by rw [hB'] at hB; cases hB⟩
     ·by_cases hB : B = true
      ·rw [hx hB]
       refine Dn (fun hs => ?_) (fun hs => ?_)
       ·refine wh_s b1 ?_
        rw [Ae]
        exact ⟨rfl, fun _ _ => rfl⟩
       ·exact ⟨rfl, fun _ hs' => absurd (of_decide_eq_true hs) hs'⟩
      ·refine AhB ?_ ⟨rfl, fun hB' => absurd hB' hB⟩
       refine wh_s b1 ?_
       rw [Ae]
       exact ⟨rfl, fun hB' => absurd hB' hB⟩
    ·refine Dn (fun hB => ?_) (fun hB => ?_)
     ·refine wh_s b1 ?_
      rw [Ae]
      exact ⟨rfl, fun _ => rfl⟩
     ·exact ⟨rfl, fun hB' => by rw [hB'] at hB; cases hB⟩
   ·refine Dn (fun hB => ?_) (fun hB => ?_)
    ·refine wh_l b1 ?_
     rw [EF (b := 1) (by omega) (by omega)]
     refine h1.at (i := l.length - 1) (by omega) Ah AE AB ?_
     rw [B5]
     exact ⟨rfl, fun _ => by rw [decide_eq_true (by omega)]⟩
    ·exact ⟨rfl, fun hB' => by rw [hB'] at hB; cases hB⟩
end


section
open Go Go.Vc
variable {w : World} {K : Value → World → Prop}
def Dr (w : World) (v : Value) (m e : Int) : Prop := ∃ s l, v = .agg #[.int .i64 m.sign, s, .int .i64 e] ∧ LR w s l ∧ Wl l m
def DQ (w : World) (v : Value) (lo hi : Nat) (q : Rat) : Prop := ∃ m e, Dr w v m e ∧ Cn lo hi q m e
theorem Dr.ext {w' : World} {v : Value} {m e : Int} (h : Dr w v m e) (he : Ext w w') : Dr w' v m e := let ⟨s, l, h1, h2, h3⟩ := h; ⟨s, l, h1, h2.ext he, h3⟩
theorem DQ.ext {w' : World} {v : Value} {lo hi : Nat} {q : Rat} (h : DQ w v lo hi q) (he : Ext w w') : DQ w' v lo hi q := let ⟨m, e, h1, h2⟩ := h; ⟨m, e, h1.ext he, h2⟩
theorem Cn.mono {lo hi lo' hi' : Nat} {q : Rat} {m e : Int} (h : Cn lo hi q m e) (h1 : lo ≤ lo') (h2 : hi ≤ hi') : Cn lo' hi' q m e := ⟨h.canon, h.bd.mono h1 h2, h.val⟩
theorem Dr.kt {w' : World} {v : Value} {m e : Int} {row : Option Nat} {e' : TypeId} (h : Dr w v m e) (hg : w.grownBy w' row) (ht : Ty w row e') (hne : Ar ≠ e') : Dr w' v m e := let ⟨s, l, h1, h2, h3⟩ := h; ⟨s, l, h1, h2.kt hg ht hne, h3⟩
theorem DQ.mono {v : Value} {lo hi lo' hi' : Nat} {q : Rat} (h : DQ w v lo hi q) (h1 : lo ≤ lo') (h2 : hi ≤ hi') : DQ w v lo' hi' q := let ⟨m, e, a, b⟩ := h; ⟨m, e, a, b.mono h1 h2⟩
theorem Do.Dr {lo hi : Nat} {v : Value} {m e : Int} (h : Do w lo hi v m e) : Dr w v m e := let ⟨s, l, h1, h2, h3⟩ := h; ⟨s, l, h1, LR.of h2.own, h3⟩
theorem Do.mono {lo hi lo' hi' : Nat} {v : Value} {m e : Int} (h : Do w lo hi v m e) (h1 : lo' ≤ lo) (h2 : hi ≤ hi') : Do w lo' hi' v m e := let ⟨s, l, a, b, c⟩ := h; ⟨s, l, a, b.mono h1 h2, c⟩
theorem Dr.zero (w : World) : Dr w (.agg #[.int .i64 0, .slice none 0 0, .int .i64 0]) 0 0 := ⟨_, [], rfl, LR.nil _, Wl.zero⟩
def dv3 (n : Int) (s : Value) (e : Int) : List Value := [.int .i64 n, s, .int .i64 e]
section
variable {base : Nat} {x s : Value} {n e : Int} {K : Value → Prop}
theorem EG (h : Bx w base Al x (dv3 n s e)) (H : K (.agg #[.int .i64 n, s, .int .i64 e])) : ld P Al x w K :=
 h.get BJ rfl Bs rfl H
theorem dy_e (h : Bx w base Al x (dv3 n s e)) (H : K (.int .i64 e)) : fda P Al x 1 w (fun a => ld P Ar a w K) :=
 h.fld (off := 2) rfl BJ rfl AE AB rfl H
theorem dy_w (h : Bx w base Al x (dv3 n s e)) (H : K (.agg #[.int .i64 n, s])) : fda P Al x 0 w (fun a => ld P Aj a w K) := by
 obtain ⟨g, rfl, hc⟩ := h.cell
 rw [Je, Mt]
 refine (Ace (cs := [.int .i64 n, s]) Bh rfl AK rfl (fun j u hu => ?_)) ▸ H
 rw [Addr.add_lit, Nat.zero_add]
 refine (hc j u ?_).1
 match j, hu with
 | 0, hu => exact hu
 | 1, hu => exact hu
 | _ + 2, hu => simp at hu
theorem NE (h : Bx w base Al x (dv3 n s e)) (H : K (.int .i64 n)) : fda P Al x 0 w (fun a => fda P Aj a 0 w (fun b => ld P Ar b w K)) := by
 obtain ⟨g, rfl, hc⟩ := h.cell
 rw [Je, Mt, Zc, Mt, F4 AB rfl (hc 0 _ rfl).1]
 exact H
theorem Ail (h : Bx w base Al x (dv3 n s e)) (H : K s) : fda P Al x 0 w (fun a => fda P Aj a 1 w (fun b => ld P BO b w K)) := by
 obtain ⟨g, rfl, hc⟩ := h.cell
 rw [Je, Mt, Yh, Addr.add_lit, F4 Ah rfl (hc 1 _ rfl).1]
 exact H
theorem F5 {KW : Value → World → Prop} (H : ∀ x w', Bx w' w.heap.size Al x (dv3 n s e) → Ext w w' → KW x w') : bx P Al (.agg #[.int .i64 n, s, .int .i64 e]) w KW :=
 Ix fun x w' b e _ => H x w' b e
theorem Ez {KW : Value → World → Prop} (H : ∀ x w', (∃ cs, cs.length = 3 ∧ Bx w' w.heap.size Al x cs) → Ext w w' → KW x w') : alc P Al w KW :=
 BI Bs fun x w' b e _ => H x w' ⟨_, rfl, b⟩ e
end
theorem Dr.put {base : Nat} {x v : Value} {m e : Int} {cs : List Value} {KW : World → Prop} (h : Dr w v m e) (hb : Bx w base Al x cs) (hl : cs.length = 3) (H : ∀ w', (∃ s, v = .agg #[.int .i64 m.sign, s, .int .i64 e] ∧ Bx w' base Al x (dv3 m.sign s e)) → w.grownBy w' (blk x) → KW w') : sto P Al x v w KW := by
 obtain ⟨s, l, rfl, h1, hw⟩ := h
 exact hb.put Bs (ds := dv3 m.sign s e) rfl hl (U9 rfl (Hu (IR.sl h1.toIR)) rfl) fun w' b' g' => H w' ⟨s, rfl, b'⟩ g'
theorem WU {base : Nat} {x v : Value} {m e : Int} {lo hi : Nat} {cs : List Value} (hb : Bx w base Al x cs) (hl : cs.length = 3) (hv : Do w lo hi v m e) (H : ∀ w', w.grownBy w' (blk x) → Do w' lo hi v m e → K v w') :
  sto P Al x v w fun w' => ldc P Al x w' fun r => K r w' := by
 obtain ⟨s, l, rfl, ho, hw⟩ := hv
 refine hb.put Bs (ds := dv3 m.sign s e) rfl hl (U9 rfl (Ai6 ho) rfl) fun w' b' g' => ?_
 exact b'.getc BJ rfl Bs rfl (H w' g' ⟨s, l, rfl, ⟨AX ho.own g' (Ty.box hb) (by decide), ho.top⟩, hw⟩)
theorem AfU {v : Value} {m e : Int} {lo hi : Nat} (h : Wr w v m) (hb : Bd lo hi m e) (hl : lo ≤ 1000000000) (hh : hi ≤ 1000000000)
  (H : ∀ v' w' m' e', Ext w w' → Do w' w.heap.size w'.heap.size v' m' e' → Cn lo hi (dy m e) m' e' → K v' w') : call P Cp [v, .int .i64 e] w K := by
 obtain ⟨s, l, rfl, h1, wl⟩ := h
 have hbl := hb.bl
 have := hb.low; have := hb.top
 refine YT ?_
 unfold Lr
 refine F8 fun x1 w1 b1 e1 => ?_
 refine Ez fun x2 w2 ⟨cs, hcs, b2⟩ e2 => ?_
 have b1 := b1.ext e2
 have E2 := e1.trans e2
 refine wh_s b1 ?_
 rw [Ae]
 refine Ac (fun h0 => ?_) (fun h0 => ?_)
 ·have hm : m = 0 := Int.sign_eq_zero_iff_zero.1 h0
  rw [Qc]
  refine WU (lo := w.heap.size) (hi := w2.heap.size) (m := 0) (e := 0) b2 hcs (Do.zero _ _ _) fun w3 g3 h3 => ?_
  have e3 : Ext w w3 := Ab E2 (fun g hg => Nat.le_trans e1.size (b2.blk_lt hg).1) g3
  refine H _ _ _ _ e3 (h3.mono (Nat.le_refl _) g3.size) ⟨.inl ⟨rfl, rfl⟩, Bd.zero _ _, ?_⟩
  rw [hm, Dv, Dv]
 ·have hm : m ≠ 0 := by rintro rfl; exact h0 rfl
  refine Mf b1 ?_
  refine Af7 ⟨s, l, rfl, h1.ext E2, wl⟩ hm (by omega) fun k w3 e3 hk hkb => ?_
  refine Mf (b1.ext e3) ?_
  obtain ⟨t1, t2⟩ := Afr hm hk
  have hm' : m / 2 ^ k ≠ 0 := by intro h0; rw [h0] at t2; cases t2
  have hab : (m / 2 ^ k).natAbs = m.natAbs / 2 ^ k := by
   have : m.natAbs = (m / 2 ^ k).natAbs * 2 ^ k := by
    conv => lhs; rw [← t1]
    rw [Int.natAbs_mul, CE]
   rw [this, Nat.mul_div_cancel _ (Nat.two_pow_pos _)]
  have hsg : (m / 2 ^ k).sign = m.sign := by
   conv => rhs; rw [← t1]
   rw [Int.sign_mul, Int.sign_eq_one_of_pos (Int.pow_pos (by decide)), Int.mul_one]
  refine Abd (m' := m / 2 ^ k) ⟨s, l, rfl, h1.ext (E2.trans e3), wl⟩ (by omega) (by omega) hab (fun _ => hsg) fun v' w4 e4 h4 => ?_
  obtain ⟨s', l', rfl, ho, hw⟩ := h4
  rw [Aw, Ad (by omega) (by omega), Xd (Ab7 ho)]
  have b2 := (b2.ext e3).ext e4
  have hD : Do w4 w.heap.size w4.heap.size (.agg #[.int .i64 (m / 2 ^ k).sign, s', .int .i64 (e + k)]) (m / 2 ^ k) (e + k) := ⟨s', l', rfl, ho.mono (E2.trans e3).size (Nat.le_refl _), hw⟩
  refine WU b2 hcs hD fun w5 g5 h5 => ?_
  have e5 : Ext w w5 := Ab (E2.trans (e3.trans e4)) (fun g hg => Nat.le_trans e1.size (b2.blk_lt hg).1) g5
  exact H _ _ _ _ e5 (h5.mono (Nat.le_refl _) g5.size) (Cn.odd hb hm hk)
theorem NW {base : Nat} {x v : Value} {m e : Int} {lo hi : Nat} {cs : List Value} {w0 : World} {q : Rat} (he : Ext w0 w) (hbx : Bx w base Al x cs) (hcs : cs.length = 3) (hbase : w0.heap.size ≤ base) (h : Wr w v m) (hb : Bd lo hi m e) (hl : lo ≤ 1000000000) (hh : hi ≤ 1000000000) (hq : q = dy m e)
  (H : ∀ v' w' m' e', Ext w0 w' → Do w' w0.heap.size w'.heap.size v' m' e' → Cn lo hi q m' e' → K v' w') : call P Cp [v, .int .i64 e] w fun r w1 => sto P Al x r w1 fun w2 => ldc P Al x w2 fun r => K r w2 := by
 subst hq
 refine AfU h hb hl hh fun v' w1 m' e' e1 h1 hc => ?_
 have b1 := hbx.ext e1
 refine WU b1 hcs h1 fun w2 g2 h2 => ?_
 have e2 : Ext w0 w2 := Ab (he.trans e1) (fun g hg => Nat.le_trans hbase (b1.blk_lt hg).1) g2
 exact H _ _ _ _ e2 (h2.mono he.size g2.size) hc
theorem AgC {v : Value} {lo hi : Nat} {q : Rat} (h : DQ w v lo hi q) (hl : lo ≤ 1000000000) (hh : hi ≤ 1000000000) (H : ∀ v' w', Ext w w' → DQ w' v' lo hi (-q) → K v' w') : call P Nd [v] w K := by
 obtain ⟨m, e, ⟨s, l, rfl, h1, wl⟩, hc⟩ := h
 have hbl := hc.bd.bl
 refine ZZ ?_
 unfold Nc
 refine F5 fun x1 w1 b1 e1 => ?_
 refine Ez fun x2 w2 ⟨cs, hcs, b2⟩ e2 => ?_
 have b1 := b1.ext e2
 have E2 := e1.trans e2
 refine dy_w b1 ?_
 refine dy_e b1 ?_
 refine AhO ⟨s, l, rfl, h1.ext E2, wl⟩ (by omega) fun v' w3 e3 h3 => ?_
 refine ⟨e3, ?_⟩
 obtain ⟨s', l', rfl, ho, hw⟩ := h3
 rw [Xd (Ab7 ho)]
 have b2 := b2.ext e3
 have hD : Do w3 w2.heap.size w3.heap.size (.agg #[.int .i64 (-m).sign, s', .int .i64 e]) (-m) e := ⟨s', l', rfl, ho, hw⟩
 refine WU b2 hcs hD fun w4 g4 h4 => ?_
 have e4 : Ext w w4 := Ab (E2.trans e3) (fun g hg => Nat.le_trans e1.size (b2.blk_lt hg).1) g4
 refine H _ _ e4 ⟨-m, e, h4.Dr, ?_, hc.bd.neg, by rw [Fi, hc.val]⟩
 rcases hc.canon with ⟨ha, hb⟩ | ha
 ·exact .inl ⟨by omega, hb⟩
 ·exact .inr (by omega)
theorem VY {u v : Value} {lo hi : Nat} {q r : Rat} (hu : DQ w u lo hi q) (hv : DQ w v lo hi r) (hl : lo ≤ 100000000) (hh : hi ≤ 100000000)
  (H : ∀ v' w', Ext w w' → DQ w' v' lo (hi + 1) (q + r) → K v' w') : call P FT [u, v] w K := by
 obtain ⟨m, e, ⟨s, l, rfl, h1, wl⟩, hc⟩ := hu
 obtain ⟨n, g, ⟨t, l', rfl, h2, wl'⟩, hc'⟩ := hv
 have hbl := hc.bd.bl
 have hbl' := hc'.bd.bl
 have := hc.bd.low; have := hc.bd.top; have := hc'.bd.low; have := hc'.bd.top
 have H' : ∀ v' w' m' e', Ext w w' → Do w' w.heap.size w'.heap.size v' m' e' → Cn lo (hi + 1) (q + r) m' e' → K v' w' := fun v' w' m' e' he hd hc => H v' w' he ⟨m', e', hd.Dr, hc⟩
 refine ZM ?_
 unfold Nr
 refine F5 fun x1 w1 b1 e1 => ?_
 refine F5 fun x2 w2 b2 e2 => ?_
 refine Ez fun x3 w3 ⟨cs, hcs, b3⟩ e3 => ?_
 have b1 := (b1.ext e2).ext e3
 have b2 := b2.ext e3
 have E2 := e1.trans e2
 have E3 := E2.trans e3
 have h1 := h1.ext E3
 have h2 := h2.ext E3
 refine NE b1 ?_
 rw [Ae]
 refine Ac (fun h0 => ?_) (fun h0 => ?_)
 ·have hm : m = 0 := Int.sign_eq_zero_iff_zero.1 h0
  refine dy_w b2 ?_
  refine dy_e b2 ?_
  refine NW E3 b3 hcs E2.size ⟨t, l', rfl, h2, wl'⟩ (hc'.bd.mono (Nat.le_refl _) (Nat.le_succ _)) (by omega) (by omega) ?_ H'
  rw [hc.val, hm, Dv, Rat.zero_add, hc'.val]
 ·have hm : m ≠ 0 := by rintro rfl; exact h0 rfl
  refine NE b2 ?_
  rw [Ae]
  refine Ac (fun h0' => ?_) (fun h0' => ?_)
  ·have hn : n = 0 := Int.sign_eq_zero_iff_zero.1 h0'
   refine dy_w b1 ?_
   refine dy_e b1 ?_
   refine NW E3 b3 hcs E2.size ⟨s, l, rfl, h1, wl⟩ (hc.bd.mono (Nat.le_refl _) (Nat.le_succ _)) (by omega) (by omega) ?_ H'
   rw [hc'.val, hn, Dv, Rat.add_zero, hc.val]
  ·have hn : n ≠ 0 := by rintro rfl; exact h0' rfl
   refine dy_e b1 ?_
   refine dy_e b2 ?_
   rw [Ge]
   refine dy_w b1 ?_
   refine dy_e b1 ?_
   rw [AC, Ad (by omega) (by omega), show e - min e g = (((e - min e g).toNat : Nat) : Int) by omega]
   refine dy_w b2 ?_
   refine dy_e b2 ?_
   rw [AC, Ad (by omega) (by omega), show g - min e g = (((g - min e g).toNat : Nat) : Int) by omega]
   have hs1 := JL m (e - min e g).toNat
   have hs2 := JL n (g - min e g).toNat
   have hs3 := (hc.bd.add hc'.bd).bl
   refine T7 ⟨s, l, rfl, h1, wl⟩ (by omega) (by omega) fun v1 w4 e4 h4 => ?_
   refine ⟨e4, ?_⟩
   refine T7 ⟨t, l', rfl, h2.ext e4, wl'⟩ (by omega) (by omega) fun v2 w5 e5 h5 => ?_
   refine AaR (h4.ext e5).Wr h5.Wr (by omega) (by omega) fun v3 w6 e6 h6 => ?_
   refine NW (m := addM m e n g) (E3.trans (e4.trans (e5.trans e6))) (((b3.ext e4).ext e5).ext e6) hcs E2.size h6.Wr (hc.bd.add hc'.bd) (by omega) (by omega) ?_ H'
   rw [XY, hc.val, hc'.val]
theorem VO {u v : Value} {lo hi : Nat} {q r : Rat} (hu : DQ w u lo hi q) (hv : DQ w v lo hi r) (hl : lo ≤ 100000000) (hh : hi ≤ 100000000)
  (H : ∀ v' w', Ext w w' → DQ w' v' lo (hi + 1) (q - r) → K v' w') : call P FZ [u, v] w K := by
 obtain ⟨m, e, ⟨s, l, rfl, h1, wl⟩, hc⟩ := hu
 obtain ⟨n, g, ⟨t, l', rfl, h2, wl'⟩, hc'⟩ := hv
 refine Aaq ?_
 unfold Nt
 refine F5 fun x1 w1 b1 e1 => ?_
 refine F5 fun x2 w2 b2 e2 => ?_
 refine Ez fun x3 w3 ⟨cs, hcs, b3⟩ e3 => ?_
 have E2 := e1.trans e2
 have E3 := E2.trans e3
 refine EG ((b1.ext e2).ext e3) ?_
 refine EG (b2.ext e3) ?_
 refine AgC ⟨n, g, ⟨t, l', rfl, h2.ext E3, wl'⟩, hc'⟩ (by omega) (by omega) fun v1 w4 e4 n4 => ?_
 refine ⟨e4, ?_⟩
 refine VY ⟨m, e, ⟨s, l, rfl, h1.ext (E3.trans e4), wl⟩, hc⟩ n4 hl hh fun v2 w5 e5 n5 => ?_
 obtain ⟨m', e', hd', hc2⟩ := n5
 have b3 := (b3.ext e4).ext e5
 refine hd'.put b3 hcs fun w6 ⟨s', hv', b6⟩ g6 => ?_
 have h6 := hd'.kt g6 (Ty.box b3) (by decide)
 subst hv'
 refine b6.getc BJ rfl Bs rfl ?_
 have e6 : Ext w w6 := Ab (E3.trans (e4.trans e5)) (fun g hg => Nat.le_trans E2.size (b3.blk_lt hg).1) g6
 exact H _ _ e6 ⟨m', e', h6, by rw [Rat.sub_eq_add_neg]; exact hc2⟩
theorem AhI {u v : Value} {lo hi lo' hi' : Nat} {q r : Rat} (hu : DQ w u lo hi q) (hv : DQ w v lo' hi' r) (hl : lo ≤ 100000000) (hh : hi ≤ 100000000) (hl' : lo' ≤ 100000000) (hh' : hi' ≤ 100000000)
  (H : ∀ v' w', Ext w w' → DQ w' v' (lo + lo') (hi + hi') (q * r) → K v' w') : call P Nf [u, v] w K := by
 obtain ⟨m, e, ⟨s, l, rfl, h1, wl⟩, hc⟩ := hu
 obtain ⟨n, g, ⟨t, l', rfl, h2, wl'⟩, hc'⟩ := hv
 have hbl := hc.bd.bl
 have hbl' := hc'.bd.bl
 have := hc.bd.low; have := hc.bd.top; have := hc'.bd.low; have := hc'.bd.top
 refine Aa5 ?_
 unfold Nh
 refine F5 fun x1 w1 b1 e1 => ?_
 refine F5 fun x2 w2 b2 e2 => ?_
 refine Ez fun x3 w3 ⟨cs, hcs, b3⟩ e3 => ?_
 have b1 := (b1.ext e2).ext e3
 have b2 := b2.ext e3
 have E2 := e1.trans e2
 have E3 := E2.trans e3
 refine dy_w b1 ?_
 refine dy_w b2 ?_
 refine dy_e b1 ?_
 refine dy_e b2 ?_
 rw [Aw, Ad (by omega) (by omega)]
 refine Ahm ⟨s, l, rfl, h1.ext E3, wl⟩ ⟨t, l', rfl, h2.ext E3, wl'⟩ (by omega) (by omega) fun v1 w4 e4 h4 => ?_
 refine ⟨e4, ?_⟩
 refine NW (E3.trans e4) (b3.ext e4) hcs E2.size h4.Wr (hc.bd.mul hc'.bd) (by omega) (by omega) ?_ fun v' w' m' e' he hd hc => H v' w' he ⟨m', e', hd.Dr, hc⟩
 rw [← Qu, hc.val, hc'.val]
end


section
open Go Go.Vc Ieee
variable {w : World} {K : Value → World → Prop}
theorem Agj {a b x y k : Nat} (ha : a < 2 ^ k) (hb : b < 2 ^ k) : (2 ^ k * x + a) ^^^ (2 ^ k * y + b) = 2 ^ k * (x ^^^ y) + (a ^^^ b) := by
 have hab : a ^^^ b < 2 ^ k := Nat.xor_lt_two_pow ha hb
 apply Nat.eq_of_testBit_eq
 intro j
 rw [Nat.testBit_xor, Nat.testBit_two_pow_mul_add _ ha, Nat.testBit_two_pow_mul_add _ hb, Nat.testBit_two_pow_mul_add _ hab]
 split <;> rw [Nat.testBit_xor]
theorem neg32 (b : Nat) (h : b < 4294967296) : Op.negFloat .f32 b = if b < 2147483648 then b + 2147483648 else b - 2147483648 := by
 show b ^^^ 2 ^ 31 = _
 have h1 := Agj (a := b % 2 ^ 31) (b := 0) (x := b / 2 ^ 31) (y := 1) (k := 31) (Nat.mod_lt _ (by decide)) (by decide)
 rw [Nat.div_add_mod, Nat.mul_one, Nat.add_zero, Nat.xor_zero] at h1
 rw [h1]
 have h31 : (2 : Nat) ^ 31 = 2147483648 := by decide
 rw [h31]
 split
 ·rename_i hlt
  rw [Nat.div_eq_of_lt hlt, Nat.mod_eq_of_lt hlt]
  have : (0 ^^^ 1 : Nat) = 1 := by decide
  rw [this]; omega
 ·have h2 : b / 2147483648 = 1 := by omega
  rw [h2]
  have : (1 ^^^ 1 : Nat) = 0 := by decide
  rw [this]; omega
theorem Ka {b : Nat} (h : Vc.Fin single b) (hb : b < 4294967296) : single.read b = .number (b / 2147483648 % 2 == 1) (fM b).natAbs (fE b) := by
 unfold Go.Vc.Fin at h
 rw [s_sw, LO] at h
 unfold Format.read
 rw [s_sw, Aeu, LO, show single.leastPlace = -149 from by decide]
 simp only
 have hM : (fM b).natAbs = b % 8388608 + (if 0 < b / 8388608 % 256 then 8388608 else 0) := by
  unfold fM; simp only
  generalize (if 0 < b / 8388608 % 256 then 8388608 else 0) = x
  split <;> omega
 rw [hM]
 have e1 : b % 2147483648 % 8388608 = b % 8388608 := by omega
 have e2 : b % 2147483648 / 8388608 = b / 8388608 % 256 := by omega
 by_cases h0 : b % 2147483648 < 8388608
 ·have h3 : ¬ 0 < b / 8388608 % 256 := by omega
  rw [if_pos h0, if_neg h3]
  unfold fE
  rw [if_neg h3]
  congr 1
  omega
 ·have h3 : 0 < b / 8388608 % 256 := by omega
  rw [if_neg h0, if_pos h, if_pos h3]
  unfold fE
  rw [if_pos h3]
  congr 1
  ·omega
  ·omega
theorem Aeb {b : Nat} (hb : b < 4294967296) : (fM b < 0 → 2147483648 ≤ b) ∧ (0 < fM b → b < 2147483648) := by
 unfold fM
 simp only
 constructor
 ·intro h
  split at h
  ·omega
  ·omega
 ·intro h
  split at h
  ·split at h <;> omega
  ·omega
theorem Ahw (m : Int) (k : Nat) : compare (m * 2 ^ k) 0 = compare m 0 := by
 have hp : (0 : Int) < 2 ^ k := Int.pow_pos (by decide)
 rcases Int.lt_trichotomy m 0 with h | h | h
 ·have h1 := Int.mul_neg_of_neg_of_pos h hp
  rw [Int.compare_eq_lt.2 h, Int.compare_eq_lt.2 h1]
 ·subst h; simp
 ·have h1 := Int.mul_pos h hp
  rw [Int.compare_eq_gt.2 h, Int.compare_eq_gt.2 h1]
theorem R6 {b : Nat} (h : Vc.Fin single b) (hb : b < 4294967296) : single.order b 0 = some (compare (fM b) 0) := by
 unfold Format.order
 rw [Ka h hb, show single.read 0 = .number false 0 (-149) from by decide]
 simp only [Datum.order, MD]
 congr 1
 simp only [Bool.false_eq_true, if_false, Int.mul_zero, Int.zero_mul, show ((0 : Nat) : Int) = 0 from rfl]
 rw [Ahw]
 congr 1
 have := Aeb hb
 by_cases hs : b / 2147483648 % 2 = 1
 ·simp only [hs, beq_self_eq_true, if_true]
  have : ¬ 0 < fM b := fun q => by have := this.2 q; omega
  omega
 ·have hs' : (b / 2147483648 % 2 == 1) = false := by simpa using hs
  simp only [hs', Bool.false_eq_true, if_false]
  have : ¬ fM b < 0 := fun q => by have := this.1 q; omega
  omega
theorem AgA {b : Nat} (h : Vc.Fin single b) (hb : b < 4294967296) (H : ∀ a : Nat, a < 4294967296 → Vc.Fin single a → single.read a = .number false (fM b).natAbs (fE b) → K (fl a) w) : call P MS [fl b] w K := by
 refine Aap ?_
 unfold MX
 have ho := R6 h hb
 have hs := Aeb hb
 have hr := Ka h hb
 rw [VG, show FloatKind.f32.format.order b 0 = some (compare (fM b) 0) from ho]
 by_cases h1 : fM b < 0
 ·rw [Int.compare_eq_lt.2 h1]
  refine A9 rfl ?_
  rw [Dz, neg32 b hb]
  have h2 := hs.1 h1
  rw [if_neg (by omega)]
  have hf' : Vc.Fin single (b - 2147483648) := by unfold Go.Vc.Fin at h ⊢; rw [s_sw, LO] at *; omega
  refine H _ (by omega) hf' ?_
  rw [Ka hf' (by omega)]
  have e1 : fM (b - 2147483648) = -(fM b) := by
   unfold fM
   have a1 : (b - 2147483648) % 8388608 = b % 8388608 := by omega
   have a2 : (b - 2147483648) / 8388608 % 256 = b / 8388608 % 256 := by omega
   have a3 : ¬ (b - 2147483648) / 2147483648 % 2 = 1 := by omega
   have a4 : b / 2147483648 % 2 = 1 := by omega
   simp only [a1, a2, a3, a4, if_false, if_true]
   omega
  have e2 : fE (b - 2147483648) = fE b := by
   unfold fE
   have a2 : (b - 2147483648) / 8388608 % 256 = b / 8388608 % 256 := by omega
   rw [a2]
  have e3 : ((b - 2147483648) / 2147483648 % 2 == 1) = false := by
   have : ¬ (b - 2147483648) / 2147483648 % 2 = 1 := by omega
   simpa using this
  rw [e1, e2, e3, Int.natAbs_neg]
 ·have hn : ¬ (compare (fM b) 0 = .lt) := fun q => h1 (Int.compare_eq_lt.1 q)
  refine AD (by simpa using hn) ?_
  rw [DO, show FloatKind.f32.format.order b 0 = some (compare (fM b) 0) from ho]
  by_cases h2 : fM b = 0
  ·rw [h2]
   refine A9 rfl ?_
   refine H 0 (by decide) (by decide) ?_
   have hE : fE b = -149 := by
    unfold fM at h2
    unfold fE
    simp only at h2
    have : ¬ 0 < b / 8388608 % 256 := by
     intro h3
     simp only [h3, if_true] at h2
     split at h2 <;> omega
    rw [if_neg this]; rfl
   rw [hE, h2]; decide
  ·have hn2 : ¬ (compare (fM b) 0 = .eq) := fun q => h2 (Int.compare_eq_eq.1 q)
   refine AD (by simpa using hn2) ?_
   refine H b hb h ?_
   rw [hr]
   have : b / 2147483648 % 2 ≠ 1 := by have := hs.2 (by omega); omega
   have e3 : (b / 2147483648 % 2 == 1) = false := by simpa using this
   rw [e3]
abbrev W64 := W double
theorem two64 : (4611686018427387904 : Nat) = W double false 1 1 := by decide
theorem p2464 : (4715268809856909312 : Nat) = W double false 16777216 0 := by decide
theorem Ma {s : Bool} {m : Nat} {e k : Int} (h1 : bl m ≤ 53) (h2 : -1000 ≤ e) (h3 : e ≤ 900) (h4 : -1000 ≤ e + k) (h5 : e + k ≤ 900) (H : K (.float .f64 (W64 s m (e + k))) w) : call P DL [.float .f64 (W64 s m e), .int .i64 k] w K := by
 have hk : -2000 ≤ k ∧ k ≤ 2000 := by omega
 have has1 : Has double 1 1 := Has64 (by decide) (by decide) (by decide)
 refine Ya ?_
 unfold K3
 refine ⟨fun g x y w' => w' = w ∧ ∃ j : Nat, x = .float .f64 (W64 s m (e + j)) ∧ y = .int .i64 (k - j) ∧ g + j = k.toNat, ⟨k.toNat, rfl, 0, by simp, by simp, rfl⟩, ?_⟩
 rintro g x y junk w' ⟨rfl, j, rfl, rfl, hg⟩
 rw [Aq]
 refine Ac (fun hpos => ?_) (fun hneg => ?_)
 ·refine AA (by simp) fun r hr => ?_
  have hm := AaA (s := s) (t := false) hsd (Has64 (m := m) (e := e + j) h1 (by omega) (by omega)) has1
  rw [← two64] at hm
  have := Dw hr (show floatBits .mul .f64 _ _ = some _ from hm)
  subst this
  rw [AC, Ad (by omega) (by omega), Bool.xor_false, Nat.mul_one]
  exact ⟨g - 1, by omega, rfl, j + 1, by congr 2; omega, by congr 1; omega, by omega⟩
 ·have hj : (j : Int) = max k 0 := by omega
  refine ⟨fun g x y w'' => w'' = w' ∧ ∃ i : Nat, x = .float .f64 (W64 s m (e + j - i)) ∧ y = .int .i64 (k - j + i) ∧ g + i = (-k).toNat, ⟨(-k).toNat, rfl, 0, by simp, by simp, rfl⟩, ?_⟩
  rintro g' x y junk w'' ⟨rfl, i, rfl, rfl, hg'⟩
  rw [Ai]
  refine Ac (fun hlt => ?_) (fun hge => ?_)
  ·refine AA (by simp) fun r hr => ?_
   have hm := Ado (s := s) hsd (by decide) (Has64 (m := m) (e := e + j - i) h1 (by omega) (by omega)) has1
   rw [← two64] at hm
   have := Dw hr (show floatBits .quo .f64 _ _ = some _ from hm)
   subst this
   rw [Aw, Ad (by omega) (by omega)]
   exact ⟨g' - 1, by omega, rfl, i + 1, by congr 2; omega, by congr 1; omega, by omega⟩
  ·rw [show e + (j : Int) - i = e + k by omega]
   exact H
theorem Jg {m n e : Int} : dy m e ≤ dy n e ↔ m ≤ n := by
 rw [Rat.le_iff_sub_nonneg, Rat.sub_eq_add_neg, ← Fi, QW, Afw]; omega
theorem AhJ {m n : Nat} {e g : Int} (h1 : Has double m e) (h2 : Has double n g) : (double.order (W64 false m e) (W64 false n g) == some .gt || double.order (W64 false m e) (W64 false n g) == some .eq) = decide (dy n g ≤ dy m e) := by
 obtain ⟨k, l, r1, s1⟩ := CK (s := false) hsd h1
 obtain ⟨k', l', r2, s2⟩ := CK (s := false) hsd h2
 unfold Format.order
 rw [r1, r2]
 simp only [Datum.order, MD, Bool.false_eq_true, if_false, Int.one_mul]
 have a1 : dy ((k : Int) * 2 ^ (l - min l l').toNat) (min l l') = dy m e := by rw [s1.dy]; exact BE (by omega)
 have a2 : dy ((k' : Int) * 2 ^ (l' - min l l').toNat) (min l l') = dy n g := by rw [s2.dy]; exact BE (by omega)
 rw [← a1, ← a2]
 generalize (k : Int) * 2 ^ (l - min l l').toNat = x
 generalize (k' : Int) * 2 ^ (l' - min l l').toNat = y
 rw [Bool.eq_iff_iff, decide_eq_true_eq, Jg]
 simp only [Bool.or_eq_true, beq_iff_eq, Option.some.injEq, Int.compare_eq_gt, Int.compare_eq_eq]
 omega
theorem Ajg {m : Nat} (h : Has double m 0) : (double.read (W64 false m 0)).toInt .zero = some (m : Int) := by
 obtain ⟨k, l, r1, s1⟩ := CK (s := false) hsd h
 rw [r1]
 unfold Datum.toInt Datum.integral
 simp only [MD, Bool.false_eq_true, if_false, Int.one_mul, Int.pow_zero, Int.mul_one, Nat.shiftLeft_eq]
 congr 2
 obtain ⟨i, j, a, b⟩ := s1
 by_cases hl : 0 ≤ l
 ·rw [show (-l).toNat = 0 by omega, D6]
  have : i = j - l.toNat ∧ l.toNat ≤ j ∨ True := .inr trivial
  have hp := Nat.two_pow_pos i
  refine Nat.eq_of_mul_eq_mul_right hp ?_
  rw [b, Nat.mul_assoc, ← Nat.pow_add]
  congr 2
  omega
 ·rw [show l.toNat = 0 by omega, Nat.pow_zero, Nat.mul_one]
  have hk : k = m * 2 ^ (-l).toNat := by
   refine Nat.eq_of_mul_eq_mul_right (Nat.two_pow_pos j) ?_
   rw [← b, Nat.mul_assoc, ← Nat.pow_add]
   congr 2
   omega
  rw [hk]
  by_cases hm : m = 0
  ·subst hm
   rw [Nat.zero_mul]
   unfold Toward.cut
   simp
  ·exact Tb .zero false m _ (fun h => absurd h hm)
set_option maxRecDepth 20000 in
theorem Ac7 {s d : TypeId} {b : Nat} {n : Int} {K : Value → Prop} (hs : P.underlying s = some (.float .f64)) (hd : P.underlying d = some (.int .i64)) (h : (double.read b).toInt .zero = some n) (h1 : -9223372036854775808 ≤ n) (h2 : n ≤ 9223372036854775807) (H : K (.int .i64 n)) : rcnv P s d (.float .f64 b) w K := by
 unfold rcnv convert
 rw [CG]
 refine Cl _ (A4 hs) ?_
 rw [CG]
 refine Cl _ (A4 hd) ?_
 simp only [Conv.floatToInt]
 have : (FloatKind.f64.decode b).toInt .zero = some n := h
 rw [this]
 simp only
 rw [if_pos (show IntKind.i64.min ≤ n ∧ n ≤ IntKind.i64.max from ⟨by rw [show IntKind.i64.min = -9223372036854775808 from rfl]; exact h1, by rw [show IntKind.i64.max = 9223372036854775807 from rfl]; exact h2⟩)]
 exact H
theorem Aee {a m d j : Nat} (h : a ≤ m) (hj : j < d) : a * 2 ≤ m * 2 ^ (d - j) := by
 have h2 : 2 ^ 1 ≤ 2 ^ (d - j) := Nat.pow_le_pow_right (by decide) (by omega)
 exact Nat.mul_le_mul h h2
theorem Akt {b : Nat} (h : Vc.Fin single b) (hd : -149 < fE b) : 8388608 ≤ (fM b).natAbs := by
 have hx : 0 < b / 8388608 % 256 := by
  refine Nat.pos_of_ne_zero fun h0 => ?_
  unfold fE at hd
  rw [if_neg (by omega)] at hd
  omega
 unfold fM
 simp only [hx, if_true]
 split <;> omega
set_option maxRecDepth 20000 in
theorem Aes {b : Nat} (h : Vc.Fin single b) (hb : b < 4294967296) (H : K (.tuple #[.int .i64 ((fM b).natAbs : Int), .int .i64 (fE b)]) w) : call P J4 [fl b] w K := by
 refine Wx ?_
 unfold JD
 refine AgA h hb fun a ha hfa hra => ?_
 have hM := QO b
 have hbl : bl (fM b).natAbs ≤ 24 := Bf.2 (by exact hM)
 have hE : -149 ≤ fE b ∧ fE b ≤ 104 := by have := f_bd h; have h1 := this.low; unfold fE at *; rw [Ow] at h; split <;> omega
 refine AdS BC Cv fun r hr => ?_
 have hw : r = W64 false (fM b).natAbs (fE b) := by
  rcases hr with ⟨_, hr⟩ | ⟨hn, _⟩
  ·rw [hr]; unfold wid; rw [hra]; rfl
  ·exact absurd hfa (YA hn)
 subst hw
 refine Ma (by omega) (by omega) (by omega) (by omega) (by omega) ?_
 obtain ⟨d, hd⟩ : ∃ d : Nat, fE b + 149 = d := ⟨(fE b + 149).toNat, by omega⟩
 rw [hd]
 refine ⟨fun g x y w' => w' = w ∧ ∃ j : Nat, x = .int .i64 (-149 + j) ∧ y = .float .f64 (W64 false (fM b).natAbs ((d : Int) - j)) ∧ g + j = d, ⟨d, rfl, 0, rfl, by simp, rfl⟩, ?_⟩
 rintro g x y junk w' ⟨rfl, j, rfl, rfl, hg⟩
 rw [AgB, p2464]
 have hge := AhJ (m := (fM b).natAbs) (e := (d : Int) - j) (n := 16777216) (g := 0) (Has64 (by omega) (by omega) (by omega)) (Has64 (by decide) (by decide) (by decide))
 rw [show FloatKind.f64.format = double from rfl, hge]
 have hcmp : (dy (16777216 : Nat) 0 ≤ dy ((fM b).natAbs : Int) ((d : Int) - j)) ↔ j < d := by
  have e1 : dy ((fM b).natAbs : Int) ((d : Int) - j) = dy (((fM b).natAbs * 2 ^ (d - j) : Nat) : Int) 0 := by
   rw [Int.natCast_mul, Int.natCast_pow]
   exact (BE (by omega)).symm
  rw [e1, Jg]
  constructor
  ·intro hle
   refine Nat.lt_of_not_le fun hc => ?_
   rw [show d - j = 0 by omega, Nat.pow_zero, Nat.mul_one] at hle
   omega
  ·intro hlt
   have h3 := Aee (Akt h (by omega)) hlt
   generalize (fM b).natAbs * 2 ^ (d - j) = y at *
   omega
 refine Ac (fun hy => ?_) (fun hn => ?_)
 ·have hlt := hcmp.1 hy
  refine AA (by simp) fun r hr => ?_
  have hm := Ado (s := false) hsd (by decide) (Has64 (m := (fM b).natAbs) (e := (d : Int) - j) (by omega) (by omega) (by omega)) (Has64 (m := 1) (e := 1) (by decide) (by decide) (by decide))
  rw [← two64] at hm
  have := Dw hr (show floatBits .quo .f64 _ _ = some _ from hm)
  subst this
  rw [Aw, Ad (by omega) (by omega)]
  exact ⟨g - 1, by omega, rfl, j + 1, by congr 1; omega, by congr 2; omega, by omega⟩
 ·have hj : j = d := by
   have : ¬ j < d := fun q => hn (hcmp.2 q)
   omega
  subst hj
  rw [Int.sub_self]
  refine Ac7 Cv AB (Ajg (Has64 (by omega) (by omega) (by omega))) (by omega) (by omega) ?_
  rw [show -149 + (j : Int) = fE b by omega]
  exact H
theorem Gb {b : Nat} (h : Vc.Fin single b) (hb : b < 4294967296) (H : ∀ v' w', Ext w w' → DQ w' v' 149 128 (fq b) → K v' w') : call P BW [fl b] w K := by
 have hM := QO b
 have hs := Aeb hb
 refine AbH ?_
 unfold O8
 refine Ez fun x w1 ⟨cs, hcs, b1⟩ e1 => ?_
 refine Aes h hb ?_
 rw [A8, Ax, VG, show FloatKind.f32.format.order b 0 = some (compare (fM b) 0) from R6 h hb]
 have H' : ∀ v' w' m' e', Ext w w' → Do w' w.heap.size w'.heap.size v' m' e' → Cn 149 128 (fq b) m' e' → K v' w' := fun v' w' m' e' he hd hc => H v' w' he ⟨m', e', hd.Dr, hc⟩
 by_cases h1 : fM b < 0
 ·rw [Int.compare_eq_lt.2 h1]
  refine A9 rfl ?_
  rw [Cz, Ad (by omega) (by omega), show (0 : Int) - ((fM b).natAbs : Int) = fM b by omega]
  refine Uy (by omega) (by omega) fun v2 w2 e2 h2 => ?_
  exact NW (e1.trans e2) (b1.ext e2) hcs (Nat.le_refl _) h2.Wr (f_bd h) (by decide) (by decide) rfl H'
 ·have hn : ¬ (compare (fM b) 0 = .lt) := fun q => h1 (Int.compare_eq_lt.1 q)
  refine AD (by simpa using hn) ?_
  rw [show ((fM b).natAbs : Int) = fM b by omega]
  refine Uy (by omega) (by omega) fun v2 w2 e2 h2 => ?_
  exact NW (e1.trans e2) (b1.ext e2) hcs (Nat.le_refl _) h2.Wr (f_bd h) (by decide) (by decide) rfl H'
end


section
open Go Go.Vc
variable {w : World} {K : Value → World → Prop} {g : Nat} {x v : Value} {lo hi : Nat} {q : Rat}
def NC (w : World) (g : Nat) (x : Value) : Prop := blk x = some g ∧ ∃ cs, cs.length = 2 ∧ Bx w g AI x cs
def NV (w : World) (g : Nat) (x : Value) (lo hi : Nat) (q : Rat) : Prop := blk x = some g ∧ ∃ p e, Bx w g AI x (nm p e) ∧ NQ w (.agg #[p, .int .i64 e]) lo hi q
theorem NC.ext {w' : World} (h : NC w g x) (he : Ext w w') : NC w' g x := let ⟨a, cs, b, c⟩ := h; ⟨a, cs, b, c.ext he⟩
theorem NV.NC (h : NV w g x lo hi q) : NC w g x := let ⟨a, _, _, b, _⟩ := h; ⟨a, _, rfl, b⟩
theorem NV.get {K : Value → Prop} (h : NV w g x lo hi q) (H : ∀ v, NQ w v lo hi q → K v) : ld P AI x w K := let ⟨_, _, _, b, c⟩ := h; DJ b (H _ c)
theorem NV.getc {K : Value → Prop} (h : NV w g x lo hi q) (H : ∀ v, NQ w v lo hi q → K v) : ldc P AI x w K := let ⟨_, _, _, b, c⟩ := h; b.getc EJ rfl F6 rfl (H _ c)
theorem NC.put {K : World → Prop} (h : NC w g x) (hv : NQ w v lo hi q) (H : ∀ w', NV w' g x lo hi q → w.grownBy w' (some g) → Ty w (some g) AI → K w') : sto P AI x v w K := by
 obtain ⟨hg, cs, hl, b⟩ := h
 have t := Ty.box b
 obtain ⟨m, e, ⟨p, rfl, ip⟩, hb, hq⟩ := hv
 refine b.put F6 (ds := nm p e) rfl hl (JV ip.one rfl) fun w' b' g' => ?_
 rw [hg] at g' t
 exact H w' ⟨hg, p, e, b', m, e, ⟨p, rfl, ip.kt g' t (by decide) (by decide)⟩, hb, hq⟩ g' t
theorem Ak7 {KW : Value → World → Prop} (H : ∀ x w', NC w' w.heap.size x → Ext w w' → KW x w') : alc P AI w KW :=
 BI F6 fun x w' b e hp => H x w' ⟨hp, _, rfl, b⟩ e
theorem Im {w w' w'' : World} {g : Nat} (he : Ext w w') (hw : w.heap.size ≤ g) (hg : w'.grownBy w'' (some g)) : Ext w w'' :=
 Ab he (fun k hk => by cases hk; exact hw) hg
def DC (w : World) (g : Nat) (x : Value) : Prop := blk x = some g ∧ ∃ cs, cs.length = 3 ∧ Bx w g Al x cs
def DV (w : World) (g : Nat) (x : Value) (lo hi : Nat) (q : Rat) : Prop := blk x = some g ∧ ∃ n s e, Bx w g Al x (dv3 n s e) ∧ DQ w (.agg #[.int .i64 n, s, .int .i64 e]) lo hi q
theorem DC.ext {w' : World} (h : DC w g x) (he : Ext w w') : DC w' g x := let ⟨a, cs, b, c⟩ := h; ⟨a, cs, b, c.ext he⟩
theorem DV.ext {w' : World} (h : DV w g x lo hi q) (he : Ext w w') : DV w' g x lo hi q := let ⟨a, p, s, e, b, c⟩ := h; ⟨a, p, s, e, b.ext he, c.ext he⟩
theorem DV.DC (h : DV w g x lo hi q) : DC w g x := let ⟨a, _, _, _, b, _⟩ := h; ⟨a, _, rfl, b⟩
theorem DV.get {K : Value → Prop} (h : DV w g x lo hi q) (H : ∀ v, DQ w v lo hi q → K v) : ld P Al x w K := let ⟨_, _, _, _, b, c⟩ := h; EG b (H _ c)
theorem DV.getc {K : Value → Prop} (h : DV w g x lo hi q) (H : ∀ v, DQ w v lo hi q → K v) : ldc P Al x w K := let ⟨_, _, _, _, b, c⟩ := h; b.getc BJ rfl Bs rfl (H _ c)
theorem DC.put {K : World → Prop} (h : DC w g x) (hv : DQ w v lo hi q) (H : ∀ w', DV w' g x lo hi q → w.grownBy w' (some g) → Ty w (some g) Al → K w') : sto P Al x v w K := by
 obtain ⟨hg, cs, hl, b⟩ := h
 have t := Ty.box b
 obtain ⟨m, e, hd, hc⟩ := hv
 refine hd.put b hl fun w' ⟨s, hv, b'⟩ g' => ?_
 rw [hg] at g' t
 subst hv
 exact H w' ⟨hg, _, s, e, b', m, e, hd.kt g' t (by decide), hc⟩ g' t
theorem AfM {KW : Value → World → Prop} (H : ∀ x w', DC w' w.heap.size x → Ext w w' → KW x w') : alc P Al w KW :=
 BI Bs fun x w' b e hp => H x w' ⟨hp, _, rfl, b⟩ e
theorem Abb {n e : Int} {s : Value} {K : Value → Prop} (hs : ∃ a l c, s = .slice a l c) (H : K (.int .i64 n)) : fld P Al (.agg #[.int .i64 n, s, .int .i64 e]) 0 w (fun a => fld P Aj a 0 w K) := by
 obtain ⟨a, l, c, rfl⟩ := hs
 exact ⟨.agg #[.int .i64 n, .slice a l c], by kernel_rfl, .int .i64 n, by kernel_rfl, H⟩
theorem Uf {u v : Value} {r : Rat} (hu : DQ w u lo hi q) (hv : DQ w v lo hi r) (hl : lo ≤ 100000000) (hh : hi ≤ 100000000) (H : ∀ w', Ext w w' → K (.int .i64 (cmpQ q r)) w') : call P Ff [u, v] w K := by
 obtain ⟨m, e, ⟨s, l, rfl, h1, wl⟩, hc⟩ := hu
 obtain ⟨n, g, ⟨t, l', rfl, h2, wl'⟩, hc'⟩ := hv
 refine UT ?_
 unfold HZ
 refine F5 fun x1 w1 b1 e1 => ?_
 refine F5 fun x2 w2 b2 e2 => ?_
 have E2 := e1.trans e2
 refine EG (b1.ext e2) ?_
 refine EG b2 ?_
 refine VO ⟨m, e, ⟨s, l, rfl, h1.ext E2, wl⟩, hc⟩ ⟨n, g, ⟨t, l', rfl, h2.ext E2, wl'⟩, hc'⟩ hl hh fun v2 w5 e5 n5 => ?_
 obtain ⟨m', e', ⟨s', l'', rfl, h3, wl3⟩, hc2⟩ := n5
 refine Abb (IR.sl h3.toIR) ?_
 have := H w5 (E2.trans e5)
 unfold cmpQ at this
 rw [hc2.val, Abn] at this
 exact this
end
end Go.Proofs.YtjompmflommadaaGreatDoor
