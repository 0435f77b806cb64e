import Derived.Laws.IdiomStrings
import Derived.Deep.SlicePairs
import Derived.Test.YtjompmflommadaaGreatDoorQFnProgramTextsVVcP
import Derived.Test.YtjompmflommadaaGreatDoorQFnProgramTextsVVcO
import Derived.Test.YtjompmflommadaaGreatDoorQFnProgramTexts4
set_option linter.unusedSimpArgs false
set_option linter.unusedVariables false
namespace Go.Proofs.YtjompmflommadaaGreatDoor
section
open Go Go.Vc Ieee
variable {w : World} {K : Value → World → Prop}
theorem Afo {b : Nat} (h : Vc.Fin single b) (hb : b < 4294967296) : W single (b / 2147483648 % 2 == 1) (fM b).natAbs (fE b) = b := by
 have hlt : b % 2147483648 < 2139095040 := by have := h; unfold Vc.Fin at this; rw [s_sw, LO] at this; exact this
 have hM : (fM b).natAbs = b % 8388608 + (if 0 < b / 8388608 % 256 then 8388608 else 0) := by
  unfold fM; simp only
  generalize (if 0 < b / 8388608 % 256 then 8388608 else 0) = x
  split <;> omega
 have hE : fE b = (if 0 < b / 8388608 % 256 then ((b / 8388608 % 256 : Nat) : Int) - 150 else -149) := by
  unfold fE
  by_cases hx : 0 < b / 8388608 % 256
  ·rw [if_pos hx, if_pos hx]
  ·rw [if_neg hx, if_neg hx]; rfl
 have word : ∀ r, r < 2147483648 → r = b % 2147483648 → single.word (b / 2147483648 % 2 == 1) r = b := fun r hr he => by
  have t1 : single.word true r = 2147483648 + r := rfl
  have t2 : single.word false r = r := rfl
  by_cases h1 : b / 2147483648 % 2 = 1
  ·rw [show (b / 2147483648 % 2 == 1) = true by simpa using h1, t1]; omega
  ·rw [show (b / 2147483648 % 2 == 1) = false by simpa using h1, t2]; omega
 unfold W Format.write Format.nearest
 simp only
 by_cases h0 : (fM b).natAbs = 0
 ·rw [if_pos h0]
  refine word 0 (by decide) ?_
  rw [hM] at h0
  split at h0 <;> omega
 ·rw [if_neg h0, IY h0]
  rw [show single.leastPlace = -149 from by decide, show (single.fractionBits : Int) = 23 from rfl, Aeu, LO]
  by_cases h1 : 0 < b / 8388608 % 256
  ·rw [if_pos h1] at hM hE
   have hbl : bl (fM b).natAbs = 24 := by
    have h2 : bl (fM b).natAbs ≤ 24 := Bf.2 (by rw [hM]; show _ < 16777216; omega)
    have h3 : ¬ bl (fM b).natAbs ≤ 23 := fun h => by have := Bf.1 h; rw [hM] at this; have : (2 : Nat) ^ 23 = 8388608 := by decide
                                                     omega
    omega
   rw [hbl, hE, hM]
   have e1 : max (((b / 8388608 % 256 : Nat) : Int) - 150 + ((24 - 1 : Nat) : Int) - 23) (-149) = ((b / 8388608 % 256 : Nat) : Int) - 150 := by omega
   simp only [e1]
   rw [show (((b / 8388608 % 256 : Nat) : Int) - 150 - (((b / 8388608 % 256 : Nat) : Int) - 150)).toNat = 0 by omega, D6, Nat.shiftLeft_eq, Nat.pow_zero, Nat.mul_one]
   rw [show (((b / 8388608 % 256 : Nat) : Int) - 150 - -149).toNat = b / 8388608 % 256 - 1 by omega]
   refine word _ ?_ ?_
   ·omega
   ·omega
  ·rw [if_neg h1] at hM hE
   have hbl : bl (fM b).natAbs ≤ 23 := Bf.2 (by rw [hM]; show _ < 8388608; omega)
   rw [hE, hM]
   rw [hM] at hbl h0
   have hb0 := Eu h0
   have e1 : max (-149 + ((bl (b % 8388608 + 0) - 1 : Nat) : Int) - 23) (-149) = -149 := by omega
   simp only [e1]
   rw [show ((-149 : Int) - -149).toNat = 0 by omega, D6, Nat.shiftLeft_eq, Nat.pow_zero, Nat.mul_one]
   refine word _ ?_ ?_
   ·omega
   ·omega
def turnB (b : Nat) : Nat := if b < 2147483648 then b + 2147483648 else b - 2147483648
theorem RN {b : Nat} (h : b < 4294967296) : turnB b < 4294967296 := by unfold turnB; split <;> omega
theorem IP {b : Nat} (hb : b < 4294967296) (h : Vc.Fin single b) : Vc.Fin single (turnB b) := by
 unfold Vc.Fin at *
 rw [s_sw, LO] at *
 unfold turnB
 split <;> omega
theorem Dp {b : Nat} (h : Vc.Fin single b) (hb : b < 4294967296) (H : K (fl (turnB b)) w) : call P Bn [fl b] w K := by
 refine Oh ?_
 unfold FD
 refine AA (by simp) fun r hr => ?_
 have hself := Afo h hb
 have e1 : (3212836864 : Nat) = W single true 1 0 := by decide
 have hm : floatBits .mul .f32 b 3212836864 = some (W single (!(b / 2147483648 % 2 == 1)) (fM b).natAbs (fE b)) := by
  show single.mul b 3212836864 = _
  unfold Format.mul
  rw [Ka h hb, show single.read 3212836864 = .number true 8388608 (-23) from by decide]
  simp only [Datum.product, Option.map_some, Bool.xor_true]
  congr 1
  exact Jo single _ (.of_dy (by
   rw [show (((fM b).natAbs * 8388608 : Nat) : Int) = ((fM b).natAbs : Int) * 2 ^ 23 by rw [Int.natCast_mul]; rfl]
   exact BE (m := ((fM b).natAbs : Int)) (e := fE b) (by omega)))
 have hs := Dw hr hm
 subst hs
 obtain ⟨q, hq⟩ := Wz single (fM b).natAbs (fE b)
 rw [hq] at hself ⊢
 have : single.word (!(b / 2147483648 % 2 == 1)) q = turnB b := by
  have hq2 : q < 2147483648 := by
   have hf := OG true (fM b).natAbs (fE b)
   rw [hq] at hf
   have e : single.word true q = 2147483648 + q := rfl
   omega
  unfold turnB
  have t1 : single.word true q = 2147483648 + q := rfl
  have t2 : single.word false q = q := rfl
  cases hc : (b / 2147483648 % 2 == 1)
  ·rw [hc] at hself
   rw [Bool.not_false, t1]; rw [t2] at hself; rw [if_pos (by omega)]; omega
  ·rw [hc] at hself
   rw [Bool.not_true, t2]; rw [t1] at hself; rw [if_neg (by omega)]; omega
 rw [this]; exact H
theorem Aa7 {f : Format} (hf : 1 ≤ f.exponentBits) {b : Nat} {s : Bool} {m : Nat} {e : Int} (h : f.read b = .number s m e) : Vc.Fin f b := by
 rcases DF f b with h1 | h1 | h1
 ·exact h1
 ·rw [KC hf h1] at h; cases h
 ·obtain ⟨t, ht⟩ := AlP hf h1; rw [ht] at h; cases h
theorem AcO {f : Format} {b : Nat} (h : Inf f b) : ¬ Vc.Fin f b := by unfold Inf at h; unfold Vc.Fin; omega
theorem AcB {f : Format} {b : Nat} (h : NaN f b) : ¬ Vc.Fin f b := by unfold NaN at h; unfold Vc.Fin; omega
def isN : Datum → Bool
 | .number _ _ _ => true
 | _ => false
theorem Y9 {f : Format} (hf : 1 ≤ f.exponentBits) {b : Nat} (h : isN (f.read b) = true) : Vc.Fin f b := by
 cases hr : f.read b with
 | number s m e => exact Aa7 hf hr
 | infinity s => rw [hr] at h; cases h
 | nan s t => rw [hr] at h; cases h
theorem Afe (x y : Datum) (h : (isN x && isN y) = false) : x.sum y = none ∨ ∃ s, x.sum y = some (.infinity s) := by
 cases x with
 | nan s t => left; rfl
 | infinity s =>
  cases y with
  | nan s t => left; rfl
  | infinity t =>
   by_cases hs : s = t
   ·right; exact ⟨s, by simp [Datum.sum, hs]⟩
   ·left; simp [Datum.sum, hs]
  | number t n j => right; exact ⟨s, rfl⟩
 | number s m i =>
  cases y with
  | nan s t => left; rfl
  | infinity t => right; exact ⟨t, rfl⟩
  | number t n j => cases h
theorem Aiu {o : Option Datum} {r : Nat} (h : o = none ∨ ∃ s, o = some (.infinity s)) (hr : (o.map single.write = some r) ∨ (o.map single.write = none ∧ NaN single r)) : ¬ Vc.Fin single r := by
 rcases h with h | ⟨s, h⟩
 ·rw [h] at hr
  rcases hr with hr | hr
  ·cases hr
  ·exact AcB hr.2
 ·rw [h] at hr
  rcases hr with hr | hr
  ·simp only [Option.map_some, Option.some.injEq] at hr
   rw [← hr]; exact AcO (Afj single _)
  ·cases hr.1
theorem Afb {a b : Nat} (hn : (finB a && finB b) = false) : (isN (single.read a) && isN (single.read b)) = false := by
 refine Bool.eq_false_iff.2 fun h => ?_
 rw [Bool.and_eq_true] at h
 rw [BU.2 (Y9 (by decide) h.1), BU.2 (Y9 (by decide) h.2)] at hn
 cases hn
theorem AiH (d : Datum) : isN d.opposite = isN d := by cases d <;> rfl
theorem Ak6 {a b r : Nat} (h : FR .add .f32 a b r) (hn : (finB a && finB b) = false) : finB r = false := by
 rw [AbB]
 exact Aiu (Afe _ _ (Afb hn)) (h.imp (fun h => h) (fun h => ⟨h.1, h.2.1⟩))
theorem AjZ {a b r : Nat} (h : FR .sub .f32 a b r) (hn : (finB a && finB b) = false) : finB r = false := by
 rw [AbB]
 exact Aiu (Afe _ _ (by rw [AiH]; exact Afb hn)) (h.imp (fun h => h) (fun h => ⟨h.1, h.2.1⟩))
end


section
open Go Go.Vc Ieee
variable {w : World} {K : Value → World → Prop}
def enu : Nat → List Value → List (Nat × Value)
 | _, [] => []
 | k, v :: r => (k, v) :: enu (k + 1) r
theorem AcW : ∀ (vs pre rest : List Value), (∀ v ∈ vs, v.oneCell' = true) → rest.length = vs.length → Instr.fill (fun i => some (i, 1)) (pre ++ rest).toArray (enu pre.length vs) = some (pre ++ vs).toArray
 | [], pre, rest, _, h => by
  have : rest = [] := List.eq_nil_of_length_eq_zero (by simpa using h)
  subst this; rfl
 | v :: vs, pre, rest, h1, h => by
  cases rest with
  | nil => simp at h
  | cons z rest =>
   have hc : v.cells = #[v] := by
    have := h1 v (List.mem_cons_self ..)
    cases v <;> first | rfl | (simp [Value.oneCell'] at this; done)
   have ih := AcW vs (pre ++ [v]) rest (fun u hu => h1 u (List.mem_cons_of_mem _ hu)) (by simpa using h)
   simp only [enu, Instr.fill, hc]
   rw [if_neg (by simp)]
   have e : ((#[v] : Array Value).zipIdx.foldl (fun cs (c, j) => cs.setIfInBounds (pre.length + j) c) (pre ++ z :: rest).toArray) = (pre ++ [v] ++ rest).toArray := by
    simp [List.setIfInBounds_toArray]
   rw [e]
   simp only [List.length_append, List.length_singleton] at ih
   rw [ih]
   simp
set_option maxRecDepth 20000 in
theorem V7 {t e : TypeId} {z : Value} {b n : Nat} {ps : List (Nat × Value)} {KW : Value → World → Prop} (vs : List Value) (hu : P.underlying t = some (.slice e)) (ht : TI P e z 1 b) (h1 : ∀ v ∈ vs, v.oneCell' = true) (hz : z.oneCell' = true)
  (hps : ps = enu 0 vs := by rfl) (hn : n = vs.length := by rfl) (hlen : vs.length ≤ 1000 := by decide) (h0 : vs ≠ [] := by simp)
  (h : ∀ v w', Ext w w' → w'.ownsRow w.heap.size e 1 v vs.length vs → KW v w') : bsl P t n ps w KW := by
 subst hps hn
 have hcells : ∀ v : Value, v.oneCell' = true → v.cells = #[v] := by intro v h1; cases v <;> first | rfl | (simp [Value.oneCell'] at h1; done)
 unfold bsl Instr.buildSlice
 refine Cs (A4 hu) ?_
 refine Cs (sm := sizeOf e) (Ch ht) ?_
 simp only [Nat.mul_one]
 rw [if_neg (by omega)]
 have fin : KW (.slice (some ⟨w.heap.size, 0, none⟩) vs.length vs.length) (w.alloc (.cells vs.toArray e)) := h _ _ (Bg _ _) (B9 w vs e (by simp only [maxLen]; omega))
 cases vs with
 | nil => exact absurd rfl h0
 | cons v0 vs =>
  rw [if_neg (show ¬ (v0 :: vs).length = 0 from Nat.succ_ne_zero _)]
  refine AL (s := zeroValue e) ?_
  refine EO (Cl _ (DS ht) ?_)
  refine AL (AS ?_)
  have hf : Instr.fill (fun i => some (i, 1)) ((Array.range (v0 :: vs).length).map (fun i => z.cells[i % z.cells.size]!)) (enu 0 (v0 :: vs)) = some (v0 :: vs).toArray := by
   have q := AcW (v0 :: vs) [] ((Array.range (v0 :: vs).length).map (fun i => z.cells[i % z.cells.size]!)).toList h1 (by simp)
   exact q
  rw [hf]
  exact AL (AL (FJ (AS (AS fin))))
theorem GA {n : Nat} {ps : List (Nat × Value)} {KW : Value → World → Prop} (l : List Int) (hps : ps = enu 0 (l.map (.int .i64)) := by rfl) (hn : n = l.length := by rfl) (hlen : l.length ≤ 1000 := by simp) (h0 : l ≠ [] := by simp)
  (h : ∀ v w', Ext w w' → w'.ownsRow w.heap.size Ar 1 v l.length (l.map (.int .i64)) → KW v w') : bsl P BO n ps w KW := by
 refine V7 (l.map (.int .i64)) Ah AE (fun v hv => ?_) rfl hps (by rw [List.length_map]; exact hn) (by rw [List.length_map]; exact hlen) (by simpa using h0) fun v w' he ho => h v w' he (by rw [List.length_map] at ho; exact ho)
 obtain ⟨i, _, rfl⟩ := List.mem_map.1 hv
 rfl
theorem KV {n : Nat} {ps : List (Nat × Value)} {KW : Value → World → Prop} (l : List (List UInt8)) (hps : ps = enu 0 (l.map str) := by rfl) (hn : n = l.length := by rfl) (hlen : l.length ≤ 1000 := by simp) (h0 : l ≠ [] := by simp)
  (h : ∀ v w', Ext w w' → w'.ownsRow w.heap.size AM 1 v l.length (l.map str) → KW v w') : bsl P B4 n ps w KW := by
 refine V7 (l.map str) AT Bz (fun v hv => ?_) rfl hps (by rw [List.length_map]; exact hn) (by rw [List.length_map]; exact hlen) (by simpa using h0) fun v w' he ho => h v w' he (by rw [List.length_map] at ho; exact ho)
 obtain ⟨i, _, rfl⟩ := List.mem_map.1 hv
 rfl
theorem Ajd {n : Nat} {ps : List (Nat × Value)} {KW : Value → World → Prop} (l : List Nat) (hps : ps = enu 0 (l.map fl) := by rfl) (hn : n = l.length := by rfl) (hlen : l.length ≤ 1000 := by simp) (h0 : l ≠ [] := by simp)
  (h : ∀ v w', Ext w w' → w'.ownsRow w.heap.size BQ 1 v l.length (l.map fl) → KW v w') : bsl P BN n ps w KW := by
 refine V7 (l.map fl) B7 CD (fun v hv => ?_) rfl hps (by rw [List.length_map]; exact hn) (by rw [List.length_map]; exact hlen) (by simpa using h0) fun v w' he ho => h v w' he (by rw [List.length_map] at ho; exact ho)
 obtain ⟨i, _, rfl⟩ := List.mem_map.1 hv
 rfl
section
variable {base : Nat} {x : Value} {bs : List Nat}
theorem Mp {v : Value} {l : List Int} {b0 : Nat} (h : Sx w base x bs) (ho : w.ownsRow b0 Ar 1 v l.length (l.map (.int .i64))) (h0 : 0 < l.length) (hl : l.length ≤ 1000)
  (H : ∀ i ∈ l, ∀ w', Sx w' base x bs → w.grownBy w' (blk x) → K (.int .i64 i) w') : call P Ca [x, v] w K := by
 refine Y4 ?_
 unfold Le
 rw [(Bc ho).len Ah]
 refine BR h h0 (by omega) fun r w1 h1 g1 hr => ?_
 have o1 := AX ho g1 h.ty (by decide)
 exact (Bc o1).at1 (Ja hr) Ah AE AB rfl (H _ (List.getElem_mem hr) w1 h1 g1)
theorem Ahk {v : Value} {l : List Nat} {b0 : Nat} (h : Sx w base x bs) (ho : w.ownsRow b0 BQ 1 v l.length (l.map fl)) (h0 : 0 < l.length) (hl : l.length ≤ 1000)
  (H : ∀ i ∈ l, ∀ w', Sx w' base x bs → w.grownBy w' (blk x) → K (fl i) w') : call P IB [x, v] w K := by
 refine Wf ?_
 unfold IH
 rw [(Bc ho).len B7]
 refine BR h h0 (by omega) fun r w1 h1 g1 hr => ?_
 have o1 := AX ho g1 h.ty (by decide)
 exact (Bc o1).at1 (Ja hr) B7 CD BC rfl (H _ (List.getElem_mem hr) w1 h1 g1)
theorem AfS {v : Value} {l : List (List UInt8)} {b0 : Nat} {n : Nat} {KK : Value → World → Prop} (h : Sx w base x bs) (ho : w.ownsRow b0 AM 1 v l.length (l.map str)) (h0 : 0 < l.length) (hl : l.length ≤ 1000) (hn : n = l.length := by rfl)
  (H : ∀ s ∈ l, ∀ w', Sx w' base x bs → w.grownBy w' (blk x) → KK (str s) w') : call P Am [x, .int .i64 (n : Nat)] w fun r w1 => ixa P B4 v r w1 fun a => ld P AM a w1 fun z => KK z w1 := by
 subst hn
 refine BR h h0 (by omega) fun r w1 h1 g1 hr => ?_
 have o1 := AX ho g1 h.ty (by decide)
 exact (Bc o1).at1 (Ja hr) AT Bz Av rfl (H _ (List.getElem_mem hr) w1 h1 g1)
theorem grownE {w' w'' : World} {row : Option Nat} (g : w.grownBy w' row) (e : Ext w' w'') : w.grownBy w'' row := Bt g (Hn e (World.grownBy.refl w'' row))
theorem Ai7 {m : Nat} (h : Sx w base x bs) (hm : m ≤ 1000) (H : ∀ (r : Int) w', Sx w' base x bs → w.grownBy w' (blk x) → K (.int .i64 r) w') : call P JJ [x, .int .i64 (m : Int)] w K := by
 refine WE ?_
 unfold JQ
 rw [show (14 : Int) = ((14 : Nat) : Int) from rfl]
 refine BR h (by decide) (by decide) fun r w1 h1 g1 hr => ?_
 rw [Ae]
 refine Ac (fun _ => ?_) (fun _ => ?_)
 ·rw [Aw, Ad (by omega) (by omega)]
  refine GA [-1, (m : Int) + 1, 1099511627776, -4611686018427387904] rfl rfl (by simp) (by simp) fun v w2 e2 o2 => ?_
  refine Mp (h1.ext e2) o2 (by simp) (by simp) fun i _ w3 h3 g3 => ?_
  exact H i w3 h3 (Bt g1 (Hn e2 g3))
 ·rw [Aw, Ad (by omega) (by omega), show (m : Int) + 1 = ((m + 1 : Nat) : Int) by omega]
  refine BR h1 (by omega) (by omega) fun r w2 h2 g2 _ => ?_
  exact H r w2 h2 (Bt g1 g2)
end
end


section
open Go Go.Vc Ieee
variable {w : World} {K : Value → World → Prop}
theorem AdD {t : TypeId} {cx cy : Bool} {a : Nat} {K : Value → Prop} (ha : a ≤ 9223372036854775807) : bin P .and t cx cy (.int .i64 (a : Int)) (.int .i64 8388607) w K = K (.int .i64 ((a % 8388608 : Nat) : Int)) := by
 rw [Kz]
 have e : (BitVec.ofInt IntKind.i64.bits (a : Int) &&& BitVec.ofInt IntKind.i64.bits 8388607).toNat = a % 8388608 := by
  rw [BitVec.toNat_and]
  have e1 : (BitVec.ofInt IntKind.i64.bits (a : Int)).toNat = a := by
   rw [BitVec.ofInt_natCast, BitVec.toNat_ofNat]
   exact Nat.mod_eq_of_lt (Nat.lt_of_le_of_lt ha (by decide))
  rw [e1]
  exact Nat.and_two_pow_sub_one_eq_mod a 23
 rw [e, Ad (by omega) (by omega)]
theorem flInt64 (t : Nat) : floatOfInt .f64 (t : Int) = W double false t 0 := by
 show double.write (.number (decide ((t : Int) < 0)) (t : Int).natAbs 0) = _
 rw [decide_eq_false (by omega), Int.natAbs_natCast]
 rfl
theorem flInt32 {t : Int} (h : t.natAbs ≤ 16777216) : floatOfInt .f32 t < 4294967296 ∧ Vc.Fin single (floatOfInt .f32 t) := by
 have e : floatOfInt .f32 t = W single (decide (t < 0)) t.natAbs 0 := rfl
 rw [e]
 refine ⟨OG _ _ _, AaJ ⟨h, by decide, ?_⟩⟩
 have : bl t.natAbs ≤ 25 := Bf.2 (by omega)
 omega
set_option maxRecDepth 20000 in
theorem Acb {n : Nat} (hn : n ≤ 2139095039) (H : ∀ b, b < 4294967296 → Vc.Fin single b → K (fl b) w) : call P CJ [.int .i64 (n : Int)] w K := by
 refine OP ?_
 unfold GS
 rw [Ai]
 refine AD (by simp) ?_
 rw [Cu (s := 23) (by decide), AdD (by omega), Ae]
 refine AD (by simp; omega) ?_
 have fin : ∀ {t : Nat} {q : Int}, Cut t q → K (.float .f32 (W single false t q)) w := fun h => H _ (OG _ _ _) (AaJ h)
 have hf : bl (n % 8388608) ≤ 23 := Bf.2 (Nat.mod_lt _ (by decide))
 rw [Ae]
 refine Ac (fun h0 => ?_) (fun h0 => ?_)
 ·rw [BX AB Cv, flInt64]
  refine Ma (by omega) (by decide) (by decide) (by decide) (by decide) ?_
  have hc : Cut (n % 8388608) (0 + -149) := ⟨by omega, by omega, by omega⟩
  exact Oc Cv BC hc (fin hc)
 ·rw [AO (b := 8388608) (by omega), BX AB Cv, flInt64, AC, Ad (by omega) (by omega)]
  have hb : bl (n % 8388608 + 8388608) ≤ 24 := Bf.2 (by have := Nat.mod_lt n (show 8388608 > 0 by decide); omega)
  refine Ma (by omega) (by decide) (by decide) (by omega) (by omega) ?_
  have hc : Cut (n % 8388608 + 8388608) (0 + (((n / 2 ^ 23 : Nat) : Int) - 150)) := ⟨by omega, by omega, by omega⟩
  exact Oc Cv BC hc (fin hc)
theorem Yc {n : Int} (hn : n.natAbs ≤ 2139095039) (H : ∀ b, b < 4294967296 → Vc.Fin single b → K (fl b) w) : call P CJ [.int .i64 n] w K := by
 by_cases h : n < 0
 ·refine OP ?_
  unfold GS
  rw [Ai]
  refine A9 (by simpa using h) ?_
  rw [Cz, Ad (by omega) (by omega), show (0 : Int) - n = (n.natAbs : Int) by omega]
  refine Acb hn fun b hb hf => ?_
  rw [Dz, neg32 b hb]
  exact H _ (RN hb) (IP hb hf)
 ·rw [show n = (n.natAbs : Int) by omega]
  exact Acb hn H
theorem Ad0 {n : Int} {d : Int} {r : Nat} (h1 : -1000 ≤ n) (h2 : n ≤ 1000) (hd : d ∈ [2, 4, 16, 128, 3, 10, 1000, 64]) (h : FR .quo .f32 (floatOfInt .f32 n) (floatOfInt .f32 d) r) : r < 4294967296 ∧ Vc.Fin single r := by
 refine ⟨XA h, ?_⟩
 have q := AeO
 unfold quoB at q
 have q := List.all_eq_true.1 q (n + 1000).toNat (List.mem_range.2 (by omega))
 have q := List.all_eq_true.1 q d hd
 rw [show (((n + 1000).toNat : Nat) : Int) - 1000 = n by omega] at q
 have q := of_decide_eq_true q
 cases hb : floatBits .quo .f32 (floatOfInt .f32 n) (floatOfInt .f32 d) with
 | some r' =>
  have := Dw h hb
  subst this
  unfold opF at q
  rw [hb] at q
  exact q
 | none =>
  unfold opF at q
  rw [hb] at q
  exact absurd q (by decide)
section
variable {base : Nat} {x : Value} {bs : List Nat}
theorem ZH (h : Sx w base x bs) (H : ∀ b w', Sx w' base x bs → w.grownBy w' (blk x) → b < 4294967296 → Vc.Fin single b → K (fl b) w') : call P HA [x] w K := by
 refine Ym ?_
 unfold KU
 refine ⟨fun y w' => ∃ n : Int, y = .int .i64 n ∧ Sx w' base x bs ∧ w.grownBy w' (blk x), ?_, ?_⟩
 ·rintro y junk w1 ⟨n, rfl, h1, g1⟩
  rw [Ge, Dj]
  rw [show (2 : Int) = ((2 : Nat) : Int) from rfl]
  refine BR h1 (by decide) (by decide) fun r w2 h2 g2 _ => ?_
  rw [Ae]
  refine Ac (fun _ => ?_) (fun _ => ?_)
  ·rw [Cz, Ad (by omega) (by omega)]
   refine Yc (by omega) fun b hb hf => ?_
   exact H b w2 h2 (Bt g1 g2) hb hf
  ·refine Yc (by omega) fun b hb hf => ?_
   exact H b w2 h2 (Bt g1 g2) hb hf
 have nx : ∀ {m : Nat} {w1 : World} {KK : Value → World → Prop}, 0 < m → m ≤ 9223372036854775807 → Sx w1 base x bs → w.grownBy w1 (blk x) → (∀ (r : Nat) w', Sx w' base x bs → w.grownBy w' (blk x) → r < m → KK (.int .i64 (r : Int)) w') → call P Am [x, .int .i64 (m : Int)] w1 KK :=
  fun h1 h2 h3 h4 h5 => BR h3 h1 h2 fun r w' a b c => h5 r w' a (Bt h4 b) c
 refine nx (m := 10) (by decide) (by decide) h (World.grownBy.refl _ _) fun r w1 h1 g1 hr => ?_
 refine ⟨fun y w' => w' = w1 ∧ ∃ b, y = .bool b, ?_, ?_⟩
 rotate_left
 ·rw [Ae]
  refine Ac (fun _ => ⟨rfl, _, rfl⟩) (fun _ => ?_)
  rw [Ae]
  exact ⟨rfl, _, rfl⟩
 rintro y junk w1' ⟨rfl, b0, rfl⟩
 refine Az (fun _ => ?_) (fun _ => ?_)
 ·refine nx (m := 41) (by decide) (by decide) h1 g1 fun r w2 h2 g2 hr2 => ?_
  rw [AC, Ad (by omega) (by omega), BX AB BC]
  obtain ⟨a, b⟩ := flInt32 (t := (r : Int) - 20) (by omega)
  exact H _ w2 h2 g2 a b
 refine ⟨fun y w' => w' = w1' ∧ ∃ b, y = .bool b, ?_, ?_⟩
 rotate_left
 ·rw [Ae]
  refine Ac (fun _ => ⟨rfl, _, rfl⟩) (fun _ => ?_)
  rw [Ae]
  exact ⟨rfl, _, rfl⟩
 rintro y junk w1'' ⟨rfl, b1, rfl⟩
 refine Az (fun _ => ?_) (fun _ => ?_)
 ·refine nx (m := 2001) (by decide) (by decide) h1 g1 fun r w2 h2 g2 hr2 => ?_
  rw [AC, Ad (by omega) (by omega), BX AB BC]
  refine GA [2, 4, 16, 128, 3, 10, 1000] rfl rfl (by simp) (by simp) fun v w3 e3 o3 => ?_
  refine Mp (h2.ext e3) o3 (by simp) (by simp) fun i hi w4 h4 g4 => ?_
  rw [BX AB BC]
  refine AA (by simp) fun q hq => ?_
  obtain ⟨a, b⟩ := Ad0 (by omega) (by omega) (by
   simp only [List.mem_cons, List.not_mem_nil, or_false] at hi ⊢
   omega) hq
  exact H _ w4 h4 (Bt (grownE g2 e3) g4) a b
 rw [Ae]
 have sh : ∀ {r : Nat} {KK : Value → Prop} {w2 : World}, r < 255 → KK (.int .i64 ((r * 2 ^ 23 : Nat) : Int)) → bin P .shl 2 false true (.int .i64 (r : Int)) (.int .u64 23) w2 KK := fun {r KK w2} hr hK => by
  rw [VH (s := 23) (by decide) (by omega)]
  exact hK
 refine Az (fun _ => ?_) (fun _ => ?_)
 ·refine nx (m := 255) (by decide) (by decide) h1 g1 fun r w2 h2 g2 hr2 => ?_
  refine sh hr2 ?_
  refine nx (m := 5) (by decide) (by decide) h2 g2 fun q w3 h3 g3 hq => ?_
  rw [BG (by omega), AC, Ad (by omega) (by omega)]
  exact ⟨_, rfl, h3, g3⟩
 rw [Ae]
 refine Az (fun _ => ?_) (fun _ => ?_)
 ·refine nx (m := 8388608) (by decide) (by decide) h1 g1 fun r w2 h2 g2 hr2 => ?_
  exact ⟨_, rfl, h2, g2⟩
 rw [Ae]
 refine Az (fun _ => ?_) (fun _ => ?_)
 ·refine nx (m := 8388608) (by decide) (by decide) h1 g1 fun r w2 h2 g2 hr2 => ?_
  rw [Aw, Ad (by omega) (by omega)]
  exact ⟨_, rfl, h2, g2⟩
 rw [Ae]
 refine Az (fun _ => ?_) (fun _ => ?_)
 ·refine nx (m := 16777216) (by decide) (by decide) h1 g1 fun r w2 h2 g2 hr2 => ?_
  rw [Aw, Ad (by omega) (by omega)]
  exact ⟨_, rfl, h2, g2⟩
 rw [Ae]
 refine Az (fun _ => ?_) (fun _ => ?_)
 ·refine GA [0, 1, 2, 3, 8388607, 8388608, 8388609, 2139095039, 2139095038, 1065353216, 1065353217] rfl rfl (by simp) (by simp) fun v w3 e3 o3 => ?_
  refine Mp (h1.ext e3) o3 (by simp) (by simp) fun i hi w4 h4 g4 => ?_
  refine Yc (by simp only [List.mem_cons, List.not_mem_nil, or_false] at hi; omega) fun b hb hf => ?_
  exact H _ w4 h4 (Bt (grownE g1 e3) g4) hb hf
 ·refine nx (m := 255) (by decide) (by decide) h1 g1 fun r w2 h2 g2 hr2 => ?_
  refine sh hr2 ?_
  refine nx (m := 8388608) (by decide) (by decide) h2 g2 fun q w3 h3 g3 hq => ?_
  rw [BG (by omega)]
  exact ⟨_, rfl, h3, g3⟩
theorem Ab8 (h : Sx w base x bs) (H : ∀ b w', Sx w' base x bs → w.grownBy w' (blk x) → b < 4294967296 → K (fl b) w') : call P Ic [x] w K := by
 refine UP ?_
 unfold Id
 refine Zr ?_
 rw [show (5 : Int) = ((5 : Nat) : Int) from rfl]
 refine BR h (by decide) (by decide) fun r w1 h1 g1 hr => ?_
 rw [Ae]
 refine Az (fun _ => H _ w1 h1 g1 (by decide)) (fun _ => ?_)
 rw [Ae]
 refine Az (fun _ => ?_) (fun _ => ?_)
 ·rw [Dz, neg32 _ (by decide)]
  exact H _ w1 h1 g1 (by decide)
 rw [Ae]
 refine Az (fun _ => ?_) (fun _ => ?_)
 ·refine AA (by simp) fun q hq => ?_
  exact H _ w1 h1 g1 (XA hq)
 rw [Ae]
 refine Az (fun _ => ?_) (fun _ => ?_)
 ·refine Dp (b := 0) (by decide) (by decide) ?_
  exact H _ w1 h1 g1 (by decide)
 ·exact H 0 w1 h1 g1 (by decide)
theorem AdX (h : Sx w base x bs) (H : ∀ b w', Sx w' base x bs → w.grownBy w' (blk x) → b < 4294967296 → K (fl b) w') : call P Jn [x] w K := by
 refine WK ?_
 unfold JF
 rw [show (16 : Int) = ((16 : Nat) : Int) from rfl]
 refine BR h (by decide) (by decide) fun r w1 h1 g1 hr => ?_
 rw [Ae]
 refine Az (fun _ => ?_) (fun _ => ?_)
 ·exact Ab8 h1 fun b w2 h2 g2 hb => H b w2 h2 (Bt g1 g2) hb
 ·exact ZH h1 fun b w2 h2 g2 hb _ => H b w2 h2 (Bt g1 g2) hb
end
end


section
open Go Go.Vc
variable {w : World} {K : Value → World → Prop} {lo hi : Nat} {v : Value}
theorem Mq {b : Nat} {x : Value} {KW : Value → World → Prop} (hb : b < 256) (hr : Row 1 w x 1 [.int .u8 (b : Nat)]) (H : KW (str [UInt8.ofNat b]) w) : cnv2 P MB AM x w KW := by
 intro c hc
 subst hc
 obtain ⟨h1, h2, a, cap, rfl, h3⟩ := hr
 obtain ⟨g, o, rfl, hcell⟩ := h3 (by decide)
 have := run_convert_bytes_back (P := P) c MB AM NR ⟨g, o, none⟩ cap [UInt8.ofNat b] Cb DH Av (fun j hj => by
  have hj0 : j = 0 := by simpa using hj
  subst hj0
  have h4 := hcell 0 _ rfl
  rw [Nat.add_zero] at h4
  have e : ((UInt8.ofNat b).toNat : Int) = (b : Int) := by rw [UInt8.toNat_ofNat_of_lt' (by simpa using hb)]
  simp only [List.getElem_cons_zero]
  rw [e]
  have : (⟨g, o, none⟩ : Addr).add 0 = ⟨g, o, none⟩ := by simp [Addr.add]
  rw [this]
  exact h4)
 exact ⟨_, c, this, H⟩
end


section
open Go Go.Vc Ieee
variable {w : World} {K : Value → World → Prop}
theorem AcQ : ∀ (k n : Nat) (w : World) (K : Value → World → Prop), k ≤ 100 → n < 10 ^ (k + 1) → n ≤ 4611686018427387904 → (∀ l w', Ext w w' → l.length ≤ k + 1 → K (str l) w') → call P Cj [.int .i64 (n : Int)] w K := by
 have byte : ∀ {d : Nat} {KK : Value → Prop} {w1 : World}, d < 10 → KK (.int .u8 ((48 + d : Nat) : Int)) → bin P .add 2 true false (.int .i64 48) (.int .i64 (d : Int)) w1 fun x => cnv P 2 5 x w1 KK := fun {d KK w1} hd hK => by
  rw [Aw, Ad (by omega) (by omega), show (48 : Int) + (d : Int) = ((48 + d : Nat) : Int) by omega]
  rw [AJ AB DH, NP (k := .u8) (by simp [IntKind.min, IntKind.signed]; omega) (by simp [IntKind.max, IntKind.signed, IntKind.bits]; omega)]
  exact hK
 have one : ∀ {d : Nat} {KW : Value → World → Prop} {w1 : World}, (∀ v w', Ext w1 w' → Row 1 w' v 1 [.int .u8 ((48 + d : Nat) : Int)] → KW v w') → bsl P 72 1 [(0, .int .u8 ((48 + d : Nat) : Int))] w1 KW := fun {d KW w1} hK => by
  refine Qx Cb UE rfl rfl ?_
  exact hK _ _ (Bg w1 (.cells #[.int .u8 ((48 + d : Nat) : Int)] NR)) (Bc (B9 w1 [.int .u8 ((48 + d : Nat) : Int)] NR (show 1 ≤ maxLen by decide)))
 intro k
 induction k with
 | zero =>
  intro n w K _ hn _ H
  have hn : n < 10 := by simpa using hn
  refine Of ?_
  unfold FH
  rw [Ai]
  refine A9 (by simp; omega) ?_
  refine byte hn ?_
  refine one fun v w1 e1 r1 => ?_
  refine Mq (by omega) r1 ?_
  exact H _ w1 e1 (by simp)
 | succ k ih =>
  intro n w K hk hn hb H
  refine Of ?_
  unfold FH
  rw [Ai]
  refine Ac (fun h => ?_) (fun h => ?_)
  ·refine byte (by omega) ?_
   refine one fun v w1 e1 r1 => ?_
   refine Mq (by omega) r1 ?_
   exact H _ w1 e1 (by simp)
  refine ⟨fun x w' => Ext w w' ∧ ∃ l, x = str l ∧ l.length ≤ k + 2, ?_, ?_⟩
  ·rintro x junk w1 ⟨e1, l, rfl, hl⟩
   exact H l w1 e1 hl
  have hq : n / 10 < 10 ^ (k + 1) := by
   rw [Nat.pow_succ] at hn
   exact Nat.div_lt_of_lt_mul (by omega)
  rw [D8 (b := 10) (by omega) (by decide), C7 (b := 10) (by decide)]
  refine byte (Nat.mod_lt _ (by decide)) ?_
  have rec1 : ∀ {w1 : World} {KK : Value → World → Prop}, (∀ l w', Ext w1 w' → l.length ≤ k + 1 → KK (str l) w') → call P Cj [.int .i64 ((n / 10 : Nat) : Int)] w1 KK := fun {w1 KK} hh =>
   ih _ w1 KK (by omega) hq (by omega) hh
  have hd : 48 + n % 10 < 256 := by have := Nat.mod_lt n (show 10 > 0 by decide); omega
  have fin : ∀ {l : List UInt8} {d : UInt8} {w' : World}, Ext w w' → l.length ≤ k + 1 → bin P .add 9 false false (str l) (str [d]) w' fun x => Ext w w' ∧ ∃ l, x = str l ∧ l.length ≤ k + 2 := fun {l d w'} e hl => by
   rw [DM (by simp only [List.length_singleton]; omega)]
   exact ⟨e, _, rfl, by simp only [List.length_append, List.length_singleton]; omega⟩
  refine ⟨rec1 fun l w1 e1 hl => ⟨e1, one fun v w2 e2 r2 => ⟨e2, Mq hd r2 ⟨Ext.refl _, fin (e1.trans e2) hl⟩⟩⟩, ?_⟩
  refine one fun v w1 e1 r1 => ⟨e1, rec1 fun l w2 e2 hl => ⟨e2, Mq hd (r1.ext e2) ⟨Ext.refl _, fin (e1.trans e2) hl⟩⟩, ?_⟩
  exact Mq hd r1 ⟨Ext.refl _, rec1 fun l w2 e2 hl => ⟨e2, fin (e1.trans e2) hl⟩⟩
set_option maxHeartbeats 1000000 in
theorem Zz {v : Value} {m : Int} (h : Wr w v m) (hm : m.natAbs < 16777216) (H : ∀ l w', Ext w w' → l.length ≤ 200000000 → K (str l) w') : call P HC [v] w K := by
 obtain ⟨s, l, rfl, h1, h2⟩ := h
 have hl := (Wl.short h2).2 hm
 refine Yt ?_
 unfold Lb
 refine Ix fun x w1 b1 e1 _ => ?_
 have b1 : Bx w1 w.heap.size Aj x [.int .i64 m.sign, s] := b1
 refine wh_s b1 ?_
 rw [Ae]
 refine Ac (fun _ => H [48] w1 e1 (by simp)) (fun _ => ?_)
 refine wh_l b1 ?_
 refine Abx (h1.toIR.ext e1) (by omega) fun v1 w2 e2 o2 => ?_
 have E2 := e1.trans e2
 have s12 := e1.size
 refine ⟨fun g y z w' => Ext w w' ∧ Ext w1 w' ∧ ∃ t : List UInt8, y = str t ∧ t.length + 7 * g ≤ 120000000 ∧ ((∃ d, 0 < d ∧ d ≤ g ∧ g < 16777216 ∧ OD .i64 Ar w' w1.heap.size z [d]) ∨ IR .i64 w' z []), ?_, ?_⟩
 ·have hn := h2.1
  match l, hl with
  | [], _ => exact ⟨0, E2, e2, [], rfl, by simp, .inr o2.IR⟩
  | [d], _ =>
   have h0 : d ≠ 0 := by
    have := h2.1.2
    simpa using this
   have hv : d = m.natAbs := by
    have := h2.2
    simp only [val] at this
    omega
   exact ⟨d, E2, e2, [], rfl, by simp only [List.length_nil]; omega, .inl ⟨d, by omega, Nat.le_refl _, by omega, o2⟩⟩
 rintro g y z junk w3 ⟨E3, e3, t, rfl, ht, hz⟩
 have b3 := b1.ext e3
 rcases hz with ⟨d, hd0, hdg, hg, o3⟩ | i3
 rotate_left
 ·rw [i3.row.len Ah, Aq]
  refine AD (by simp) ?_
  refine wh_s b3 ?_
  rw [Ai]
  refine Ac (fun _ => ?_) (fun _ => H t w3 E3 (by omega))
  rw [show (Value.string ⟨#[45]⟩) = str [45] from rfl, DM (by simp only [List.length_singleton]; omega)]
  exact H _ w3 E3 (by simp only [List.length_append, List.length_singleton]; omega)
 rw [o3.IR.row.len Ah, Aq]
 refine A9 (by simp) ?_
 rw [o3.IR.row.len Ah, List.length_singleton, AC, Ad (by decide) (by decide)]
 have below : ∀ {w' w'' : World}, Ext w1 w' → w'.grownBy w'' z.ownBlock → Ext w1 w'' ∧ Ext w w'' := fun he hg => by
  have q : Ext w1 _ := Ab he (fun k hk => (o3.lt k hk).1) hg
  exact ⟨q, e1.trans q⟩
 refine ⟨fun j a b w' => Ext w w' ∧ Ext w1 w' ∧ ((j = 1 ∧ a = .int .i64 0 ∧ b = .int .i64 ((0 : Nat) : Int) ∧ OD .i64 Ar w' w1.heap.size z [d]) ∨ (j = 0 ∧ a = .int .i64 ((d % 10000000 : Nat) : Int) ∧ b = .int .i64 (-1) ∧ OD .i64 Ar w' w1.heap.size z [d / 10000000])), ⟨1, E3, e3, .inl ⟨rfl, rfl, rfl, o3⟩⟩, ?_⟩
 rintro j a b junk w4 ⟨E4, e4, ⟨rfl, rfl, rfl, o4⟩ | ⟨rfl, rfl, rfl, o4⟩⟩
 ·rw [B6]
  refine A9 (by simp) ?_
  rw [CR, Ad (by decide) (by decide)]
  refine o4.IR.at (i := 0) (by simp) Ah AE AB ?_
  show bin P .add 2 false false (.int .i64 (0 * 16777216)) (.int .i64 ((d : Nat) : Int)) w4 _
  rw [Aw, Ad (by omega) (by omega), show (0 * 16777216 : Int) + (d : Int) = (d : Int) by omega, D8 (b := 10000000) (by omega) (by decide)]
  refine o4.set (i := 0) (by simp) Ah AE fun w5 o5 g5 => ?_
  rw [C7 (b := 10000000) (by decide), AC, Ad (by decide) (by decide)]
  obtain ⟨q1, q2⟩ := below e4 g5
  exact ⟨0, by decide, q2, q1, .inr ⟨rfl, rfl, rfl, o5⟩⟩
 ·rw [B6]
  refine AD (by decide) ?_
  refine ⟨fun j a w' => w' = w4 ∧ ((j = 1 ∧ a = z) ∨ (d / 10000000 = 0 ∧ j = 0 ∧ IR .i64 w4 a [])), ⟨1, rfl, .inl ⟨rfl, rfl⟩⟩, ?_⟩
  have hr := Nat.mod_lt d (show 10000000 > 0 by decide)
  have rest : ∀ {a : Value} {q : Nat}, q = d / 10000000 → ((0 < q ∧ OD .i64 Ar w4 w1.heap.size a [q]) ∨ (q = 0 ∧ IR .i64 w4 a [])) →
    call P Cj [.int .i64 ((d % 10000000 : Nat) : Int)] w4 fun x57_54 w55 =>
     ∃ I56 : Nat → Value → World → Prop, (∃ m74, I56 m74 x57_54 w55) ∧ ∀ (m59 : Nat) (x8_60 : Value) (junk57 : Env) (w58 : World), I56 m59 x8_60 w58 →
      bl0 P .len #[53] 3 [a] w58 fun x59_61 =>
      bin P .gtr 3 false true x59_61 (.int .i64 0) w58 fun x60_62 =>
      ∃ J63 : Value → World → Prop, (∀ (x64_64 : Value) (junk66 : Env) (w65 : World), J63 x64_64 w65 →
       pick x60_62 x64_64 (.bool false) fun x65_67 =>
       cnd x65_67
        (bin P .add 9 true false (.string ⟨#[48]⟩) x8_60 w65 fun x67_68 =>
        ∃ m69, m69 < m59 ∧ I56 m69 x67_68 w65)
        (bin P .add 9 false false x8_60 (str t) w65 fun x70_70 =>
        ∃ m71, m71 < g ∧ (Ext w w65 ∧ Ext w1 w65 ∧ ∃ t : List UInt8, x70_70 = str t ∧ t.length + 7 * m71 ≤ 120000000 ∧ ((∃ d, 0 < d ∧ d ≤ m71 ∧ m71 < 16777216 ∧ OD .i64 Ar w65 w1.heap.size a [d]) ∨ IR .i64 w65 a [])))) ∧
       grd x60_62 true
        (bl0 P .len #[9] 3 [x8_60] w58 fun x63_72 =>
        bin P .lss 3 false true x63_72 (.int .i64 7) w58 fun x64_73 =>
        J63 x64_73 w58)
        (J63 undef w58) := by
   intro a q hq ha
   refine AcQ 6 _ _ _ (by decide) (by omega) (by omega) fun l w5 e5 hl5 => ?_
   have ha5 : (0 < q ∧ OD .i64 Ar w5 w1.heap.size a [q]) ∨ (q = 0 ∧ IR .i64 w5 a []) := ha.imp (fun h => ⟨h.1, Di h.2 e5⟩) (fun h => ⟨h.1, h.2.ext e5⟩)
   have ha5r : ∃ n : Nat, ∀ KK : Value → Prop, bl0 P .len #[53] 3 [a] w5 KK = KK (.int .i64 (n : Int)) := by
    rcases ha5 with h | h
    ·exact ⟨_, fun KK => h.2.IR.row.len Ah⟩
    ·exact ⟨_, fun KK => h.2.row.len Ah⟩
   obtain ⟨n, hn⟩ := ha5r
   refine ⟨fun j p w' => w' = w5 ∧ ∃ l : List UInt8, p = str l ∧ l.length ≤ 7 ∧ j + l.length = 7, ⟨7 - l.length, rfl, l, rfl, by omega, by omega⟩, ?_⟩
   rintro j p junk w6 ⟨rfl, l', rfl, hl', hj⟩
   rw [hn, Aq]
   have hqg : q < g := by rw [hq]; omega
   have fin : bin P .add 9 false false (str l') (str t) w6 fun x70_70 => ∃ m71, m71 < g ∧ (Ext w w6 ∧ Ext w1 w6 ∧ ∃ t : List UInt8, x70_70 = str t ∧ t.length + 7 * m71 ≤ 120000000 ∧ ((∃ d, 0 < d ∧ d ≤ m71 ∧ m71 < 16777216 ∧ OD .i64 Ar w6 w1.heap.size a [d]) ∨ IR .i64 w6 a [])) := by
    rw [DM (by omega)]
    refine ⟨q, hqg, E4.trans e5, e4.trans e5, _, rfl, by simp only [List.length_append]; omega, ?_⟩
    rcases ha5 with h | h
    ·exact .inl ⟨q, h.1, Nat.le_refl _, by omega, h.2⟩
    ·exact .inr h.2
   refine andJ (fun _ => ?_) (fun _ => ?_)
   ·rw [By Av, Ai]
    refine Ac (fun hlt => ?_) (fun _ => fin)
    rw [show (Value.string ⟨#[48]⟩) = str [48] from rfl, DM (by simp only [List.length_singleton]; omega)]
    exact ⟨j - 1, by omega, rfl, _, rfl, by simp only [List.length_append, List.length_singleton]; omega, by simp only [List.length_append, List.length_singleton]; omega⟩
   ·rw [Ao]; exact fin
  rintro j a junk w5 ⟨rfl, ⟨rfl, rfl⟩ | ⟨h0, rfl, i4⟩⟩
  ·rw [o4.IR.row.len Ah, Aq]
   refine andJ (fun _ => ?_) (fun hc => absurd hc (by simp))
   rw [o4.IR.row.len Ah, List.length_singleton, AC, Ad (by decide) (by decide)]
   refine o4.IR.at (i := 0) (by simp) Ah AE AB ?_
   rw [Ae]
   refine Ac (fun h0 => ?_) (fun h0 => ?_)
   ·rw [o4.IR.row.len Ah, List.length_singleton, AC, Ad (by decide) (by decide)]
    refine o4.IR.row.sli_h (ik := .i64) (h := 0) o4.IR.cap Ah AE (by simp) fun v' hr hcap _ _ => ?_
    exact ⟨0, by decide, rfl, .inr ⟨by have h0 : ((d / 10000000 : Nat) : Int) = 0 := h0; omega, rfl, ⟨hr, hcap⟩⟩⟩
   ·exact rest rfl (.inl ⟨Nat.pos_of_ne_zero (fun h => h0 (by show ((d / 10000000 : Nat) : Int) = 0; omega)), o4⟩)
  ·rw [i4.row.len Ah, Aq]
   refine andJ (fun hc => absurd hc (by simp)) (fun _ => ?_)
   rw [Ao]
   exact rest (q := 0) h0.symm (.inr ⟨rfl, i4⟩)
theorem Afc {v : Value} {b : Nat} (hf : Vc.Fin single b) (hb : b < 4294967296) (h : DQ w v 149 128 (fq b)) (H : ∀ l w', Ext w w' → l.length ≤ 500000000 → K (str l) w') : call P La [v] w K := by
 obtain ⟨m, e, ⟨s, l, rfl, h1, h2⟩, hc⟩ := h
 have hm : m.natAbs < 16777216 := by
  have hM := QO b
  have hval : dy m e = fq b := hc.val.symm
  by_cases h0 : m = 0
  ·rw [h0]; decide
  ·rcases hc.canon with ⟨hz, _⟩ | hodd
   ·exact absurd hz h0
   ·have hM0 : fM b ≠ 0 := fun hz => by
     unfold fq at hval
     rw [hz, Dv] at hval
     exact h0 (NH.1 hval)
    by_cases hle : fE b ≤ e
    ·obtain ⟨k, hk⟩ := Int.eq_ofNat_of_zero_le (show 0 ≤ e - fE b by omega)
     have q : dy (m * 2 ^ k) (fE b) = dy (fM b) (fE b) := by rw [BE (m := m) (e := e) (e' := fE b) (k := k) (by omega)]; exact hval
     have q := WB q
     have q2 : (fM b).natAbs = m.natAbs * 2 ^ k := by rw [← q, Int.natAbs_mul, CE]
     have := Nat.le_mul_of_pos_right m.natAbs (Nat.two_pow_pos k)
     omega
    ·obtain ⟨k, hk⟩ := Int.eq_ofNat_of_zero_le (show 0 ≤ fE b - e by omega)
     have q : dy (fM b * 2 ^ k) e = dy m e := by rw [BE (m := fM b) (e := fE b) (e' := e) (k := k) (by omega)]; exact hval.symm
     have q := WB q
     cases k with
     | zero => omega
     | succ k =>
      rw [Int.pow_succ, ← Int.mul_assoc] at q
      omega
 have he := hc.bd
 have hel := he.low; have het := he.top
 refine Zd ?_
 unfold Ks
 refine Ix fun x w1 b1 e1 _ => ?_
 have b1 : Bx w1 w.heap.size Al x (dv3 m.sign s e) := b1
 refine dy_w b1 ?_
 refine dy_e b1 ?_
 refine Zz ⟨s, l, rfl, h1.ext e1, h2⟩ hm fun t1 w2 e2 l1 => ⟨e2, ?_⟩
 rw [show (Value.string ⟨#[112]⟩) = str [112] from rfl, DM (by simp only [List.length_singleton]; omega)]
 refine Uy (by omega) (by omega) fun v3 w3 e3 h3 => ⟨e3, ?_⟩
 refine Zz h3.Wr (by omega) fun t2 w4 e4 l2 => ⟨e4, ?_⟩
 rw [DM (by simp only [List.length_append, List.length_singleton]; omega)]
 exact H _ w4 (e1.trans (e2.trans (e3.trans e4))) (by simp only [List.length_append, List.length_singleton]; omega)
end


section
open Go Go.Vc Ieee
variable {w : World} {K : Value → World → Prop}
theorem orX {w : World} {a b : Bool} {C : Value → World → Prop} {A : (Value → World → Prop) → Prop} (hA : ∀ J : Value → World → Prop, J (.bool b) w → A J) (h : C (.bool (a || b)) w) :
  ∃ J : Value → World → Prop, (∀ (x : Value) (junk : Env) (w' : World), J x w' → pick (.bool a) (.bool true) x fun r => C r w') ∧ grd (.bool a) false (A J) (J undef w) := by
 cases a
 ·exact ⟨C, fun x _ w' h => h, hA _ h⟩
 ·exact ⟨fun _ w' => w' = w, fun x _ w' hw => by subst hw; exact h, rfl⟩
theorem andX {w : World} {a b : Bool} {C : Value → World → Prop} {A : (Value → World → Prop) → Prop} (hA : ∀ J : Value → World → Prop, J (.bool b) w → A J) (h : C (.bool (a && b)) w) :
  ∃ J : Value → World → Prop, (∀ (x : Value) (junk : Env) (w' : World), J x w' → pick (.bool a) x (.bool false) fun r => C r w') ∧ grd (.bool a) true (A J) (J undef w) := by
 cases a
 ·exact ⟨fun _ w' => w' = w, fun x _ w' hw => by subst hw; exact h, rfl⟩
 ·exact ⟨C, fun x _ w' h => h, hA _ h⟩
theorem orAnd3 {w : World} {a b1 b2 b3 : Bool} {C : Value → World → Prop} {A1 : (Value → World → Prop) → Prop} {A2 A3 : World → (Value → World → Prop) → Prop} (h1 : ∀ J : Value → World → Prop, J (.bool b1) w → A1 J)
  (h2 : ∀ J : Value → World → Prop, J (.bool b2) w → A2 w J) (h3 : ∀ J : Value → World → Prop, J (.bool b3) w → A3 w J) (hC : ∀ b, C (.bool b) w) :
  ∃ J47 : Value → World → Prop, (∀ (x55 : Value) (junk : Env) (w49 : World), J47 x55 w49 →
  ∃ J51 : Value → World → Prop, (∀ (x57 : Value) (junk : Env) (w53 : World), J51 x57 w53 →
  ∃ J55 : Value → World → Prop, (∀ (x59 : Value) (junk : Env) (w57 : World), J55 x59 w57 →
  ∃ J59 : Value → World → Prop, (∀ (x61 : Value) (junk : Env) (w61 : World), J59 x61 w61 →
  ∃ J63 : Value → World → Prop, (∀ (x62 : Value) (junk : Env) (w65 : World), J63 x62 w65 → pick (.bool a) (.bool true) x62 fun r => C r w65) ∧
   grd (.bool a) false (pick x59 x61 (.bool false) fun r => J63 r w61) (J63 undef w61)) ∧
   grd x59 true (A3 w57 J59) (J59 undef w57)) ∧
   grd (.bool a) false (pick x55 x57 (.bool false) fun r => J55 r w53) (J55 undef w53)) ∧
   grd x55 true (A2 w49 J51) (J51 undef w49)) ∧
   grd (.bool a) false (A1 J47) (J47 undef w) := by
 cases a
 ·refine ⟨fun y w' => w' = w ∧ y = .bool b1, ?_, h1 _ ⟨rfl, rfl⟩⟩
  rintro y _ w' ⟨rfl, rfl⟩
  refine ⟨fun y w'' => w'' = w' ∧ (b1 = true → y = .bool b2), ?_, ?_⟩
  rotate_left
  ·cases b1
   ·exact ⟨rfl, fun h => by cases h⟩
   ·exact h2 _ ⟨rfl, fun _ => rfl⟩
  rintro y _ w'' ⟨rfl, hy⟩
  refine ⟨fun y w' => w' = w'' ∧ ∃ b, y = .bool b, ?_, ?_⟩
  rotate_left
  ·cases b1
   ·exact ⟨rfl, _, rfl⟩
   ·rw [hy rfl]; exact ⟨rfl, _, rfl⟩
  rintro y _ w' ⟨rfl, b, rfl⟩
  refine ⟨fun y w'' => w'' = w' ∧ (b = true → y = .bool b3), ?_, ?_⟩
  rotate_left
  ·cases b
   ·exact ⟨rfl, fun h => by cases h⟩
   ·exact h3 _ ⟨rfl, fun _ => rfl⟩
  rintro y _ w'' ⟨rfl, hy⟩
  refine ⟨fun y w' => w' = w'' ∧ ∃ b, y = .bool b, ?_, ?_⟩
  rotate_left
  ·cases b
   ·exact ⟨rfl, _, rfl⟩
   ·rw [hy rfl]; exact ⟨rfl, _, rfl⟩
  rintro y _ w' ⟨rfl, b, rfl⟩
  exact hC b
 ·refine ⟨fun y w' => w' = w ∧ y = undef, ?_, ⟨rfl, rfl⟩⟩
  rintro y _ w' ⟨rfl, rfl⟩
  refine ⟨fun y w'' => w'' = w' ∧ y = undef, ?_, ⟨rfl, rfl⟩⟩
  rintro y _ w'' ⟨rfl, rfl⟩
  refine ⟨fun y w' => w' = w'' ∧ y = undef, ?_, ⟨rfl, rfl⟩⟩
  rintro y _ w' ⟨rfl, rfl⟩
  refine ⟨fun y w'' => w'' = w' ∧ y = undef, ?_, ⟨rfl, rfl⟩⟩
  rintro y _ w'' ⟨rfl, rfl⟩
  refine ⟨fun y w' => w' = w'' ∧ y = undef, ?_, ⟨rfl, rfl⟩⟩
  rintro y _ w' ⟨rfl, rfl⟩
  exact hC true
theorem andOr {w : World} {a b1 b2 : Bool} {C : Value → World → Prop} {A1 : (Value → World → Prop) → Prop} {A2 : World → (Value → World → Prop) → Prop} (h1 : ∀ J : Value → World → Prop, J (.bool b1) w → A1 J)
  (h2 : ∀ J : Value → World → Prop, J (.bool b2) w → A2 w J) (hC : ∀ b, C (.bool b) w) :
  ∃ J109 : Value → World → Prop, (∀ (x102 : Value) (junk : Env) (w111 : World), J109 x102 w111 →
  ∃ J113 : Value → World → Prop, (∀ (x104 : Value) (junk : Env) (w115 : World), J113 x104 w115 →
  ∃ J117 : Value → World → Prop, (∀ (x105 : Value) (junk : Env) (w119 : World), J117 x105 w119 → pick (.bool a) x105 (.bool false) fun r => C r w119) ∧
   grd (.bool a) true (pick x102 (.bool true) x104 fun r => J117 r w115) (J117 undef w115)) ∧
   grd x102 false (A2 w111 J113) (J113 undef w111)) ∧
   grd (.bool a) true (A1 J109) (J109 undef w) := by
 cases a
 ·refine ⟨fun y w' => w' = w ∧ y = undef, ?_, ⟨rfl, rfl⟩⟩
  rintro y _ w' ⟨rfl, rfl⟩
  refine ⟨fun y w'' => w'' = w' ∧ y = undef, ?_, ⟨rfl, rfl⟩⟩
  rintro y _ w'' ⟨rfl, rfl⟩
  refine ⟨fun y w' => w' = w'' ∧ y = undef, ?_, ⟨rfl, rfl⟩⟩
  rintro y _ w' ⟨rfl, rfl⟩
  exact hC false
 ·refine ⟨fun y w' => w' = w ∧ y = .bool b1, ?_, h1 _ ⟨rfl, rfl⟩⟩
  rintro y _ w' ⟨rfl, rfl⟩
  refine ⟨fun y w'' => w'' = w' ∧ (b1 = false → y = .bool b2), ?_, ?_⟩
  rotate_left
  ·cases b1
   ·exact h2 _ ⟨rfl, fun _ => rfl⟩
   ·exact ⟨rfl, fun h => by cases h⟩
  rintro y _ w'' ⟨rfl, hy⟩
  refine ⟨fun y w' => w' = w'' ∧ ∃ b, y = .bool b, ?_, ?_⟩
  rotate_left
  ·cases b1
   ·rw [hy rfl]; exact ⟨rfl, _, rfl⟩
   ·exact ⟨rfl, _, rfl⟩
  rintro y _ w' ⟨rfl, b, rfl⟩
  exact hC b
theorem EA {a b c : World} {r row : Option Nat} (h : a.grownBy b r) (k : b.grownBy c row) (hr : ∀ g, row = some g → a.heap.size ≤ g) : a.grownBy c r :=
 ⟨k.os.trans h.os, k.tape.trans h.tape, k.output.trans h.output, Nat.le_trans h.size k.size, fun i hi hne => (k.block i (Nat.lt_of_lt_of_le hi h.size) (fun e => by have := hr i e.symm; omega)).trans (h.block i hi hne)⟩
theorem Sx.keep {base : Nat} {x : Value} {bs : List Nat} {w' : World} {row : Option Nat} {e : TypeId} (h : Sx w base x bs) (g : w.grownBy w' row) (ht : Ty w row e) (hne : BF ≠ e) (hr : ∀ k, row = some k → base ≤ k) : Sx w' base x bs := by
 obtain ⟨p, s, v, w0, h1, h2, h3, h4, h5⟩ := h
 exact ⟨p, s, v, w0, h1, Ab h2 (fun k hk => Nat.le_trans h3 (hr k hk)) g, h3, Bl h4 g ht hne, h5⟩
theorem Sx.low {base : Nat} {x : Value} {bs : List Nat} (h : Sx w base x bs) : base ≤ w.heap.size := by
 obtain ⟨p, s, v, w0, h1, h2, h3, ⟨g, _, hb, hg⟩, _⟩ := h
 have := Gf hg
 omega
structure St (w0 w : World) (base : Nat) (x y v : Value) (bs : List Nat) (ws : List (List UInt8)) : Prop where
 sx : Sx w base x bs
 gr : w0.grownBy w (blk x)
 low : base ≤ w0.heap.size
 row : w.ownsRow w0.heap.size AM 1 v ws.length (ws.map str)
 bx : ∃ c, Bx w w0.heap.size AF y [c]
 lt : ∀ s ∈ ws, s.length ≤ 500000000
section
variable {w0 w' : World} {base : Nat} {x y v : Value} {bs : List Nat} {ws : List (List UInt8)}
theorem St.ext (h : St w0 w base x y v bs ws) (he : Ext w w') : St w0 w' base x y v bs ws :=
 ⟨h.sx.ext he, grownE h.gr he, h.low, Di h.row he, let ⟨c, hb⟩ := h.bx; ⟨c, hb.ext he⟩, h.lt⟩
theorem St.src (h : St w0 w base x y v bs ws) (hs : Sx w' base x bs) (g : w.grownBy w' (blk x)) : St w0 w' base x y v bs ws :=
 ⟨hs, Bt h.gr g, h.low, AX h.row g h.sx.ty (by decide), let ⟨c, hb⟩ := h.bx; ⟨c, Bl hb g h.sx.ty (by decide)⟩, h.lt⟩
theorem St.app {s : List UInt8} {KW : Value → World → Prop} (h : St w0 w base x y v bs ws) (hn : ws.length ≤ 1000) (hs : s.length ≤ 500000000) (H : ∀ v' w', St w0 w' base x y v' bs (ws ++ [s]) → KW v' w') :
  bsl P B4 1 [(0, str s)] w fun y w2 => bl2 P .append #[B4, B4] B4 [v, y] w2 KW := by
 have hr : ∀ k, v.ownBlock = some k → w0.heap.size ≤ k := fun k hk => (h.row.lt k hk).1
 refine AaC h.row (by omega) h.gr.size fun v' w' o g => ?_
 refine H v' w' ⟨h.sx.keep g (Ty.owns h.row) (by decide) (fun k hk => Nat.le_trans h.low (hr k hk)), EA h.gr g hr, h.low, o, ?_, ?_⟩
 ·obtain ⟨c, hb⟩ := h.bx
  exact ⟨c, Bl hb g (Ty.owns h.row) (by decide)⟩
 ·intro s' hs'
  rcases List.mem_append.1 hs' with h1 | h1
  ·exact h.lt s' h1
  ·rw [List.mem_singleton.1 h1]; exact hs
theorem St.ret (h : St w0 w base x y v bs ws) (H : ∀ u w', Sx w' base x bs → w0.grownBy w' (blk x) → Cd w' w0.heap.size w'.heap.size u ws → K u w') :
  bld P AF [(0, v)] w fun a => sto P AF y a w fun w1 => ldc P AF y w1 fun r => K r w1 := by
 have hsl : ∃ a n c, v = .slice a n c := by obtain ⟨_, _, a, c, rfl, _⟩ := Bc h.row; exact ⟨_, _, _, rfl⟩
 rw [XF hsl]
 obtain ⟨c, hb⟩ := h.bx
 refine hb.put As (ds := [v]) rfl rfl (CQ hsl) fun w1 b1 g1 => ?_
 refine b1.getc Bo rfl As rfl ?_
 have hr : ∀ k, blk y = some k → w0.heap.size ≤ k := fun k hk => (hb.blk_lt hk).1
 have o1 := AX h.row g1 (Ty.box hb) (by decide)
 refine H _ w1 (h.sx.keep g1 (Ty.box hb) (by decide) (fun k hk => Nat.le_trans h.low (hr k hk))) (EA h.gr g1 hr) ⟨v, rfl, OwnR.of o1, fun s hs => Nat.le_trans (h.lt s hs) (by decide)⟩
end
end


section
open Go Go.Vc Ieee
variable {w : World} {K : Value → World → Prop}
section
variable {base : Nat} {x : Value} {bs : List Nat}
set_option maxHeartbeats 2000000 in
theorem Zm {n : Int} {pl : Bool} (h : Sx w base x bs) (hn1 : 1 ≤ n) (hn3 : n ≤ 3)
  (H : ∀ u w' ws, Sx w' base x bs → w.grownBy w' (blk x) → Cd w' w.heap.size w'.heap.size u ws → 1 ≤ ws.length → ws.length ≤ 60 → (∀ s ∈ ws, s.length ≤ 500000000) → K u w') :
  call P HN [x, .int .i64 n, .bool pl] w K := by
 refine Yb ?_
 unfold Lf
 refine BI As fun y w1 b1 e1 _ => ?_
 refine DG AT Bz ?_
 have e2 := Bg w1 (.cells #[] AM)
 have o2 := B9 w1 [] AM (by decide)
 generalize (w1.alloc (.cells #[] AM)) = w2 at e2 o2
 generalize (Value.slice (some ⟨w1.heap.size, 0, none⟩) 0 0) = v0 at o2
 have s0 : St w w2 base x y v0 bs [] := ⟨(h.ext e1).ext e2, grownE (grownE (World.grownBy.refl _ _) e1) e2, h.low, Cw o2 e1.size, ⟨_, b1.ext e2⟩, fun s hs => by cases hs⟩
 rw [show (6 : Int) = ((6 : Nat) : Int) from rfl, show (12 : Int) = ((12 : Nat) : Int) from rfl, show (30 : Int) = ((30 : Nat) : Int) from rfl]
 refine BR s0.sx (by decide) (by decide) fun r3 w3 h3 g3 hr3 => ?_
 have s3 := s0.src h3 g3
 refine BR s3.sx (by decide) (by decide) fun r4 w4 h4 g4 hr4 => ?_
 have s4 := s3.src h4 g4
 refine BR s4.sx (by decide) (by decide) fun r5 w5 h5 g5 hr5 => ?_
 have s5 := s4.src h5 g5
 refine GA [(r3 : Int), (r4 : Int), (r5 : Int)] rfl rfl (by simp) (by simp) fun v6 w6 e6 o6 => ?_
 have s6 := s5.ext e6
 refine Mp s6.sx o6 (by simp) (by simp) fun i hi w7 h7 g7 => ?_
 have s7 := s6.src h7 g7
 have hi2 : 0 ≤ i ∧ i ≤ 30 := by
  simp only [List.mem_cons, List.not_mem_nil, or_false] at hi
  omega
 rw [Aw, Ad (by omega) (by omega)]
 clear s0 s3 s4 s5 s6 o2 b1 e1 e2 h3 h4 h5 h7 g3 g4 g5 g7 o6 e6
 refine ⟨fun m a b c w' => ∃ (ws : List (List UInt8)) (d k : Int), b = .int .i64 d ∧ c = .int .i64 k ∧ m + ws.length = 60 ∧ 0 < m ∧ -(ws.length : Int) ≤ d ∧ d ≤ ws.length ∧ -100 ≤ k + ws.length ∧ k ≤ 100 ∧ (ws = [] → 0 < k) ∧ St w w' base x y a bs ws,
  ⟨60, [], 0, 1 + i, rfl, rfl, rfl, by decide, by simp, by simp, by simp; omega, by omega, fun _ => by omega, s7⟩, ?_⟩
 rintro m a b c junk w8 ⟨ws, d, k, rfl, rfl, hm, hm0, hd1, hd2, hk1, hk2, hk0, s8⟩
 rw [Aq]
 refine orX (b := decide (d ≠ 1)) (fun J hJ => by rw [B5]; exact hJ) ?_
 refine Az (fun _ => ?_) (fun hend => ?_)
 rotate_left
 ·refine s8.ret fun u w9 h9 g9 o9 => ?_
  refine H u w9 ws h9 g9 o9 ?_ (by omega) s8.lt
  cases ws with
  | nil =>
   have := hk0 rfl
   simp only [Bool.or_eq_false_iff, decide_eq_false_iff_not] at hend
   exact absurd this hend.1
  | cons => simp
 rw [show (3 : Int) = ((3 : Nat) : Int) from rfl]
 refine BR s8.sx (by decide) (by decide) fun kind w9 h9 g9 hr9 => ?_
 have s9 := s8.src h9 g9
 clear s8 h9 g9
 refine ⟨fun a b w' => ∃ (ws' : List (List UInt8)) (d' : Int), b = .int .i64 d' ∧ ws'.length = ws.length + 1 ∧ d - 1 ≤ d' ∧ d' ≤ d + 1 ∧ St w w' base x y a bs ws', ?_, ?_⟩
 ·rintro a' b' junk w10 ⟨ws', d', rfl, hl', hd'1, hd'2, s10⟩
  rw [(Bc s10.row).len AT, B6]
  refine Ac (fun h60 => ?_) (fun h60 => ?_)
  ·refine KV [[120], [115, 113, 114], [49, 112, 48], [45]] rfl rfl (by simp) (by simp) fun v11 w11 e11 o11 => ?_
   have s11 := s10.ext e11
   have s11 : St w w11 base x y v11 bs [[120], [115, 113, 114], [49, 112, 48], [45]] := ⟨s11.sx, s11.gr, s11.low, Cw o11 s10.gr.size, s11.bx, by decide⟩
   exact s11.ret fun u w9 h9 g9 o9 => H u w9 _ h9 g9 o9 (by decide) (by decide) s11.lt
  ·rw [AC, Ad (by omega) (by omega)]
   exact ⟨m - 1, by omega, ws', d', k - 1, rfl, rfl, by omega, by omega, by omega, by omega, by omega, by omega, fun h0 => by rw [h0] at hl'; simp at hl', s10⟩
 rw [Ae]
 refine orAnd3 (b1 := decide (d < 6)) (b2 := decide (k > 0)) (b3 := decide ((kind : Int) = 0)) (fun J hJ => by rw [Ai]; exact hJ) (fun J hJ => by rw [Aq]; exact hJ) (fun J hJ => by rw [Ae]; exact hJ) fun bb => ?_
 refine Az (fun _ => ?_) (fun _ => ?_)
 ·refine KV [[120], [121], [122]] rfl rfl (by simp) (by simp) fun v10 w10 e10 o10 => ?_
  have s10 := s9.ext e10
  rw [Dj, show max n 1 = ((n.toNat : Nat) : Int) by omega]
  refine BR s10.sx (by omega) (by omega) fun r w11 h11 g11 hr => ?_
  have s11 := s10.src h11 g11
  have o11 := AX o10 g11 s10.sx.ty (by decide)
  have hr3 : r < [([120] : List UInt8), [121], [122]].length := by simp only [List.length_cons, List.length_nil]; omega
  refine (Bc o11).at1 (Ja hr3) AT Bz Av rfl ?_
  have hlen : ([([120] : List UInt8), [121], [122]][r]).length ≤ 500000000 := by
   have := List.getElem_mem hr3
   simp only [List.mem_cons, List.not_mem_nil, or_false] at this
   rcases this with e | e | e <;> rw [e] <;> decide
  generalize [([120] : List UInt8), [121], [122]][r] = s0 at hlen
  refine ⟨fun z w' => ∃ s, z = str s ∧ s.length ≤ 500000000 ∧ St w w' base x y a bs ws, ?_, ?_⟩
  ·rintro z junk w12 ⟨s, rfl, hs, s12⟩
   refine s12.app (by omega) hs fun v' w' s' => ?_
   rw [Aw, Ad (by omega) (by omega)]
   exact ⟨_, _, rfl, by simp, by omega, by omega, s'⟩
  ·rw [Ae]
   refine orJ (fun hc => ?_) (fun _ => ?_)
   ·have := of_decide_eq_true hc; omega
   refine BR s11.sx (by decide) (by decide) fun r w12 h12 g12 hr => ?_
   have s12 := s11.src h12 g12
   rw [Ae]
   refine Az (fun _ => ?_) (fun _ => ⟨s0, rfl, hlen, s12⟩)
   rw [show (2001 : Int) = ((2001 : Nat) : Int) from rfl]
   refine BR s12.sx (by decide) (by decide) fun r w13 h13 g13 hr => ?_
   have s13 := s12.src h13 g13
   rw [AC, Ad (by omega) (by omega), BX AB BC]
   refine AA (by simp) fun q hq => ?_
   have e64 : (1115684864 : Nat) = floatOfInt .f32 64 := by decide
   rw [e64] at hq
   obtain ⟨q1, q2⟩ := Ad0 (by omega) (by omega) (by decide) hq
   refine ZH s13.sx fun b w14 h14 g14 hb hbf => ?_
   have s14 := s13.src h14 g14
   refine Ajd [1065353216, 1073741824, 1056964608, 3225419776, q, b] rfl rfl (by simp) (by simp) fun v15 w15 e15 o15 => ?_
   have s15 := s14.ext e15
   refine Ahk s15.sx o15 (by simp) (by simp) fun f hf w16 h16 g16 => ?_
   have s16 := s15.src h16 g16
   have hff : f < 4294967296 ∧ Vc.Fin single f := by
    simp only [List.mem_cons, List.not_mem_nil, or_false] at hf
    rcases hf with rfl | rfl | rfl | rfl | rfl | rfl
    ·decide
    ·decide
    ·decide
    ·decide
    ·exact ⟨q1, q2⟩
    ·exact ⟨hb, hbf⟩
   refine Gb hff.2 hff.1 fun v17 w17 e17 d17 => ?_
   refine Afc hff.2 hff.1 d17 fun s w18 e18 hs => ?_
   exact ⟨s, rfl, hs, (s16.ext e17).ext e18⟩
 rw [B6]
 refine andOr (b1 := decide (k ≤ 0)) (b2 := decide ((kind : Int) = 1)) (fun J hJ => by rw [Dx]; exact hJ) (fun J hJ => by rw [Ae]; exact hJ) fun bb => ?_
 refine Az (fun _ => ?_) (fun _ => ?_)
 ·refine KV [[43], [45], [42], [43], [42], [45], [109, 105, 110], [109, 97, 120], [47], [47]] rfl rfl (by simp) (by simp) fun v10 w10 e10 o10 => ?_
  have s10 := s9.ext e10
  have short : ∀ s ∈ ([[43], [45], [42], [43], [42], [45], [109, 105, 110], [109, 97, 120], [47], [47]] : List (List UInt8)), s.length ≤ 500000000 := by decide
  refine ⟨fun z w' => w' = w10 ∧ ∃ (l : List (List UInt8)), 0 < l.length ∧ l.length ≤ 1000 ∧ (∀ s ∈ l, s.length ≤ 500000000) ∧ w10.ownsRow w9.heap.size AM 1 z l.length (l.map str), ?_, ?_⟩
  ·rintro z junk w11 ⟨rfl, l, hl0, hl1, hls, o11⟩
   rw [(Bc o11).len AT]
   refine AfS s10.sx o11 hl0 hl1 rfl fun s hs w12 h12 g12 => ?_
   have s12 := s10.src h12 g12
   refine s12.app (by omega) (hls s hs) fun v' w' s' => ?_
   rw [AC, Ad (by omega) (by omega)]
   exact ⟨_, _, rfl, by simp, by omega, by omega, s'⟩
  ·refine Az (fun _ => ?_) (fun _ => ⟨rfl, _, by simp, by simp, short, o10⟩)
   refine (Bc o10).sli_h (h := 8) (RX o10) AT Bz (by simp) fun v' hr hc ho _ => ?_
   exact ⟨rfl, [[43], [45], [42], [43], [42], [45], [109, 105, 110], [109, 97, 120]], by decide, by decide, by decide, ho _ o10⟩
 ·refine KV [[110, 101, 103], [115, 113, 114], [97, 98, 115], [114, 111, 111, 116], [101, 120, 112], [108, 111, 103], [97, 116, 97, 110], [115, 105, 110]] rfl rfl (by simp) (by simp) fun v10 w10 e10 o10 => ?_
  have s10 := s9.ext e10
  have short : ∀ s ∈ ([[110, 101, 103], [115, 113, 114], [97, 98, 115], [114, 111, 111, 116], [101, 120, 112], [108, 111, 103], [97, 116, 97, 110], [115, 105, 110]] : List (List UInt8)), s.length ≤ 500000000 := by decide
  refine ⟨fun z w' => w' = w10 ∧ ∃ (l : List (List UInt8)), 0 < l.length ∧ l.length ≤ 1000 ∧ (∀ s ∈ l, s.length ≤ 500000000) ∧ w10.ownsRow w9.heap.size AM 1 z l.length (l.map str), ?_, ?_⟩
  ·rintro z junk w11 ⟨rfl, l, hl0, hl1, hls, o11⟩
   rw [(Bc o11).len AT]
   refine AfS s10.sx o11 hl0 hl1 rfl fun s hs w12 h12 g12 => ?_
   have s12 := s10.src h12 g12
   exact s12.app (by omega) (hls s hs) fun v' w' s' => ⟨_, _, rfl, by simp, by omega, by omega, s'⟩
  ·refine Az (fun _ => ?_) (fun _ => ⟨rfl, _, by simp, by simp, short, o10⟩)
   refine (Bc o10).sli_h (h := 3) (RX o10) AT Bz (by simp) fun v' hr hc ho _ => ?_
   exact ⟨rfl, [[110, 101, 103], [115, 113, 114], [97, 98, 115]], by decide, by decide, by decide, ho _ o10⟩
theorem Zx (h : Sx w base x bs)
  (H : ∀ u w' ws, Sx w' base x bs → w.grownBy w' (blk x) → Cd w' w.heap.size w'.heap.size u ws → 1 ≤ ws.length → ws.length ≤ 60 → (∀ s ∈ ws, s.length ≤ 500000000) → K u w') :
  call P HB [x] w K := by
 refine Yx ?_
 unfold L8
 refine BI As fun y w1 b1 e1 _ => ?_
 have b1 : Bx w1 w.heap.size AF y [.slice none 0 0] := b1
 refine GA [1, 1, 2, 3] rfl rfl (by simp) (by simp) fun v w2 e2 o2 => ?_
 have E2 := e1.trans e2
 refine Mp (h.ext E2) o2 (by simp) (by simp) fun n hn w3 h3 g3 => ?_
 have hn : 1 ≤ n ∧ n ≤ 3 := by simp only [List.mem_cons, List.not_mem_nil, or_false] at hn; omega
 rw [show (2 : Int) = ((2 : Nat) : Int) from rfl]
 refine BR h3 (by decide) (by decide) fun r w4 h4 g4 hr => ?_
 rw [Ae]
 refine Zm h4 hn.1 hn.2 fun u w5 ws h5 g5 o5 l1 l2 l3 => ?_
 obtain ⟨s, rfl, os⟩ := o5
 have hsl := os.I.sl
 have G3 := Hn E2 g3
 have G5 := Bt (Bt G3 g4) g5
 have b5 : Bx w5 w.heap.size AF y [.slice none 0 0] := Bl (Bl (Bl (b1.ext e2) g3 (h.ext E2).ty (by decide)) g4 h3.ty (by decide)) g5 h4.ty (by decide)
 have hr : ∀ k, blk y = some k → w.heap.size ≤ k := fun k hk => (b5.blk_lt hk).1
 refine b5.put As (ds := [s]) rfl rfl (CQ hsl) fun w6 b6 g6 => ?_
 refine b6.getc Bo rfl As rfl ?_
 refine H _ w6 ws (h5.keep g6 (Ty.box b5) (by decide) (fun k hk => Nat.le_trans h.low (hr k hk))) (EA G5 g6 hr) ⟨s, rfl, ?_, os.2⟩ l1 l2 l3
 have : w.heap.size ≤ w4.heap.size := Nat.le_trans G3.size g4.size
 exact ⟨Cw (AX os.1.own g6 (Ty.box b5) (by decide)) this, fun k hk => Nat.lt_of_lt_of_le (os.1.top k hk) g6.size⟩
end
end


section
open Go Go.Vc Ieee
variable {w : World} {K : Value → World → Prop}
theorem AiY {a : Value} {s : Nat} {K : Value → Prop} (hs : ∃ g l c, a = .slice g l c) : bld P BF [(0, a), (2, .int .u64 (s : Int))] w K = K (.agg #[a, .int .i64 0, .int .u64 (s : Int)]) := by
 obtain ⟨g, l, c, rfl⟩ := hs
 exact DT (by kernel_rfl)
theorem Tz {a : Value} {bs : List Nat} (h : IR .u8 w a bs) (hb : ∀ b ∈ bs, b < 256) (hl : bs.length ≤ 4096) (H : ∀ x w', Ext w w' → Sx w' w.heap.size x bs → K x w') : call P Dd [a] w K := by
 refine XX ?_
 unfold LA
 rw [h.row.len Cb, AJ DD BL, LM, Aw, show (8263 : Int) + ((bs.length % 18446744073709551616 : Nat) : Int) = ((8263 + bs.length % 18446744073709551616 : Nat) : Int) by omega, LM]
 rw [AiY (IR.sl h)]
 refine Ix fun x w1 b1 e1 _ => ?_
 have b1 : Bx w1 w.heap.size BF x [a, .int .i64 0, .int .u64 (((8263 + bs.length % 18446744073709551616) % 18446744073709551616 : Nat) : Int)] := b1
 have hn : ∀ K : Value → Prop, nch x K = K x := fun K => by obtain ⟨g, hxg, _⟩ := b1; rw [hxg]; rfl
 simp only [hn]
 have hs0 := Nat.mod_lt (8263 + bs.length % 18446744073709551616) (show 18446744073709551616 > 0 by decide)
 generalize (8263 + bs.length % 18446744073709551616) % 18446744073709551616 = s0 at *
 refine ⟨fun m y w' => ∃ (i s : Nat), y = .int .i64 (i : Int) ∧ m + i = bs.length ∧ s < 18446744073709551616 ∧ Ext w w' ∧ Bx w' w.heap.size BF x [a, .int .i64 0, .int .u64 (s : Int)], ⟨bs.length, 0, s0, rfl, rfl, hs0, e1, b1⟩, ?_⟩
 rintro m y junk w2 ⟨i, s, rfl, hm, hs, e2, b2⟩
 have h2 := h.ext e2
 rw [h2.row.len Cb, Ai]
 refine andX (b := decide ((i : Int) < 4096)) (fun J hJ => by rw [Ai]; exact hJ) ?_
 refine Az (fun hc => ?_) (fun _ => H x w2 e2 ⟨0, s, a, w, h, e2, Nat.le_refl _, b2, hb, hl, Nat.zero_le _, hs⟩)
 simp only [Bool.and_eq_true, decide_eq_true_eq] at hc
 have hi : i < bs.length := by omega
 refine b2.fld (off := 2) rfl Bi rfl Lv BL rfl ?_
 rw [CR, show (s : Int) * 1099511628211 = ((s * 1099511628211 : Nat) : Int) by rw [Int.natCast_mul]; rfl, LM]
 refine h2.at hi Cb UE DH ?_
 show cnv P 5 178 (.int .u8 ((bs[i] : Nat) : Int)) w2 _
 rw [AJ DH BL, LM, Aw, ← Int.natCast_add, LM, Aw]
 generalize (s * 1099511628211 % 18446744073709551616 + bs[i] % 18446744073709551616) % 18446744073709551616 = s2
 rw [show (s2 : Int) + 11 = ((s2 + 11 : Nat) : Int) by omega, LM]
 refine b2.fput (off := 2) (show 2 < 3 by decide) Bi rfl Lv rfl fun w3 b3 g3 => ?_
 have e3 : Ext w w3 := Ab e2 (fun k hk => (b2.blk_lt hk).1) g3
 rw [Aw, Ad (by omega) (by omega)]
 exact ⟨m - 1, by omega, i + 1, _, rfl, by omega, Nat.mod_lt _ (by decide), e3, b3⟩
section
variable {base : Nat} {x : Value} {bs : List Nat}
theorem St.ret2 {w0 : World} {y v : Value} {ws : List (List UInt8)} (h : St w0 w base x y v bs ws) (H : ∀ u w', Sx w' base x bs → w0.grownBy w' (blk x) → Cd w' w0.heap.size w'.heap.size u ws → K u w') :
  sto P AF y (.agg #[v]) w fun w1 => ldc P AF y w1 fun r => K r w1 := by
 have hsl : ∃ a n c, v = .slice a n c := by obtain ⟨_, _, a, c, rfl, _⟩ := Bc h.row; exact ⟨_, _, _, rfl⟩
 have := h.ret H
 rw [XF hsl] at this
 exact this
structure Sp (w0 w : World) (base : Nat) (x y z v : Value) (bs : List Nat) (ws : List (List UInt8)) : Prop where
 st : St w0 w base x y v bs ws
 bz : Bx w w0.heap.size AF z [v]
 ne : blk z ≠ blk y
section
variable {w0 w' : World} {y z v : Value} {ws : List (List UInt8)}
theorem Sp.ext (h : Sp w0 w base x y z v bs ws) (he : Ext w w') : Sp w0 w' base x y z v bs ws := ⟨h.st.ext he, h.bz.ext he, h.ne⟩
theorem Sp.src (h : Sp w0 w base x y z v bs ws) (hs : Sx w' base x bs) (g : w.grownBy w' (blk x)) : Sp w0 w' base x y z v bs ws := ⟨h.st.src hs g, Bl h.bz g h.st.sx.ty (by decide), h.ne⟩
theorem Sp.fin (h : Sp w0 w base x y z v bs ws) (H : ∀ u w', Sx w' base x bs → w0.grownBy w' (blk x) → Cd w' w0.heap.size w'.heap.size u ws → K u w') :
  ld P AF z w fun a => sto P AF y a w fun w1 => ldc P AF y w1 fun r => K r w1 :=
 Bb h.bz (h.st.ret2 H)
theorem Sp.put {v' : Value} {ws' : List (List UInt8)} {KW : World → Prop} (h : Sp w0 w base x y z v bs ws) (ho : w.ownsRow w0.heap.size AM 1 v' ws'.length (ws'.map str)) (hl : ∀ s ∈ ws', s.length ≤ 500000000)
  (H : ∀ w', Sp w0 w' base x y z v' bs ws' → KW w') : fda P AF z 0 w fun a => sto P B4 a v' w KW := by
 have hsl : ∃ a n c, v' = .slice a n c := by obtain ⟨_, _, a, c, rfl, _⟩ := Bc ho; exact ⟨_, _, _, rfl⟩
 have hr : ∀ k, blk z = some k → w0.heap.size ≤ k := fun k hk => (h.bz.blk_lt hk).1
 refine h.bz.fput (off := 0) (show 0 < 1 by decide) Bo rfl EH (Hu hsl) fun w1 b1 g1 => ?_
 have b1 : Bx w1 w0.heap.size AF z [v'] := b1
 refine H w1 ⟨⟨h.st.sx.keep g1 (Ty.box h.bz) (by decide) (fun k hk => Nat.le_trans h.st.low (hr k hk)), EA h.st.gr g1 hr, h.st.low, AX ho g1 (Ty.box h.bz) (by decide), ?_, hl⟩, b1, h.ne⟩
 obtain ⟨c, hc⟩ := h.st.bx
 exact ⟨c, hc.kept g1 (.inr h.ne)⟩
theorem Sp.set {i : Nat} {s : List UInt8} {KW : World → Prop} (h : Sp w0 w base x y z v bs ws) (hi : i < ws.length) (hs : s.length ≤ 500000000) (H : ∀ w', Sp w0 w' base x y z v bs (ws.set i s) → KW w') :
  ixa P B4 v (.int .i64 (i : Int)) w fun a => sto P AM a (str s) w KW := by
 have hr : ∀ k, v.ownBlock = some k → w0.heap.size ≤ k := fun k hk => (h.st.row.lt k hk).1
 refine Rz h.st.row hi rfl AT Bz fun w1 o1 g1 => ?_
 have ht := Ty.owns h.st.row
 refine H w1 ⟨⟨h.st.sx.keep g1 ht (by decide) (fun k hk => Nat.le_trans h.st.low (hr k hk)), EA h.st.gr g1 hr, h.st.low, ?_, ?_, ?_⟩, Bl h.bz g1 ht (by decide), h.ne⟩
 ·rw [← List.map_set] at o1
  rw [List.length_set]; exact o1
 ·obtain ⟨c, hc⟩ := h.st.bx
  exact ⟨c, Bl hc g1 ht (by decide)⟩
 ·intro t ht'
  rcases List.mem_or_eq_of_mem_set ht' with h1 | h1
  ·exact h.st.lt t h1
  ·rw [h1]; exact hs
end
set_option maxHeartbeats 1000000 in
theorem Xm (h : Sx w base x bs)
  (H : ∀ u w' ws, Sx w' base x bs → w.grownBy w' (blk x) → Cd w' w.heap.size w'.heap.size u ws → ws.length ≤ 61 → (∀ s ∈ ws, s.length ≤ 500000000) → K u w') :
  call P Ds [x] w K := by
 refine X9 ?_
 unfold Jy
 refine BI As fun y w1 b1 e1 hy => ?_
 refine Zx (h.ext e1) fun u w2 ws h2 g2 o2 l1 l2 l3 => ?_
 obtain ⟨s, rfl, os⟩ := o2
 have hsl := os.I.sl
 have b2 := Bl b1 g2 (h.ext e1).ty (by decide)
 refine BI As fun z w3 b3 e3 hz => ?_
 have hne : blk z ≠ blk y := by
  rw [hy, hz]
  have := e1.size; have := g2.size; have := b1.blk_lt hy
  simp only [ne_eq, Option.some.injEq]; omega
 have s12 : w.heap.size ≤ w2.heap.size := Nat.le_trans e1.size g2.size
 have G3 : w.grownBy w3 (blk x) := grownE (Hn e1 g2) e3
 have hr : ∀ k, blk z = some k → w.heap.size ≤ k := fun k hk => Nat.le_trans s12 (b3.blk_lt hk).1
 refine b3.put As (ds := [s]) rfl rfl (CQ hsl) fun w4 b4 g4 => ?_
 have sp : Sp w w4 base x y z s bs ws := by
  refine ⟨⟨(h2.ext e3).keep g4 (Ty.box b3) (by decide) (fun k hk => Nat.le_trans h.low (hr k hk)), EA G3 g4 hr, h.low, Cw (AX (Di os.1.own e3) g4 (Ty.box b3) (by decide)) e1.size, ⟨_, (b2.ext e3).kept g4 (.inr hne)⟩, l3⟩, b4.low s12, hne⟩
 clear b1 b2 b3 b4 e1 e3 g2 g4 os h2 G3 hr hy hz
 rw [show (40 : Int) = ((40 : Nat) : Int) from rfl, show (5 : Int) = ((5 : Nat) : Int) from rfl]
 refine BR sp.st.sx (by decide) (by decide) fun r w5 h5 g5 hr5 => ?_
 have sp := sp.src h5 g5
 clear h5 g5
 rw [Ae]
 refine Az (fun _ => ?_) (fun _ => ?_)
 ·refine pr_w sp.bz ?_
  have hrow : ∀ k, s.ownBlock = some k → w.heap.size ≤ k := fun k hk => (sp.st.row.lt k hk).1
  refine AaC (s := [120]) sp.st.row (by omega) sp.st.gr.size fun v' w6 o6 g6 => ?_
  have ht := Ty.owns sp.st.row
  have sp6 : Sp w w6 base x y z s bs ws ∨ True := .inr trivial
  have hsx := sp.st.sx.keep g6 ht (by decide) (fun k hk => Nat.le_trans sp.st.low (hrow k hk))
  have hgr := EA sp.st.gr g6 hrow
  have bz6 := Bl sp.bz g6 ht (by decide)
  obtain ⟨c, hc⟩ := sp.st.bx
  have by6 := Bl hc g6 ht (by decide)
  have hsl' : ∃ a n c, v' = .slice a n c := by obtain ⟨_, _, a, c, rfl, _⟩ := Bc o6; exact ⟨_, _, _, rfl⟩
  have hr : ∀ k, blk z = some k → w.heap.size ≤ k := fun k hk => (bz6.blk_lt hk).1
  refine bz6.fput (off := 0) (show 0 < 1 by decide) Bo rfl EH (Hu hsl') fun w7 b7 g7 => ?_
  have b7 : Bx w7 w.heap.size AF z [v'] := b7
  have l7 : ∀ t ∈ ws ++ [[120]], t.length ≤ 500000000 := fun t ht => by
   rcases List.mem_append.1 ht with h1 | h1
   ·exact l3 t h1
   ·rw [List.mem_singleton.1 h1]; decide
  have sp7 : Sp w w7 base x y z v' bs (ws ++ [[120]]) := ⟨⟨hsx.keep g7 (Ty.box bz6) (by decide) (fun k hk => Nat.le_trans h.low (hr k hk)), EA hgr g7 hr, h.low, AX o6 g7 (Ty.box bz6) (by decide), ⟨c, by6.kept g7 (.inr sp.ne)⟩, l7⟩, b7, sp.ne⟩
  exact sp7.fin fun u w8 h8 g8 o8 => H u w8 _ h8 g8 o8 (by simp; omega) l7
 rw [Ae]
 refine Az (fun _ => ?_) (fun _ => ?_)
 ·refine ⟨fun w' => ∃ ws', ws'.length = ws.length ∧ Sp w w' base x y z s bs ws', ?_, ?_⟩
  ·rintro junk w6 ⟨ws', hl', sp6⟩
   exact sp6.fin fun u w8 h8 g8 o8 => H u w8 _ h8 g8 o8 (by omega) sp6.st.lt
  obtain ⟨a, ha1, ha2, _⟩ := Aa9 (f := 0) (off := 0) (ty := B4) sp.bz Bo rfl EH AT rfl
  have ld0 : ∀ {w' : World} {ws' : List (List UInt8)} (K : Value → Prop), Sp w w' base x y z s bs ws' → ld P B4 a w' K = K s := fun K q => ha2 q.bz rfl K
  have rd : ∀ {w' : World} {ws' : List (List UInt8)}, Sp w w' base x y z s bs ws' → (fda P 27 z 0 w' fun q => q = a) ∧ (ld P 22 a w' fun q => q = s) := fun q => ⟨by rw [ha1], by rw [ld0 _ q]⟩
  rw [ha1, ld0 _ sp, ha1, ld0 _ sp, (Bc sp.st.row).len AT]
  have five : ∀ {w' : World} {KW : Value → World → Prop}, (∀ v w'', Ext w' w'' → w''.ownsRow w'.heap.size AM 1 v 5 (([[43], [], [112, 105], [50, 112, 48], [49, 54, 55, 55, 55, 50, 49, 55, 112, 48]] : List (List UInt8)).map str) → KW v w'') →
    bsl P 22 5 [(0, (.string ⟨#[43]⟩)), (1, (.string ⟨#[]⟩)), (2, (.string ⟨#[112, 105]⟩)), (3, (.string ⟨#[50, 112, 48]⟩)), (4, (.string ⟨#[49, 54, 55, 55, 55, 50, 49, 55, 112, 48]⟩))] w' KW := fun hk =>
   KV [[43], [], [112, 105], [50, 112, 48], [49, 54, 55, 55, 55, 50, 49, 55, 112, 48]] rfl rfl (by simp) (by simp) hk
  have short : ∀ i (hi : i < ([[43], [], [112, 105], [50, 112, 48], [49, 54, 55, 55, 55, 50, 49, 55, 112, 48]] : List (List UInt8)).length), ([[43], [], [112, 105], [50, 112, 48], [49, 54, 55, 55, 55, 50, 49, 55, 112, 48]] : List (List UInt8))[i].length ≤ 500000000 := by decide
  have last : ∀ {w' : World} {v : Value} {b : Nat} {i r : Nat}, Sp w w' base x y z s bs ws → w'.ownsRow b AM 1 v 5 (([[43], [], [112, 105], [50, 112, 48], [49, 54, 55, 55, 55, 50, 49, 55, 112, 48]] : List (List UInt8)).map str) → r < 5 → i < ws.length →
    ixa P 22 v (.int .i64 (r : Int)) w' fun q => ld P 9 q w' fun q1 => ixa P 22 s (.int .i64 (i : Int)) w' fun q2 => sto P 9 q2 q1 w' fun w48 => ∃ ws', ws'.length = ws.length ∧ Sp w w48 base x y z s bs ws' := fun {w' v b i r} q o hr hi =>
   (Bc o).at1 (Ja (l := [[43], [], [112, 105], [50, 112, 48], [49, 54, 55, 55, 55, 50, 49, 55, 112, 48]]) hr) AT Bz Av rfl (q.set hi (short r hr) fun w48 q' => ⟨_, by simp, q'⟩)
  have hlen : ws.length ≤ 9223372036854775807 := by omega
  constructor
  ·refine BR sp.st.sx (by omega) hlen fun i w6 h6 g6 hi => ?_
   have sp6 := sp.src h6 g6
   refine ⟨(rd sp6).1, (rd sp6).2, ?_, ?_⟩
   ·refine five fun v w7 e7 o7 => ⟨e7, ?_⟩
    have sp7 := sp6.ext e7
    refine BR sp7.st.sx (by decide) (by decide) fun r w8 h8 g8 hr => ?_
    have sp8 := sp7.src h8 g8
    exact ⟨(rd sp8).1, (rd sp8).2, last sp8 (AX o7 g8 sp7.st.sx.ty (by decide)) hr hi⟩
   ·refine BR sp6.st.sx (by decide) (by decide) fun r w7 h7 g7 hr => ?_
    have sp7 := sp6.src h7 g7
    refine ⟨(rd sp7).1, (rd sp7).2, ?_⟩
    refine five fun v w8 e8 o8 => ⟨e8, ?_⟩
    exact last (sp7.ext e8) o8 hr hi
  ·refine five fun v w6 e6 o6 => ⟨e6, ?_⟩
   have sp6 := sp.ext e6
   refine BR sp6.st.sx (by omega) hlen fun i w7 h7 g7 hi => ?_
   have sp7 := sp6.src h7 g7
   have o7 := AX o6 g7 sp6.st.sx.ty (by decide)
   refine ⟨(rd sp7).1, (rd sp7).2, ?_⟩
   refine BR sp7.st.sx (by decide) (by decide) fun r w8 h8 g8 hr => ?_
   have sp8 := sp7.src h8 g8
   exact ⟨(rd sp8).1, (rd sp8).2, last sp8 (AX o7 g8 sp7.st.sx.ty (by decide)) hr hi⟩
 rw [Ae]
 refine Az (fun _ => ?_) (fun _ => sp.fin fun u w8 h8 g8 o8 => H u w8 _ h8 g8 o8 (by omega) l3)
 refine sp.put (ws' := []) (v' := .slice none 0 0) ⟨rfl, .inl ⟨rfl, rfl⟩⟩ (fun s hs => by cases hs) fun w7 sp7 => ?_
 exact sp7.fin fun u w8 h8 g8 o8 => H u w8 _ h8 g8 o8 (by simp) (fun s hs => by cases hs)
end
end


section
open Go Go.Vc Ieee
variable {w : World} {K : Value → World → Prop}
theorem Ai9 (g : Nat → Nat) (x : Nat) : g x = itk g 1 x := rfl
theorem AfQ (g : Nat → Nat) (x : Nat) : g (g (g x)) = itk g 3 x := rfl
theorem Akg (g : Nat → Nat) (x : Nat) : itk g 1 (g x) = itk g 2 x := rfl
theorem AjS (g : Nat → Nat) (x : Nat) : itk g 3 (g x) = itk g 4 x := rfl
theorem KS {w' w'' : World} {x : Value} {base : Nat} {bs : List Nat} (he : Ext w w') (h : Sx w' base x bs) (hb : w.heap.size ≤ base) (g : w'.grownBy w'' (blk x)) : Ext w w'' :=
 Ab he (fun k hk => Nat.le_trans hb (h.blk k hk)) g
section
variable {a : Value} {bs : List Nat}
theorem AbS {a : Value} {bs : List Nat} (h : IR .u8 w a bs) (hb : ∀ b ∈ bs, b < 256) (hl : bs.length ≤ 4096)
  (H : ∀ u w' ws, Ext w w' → Cd w' w.heap.size w'.heap.size u ws → ws.length ≤ 61 → (∀ s ∈ ws, s.length ≤ 500000000) → K u w') :
  alc P 27 w fun x2_1 w2 => call P Dd [a] w2 fun x4_3 w4 => call P Ds [x4_3] w4 fun x5_5 w6 => sto P 27 x2_1 x5_5 w6 fun w8 => ldc P 27 x2_1 w8 fun r9 => K r9 w8 := by
 refine BI As fun y w1 b1 e1 hy => ?_
 refine Tz (h.ext e1) hb hl fun x w2 e2 h2 => ?_
 refine Xm h2 fun u w3 ws h3 g3 o3 l1 l2 => ?_
 have E2 := e1.trans e2
 have E3 := KS E2 h2 e1.size g3
 have b3 := Bl (b1.ext e2) g3 h2.ty (by decide)
 obtain ⟨s, rfl, os⟩ := o3
 have hr : ∀ k, blk y = some k → w.heap.size ≤ k := fun k hk => (b3.blk_lt hk).1
 refine b3.put As (ds := [s]) rfl rfl (CQ os.I.sl) fun w4 b4 g4 => ?_
 refine b4.getc Bo rfl As rfl ?_
 refine H _ w4 ws (Ab E3 hr g4) ⟨s, rfl, ?_, os.2⟩ l1 l2
 exact ⟨Cw (AX os.1.own g4 (Ty.box b3) (by decide)) E2.size, fun k hk => Nat.lt_of_lt_of_le (os.1.top k hk) g4.size⟩
theorem UH (h : IR .u8 w a bs) (hb : ∀ b ∈ bs, b < 256) (hl : bs.length ≤ 4096)
  (H : ∀ u w' ws, Ext w w' → Cd w' w.heap.size w'.heap.size u ws → ws.length ≤ 61 → (∀ s ∈ ws, s.length ≤ 500000000) → K u w') : call P EU [a] w K := by
 refine PW ?_
 unfold EY
 exact AbS h hb hl H
theorem UG (h : IR .u8 w a bs) (hb : ∀ b ∈ bs, b < 256) (hl : bs.length ≤ 4096)
  (H : ∀ u w' ws, Ext w w' → Cd w' w.heap.size w'.heap.size u ws → ws.length ≤ 61 → (∀ s ∈ ws, s.length ≤ 500000000) → K u w') : call P EV [a] w K := by
 refine PY ?_
 unfold EZ
 exact AbS h hb hl H
theorem Af5 : ∀ s ∈ ([[48], [49], [50], [53], [57], [45], [43], [112], [42], [47], [59], [58], [44], [32], [97], [120], [10]] : List (List UInt8)), s.length ≤ 1 := by decide
theorem AcT {base : Nat} {x : Value} {p s : Nat} {t : List UInt8} (h : Src w base x bs p s) (ht : t.length ≤ 4611686018427387904)
  (H : ∀ t' w' p' s', Src w' base x bs p' s' → w.grownBy w' (blk x) → t'.length ≤ t.length + 1 → p ≤ p' → (p = bs.length → p' = p ∧ (s' = itk nxt 1 s ∨ s' = itk nxt 3 s)) → K (str t') w') :
  call P I3 [x, str t] w K := by
 refine VP ?_
 unfold IA
 have hlt := h.lt
 refine KV [[48], [49], [50], [53], [57], [45], [43], [112], [42], [47], [59], [58], [44], [32], [97], [120], [10]] rfl rfl (by simp) (by simp) fun v w1 e1 o1 => ?_
 rw [(Bc o1).len AT]
 have h1 := h.ext e1
 refine Mh h1 (by simp) (by simp) fun r p2 w2 h2 g2 hr k2 k2' => ?_
 have o2 := AX o1 g2 h1.ty (by decide)
 have G2 := Hn e1 g2
 have hle2 : p ≤ p2 := by
  rcases Nat.lt_or_ge p bs.length with q | q
  ·have := k2 q; omega
  ·have := (k2' (by omega)).1; omega
 refine (Bc o2).at1 (Ja hr) AT Bz Av rfl ?_
 have hc := Af5 _ (List.getElem_mem hr)
 generalize ([[48], [49], [50], [53], [57], [45], [43], [112], [42], [47], [59], [58], [44], [32], [97], [120], [10]] : List (List UInt8))[r] = c at hc ⊢
 rw [By Av, Ae]
 refine Ac (fun _ => ?_) (fun h0 => ?_)
 ·exact H c w2 p2 _ h2 G2 (by omega) hle2 fun hp => ⟨(k2' hp).1, .inl (Ai9 nxt s)⟩
 rw [By Av]
 refine Mh h2 (by omega) (by omega) fun i p3 w3 h3 g3 hi k3 k3' => ?_
 rw [show (3 : Int) = ((3 : Nat) : Int) from rfl]
 refine Mh h3 (by decide) (by decide) fun q p4 w4 h4 g4 hq k4 k4' => ?_
 have G4 := Bt (Bt G2 g3) g4
 have hle4 : p ≤ p4 := by
  have a3 : p2 ≤ p3 := by
   have := h2.lt
   rcases Nat.lt_or_ge p2 bs.length with q | q
   ·have := k3 q; omega
   ·have := (k3' (by omega)).1; omega
  have a4 : p3 ≤ p4 := by
   have := h3.lt
   rcases Nat.lt_or_ge p3 bs.length with q | q
   ·have := k4 q; omega
   ·have := (k4' (by omega)).1; omega
  omega
 have hend : p = bs.length → p4 = p ∧ (nxt (nxt (nxt s)) = itk nxt 1 s ∨ nxt (nxt (nxt s)) = itk nxt 3 s) := fun hp => by
  have q2 := (k2' hp).1
  have q3 := (k3' (by omega)).1
  have q4 := (k4' (by omega)).1
  exact ⟨by omega, .inr (AfQ nxt s)⟩
 have e1 : ∀ KK : Value → Prop, bin P .add 2 false true (.int .i64 (i : Int)) (.int .i64 1) w4 KK = KK (.int .i64 ((i + 1 : Nat) : Int)) := fun KK => AO (b := 1) (by omega)
 have ht1 : (t.take i).length ≤ i := by rw [List.length_take]; omega
 have hd1 : (t.drop (i + 1)).length = t.length - (i + 1) := List.length_drop
 have hd0 : (t.drop i).length = t.length - i := List.length_drop
 have st : ∀ KK : Value → Prop, sli P 9 (str t) none (some (.int .i64 (i : Int))) none w4 KK = KK (str (t.take i)) := fun KK => RB Av (by omega)
 rw [Ae]
 refine Az (fun _ => ?_) (fun _ => ?_)
 ·rw [st, DM (by omega), e1, DN Av (by omega), DM (by simp only [List.length_append]; omega)]
  exact H _ w4 p4 _ h4 G4 (by simp only [List.length_append]; omega) hle4 hend
 rw [Ae]
 refine Az (fun _ => ?_) (fun _ => ?_)
 ·rw [st, e1, DN Av (by omega), DM (by omega)]
  exact H _ w4 p4 _ h4 G4 (by simp only [List.length_append]; omega) hle4 hend
 ·rw [st, DM (by omega), DN Av (by omega), DM (by simp only [List.length_append]; omega)]
  exact H _ w4 p4 _ h4 G4 (by simp only [List.length_append]; omega) hle4 hend
theorem TT (h : IR .u8 w a bs) (hb : ∀ b ∈ bs, b < 256) (hl : bs.length ≤ 4096) (H : ∀ t w', Ext w w' → t.length ≤ 137438953472 → K (str t) w') : call P Eg [a] w K := by
 obtain ⟨D, hD⟩ := Ahz
 refine Pi ?_
 unfold Eh
 refine Tz h hb hl fun x w1 e1 h1 => ?_
 refine Zx h1 fun u w2 ws h2 g2 o2 l1 l2 l3 => ?_
 have E2 := KS e1 h1 (Nat.le_refl _) g2
 refine Zq o2.I (by omega) fun w3 e3 => ?_
 have E3 := E2.trans e3
 have hlen : (prT ws).length ≤ 30060000060 := by
  have := TD l3 ws.length
  unfold prT
  have h60 : ws.length * (500000000 + 1) ≤ 60 * (500000000 + 1) := Nat.mul_le_mul_right _ l2
  omega
 obtain ⟨p, s, h3⟩ := h2.ext e3
 have hlt := h3.lt
 obtain ⟨M, hM⟩ : ∃ M : Nat → Nat → Nat, ∀ p s, (p < bs.length → M p s = (bs.length - p) + 68719476736) ∧ (¬ p < bs.length → M p s = D s) :=
  ⟨fun p s => if p < bs.length then (bs.length - p) + 68719476736 else D s, fun p s => ⟨fun h => if_pos h, fun h => if_neg h⟩⟩
 have hDs : ∀ s, D s ≤ 68719476736 := fun s => Nat.le_trans (hD s).1 (by decide)
 have hMle : ∀ p s, M p s ≤ 68719480832 := fun p s => by
  have := hDs s
  rcases Nat.lt_or_ge p bs.length with q | q
  ·rw [(hM p s).1 q]; omega
  ·rw [(hM p s).2 (by omega)]; omega
 refine ⟨fun m y w' => ∃ t p s, y = str t ∧ m = M p s ∧ t.length + M p s ≤ 98779480892 ∧ Src w' w.heap.size x bs p s ∧ Ext w w', ⟨M p s, prT ws, p, s, rfl, rfl, by have := hMle p s; omega, h3, E3⟩, ?_⟩
 rintro m y junk w4 ⟨t, p, s, rfl, rfl, hsum, h4, e4⟩
 have hlt4 := h4.lt
 rw [show (3 : Int) = ((3 : Nat) : Int) from rfl]
 refine Mh h4 (by decide) (by decide) fun r p5 w5 h5 g5 hr k5 k5' => ?_
 have E5 : Ext w w5 := Ab e4 h4.blk g5
 rw [Ae]
 refine Ac (fun h0 => ?_) (fun h0 => H t w5 E5 (by omega))
 refine AcT h5 (by omega) fun t' w6 p6 s6 h6 g6 hl6 hp6 hend => ?_
 have E6 : Ext w w6 := Ab E5 h5.blk g6
 have hfall : M p6 s6 < M p s := by
  have hlt6 := h6.lt
  rcases Nat.lt_or_ge p bs.length with q | q
  ·rw [(hM p s).1 q]
   have := k5 q
   rcases Nat.lt_or_ge p6 bs.length with q6 | q6
   ·rw [(hM p6 s6).1 q6]; omega
   ·rw [(hM p6 s6).2 (by omega)]
    have := hDs s6; omega
  ·obtain ⟨a5, b5⟩ := k5' (by omega)
   obtain ⟨a6, b6⟩ := hend (by omega)
   rw [(hM p s).2 (by omega), (hM p6 s6).2 (by omega)]
   have hz : shw (nxt s) % 3 = 0 := by omega
   have hf := (hD s).2 hz
   rcases b6 with q6 | q6
   ·rw [q6, Akg]; exact hf.1
   ·rw [q6, AjS]; exact hf.2
 exact ⟨M p6 s6, hfall, t', p6, s6, rfl, rfl, by omega, h6, E6⟩
end
end


section
open Go Go.Vc Ieee
variable {w : World} {K : Value → World → Prop}
structure Sf (w0 w : World) (base : Nat) (x v : Value) (bs : List Nat) (l : List Nat) : Prop where
 sx : Sx w base x bs
 gr : w0.grownBy w (blk x)
 low : base ≤ w0.heap.size
 row : w.ownsRow w0.heap.size BQ 1 v l.length (l.map fl)
 lt : ∀ b ∈ l, b < 4294967296
section
variable {base : Nat} {x v : Value} {bs l : List Nat} {w0 w' : World}
theorem Sf.ext (h : Sf w0 w base x v bs l) (he : Ext w w') : Sf w0 w' base x v bs l := ⟨h.sx.ext he, grownE h.gr he, h.low, Di h.row he, h.lt⟩
theorem Sf.src (h : Sf w0 w base x v bs l) (hs : Sx w' base x bs) (g : w.grownBy w' (blk x)) : Sf w0 w' base x v bs l := ⟨hs, Bt h.gr g, h.low, AX h.row g h.sx.ty (by decide), h.lt⟩
theorem Sf.app {b : Nat} {KW : Value → World → Prop} (h : Sf w0 w base x v bs l) (hn : l.length ≤ 1000) (hb : b < 4294967296) (H : ∀ v' w', Sf w0 w' base x v' bs (l ++ [b]) → KW v' w') :
  bsl P BN 1 [(0, fl b)] w fun y w2 => bl2 P .append #[BN, BN] BN [v, y] w2 KW := by
 have hr : ∀ k, v.ownBlock = some k → w0.heap.size ≤ k := fun k hk => (h.row.lt k hk).1
 refine Hc (fun _ _ q => q.2) (app1x h.row rfl B7 CD rfl (by simp only [maxLen]; omega) (by omega) h.gr.size fun v' w' ho hg => ?_)
 refine H v' w' ⟨h.sx.keep hg (Ty.owns h.row) (by decide) (fun k hk => Nat.le_trans h.low (hr k hk)), EA h.gr hg hr, h.low, by rw [List.length_append, List.map_append]; exact ho, fun c hc => ?_⟩
 rcases List.mem_append.1 hc with h1 | h1
 ·exact h.lt c h1
 ·rw [List.mem_singleton.1 h1]; exact hb
set_option maxHeartbeats 1000000 in
theorem Aan {u : Value} {ws : List (List UInt8)} (h : Sx w base x bs) (hp : Bm w u ws)
  (H : ∀ v w' (l : List Nat), Sx w' base x bs → w.grownBy w' (blk x) → w'.ownsRow w.heap.size BQ 1 v l.length (l.map fl) → (∀ b ∈ l, b < 4294967296) → K v w') : call P GY [x, u] w K := by
 obtain ⟨s, rfl, hs⟩ := hp
 refine Uh ?_
 unfold Hf
 refine Du fun y w1 b1 e1 => ?_
 refine DG B7 CD ?_
 have e2 := Bg w1 (.cells #[] BQ)
 have o2 := B9 w1 [] BQ (by decide)
 generalize (w1.alloc (.cells #[] BQ)) = w2 at e2 o2
 generalize (Value.slice (some ⟨w1.heap.size, 0, none⟩) 0 0) = v0 at o2
 have E2 := e1.trans e2
 have s2 : Sf w w2 base x v0 bs [] := ⟨h.ext E2, grownE (World.grownBy.refl _ _) E2, h.low, Cw o2 e1.size, fun b hb => by cases hb⟩
 refine Bb (b1.ext e2) ?_
 refine Bb (b1.ext e2) ?_
 refine HF ⟨s, rfl, hs.ext E2⟩ fun w3 e3 => ⟨e3, ?_⟩
 refine HF ⟨s, rfl, hs.ext (E2.trans e3)⟩ fun w4 e4 => ?_
 have s4 := (s2.ext e3).ext e4
 rw [show (3 : Int) = ((3 : Nat) : Int) from rfl]
 refine Ai7 (m := 3) s4.sx (by decide) fun c w5 h5 g5 => ?_
 have s5 := s4.src h5 g5
 generalize ndS ws ws.length = nd
 refine GA [nd, nd, ((3 : Nat) : Int), ((3 : Nat) : Int), c] rfl rfl (by simp) (by simp) fun v6 w6 e6 o6 => ?_
 have s6 := s5.ext e6
 refine Mp s6.sx o6 (by simp) (by simp) fun i hi w7 h7 g7 => ?_
 have s7 := s6.src h7 g7
 clear s2 s4 s5 s6 h5 g5 h7 g7 o6 hi
 refine ⟨fun m a k w' => ∃ (l : List Nat) (j : Int), k = .int .i64 j ∧ m = j.toNat ∧ (0 < j → j < 9 → l.length + j.toNat ≤ 9) ∧ l.length ≤ 9 ∧ Sf w w' base x a bs l, ⟨i.toNat, [], i, rfl, rfl, by simp; omega, by simp, s7⟩, ?_⟩
 rintro m a k junk w8 ⟨l, j, rfl, rfl, hj, hl9, s8⟩
 rw [Aq]
 refine andX (b := decide (j < 9)) (fun J hJ => by rw [Ai]; exact hJ) ?_
 refine Az (fun hc => ?_) (fun _ => H a w8 l s8.sx s8.gr s8.row s8.lt)
 simp only [Bool.and_eq_true, decide_eq_true_eq] at hc
 have hlj := hj hc.1 hc.2
 have nextI : ∀ {b : Nat} {w9 : World}, Sf w w9 base x a bs l → b < 4294967296 → bsl P BN 1 [(0, fl b)] w9 fun y w2 => bl2 P .append #[BN, BN] BN [a, y] w2 fun r w3 =>
   bin P .sub 2 false true (.int .i64 j) (.int .i64 1) w3 fun x24_38 => ∃ m39, m39 < j.toNat ∧ ∃ (l : List Nat) (j : Int), x24_38 = .int .i64 j ∧ m39 = j.toNat ∧ (0 < j → j < 9 → l.length + j.toNat ≤ 9) ∧ l.length ≤ 9 ∧ Sf w w3 base x r bs l := fun {b w9} q hb =>
  q.app (by omega) hb fun v' w' q' => by
   rw [AC, Ad (by omega) (by omega)]
   exact ⟨(j - 1).toNat, by omega, l ++ [b], j - 1, rfl, rfl, by simp; omega, by simp; omega, q'⟩
 refine BR s8.sx (by decide) (by decide) fun r w9 h9 g9 hr => ?_
 have s9 := s8.src h9 g9
 rw [Ae]
 refine Az (fun _ => ?_) (fun _ => ?_)
 ·refine AdX s9.sx fun b w10 h10 g10 hb => ?_
  exact nextI (s9.src h10 g10) hb
 ·rw [show (401 : Int) = ((401 : Nat) : Int) from rfl]
  refine BR s9.sx (by decide) (by decide) fun r w10 h10 g10 hr => ?_
  have s10 := s9.src h10 g10
  rw [AC, Ad (by omega) (by omega), BX AB BC]
  refine GA [1, 8, 10, 64] rfl rfl (by simp) (by simp) fun v11 w11 e11 o11 => ?_
  have s11 := s10.ext e11
  refine Mp s11.sx o11 (by simp) (by simp) fun d hd w12 h12 g12 => ?_
  rw [BX AB BC]
  refine AA (by simp) fun q hq => ?_
  exact nextI (s11.src h12 g12) (XA hq)
end
section
variable {a : Value} {bs : List Nat}
structure PFl (w0 w : World) (u v : Value) (ws : List (List UInt8)) (l : List Nat) : Prop where
 prog : Cd w w0.heap.size w.heap.size u ws
 row : w.ownsRow w0.heap.size BQ 1 v l.length (l.map fl)
 lt : ∀ b ∈ l, b < 4294967296
set_option maxHeartbeats 1000000 in
theorem AdG (h : IR .u8 w a bs) (hb : ∀ b ∈ bs, b < 256) (hl : bs.length ≤ 4096) (H : ∀ u v w' ws l, Ext w w' → PFl w w' u v ws l → K (.tuple #[u, v]) w') : call P JA [a] w K := by
 refine XH ?_
 unfold Jr
 refine BI As fun y w1 b1 e1 hy => ?_
 have b1 : Bx w1 w.heap.size AF y [.slice none 0 0] := b1
 refine Tz (h.ext e1) hb hl fun x w2 e2 h2 => ?_
 refine Xm h2 fun u w3 ws h3 g3 o3 l1 l2 => ?_
 have E2 := e1.trans e2
 have E3 := KS E2 h2 e1.size g3
 have b3 := Bl (b1.ext e2) g3 h2.ty (by decide)
 refine BI As fun z w4 b4 e4 hz => ?_
 have b4 : Bx w4 w3.heap.size AF z [.slice none 0 0] := b4
 have E4 := E3.trans e4
 have hne : blk z ≠ blk y := by
  rw [hy, hz]
  have := b3.blk_lt hy
  simp only [ne_eq, Option.some.injEq]; omega
 obtain ⟨s, rfl, os⟩ := o3
 have hrz : ∀ k, blk z = some k → w1.heap.size ≤ k := fun k hk => by have := (b4.blk_lt hk).1; have := e2.size; have := g3.size; omega
 refine b4.put As (ds := [s]) rfl rfl (CQ os.I.sl) fun w5 b5 g5 => ?_
 obtain ⟨St1, hS⟩ : ∃ S : World → Value → List (List UInt8) → Prop, ∀ w' s ws, S w' s ws ↔ (Ext w w' ∧ Sx w' w1.heap.size x bs ∧ Bx w' w1.heap.size AF z [s] ∧ Bx w' w.heap.size AF y [.slice none 0 0] ∧ CB w' w1.heap.size w'.heap.size s ws) := ⟨_, fun _ _ _ => Iff.rfl⟩
 have S5 : St1 w5 s ws := by
  rw [hS]
  refine ⟨Ab E4 (fun k hk => Nat.le_trans e1.size (hrz k hk)) g5, (h3.ext e4).keep g5 (Ty.box b4) (by decide) hrz, b5.low (by have := e2.size; have := g3.size; omega), (b3.ext e4).kept g5 (.inr hne), ?_, os.2⟩
  exact ⟨Cw (AX (Di os.1.own e4) g5 (Ty.box b4) (by decide)) e2.size, fun k hk => Nat.lt_of_lt_of_le (os.1.top k hk) (Nat.le_trans e4.size g5.size)⟩
 refine ⟨fun w' => ∃ s ws, St1 w' s ws, ?_, ?_⟩
 ·rintro junk w6 ⟨s, ws, S6⟩
  rw [hS] at S6
  obtain ⟨E6, h6, b6, y6, o6⟩ := S6
  refine Bb b6 ?_
  refine Bb b6 ?_
  refine Aan h6 ⟨s, rfl, o6.I⟩ fun v w7 l h7 g7 r7 l7 => ?_
  have b7 := Bl b6 g7 h6.ty (by decide)
  have y7 := Bl y6 g7 h6.ty (by decide)
  refine ⟨Bb b7 rfl, ?_⟩
  have E7 := KS E6 h6 e1.size g7
  refine y7.put As (ds := [s]) rfl rfl (CQ o6.I.sl) fun w8 y8 g8 => ?_
  refine y8.getc Bo rfl As rfl ?_
  have o7 : CB w7 w1.heap.size w6.heap.size s ws := ⟨⟨AX o6.1.own g7 h6.ty (by decide), o6.1.top⟩, o6.2⟩
  refine H _ v w8 ws l (Ab E7 (fun k hk => (y7.blk_lt hk).1) g8) ⟨⟨s, rfl, ⟨Cw (AX o7.1.own g8 (Ty.box y7) (by decide)) e1.size, fun k hk => Nat.lt_of_lt_of_le (o7.1.top k hk) (Nat.le_trans g7.size g8.size)⟩, o7.2⟩, Cw (AX r7 g8 (Ty.box y7) (by decide)) E6.size, l7⟩
 rw [hS] at S5
 obtain ⟨E5, h5, b5, y5, o5⟩ := S5
 rw [show (4 : Int) = ((4 : Nat) : Int) from rfl]
 refine BR h5 (by decide) (by decide) fun r w6 h6 g6 hr => ?_
 have E6 := KS E5 h5 e1.size g6
 have b6 := Bl b5 g6 h5.ty (by decide)
 have y6 := Bl y5 g6 h5.ty (by decide)
 rw [Aq]
 refine Az (fun _ => ?_) (fun _ => ?_)
 ·refine GA [1, 2, 3] rfl rfl (by simp) (by simp) fun v7 w7 e7 o7 => ?_
  refine Mp (h6.ext e7) o7 (by simp) (by simp) fun i hi w8 h8 g8 => ?_
  have hi : 1 ≤ i ∧ i ≤ 3 := by simp only [List.mem_cons, List.not_mem_nil, or_false] at hi; omega
  have E8 := KS (E6.trans e7) (h6.ext e7) e1.size g8
  have b8 := Bl (b6.ext e7) g8 (h6.ext e7).ty (by decide)
  have y8 := Bl (y6.ext e7) g8 (h6.ext e7).ty (by decide)
  refine Zm h8 hi.1 hi.2 fun u w9 ws h9 g9 o9 l1 l2 l3 => ?_
  have E9 := KS E8 h8 e1.size g9
  have b9 := Bl b8 g9 h8.ty (by decide)
  have y9 := Bl y8 g9 h8.ty (by decide)
  obtain ⟨s, rfl, os⟩ := o9
  refine b9.put As (ds := [s]) rfl rfl (CQ os.I.sl) fun w10 b10 g10 => ?_
  have hrz : ∀ k, blk z = some k → w1.heap.size ≤ k := fun k hk => (b9.blk_lt hk).1
  refine ⟨s, ws, (hS _ _ _).2 ⟨Ab E9 (fun k hk => Nat.le_trans e1.size (hrz k hk)) g10, h9.keep g10 (Ty.box b9) (by decide) hrz, b10, y9.kept g10 (.inr hne), ?_, os.2⟩⟩
  have hs : w1.heap.size ≤ w8.heap.size := by
   have := h8.low; exact this
  exact ⟨Cw (AX os.1.own g10 (Ty.box b9) (by decide)) hs, fun k hk => Nat.lt_of_lt_of_le (os.1.top k hk) g10.size⟩
 ·exact ⟨s, ws, (hS _ _ _).2 ⟨E6, h6, b6, y6, ⟨⟨AX o5.1.own g6 h5.ty (by decide), fun k hk => Nat.lt_of_lt_of_le (o5.1.top k hk) g6.size⟩, o5.2⟩⟩⟩
theorem ZQ (h : IR .u8 w a bs) (hb : ∀ b ∈ bs, b < 256) (hl : bs.length ≤ 4096) (H : ∀ u v w' ws l, Ext w w' → Bm w' u ws → FS w' v l → K (.tuple #[u, v]) w') : call P EQ [a] w K := by
 refine Tp ?_
 unfold H7
 refine BI As fun y w1 b1 e1 hy => ?_
 have b1 : Bx w1 w.heap.size AF y [.slice none 0 0] := b1
 refine AdG (h.ext e1) hb hl fun u v w2 ws l e2 q2 => ?_
 rw [A8, Ax]
 have E2 := e1.trans e2
 obtain ⟨s, rfl, os⟩ := q2.prog
 refine BI As fun z w3 b3 e3 hz => ?_
 have b3 : Bx w3 w2.heap.size AF z [.slice none 0 0] := b3
 have hne : blk z ≠ blk y := by
  rw [hy, hz]
  have := (b1.ext e2).blk_lt hy
  simp only [ne_eq, Option.some.injEq]; omega
 refine b3.put As (ds := [s]) rfl rfl (CQ os.I.sl) fun w4 b4 g4 => ?_
 refine Bb b4 ?_
 have y4 := ((b1.ext e2).ext e3).kept g4 (.inr hne)
 refine y4.put As (ds := [s]) rfl rfl (CQ os.I.sl) fun w5 y5 g5 => ?_
 refine y5.getc Bo rfl As rfl ?_
 have E4 : Ext w w4 := Ab (E2.trans e3) (fun k hk => Nat.le_trans E2.size (b3.blk_lt hk).1) g4
 have E5 : Ext w w5 := Ab E4 (fun k hk => (y4.blk_lt hk).1) g5
 have r4 := AX (Di q2.row e3) g4 (Ty.box b3) (by decide)
 have r5 := AX r4 g5 (Ty.box y4) (by decide)
 have o4 := AX (Di os.1.own e3) g4 (Ty.box b3) (by decide)
 have o5 := AX o4 g5 (Ty.box y4) (by decide)
 have O5 : CB w5 w1.heap.size w5.heap.size s ws := ⟨OwnR.of o5, os.2⟩
 exact H _ v w5 ws l E5 ⟨s, rfl, O5.I⟩ ⟨Bc r5, q2.lt⟩
end
end


section
open Go Go.Vc
variable {w : World} {K : Value → World → Prop} {lo hi : Nat} {v : Value}
abbrev PV := Nat × Nat
abbrev pvv (p : PV) : Value := .agg #[fl p.1, fl p.2]
def pvB (p : PV) : Prop := p.1 < 4294967296 ∧ p.2 < 4294967296
section
variable {base : Nat} {x : Value} {a b : Nat} {K : Value → Prop} {t : TypeId}
abbrev pv2 (a b : Nat) : List Value := [fl a, fl b]
theorem C6 {KW : Value → World → Prop} (H : ∀ x w', Bx w' w.heap.size t x (pv2 a b) → Ext w w' → KW x w') : bx P t (.agg #[fl a, fl b]) w KW :=
 Ix fun x w' b e _ => H x w' b e
theorem AN {KW : Value → World → Prop} (H : ∀ x w', (∃ a b, Bx w' w.heap.size Ag x (pv2 a b)) → Ext w w' → KW x w') : alc P Ag w KW :=
 BI C5 fun x w' b e _ => H x w' ⟨0, 0, b⟩ e
theorem pv_H (h : Bx w base Ag x (pv2 a b)) (H : K (fl a)) : fda P Ag x 0 w (fun y => ld P BQ y w K) :=
 h.fld (off := 0) rfl ES rfl CD BC rfl H
theorem pv_L (h : Bx w base Ag x (pv2 a b)) (H : K (fl b)) : fda P Ag x 1 w (fun y => ld P BQ y w K) :=
 h.fld (off := 1) rfl ES rfl CD BC rfl H
theorem AH (h : Bx w base Ag x (pv2 a b)) (H : K (.agg #[fl a, fl b])) : ld P Ag x w K :=
 h.get ES rfl C5 rfl H
theorem Qm (h : Bx w base Ag x (pv2 a b)) (H : K (.agg #[fl a, fl b])) : ldc P Ag x w K :=
 h.getc ES rfl C5 rfl H
theorem AeT (a b : Nat) : ∀ u ∈ pv2 a b, u.oneCell' = true := by
 intro u hu
 simp only [List.mem_cons, List.not_mem_nil, or_false] at hu
 rcases hu with rfl | rfl <;> rfl
theorem Ba {a' b' : Nat} {KW : World → Prop} (h : Bx w base Ag x (pv2 a b)) (H : ∀ w', Bx w' base Ag x (pv2 a' b') → w.grownBy w' (blk x) → KW w') : sto P Ag x (.agg #[fl a', fl b']) w KW :=
 h.put C5 (ds := pv2 a' b') rfl rfl (AeT _ _) H
theorem Ak3 {a' b' : Nat} {KW : Value → World → Prop} (h : Bx w base Ag x (pv2 a b)) (H : ∀ w', w.grownBy w' (blk x) → KW (.agg #[fl a', fl b']) w') :
  sto P Ag x (.agg #[fl a', fl b']) w fun w' => ldc P Ag x w' fun r => KW r w' :=
 Ba h fun w' b' g' => Qm b' (H w' g')
theorem Hh (a b : Nat) : bld P Ag [(0, fl a), (1, fl b)] w K = K (.agg #[fl a, fl b]) := DT (by kernel_rfl)
theorem BZ : bld P Ag [] w K = K (.agg #[fl 0, fl 0]) := DT (by kernel_rfl)
end
def AjQ (w : World) (v : Value) (p : PV) : Prop := v = pvv p ∧ pvB p
def Akd (w : World) (lo hi : Nat) (v : Value) (p : PV) : Prop := v = pvv p ∧ pvB p
theorem Re (a : Nat) {K : Value → Prop} : bld P Ag [(0, fl a)] w K = K (.agg #[fl a, fl 0]) := DT (by kernel_rfl)
end


section
open Go Go.Vc Ieee
variable {w : World} {K : Value → World → Prop}
theorem Alc {a : Value} {bs : List Nat} (h : IR .u8 w a bs) (H : K (.bool (decide (4096 < bs.length))) w) : call P RK [a] w K := by
 refine AdU ?_
 unfold RM
 rw [h.row.len Cb, Aq]
 have e : decide ((4096 : Int) < (bs.length : Int)) = decide (4096 < bs.length) := by
  by_cases hc : 4096 < bs.length
  ·rw [decide_eq_true hc, decide_eq_true (by omega)]
  ·rw [decide_eq_false hc, decide_eq_false (by omega)]
 rw [e]; exact H
theorem Ab0 {u v : Value} {l : List (List UInt8)} (h1 : SS w u l) (h2 : SS w v l) (H : ∀ w', Ext w w' → K (.bool true) w') : call P Iz [u, v] w K := by
 refine Aa4 ?_
 unfold MJ
 have hb := h1.bound
 rw [h1.len, h2.len, B5]
 refine Ac (fun h1 => by omega) (fun _ => ?_)
 refine ⟨fun m x w' => w' = w ∧ ∃ i : Nat, x = .int .i64 i ∧ m + i = l.length, ⟨l.length, rfl, 0, rfl, by omega⟩, ?_⟩
 rintro m x junk w' ⟨rfl, i, rfl, hm⟩
 rw [h1.len, Ai]
 refine Ac (fun hlt => ?_) (fun hge => H _ (Ext.refl _))
 have hi : i < l.length := by omega
 refine h1.at hi ?_
 refine h2.at hi ?_
 rw [Yo]
 refine AD (by simp) ?_
 rw [Aw, Ad (by omega) (by omega)]
 exact ⟨m - 1, by omega, rfl, i + 1, rfl, by omega⟩
theorem zero5 {b : Nat} (hb : b < 4294967296) (hz : (FloatKind.f32.format.order b 0 != some .eq) = false) (w : World) :
  rbin P .quo 66 true false (.float .f32 1065353216) (fl b) w fun x29_29 => rbin P .quo 66 true false (.float .f32 1065353216) (fl b) w fun x31_30 => bin P .eql 66 false false x29_29 x31_30 w fun x32_31 => w = w ∧ (false = false → x32_31 = .bool true) := by
 have ho : FloatKind.f32.format.order b 0 = some .eq := by simpa using hz
 have ho : single.order b 0 = some .eq := ho
 have hf : Vc.Fin single b := by
  rcases DF single b with h | h | h
  ·exact h
  ·exfalso
   unfold Format.order at ho
   rw [KC (by decide) h, show single.read 0 = .number false 0 (-149) from by decide] at ho
   simp only [Datum.order, Option.some.injEq] at ho
   split at ho <;> cases ho
  ·rw [KF (by decide) 0 h] at ho; cases ho
 rw [R6 hf hb, Option.some.injEq, Int.compare_eq_eq] at ho
 have hb2 : b = 0 ∨ b = 2147483648 := by
  unfold fM at ho
  simp only at ho
  split at ho <;> split at ho <;> omega
 have q : ∃ r', floatBits .quo .f32 1065353216 b = some r' ∧ FloatKind.f32.format.order r' r' = some .eq := by
  rcases hb2 with rfl | rfl
  ·exact ⟨2139095040, by decide, by decide⟩
  ·exact ⟨4286578688, by decide, by decide⟩
 obtain ⟨r', q1, q2⟩ := q
 refine AA (by simp) fun r hr => ?_
 refine AA (by simp) fun r2 hr2 => ?_
 have := Dw hr q1
 subst this
 have := Dw hr2 q1
 subst this
 rw [DO, q2]
 exact ⟨rfl, fun _ => rfl⟩
theorem AbJ {b : Nat} (hb : b < 4294967296) (H : ∀ w', Ext w w' → K (.bool true) w') : call P Eo [fl b, fl b] w K := by
 have H := H w (Ext.refl _)
 refine Aal ?_
 unfold MW
 rw [K2]
 rcases DF single b with h | h | h
 rotate_left 2
 ·have hn : (FloatKind.f32.format.order b b != some .eq) = true := by
   rw [show FloatKind.f32.format.order b b = none from KF (by decide) b h]; rfl
  rw [hn]
  refine ⟨fun y w' => w' = w ∧ y = undef, ?_, ⟨rfl, rfl⟩⟩
  rintro y junk w1 ⟨rfl, rfl⟩
  rw [An]
  refine A9 rfl ?_
  rw [K2, hn]
  refine ⟨fun y w' => w' = w1 ∧ y = .bool true, ?_, ?_⟩
  ·rintro y junk w2 ⟨rfl, rfl⟩
   exact H
  ·show bin P .neq 66 false false (fl b) (fl b) w1 _
   rw [K2, hn]
   exact ⟨rfl, rfl⟩
 all_goals
  have hnn : ¬ NaN single b := by first | exact Ra h | (unfold Inf at h; unfold NaN; omega)
  have ho : FloatKind.f32.format.order b b = some .eq := WA hnn (by decide)
  have hn : (FloatKind.f32.format.order b b != some .eq) = false := by rw [ho]; rfl
  have he : (FloatKind.f32.format.order b b == some .eq) = true := by rw [ho]; rfl
  rw [hn]
  refine ⟨fun y w' => w' = w ∧ y = .bool false, ?_, ?_⟩
  rotate_left
  ·show bin P .neq 66 false false (fl b) (fl b) w _
   rw [K2, hn]
   exact ⟨rfl, rfl⟩
  rintro y junk w1 ⟨rfl, rfl⟩
  rw [An]
  refine AD rfl ?_
  rw [DO, he]
  refine ⟨fun y w' => w' = w1 ∧ y = .bool (FloatKind.f32.format.order b 0 != some .eq), ?_, ?_⟩
  rotate_left
  ·show bin P .neq 66 false true (fl b) (.float .f32 0) w1 _
   rw [K2]
   exact ⟨rfl, rfl⟩
  rintro y junk w2 ⟨rfl, rfl⟩
  generalize hz : (FloatKind.f32.format.order b 0 != some .eq) = z
  refine ⟨fun y w' => w' = w2 ∧ (z = false → y = .bool true), ?_, ?_⟩
  ·rintro y junk w3 ⟨rfl, hy⟩
   refine ⟨fun y w' => w' = w3 ∧ y = .bool true, ?_, ?_⟩
   ·rintro y junk w4 ⟨rfl, rfl⟩
    exact H
   ·cases z
    ·rw [hy rfl]; exact ⟨rfl, rfl⟩
    ·exact ⟨rfl, rfl⟩
  ·cases z
   ·exact zero5 hb hz w2
   ·exact ⟨rfl, fun h => by cases h⟩
end


section
open Go Go.Vc
variable {w : World} {K : Value → World → Prop} {lo hi : Nat} {v : Value}
end


section
open Go Go.Vc
variable {w : World} {K : Value → World → Prop}
end


section
open Go Go.Vc
abbrev Ck : TypeId := 127
theorem IG : P.underlying 127 = some (.struct #[{ name := "made", type := 125, offset := 0, embedded := false, tag := "", pkgPath := "loop.example/g01172/impl", byteOffset := 0 }, { name := "one", type := 122, offset := 1, embedded := false, tag := "", pkgPath := "loop.example/g01172/impl", byteOffset := 8 }, { name := "two", type := 123, offset := 2, embedded := false, tag := "", pkgPath := "loop.example/g01172/impl", byteOffset := 16 }]) := Tryz.underlying127
abbrev TV : TypeId := 125
theorem TK : ∃ d, P.underlying 125 = some d ∧ aggB d = false := ⟨_, Tryz.underlying125, rfl⟩
theorem Uj : TI P 125 .nilFunc 1 8 := AZ (by kernel_rfl)
abbrev Tu : TypeId := 122
theorem SY : ∃ d, P.underlying 122 = some d ∧ aggB d = false := ⟨_, Tryz.underlying122, rfl⟩
theorem Ut : TI P 122 .nilFunc 1 8 := AZ (by kernel_rfl)
abbrev Tt : TypeId := 123
theorem TA : ∃ d, P.underlying 123 = some d ∧ aggB d = false := ⟨_, Tryz.underlying123, rfl⟩
theorem Up : TI P 123 .nilFunc 1 8 := AZ (by kernel_rfl)
end


section
open Go Go.Vc
variable {w : World} {K : Value → World → Prop}
theorem Ako {g : Nat} {x v : Value} {lo hi : Nat} {q : Rat} {KW : Value → World → Prop} (h : NC w g x) (hv : NQ w v lo hi q) (H : ∀ v' w', w.grownBy w' (some g) → NQ w' v' lo hi q → KW v' w') :
  sto P AI x v w fun w' => ldc P AI x w' fun r => KW r w' :=
 h.put hv fun w' v' g' _ => v'.getc fun v2 h2 => H v2 w' g' h2
theorem AkX {v : Value} {lo hi : Nat} {q : Rat} {KW : Value → World → Prop} (h : NQ w v lo hi q) (H : ∀ x w', NV w' w.heap.size x lo hi q → Ext w w' → KW x w') : bx P AI v w KW := by
 obtain ⟨m, e, ⟨p, rfl, ip⟩, hb, hq⟩ := h
 exact Ix fun x w' b e hp => H x w' ⟨hp, p, _, b, m, _, ⟨p, rfl, ip.ext e⟩, hb, hq⟩ e
abbrev fnv (f : FuncId) : Value := .func (.func f) #[] #[]
end


section
open Go Go.Vc
variable {w : World} {K : Value → World → Prop}
theorem Ag3 {l : List UInt8} (h : 0 ≤ varF l) : form0 l = 0 := by
 unfold varF at h
 unfold form0
 split at h
 ·rename_i h1; rw [if_pos h1]
 ·rename_i h1
  rw [if_neg h1]
  split at h
  ·rename_i h2; rw [if_pos h2]
  ·rename_i h2
   rw [if_neg h2]
   split at h
   ·rename_i h3; rw [if_pos h3]
   ·omega
end


section
open Go Go.Vc
variable {w : World} {K : Value → World → Prop}
theorem AkQ {v : Value} {lo hi : Nat} {q : Rat} {KW : Value → World → Prop} (h : DQ w v lo hi q) (H : ∀ x w', DV w' w.heap.size x lo hi q → Ext w w' → KW x w') : bx P Al v w KW := by
 obtain ⟨m, e, ⟨s, l, rfl, h1, wl⟩, hc⟩ := h
 exact Ix fun x w' b e' hp => H x w' ⟨hp, _, s, e, b, m, e, ⟨s, l, rfl, h1.ext e', wl⟩, hc⟩ e'
theorem Akk {g : Nat} {x v : Value} {lo hi : Nat} {q : Rat} {KW : Value → World → Prop} (h : DC w g x) (hv : DQ w v lo hi q) (H : ∀ v' w', w.grownBy w' (some g) → DQ w' v' lo hi q → KW v' w') :
  sto P Al x v w fun w' => ldc P Al x w' fun r => KW r w' :=
 h.put hv fun w' v' g' _ => v'.getc fun v2 h2 => H v2 w' g' h2
end


section
open Go Go.Vc Ieee
variable {w : World} {K : Value → World → Prop}
def qkF (a b : Nat) : Option PV :=
 if finB (opF .add a b) then (if finB (opF .sub (opF .add a b) a) then (if finB (opF .sub b (opF .sub (opF .add a b) a)) then some (opF .add a b, opF .sub b (opF .sub (opF .add a b) a)) else none) else none) else none
def isPB (p : PV) : Bool := finB p.1 && finB p.2 && (single.order (opF .add p.1 p.2) p.1 == some .eq)
noncomputable def smF (x y : Nat) : Option PV := if finB (opF .add x y) then some (opF .add x y, zF (rndQ 0 (fq x + fq y - fq (opF .add x y))).1) else none
noncomputable def spF (x y : Nat) : Option PV := if finB (opF .mul x y) then some (opF .mul x y, zF (rndQ 0 (fq x * fq y - fq (opF .mul x y))).1) else none
def okP (o : Option PV) : Option PV := match o with
 | none => none
 | some p => if isPB p then some p else none
noncomputable def ad2 (s t : PV) : Option PV :=
 if finB s.2 && finB (opF .add s.2 t.1) then (match qkF s.1 (opF .add s.2 t.1) with
  | none => none
  | some v => if finB t.2 && finB (opF .add t.2 v.2) then okP (qkF v.1 (opF .add t.2 v.2)) else none) else none
noncomputable def adF (p q : PV) : Option PV := match smF p.1 q.1, smF p.2 q.2 with
 | some s, some t => ad2 s t
 | _, _ => none
noncomputable def mlF (p q : PV) : Option PV := match spF p.1 q.1 with
 | none => none
 | some s => if finB (opF .mul p.1 q.2) && finB (opF .mul p.2 q.1) && finB (opF .add (opF .mul p.1 q.2) (opF .mul p.2 q.1)) && finB s.2 && finB (opF .add s.2 (opF .add (opF .mul p.1 q.2) (opF .mul p.2 q.1))) then
   okP (qkF s.1 (opF .add s.2 (opF .add (opF .mul p.1 q.2) (opF .mul p.2 q.1)))) else none
def ngP (p : PV) : PV := (turnB p.1, turnB p.2)
def dv2 (A y : Nat) (o : Option PV) : Option PV := match o with
 | none => none
 | some s => if finB (opF .quo s.1 y) then okP (qkF A (opF .quo s.1 y)) else none
noncomputable def dvF (p q : PV) : Option PV :=
 if finB (opF .quo p.1 q.1) then (match mlF q (opF .quo p.1 q.1, 0) with
  | none => none
  | some r => dv2 (opF .quo p.1 q.1) q.1 (adF p (ngP r))) else none
def PF (p : PV) : Prop := pvB p ∧ Vc.Fin single p.1 ∧ Vc.Fin single p.2
theorem Abs {p : PV} (h : isPB p = true) : Vc.Fin single p.1 ∧ Vc.Fin single p.2 := by
 unfold isPB at h
 rw [Bool.and_eq_true, Bool.and_eq_true] at h
 exact ⟨BU.1 h.1.1, BU.1 h.1.2⟩
theorem RR {o : Option PV} {p : PV} (h : okP o = some p) : o = some p ∧ isPB p = true := by
 unfold okP at h
 cases o with
 | none => cases h
 | some q =>
  simp only at h
  split at h
  ·rename_i hq; simp only [Option.some.injEq] at h; subst h; exact ⟨rfl, hq⟩
  ·cases h
theorem VT {p q r : PV} (h : adF p q = some r) : isPB r = true := by
 unfold adF at h
 split at h
 ·unfold ad2 at h
  split at h
  ·split at h
   ·cases h
   ·split at h
    ·exact (RR h).2
    ·cases h
  ·cases h
 ·cases h
theorem Wh {p q r : PV} (h : mlF p q = some r) : isPB r = true := by
 unfold mlF at h
 split at h
 ·cases h
 ·split at h
  ·exact (RR h).2
  ·cases h
theorem Acf {p q r : PV} (h : dvF p q = some r) : isPB r = true := by
 unfold dvF at h
 split at h
 ·split at h
  ·cases h
  ·unfold dv2 at h
   split at h
   ·cases h
   ·split at h
    ·exact (RR h).2
    ·cases h
 ·cases h
theorem AjT {a b : Nat} {p : PV} (h : qkF a b = some p) : pvB p := by
 unfold qkF at h
 split at h
 ·split at h
  ·split at h
   ·simp only [Option.some.injEq] at h; subst h; exact ⟨Mu, Mu⟩
   ·cases h
  ·cases h
 ·cases h
theorem AcZ {a b : Nat} {p : PV} (h : qkF a b = some p) : finB p.1 = true ∧ finB p.2 = true := by
 unfold qkF at h
 split at h
 ·rename_i h1
  split at h
  ·split at h
   ·rename_i h3; simp only [Option.some.injEq] at h; subst h; exact ⟨h1, h3⟩
   ·cases h
  ·cases h
 ·cases h
theorem FR32 {op : BinOp} {a b r : Nat} (h : FR op .f32 a b r) : r < 4294967296 := XA h
theorem Cc {a b r : Nat} (h : FR .add .f32 a b r) : (finB a && finB b) = true ∧ r = opF .add a b ∨ (finB a && finB b) = false ∧ finB r = false := by
 cases hf : (finB a && finB b)
 ·exact .inr ⟨rfl, Ak6 h hf⟩
 ·rw [Bool.and_eq_true] at hf
  exact .inl ⟨rfl, Ep h (Yw (BU.1 hf.1) (BU.1 hf.2))⟩
theorem SQ {a b r : Nat} (h : FR .sub .f32 a b r) : (finB a && finB b) = true ∧ r = opF .sub a b ∨ (finB a && finB b) = false ∧ finB r = false := by
 cases hf : (finB a && finB b)
 ·exact .inr ⟨rfl, AjZ h hf⟩
 ·rw [Bool.and_eq_true] at hf
  exact .inl ⟨rfl, Ep h (Ajl (BU.1 hf.1) (BU.1 hf.2))⟩
theorem AgK (a b c : Nat) : [a, b, c].all finB = (finB a && finB b && finB c) := by simp [Bool.and_assoc]
theorem Acg (a b : Nat) : [a, b].all finB = (finB a && finB b) := by simp
theorem AhL (a b c d : Nat) : [a, b, c, d].all finB = (finB a && finB b && finB c && finB d) := by simp [Bool.and_assoc]
theorem Wq {a b h k l : Nat} (ha : finB a = true) (hb : finB b = true) (h1 : FR .add .f32 a b h) (h2 : FR .sub .f32 h a k) (h3 : FR .sub .f32 b k l) :
  (finB h && finB k && finB l) = (qkF a b).isSome ∧ (finB h && finB l) = (qkF a b).isSome ∧ ∀ p, qkF a b = some p → (h, l) = p := by
 have e1 : h = opF .add a b := by rcases Cc h1 with ⟨_, h⟩ | ⟨h, _⟩; exact h; rw [ha, hb] at h; cases h
 subst e1
 unfold qkF
 cases f1 : finB (opF .add a b)
 ·simp
 ·have e2 : k = opF .sub (opF .add a b) a := by rcases SQ h2 with ⟨_, h⟩ | ⟨h, _⟩; exact h; rw [f1, ha] at h; cases h
  subst e2
  cases f2 : finB (opF .sub (opF .add a b) a)
  ·have : finB l = false := by rcases SQ h3 with ⟨h, _⟩ | ⟨_, h⟩; rw [hb, f2] at h; cases h; exact h
   simp [this]
  ·have e3 : l = opF .sub b (opF .sub (opF .add a b) a) := by rcases SQ h3 with ⟨_, h⟩ | ⟨h, _⟩; exact h; rw [hb, f2] at h; cases h
   subst e3
   cases f3 : finB (opF .sub b (opF .sub (opF .add a b) a)) <;> simp
set_option maxRecDepth 20000 in
theorem AfC {t e : TypeId} {z : Value} {b : Nat} {KW : Value → World → Prop} {x y u : Value} (hu : P.underlying t = some (.slice e)) (ht : TI P e z 1 b) (h1 : x.oneCell' = true) (h2 : y.oneCell' = true) (h3 : u.oneCell' = true) (hz : z.oneCell' = true)
  (h : KW (.slice (some ⟨w.heap.size, 0, none⟩) 3 3) (w.alloc (.cells #[x, y, u] e))) : bsl P t 3 [(0, x), (1, y), (2, u)] w KW := by
 have hcells : ∀ v : Value, v.oneCell' = true → v.cells = #[v] := by intro v h1; cases v <;> first | rfl | (simp [Value.oneCell'] at h1; done)
 unfold bsl Instr.buildSlice
 refine Cs (A4 hu) ?_
 refine Cs (sm := sizeOf e) (Ch ht) ?_
 simp only [Nat.mul_one]
 rw [if_neg (by omega), if_neg (by omega)]
 refine AL (s := zeroValue e) ?_
 refine EO (Cl _ (DS ht) ?_)
 refine AL (AS ?_)
 have : Instr.fill (fun i => some (i, 1)) ((Array.range 3).map (fun i => z.cells[i % z.cells.size]!)) [(0, x), (1, y), (2, u)].toArray.toList = some #[x, y, u] := by
  have hr : Array.range 3 = #[0, 1, 2] := rfl
  simp [Instr.fill, hr, hcells x h1, hcells y h2, hcells u h3, hcells z hz]
 simp only [this]
 exact AL (AL (FJ (AS (AS h))))
set_option maxRecDepth 20000 in
theorem Ahp {t e : TypeId} {z : Value} {b : Nat} {KW : Value → World → Prop} {x y u v : Value} (hu : P.underlying t = some (.slice e)) (ht : TI P e z 1 b) (h1 : x.oneCell' = true) (h2 : y.oneCell' = true) (h3 : u.oneCell' = true) (h4 : v.oneCell' = true) (hz : z.oneCell' = true)
  (h : KW (.slice (some ⟨w.heap.size, 0, none⟩) 4 4) (w.alloc (.cells #[x, y, u, v] e))) : bsl P t 4 [(0, x), (1, y), (2, u), (3, v)] w KW := by
 have hcells : ∀ v : Value, v.oneCell' = true → v.cells = #[v] := by intro v h1; cases v <;> first | rfl | (simp [Value.oneCell'] at h1; done)
 unfold bsl Instr.buildSlice
 refine Cs (A4 hu) ?_
 refine Cs (sm := sizeOf e) (Ch ht) ?_
 simp only [Nat.mul_one]
 rw [if_neg (by omega), if_neg (by omega)]
 refine AL (s := zeroValue e) ?_
 refine EO (Cl _ (DS ht) ?_)
 refine AL (AS ?_)
 have : Instr.fill (fun i => some (i, 1)) ((Array.range 4).map (fun i => z.cells[i % z.cells.size]!)) [(0, x), (1, y), (2, u), (3, v)].toArray.toList = some #[x, y, u, v] := by
  have hr : Array.range 4 = #[0, 1, 2, 3] := rfl
  simp [Instr.fill, hr, hcells x h1, hcells y h2, hcells u h3, hcells v h4, hcells z hz]
 simp only [this]
 exact AL (AL (FJ (AS (AS h))))
theorem bslF3 {a b c : Nat} {KW : Value → World → Prop} (ha : a < 4294967296) (hb : b < 4294967296) (hc : c < 4294967296) (H : ∀ v w', Ext w w' → FS w' v [a, b, c] → KW v w') : bsl P BN 3 [(0, fl a), (1, fl b), (2, fl c)] w KW :=
 AfC B7 CD rfl rfl rfl rfl (H _ _ (Bg _ _) ⟨Bc (B9 w [fl a, fl b, fl c] BQ (by simp [maxLen])), by intro b hb; simp at hb; rcases hb with rfl | rfl | rfl <;> assumption⟩)
theorem bslF4 {a b c d : Nat} {KW : Value → World → Prop} (ha : a < 4294967296) (hb : b < 4294967296) (hc : c < 4294967296) (hd : d < 4294967296) (H : ∀ v w', Ext w w' → FS w' v [a, b, c, d] → KW v w') : bsl P BN 4 [(0, fl a), (1, fl b), (2, fl c), (3, fl d)] w KW :=
 Ahp B7 CD rfl rfl rfl rfl rfl (H _ _ (Bg _ _) ⟨Bc (B9 w [fl a, fl b, fl c, fl d] BQ (by simp [maxLen])), by intro b hb; simp at hb; rcases hb with rfl | rfl | rfl | rfl <;> assumption⟩)
theorem Bv {x : Value} {base : Nat} {cs : List Value} (h : Bx w base Ag x cs) : ∀ g, blk x = some g → base ≤ g := fun g hg => (h.blk_lt hg).1
theorem AV {w0 : World} {base : Nat} {x : Value} {a b : Nat} {p : PV} {KW : Value → World → Prop} (h : Bx w base Ag x (pv2 a b)) (he : Ext w0 w) (hb : w0.heap.size ≤ base) (H : ∀ w', Ext w0 w' → KW (pvv p) w') :
  sto P Ag x (pvv p) w fun w' => ldc P Ag x w' fun r => KW r w' :=
 Ak3 h fun w' g => H w' (Ab he (fun k hk => Nat.le_trans hb (h.blk_lt hk).1) g)
theorem UC {a b : Nat} (ha : a < 4294967296) (hb : b < 4294967296) (H : ∀ o f w', Ext w w' → pvB o → (finB a = true → finB b = true → f = (qkF a b).isSome ∧ ∀ p, qkF a b = some p → o = p) → K (.tuple #[pvv o, .bool f]) w') : call P Fp [fl a, fl b] w K := by
 refine AbT ?_
 unfold Pc
 refine AN fun x w1 ⟨a0, b0, b4⟩ e1 => ?_
 refine AA (by simp) fun h h1 => ?_
 refine AA (by simp) fun k h2 => ?_
 refine AA (by simp) fun l h3 => ?_
 rw [Hh]
 refine bslF3 (FR32 h1) (FR32 h2) (FR32 h3) fun v w2 e2 hv => ?_
 refine Ik hv ?_
 rw [AgK]
 refine AV (p := (h, l)) (b4.ext e2) (e1.trans e2) (Nat.le_refl _) fun w' e => H (h, l) _ w' e ⟨FR32 h1, FR32 h3⟩ fun fa fb => ?_
 have := Wq fa fb h1 h2 h3
 exact ⟨this.1, this.2.2⟩
theorem Jz {p : PV} (hp : pvB p) (H : ∀ w', Ext w w' → K (pvv (ngP p)) w') : call P CN [pvv p] w K := by
 refine WY ?_
 unfold JG
 refine C6 fun x1 w1 b1 e1 => ?_
 refine AN fun x2 w2 ⟨a0, b0, b2⟩ e2 => ?_
 have b1 := b1.ext e2
 refine pv_H b1 ?_
 rw [Dz, neg32 _ hp.1]
 refine pv_L b1 ?_
 rw [Dz, neg32 _ hp.2, Hh]
 exact AV (p := ngP p) b2 (e1.trans e2) e1.size H
theorem Rx {p : PV} (hp : pvB p) (H : ∀ w', Ext w w' → K (.bool (isPB p)) w') : call P DB [pvv p] w K := by
 refine ZW ?_
 unfold MN
 refine C6 fun x1 w1 b1 e1 => ?_
 refine pv_H b1 ?_
 refine pv_L b1 ?_
 refine bslF2 hp.1 hp.2 fun v w2 e2 hv => ?_
 refine Ik hv ?_
 rw [Acg]
 have H := H w2 (e1.trans e2)
 unfold isPB at H
 refine andJ (fun h => ?_) (fun h => ?_)
 ·refine pv_H (b1.ext e2) ?_
  refine pv_L (b1.ext e2) ?_
  refine AA (by simp) fun r hr => ?_
  refine pv_H (b1.ext e2) ?_
  rw [DO]
  rw [h, Bool.true_and] at H
  have : r = opF .add p.1 p.2 := by rcases Cc hr with ⟨_, h⟩ | ⟨h', _⟩; exact h; rw [h] at h'; cases h'
  rw [this]; exact H
 ·rw [h, Bool.false_and] at H; exact H
theorem AfP {o : PV} {f : Bool} (ho : pvB o) (H : ∀ o' w', Ext w w' → pvB o' → (f = true → o' = o) → K (.tuple #[pvv o', .int .i64 (if f then 0 else 3)]) w') : call P CC [pvv o, .bool f] w K := by
 refine XS ?_
 unfold Lc
 refine C6 fun x1 w1 b1 e1 => ?_
 refine AN fun x2 w2 ⟨a0, b0, b2⟩ e2 => ?_
 have b1 := b1.ext e2
 rw [A5]
 cases f
 ·refine A9 rfl ?_
  rw [BZ]
  exact AV (p := (0, 0)) b2 (e1.trans e2) e1.size fun w' e => H _ w' e ⟨by decide, by decide⟩ (fun h => by cases h)
 ·refine AD rfl ?_
  refine AH b1 ?_
  exact AV (p := o) b2 (e1.trans e2) e1.size fun w' e => H _ w' e ho (fun _ => rfl)
theorem Qf {p : PV} (hp : PF p) (H : ∀ v w', Ext w w' → NQ w' v 149 129 (fq p.1 + fq p.2) → K v w') : call P DU [pvv p] w K := by
 refine VR ?_
 unfold IF
 refine C6 fun x1 w1 b1 e1 => ?_
 refine Ak7 fun x2 w2 n2 e2 => ?_
 have b1 := b1.ext e2
 refine pv_H b1 ?_
 refine pv_L b1 ?_
 refine K7 hp.1.1 hp.2.1 fun u w3 e3 hu => ?_
 refine ⟨e3, ?_⟩
 refine K7 hp.1.2 hp.2.2 fun v w4 e4 hv => ?_
 refine T4 (hu.ext e4) hv (by decide) (by decide) fun s w5 e5 hs => ?_
 have E := e3.trans (e4.trans e5)
 refine Ako (n2.ext E) hs fun v' w' g hv => ?_
 exact H v' w' (Im (e1.trans (e2.trans E)) e1.size g) hv
theorem Afv {v : Value} {lo hi b : Nat} {q : Rat} (h : NQ w v lo hi q) (hl : lo ≤ 1000) (hh : hi ≤ 1000) (hl' : 149 ≤ lo) (hh' : 128 ≤ hi) (hb : b < 4294967296) (hf : Vc.Fin single b) (H : ∀ f w', Ext w w' → K (.tuple #[fl (zF (rndQ 0 (q - fq b)).1), .bool f]) w') : call P LQ [v, fl b] w K := by
 refine Ac0 ?_
 unfold PS
 refine AkX h fun x w1 v1 e1 => ?_
 refine v1.get fun u hu => ?_
 refine K7 hb hf fun u2 w2 e2 h2 => ?_
 refine ⟨e2, ?_⟩
 refine Z4 (hu.ext e2) (h2.mono hl' hh') (by omega) (by omega) fun u3 w3 e3 h3 => ?_
 refine Vm h3 (by omega) (by omega) fun w4 e4 => ?_
 rw [A8, Ax]
 refine Ajj ?_
 rw [Ae]
 exact H _ w4 (e1.trans (e2.trans (e3.trans e4)))
theorem Q9 {b : Nat} (h : b < 4294967296) : zF b < 4294967296 := by unfold zF; split; decide; exact h
theorem Xf {x y : Nat} (hx : x < 4294967296) (hy : y < 4294967296) (fx : Vc.Fin single x) (fy : Vc.Fin single y) (H : ∀ o w', Ext w w' → pvB o → (∀ p, smF x y = some p → o = p) → K (.tuple #[pvv o, .bool (smF x y).isSome]) w') : call P Gw [fl x, fl y] w K := by
 refine Xq ?_
 unfold JR
 refine AN fun x4 w1 ⟨a0, b0, b4⟩ e1 => ?_
 refine AA (by simp) fun h h1 => ?_
 have he : h = opF .add x y := Ep h1 (Yw fx fy)
 subst he
 refine JO (FR32 h1) ?_
 rw [A5]
 unfold smF at H
 cases hf : finB (opF .add x y)
 ·rw [hf] at H
  refine A9 rfl ?_
  rw [BZ]
  exact AV (p := (0, 0)) b4 e1 (Nat.le_refl _) fun w' e => H _ w' e ⟨by decide, by decide⟩ (fun p hp => by cases hp)
 ·rw [hf] at H
  refine AD rfl ?_
  refine K7 hx fx fun u w2 e2 hu => ?_
  refine K7 hy fy fun v w3 e3 hv => ?_
  refine T4 (hu.ext e3) hv (by decide) (by decide) fun s w4 e4 hs => ?_
  refine Afv hs (by decide) (by decide) (by decide) (by decide) (FR32 h1) (BU.1 hf) fun f w5 e5 => ?_
  rw [A8, Ax, Hh]
  have E := e2.trans (e3.trans (e4.trans e5))
  exact AV (p := (opF .add x y, zF (rndQ 0 (fq x + fq y - fq (opF .add x y))).1)) (b4.ext E) (e1.trans E) (Nat.le_refl _) fun w' e => H _ w' e ⟨Mu, Q9 (Kt _ _)⟩ (fun p hp => by simpa using hp)
theorem XO {x y : Nat} (hx : x < 4294967296) (hy : y < 4294967296) (fx : Vc.Fin single x) (fy : Vc.Fin single y) (H : ∀ o f w', Ext w w' → pvB o → (∀ p, spF x y = some p → o = p) → K (.tuple #[pvv o, .bool (spF x y).isSome, .bool f]) w') : call P Gn [fl x, fl y] w K := by
 refine SH ?_
 unfold Gi
 refine AN fun x4 w1 ⟨a0, b0, b4⟩ e1 => ?_
 refine AA (by simp) fun h h1 => ?_
 have he : h = opF .mul x y := Ep h1 (NS fx fy)
 subst he
 refine JO (FR32 h1) ?_
 rw [A5]
 unfold spF at H
 cases hf : finB (opF .mul x y)
 ·rw [hf] at H
  refine A9 rfl ?_
  rw [BZ]
  exact AV (p := (0, 0)) b4 e1 (Nat.le_refl _) fun w' e => H _ _ w' e ⟨by decide, by decide⟩ (fun p hp => by cases hp)
 ·rw [hf] at H
  refine AD rfl ?_
  refine K7 hx fx fun u w2 e2 hu => ?_
  refine K7 hy fy fun v w3 e3 hv => ?_
  refine Afa (hu.ext e3) hv (by decide) (by decide) (by decide) (by decide) fun s w4 e4 hs => ?_
  refine Afv hs (by decide) (by decide) (by decide) (by decide) (FR32 h1) (BU.1 hf) fun f w5 e5 => ?_
  rw [A8, Ax, Hh]
  have E := e2.trans (e3.trans (e4.trans e5))
  exact AV (p := (opF .mul x y, zF (rndQ 0 (fq x * fq y - fq (opF .mul x y))).1)) (b4.ext E) (e1.trans E) (Nat.le_refl _) fun w' e => H _ _ w' e ⟨Mu, Q9 (Kt _ _)⟩ (fun p hp => by simpa using hp)
end


section
open Go Go.Vc Ieee
variable {w : World} {K : Value → World → Prop}
theorem Pw {x y : Nat} {p : PV} (h : smF x y = some p) : finB p.1 = true ∧ pvB p := by
 unfold smF at h
 split at h
 ·rename_i hf; simp only [Option.some.injEq] at h; subst h; exact ⟨hf, Mu, Q9 (Kt _ _)⟩
 ·cases h
theorem Zl {x y : Nat} {p : PV} (h : spF x y = some p) : finB p.1 = true ∧ pvB p := by
 unfold spF at h
 split at h
 ·rename_i hf; simp only [Option.some.injEq] at h; subst h; exact ⟨hf, Mu, Q9 (Kt _ _)⟩
 ·cases h
theorem Aci {o : Option PV} {p : PV} (h : o = some p) : okP o = if isPB p then some p else none := by rw [h]; rfl
set_option maxRecDepth 20000 in
theorem J7 {p q : PV} (hp : PF p) (hq : PF q) (H : ∀ o w', Ext w w' → pvB o → (∀ r, adF p q = some r → o = r) → K (.tuple #[pvv o, .bool (adF p q).isSome]) w') : call P CF [pvv p, pvv q] w K := by
 refine WS ?_
 unfold JU
 refine C6 fun x2 w1 b2 e1 => ?_
 refine C6 fun x3 w2 b3 e2 => ?_
 refine AN fun x4 w3 ⟨a0, b0, b4⟩ e3 => ?_
 have b2 := (b2.ext e2).ext e3
 have b3 := b3.ext e3
 have E3 := e1.trans (e2.trans e3)
 have s3 : w.heap.size ≤ w2.heap.size := (e1.trans e2).size
 refine pv_H b2 ?_
 refine pv_H b3 ?_
 refine Xf hp.1.1 hq.1.1 hp.2.1 hq.2.1 fun s w4 e4 hs hsp => ?_
 rw [A8, Ax]
 refine AN fun x6 w5 ⟨a1, b1, b6⟩ e5 => ?_
 refine Ba b6 fun w6 b6 g6 => ?_
 have e6 : Ext w4 w6 := Ab e5 (fun g hg => Bv b6 g hg) g6
 have E6 := e4.trans e6
 refine pv_L (b2.ext E6) ?_
 refine pv_L (b3.ext E6) ?_
 refine Xf hp.1.2 hq.1.2 hp.2.2 hq.2.2 fun t w7 e7 ht htp => ?_
 rw [A8, Ax]
 refine AN fun x8 w8 ⟨a2, b2', b8⟩ e8 => ?_
 refine Ba b8 fun w9 b8 g9 => ?_
 have e9 : Ext w7 w9 := Ab e8 (fun g hg => Bv b8 g hg) g9
 have b6 := (b6.ext e7).ext e9
 have E9 := E6.trans (e7.trans e9)
 have b4 := b4.ext E9
 have EE := E3.trans E9
 have fail : ∀ {w' : World}, Ext w9 w' → adF p q = none → bld P Ag [] w' fun x => sto P Ag x4 x w' fun w' => ldc P Ag x4 w' fun r => K (.tuple #[r, .bool false]) w' := fun e hn => by
  rw [BZ]
  refine AV (p := (0, 0)) (b4.ext e) (EE.trans e) s3 fun w' e' => ?_
  rw [hn] at H
  exact H _ w' e' ⟨by decide, by decide⟩ (fun r hr => by cases hr)
 rw [A5]
 refine orJ (fun h1 => ?_) (fun h1 => ?_)
 ·refine A9 rfl (fail (Ext.refl _) ?_)
  have : smF p.1 q.1 = none := by cases hh : smF p.1 q.1; rfl; rw [hh] at h1; cases h1
  unfold adF; rw [this]
 rw [A5]
 refine Az (fun h2 => ?_) (fun h2 => ?_)
 ·refine fail (Ext.refl _) ?_
  have : smF p.2 q.2 = none := by cases hh : smF p.2 q.2; rfl; rw [hh] at h2; cases h2
  unfold adF; rw [this]; cases smF p.1 q.1 <;> rfl
 obtain ⟨s', hs'⟩ : ∃ s', smF p.1 q.1 = some s' := by cases hh : smF p.1 q.1; rw [hh] at h1; cases h1; exact ⟨_, rfl⟩
 obtain ⟨t', ht'⟩ : ∃ t', smF p.2 q.2 = some t' := by cases hh : smF p.2 q.2; rw [hh] at h2; cases h2; exact ⟨_, rfl⟩
 have hss := hsp s' hs'
 have htt := htp t' ht'
 subst hss; subst htt
 have had : adF p q = ad2 s t := by unfold adF; rw [hs', ht']
 have fs1 := (Pw hs').1
 have ft1 := (Pw ht').1
 rw [had] at H fail
 refine pv_L b6 ?_
 refine pv_H b8 ?_
 refine AA (by simp) fun f hf => ?_
 refine pv_H b6 ?_
 refine UC hs.1 (FR32 hf) fun v q3 w10 e10 hv hq1 => ?_
 rw [A8, Ax]
 refine AN fun x11 w11 ⟨a3, b3', b11⟩ e11 => ?_
 refine Ba b11 fun w12 b11 g12 => ?_
 have e12 : Ext w10 w12 := Ab e11 (fun g hg => Bv b11 g hg) g12
 have E12 := e10.trans e12
 refine pv_L (b8.ext E12) ?_
 refine pv_L b11 ?_
 refine AA (by simp) fun g hg => ?_
 refine pv_H b11 ?_
 refine UC hv.1 (FR32 hg) fun o q4 w13 e13 ho hq2 => ?_
 rw [A8, Ax]
 refine AN fun x14 w14 ⟨a4, b4', b14⟩ e14 => ?_
 refine Ba b14 fun w15 b14 g15 => ?_
 have e15 : Ext w13 w15 := Ab e14 (fun g hg => Bv b14 g hg) g15
 refine bslF2 (FR32 hf) (FR32 hg) fun u w16 e16 hu => ?_
 refine Ik hu ?_
 rw [Acg]
 have E16 := E12.trans (e13.trans (e15.trans e16))
 have b14 := b14.ext e16
 have out : ∀ (f1 f2 : Bool), (finB f && finB g) = f1 → (f1 = true → q3 = f2) → (f1 = false ∨ f2 = false → ad2 s t = none) ∧ (f1 = true → f2 = true → q4 = (ad2 s t).isSome ∨ (q4 = true ∧ (ad2 s t).isSome = isPB o)) ∧ (f1 = true → f2 = true → q4 = true → (isPB o = true → ad2 s t = some o) ∧ (isPB o = false → ad2 s t = none)) := by
  intro f1 f2 hf1 hf2
  subst hf1
  have fcase := Cc hf
  by_cases ff : finB f = true
  ·have hfe : (finB s.2 && finB t.1) = true ∧ f = opF .add s.2 t.1 := by
    rcases fcase with h | ⟨_, h⟩
    ·exact h
    ·rw [ff] at h; cases h
   obtain ⟨hfe1, rfl⟩ := hfe
   rw [Bool.and_eq_true] at hfe1
   obtain ⟨r1, r2⟩ := hq1 fs1 ff
   by_cases hqv : (qkF s.1 (opF .add s.2 t.1)).isSome = true
   ·obtain ⟨v', hv'⟩ := Option.isSome_iff_exists.1 hqv
    have hvv := r2 v' hv'
    subst hvv
    have fv := AcZ hv'
    by_cases fg : finB g = true
    ·have hge : (finB t.2 && finB v.2) = true ∧ g = opF .add t.2 v.2 := by
      rcases Cc hg with h | ⟨_, h⟩
      ·exact h
      ·rw [fg] at h; cases h
     obtain ⟨hge1, rfl⟩ := hge
     rw [Bool.and_eq_true] at hge1
     obtain ⟨k1, k2⟩ := hq2 fv.1 fg
     have hA : ad2 s t = okP (qkF v.1 (opF .add t.2 v.2)) := by
      unfold ad2
      rw [hfe1.1, ff, Bool.and_self, if_pos rfl, hv']
      simp only
      rw [hge1.1, fg, Bool.and_self, if_pos rfl]
     refine ⟨fun h => ?_, fun _ _ => ?_, fun _ _ hq4 => ?_⟩
     ·rcases h with h | h
      ·rw [ff, fg] at h; cases h
      ·have := hf2 (by rw [ff, fg]; rfl)
       rw [this, h, hqv] at r1
       cases r1
     ·rw [hA]
      cases hk : qkF v.1 (opF .add t.2 v.2) with
      | none => left; rw [k1, hk]; rfl
      | some o' =>
       right
       have := k2 o' hk
       subst this
       refine ⟨by rw [k1, hk]; rfl, ?_⟩
       unfold okP; simp only
       cases isPB o <;> rfl
     ·rw [k1] at hq4
      obtain ⟨o', ho'⟩ := Option.isSome_iff_exists.1 hq4
      have := k2 o' ho'
      subst this
      rw [hA, Aci ho']
      exact ⟨fun h => by rw [if_pos h], fun h => by rw [if_neg (by rw [h]; decide)]⟩
    ·rw [Bool.not_eq_true] at fg
     have hN : ad2 s t = none := by
      unfold ad2
      rw [hfe1.1, ff, Bool.and_self, if_pos rfl, hv']
      simp only
      by_cases hc : (finB t.2 && finB (opF .add t.2 v.2)) = true
      ·rw [Bool.and_eq_true] at hc
       rcases Cc hg with ⟨_, h⟩ | ⟨h, _⟩
       ·rw [h, hc.2] at fg; cases fg
       ·rw [hc.1, fv.2] at h; cases h
      ·rw [if_neg hc]
     have hno : ¬ (finB (opF .add s.2 t.1) && finB g) = true := by rw [fg, Bool.and_false]; decide
     exact ⟨fun _ => hN, fun h => absurd h hno, fun h => absurd h hno⟩
   ·rw [Bool.not_eq_true] at hqv
    have hnone : qkF s.1 (opF .add s.2 t.1) = none := by cases hh : qkF s.1 (opF .add s.2 t.1); rfl; rw [hh] at hqv; cases hqv
    have hN : ad2 s t = none := by
     unfold ad2
     rw [hfe1.1, ff, Bool.and_self, if_pos rfl, hnone]
    refine ⟨fun _ => hN, fun h1 h2 => ?_, fun h1 h2 => ?_⟩
    ·have := hf2 h1
     rw [h2, r1, hqv] at this; cases this
    ·have := hf2 h1
     rw [h2, r1, hqv] at this; cases this
  ·rw [Bool.not_eq_true] at ff
   have hN : ad2 s t = none := by
    unfold ad2
    by_cases hc : (finB s.2 && finB (opF .add s.2 t.1)) = true
    ·rw [Bool.and_eq_true] at hc
     rcases fcase with ⟨_, h⟩ | ⟨h, _⟩
     ·rw [h, hc.2] at ff; cases ff
     ·rw [hc.1, ft1] at h; cases h
    ·rw [if_neg hc]
   have hno : ¬ (finB f && finB g) = true := by rw [ff, Bool.false_and]; decide
   exact ⟨fun _ => hN, fun h => absurd h hno, fun h => absurd h hno⟩
 rw [A5]
 refine orJ (fun k1 => ?_) (fun k1 => ?_)
 ·refine orJ (fun _ => ?_) (fun h => by cases h)
  refine orJ (fun _ => ?_) (fun h => by cases h)
  refine A9 rfl (fail E16 ?_)
  exact (out false q3 (by revert k1; cases (finB f && finB g) <;> simp) (fun h => by cases h)).1 (.inl rfl)
 rw [A5]
 have k1' : (finB f && finB g) = true := by revert k1; cases (finB f && finB g) <;> simp
 refine orJ (fun k2 => ?_) (fun k2 => ?_)
 ·refine orJ (fun _ => ?_) (fun h => by cases h)
  refine A9 rfl (fail E16 ?_)
  exact (out true q3 k1' (fun _ => rfl)).1 (.inr (by simpa using k2))
 rw [A5]
 have k2' : q3 = true := by simpa using k2
 obtain ⟨o1, o2, o3⟩ := out true true k1' (fun _ => k2')
 refine orJ (fun k3 => ?_) (fun k3 => ?_)
 ·have hq4 : q4 = false := by simpa using k3
  refine A9 rfl (fail E16 ?_)
  rcases o2 rfl rfl with h | ⟨h, _⟩
  ·rw [hq4] at h
   cases hh : ad2 s t
   ·rfl
   ·rw [hh] at h; cases h
  ·rw [hq4] at h; cases h
 have hq4 : q4 = true := by simpa using k3
 have o3 := o3 rfl rfl hq4
 refine AH b14 ?_
 refine Rx ho fun w17 e17 => ?_
 rw [A5]
 cases hP : isPB o
 ·refine A9 rfl (fail (E16.trans e17) (o3.2 hP))
 ·refine AD rfl ?_
  refine AH (b14.ext e17) ?_
  refine AV (p := o) (b4.ext (E16.trans e17)) (EE.trans (E16.trans e17)) s3 fun w' e' => ?_
  rw [o3.1 hP] at H
  exact H o w' e' ho (fun r hr => by simpa using hr)
set_option maxRecDepth 20000 in
theorem RF {p q : PV} (hp : PF p) (hq : PF q) (H : ∀ o w', Ext w w' → pvB o → (∀ r, mlF p q = some r → o = r) → K (.tuple #[pvv o, .bool (mlF p q).isSome]) w') : call P Ew [pvv p, pvv q] w K := by
 refine Xe ?_
 unfold Jd
 refine C6 fun x2 w1 b2 e1 => ?_
 refine C6 fun x3 w2 b3 e2 => ?_
 refine AN fun x4 w3 ⟨a0, b0, b4⟩ e3 => ?_
 have b2 := (b2.ext e2).ext e3
 have b3 := b3.ext e3
 have E3 := e1.trans (e2.trans e3)
 have s3 : w.heap.size ≤ w2.heap.size := (e1.trans e2).size
 refine pv_H b2 ?_
 refine pv_H b3 ?_
 refine XO hp.1.1 hq.1.1 hp.2.1 hq.2.1 fun s ex w4 e4 hs hsp => ?_
 rw [A8, Ax, P9]
 refine AN fun x6 w5 ⟨a1, b1, b6⟩ e5 => ?_
 refine Ba b6 fun w6 b6 g6 => ?_
 have e6 : Ext w4 w6 := Ab e5 (fun g hg => Bv b6 g hg) g6
 have E6 := e4.trans e6
 have b2 := b2.ext E6
 have b3 := b3.ext E6
 have b4 := b4.ext E6
 have EE := E3.trans E6
 have fail : ∀ {w' : World}, Ext w6 w' → mlF p q = none → bld P Ag [] w' fun x => sto P Ag x4 x w' fun w' => ldc P Ag x4 w' fun r => K (.tuple #[r, .bool false]) w' := fun e hn => by
  rw [BZ]
  refine AV (p := (0, 0)) (b4.ext e) (EE.trans e) s3 fun w' e' => ?_
  rw [hn] at H
  exact H _ w' e' ⟨by decide, by decide⟩ (fun r hr => by cases hr)
 rw [A5]
 refine Az (fun h1 => ?_) (fun h1 => ?_)
 ·refine fail (Ext.refl _) ?_
  have : spF p.1 q.1 = none := by cases hh : spF p.1 q.1; rfl; rw [hh] at h1; cases h1
  unfold mlF; rw [this]
 obtain ⟨s', hs'⟩ : ∃ s', spF p.1 q.1 = some s' := by cases hh : spF p.1 q.1; rw [hh] at h1; cases h1; exact ⟨_, rfl⟩
 have hss := hsp s' hs'
 subst hss
 have fs1 := (Zl hs').1
 refine pv_H b2 ?_
 refine pv_L b3 ?_
 refine AA (by simp) fun a ha => ?_
 obtain rfl : a = opF .mul p.1 q.2 := Ep ha (NS hp.2.1 hq.2.2)
 refine pv_L b2 ?_
 refine pv_H b3 ?_
 refine AA (by simp) fun b hb => ?_
 obtain rfl : b = opF .mul p.2 q.1 := Ep hb (NS hp.2.2 hq.2.1)
 refine AA (by simp) fun c hc => ?_
 refine pv_L b6 ?_
 refine AA (by simp) fun d hd => ?_
 refine pv_H b6 ?_
 refine UC hs.1 (FR32 hd) fun o q4 w7 e7 ho hq2 => ?_
 rw [A8, Ax]
 refine AN fun x13 w8 ⟨a4, b4', b13⟩ e8 => ?_
 refine Ba b13 fun w9 b13 g9 => ?_
 have e9 : Ext w7 w9 := Ab e8 (fun g hg => Bv b13 g hg) g9
 refine bslF4 (FR32 ha) (FR32 hb) (FR32 hc) (FR32 hd) fun u w10 e10 hu => ?_
 refine Ik hu ?_
 rw [AhL]
 have E10 := e7.trans (e9.trans e10)
 have b13 := b13.ext e10
 generalize hA : opF .mul p.1 q.2 = A at *
 generalize hB : opF .mul p.2 q.1 = B at *
 have key : (finB A && finB B && finB c && finB d) = (finB A && finB B && finB (opF .add A B) && finB s.2 && finB (opF .add s.2 (opF .add A B))) ∧ ((finB A && finB B && finB c && finB d) = true → d = opF .add s.2 (opF .add A B)) := by
  cases fA : finB A
  ·exact ⟨by simp, fun h => by simp at h⟩
  cases fB : finB B
  ·exact ⟨by simp, fun h => by simp at h⟩
  have hce : c = opF .add A B := by rcases Cc hc with ⟨_, h⟩ | ⟨h, _⟩; exact h; rw [fA, fB] at h; cases h
  subst hce
  cases fc : finB (opF .add A B)
  ·exact ⟨by simp, fun h => by simp at h⟩
  cases fs : finB s.2
  ·have : finB d = false := by rcases Cc hd with ⟨h, _⟩ | ⟨_, h⟩; rw [fs] at h; cases h; exact h
   exact ⟨by simp [this], fun h => by rw [this] at h; simp at h⟩
  ·have hde : d = opF .add s.2 (opF .add A B) := by rcases Cc hd with ⟨_, h⟩ | ⟨h, _⟩; exact h; rw [fs, fc] at h; cases h
   subst hde
   exact ⟨by simp, fun _ => rfl⟩
 have hml : mlF p q = if (finB A && finB B && finB c && finB d) = true then okP (qkF s.1 (opF .add s.2 (opF .add A B))) else none := by
  unfold mlF
  rw [hs', hA, hB, key.1]
 rw [A5]
 refine orJ (fun k1 => ?_) (fun k1 => ?_)
 ·refine orJ (fun _ => ?_) (fun h => by cases h)
  refine A9 rfl (fail E10 ?_)
  rw [hml, if_neg (by revert k1; cases (finB A && finB B && finB c && finB d) <;> simp)]
 have k1' : (finB A && finB B && finB c && finB d) = true := by revert k1; cases (finB A && finB B && finB c && finB d) <;> simp
 rw [if_pos k1'] at hml
 have hde := key.2 k1'
 have fd : finB d = true := by simp only [Bool.and_eq_true] at k1'; exact k1'.2
 subst hde
 obtain ⟨r1, r2⟩ := hq2 fs1 fd
 rw [A5]
 refine orJ (fun k2 => ?_) (fun k2 => ?_)
 ·refine A9 rfl (fail E10 ?_)
  have : q4 = false := by simpa using k2
  rw [hml]
  cases hh : qkF s.1 (opF .add s.2 (opF .add A B)) with
  | none => rfl
  | some x => rw [r1, hh] at this; cases this
 have hq4 : q4 = true := by simpa using k2
 rw [r1] at hq4
 obtain ⟨o', ho'⟩ := Option.isSome_iff_exists.1 hq4
 have := r2 o' ho'
 subst this
 rw [Aci ho'] at hml
 refine AH b13 ?_
 refine Rx ho fun w11 e11 => ?_
 rw [A5]
 cases hP : isPB o
 ·rw [hP] at hml
  exact A9 rfl (fail (E10.trans e11) hml)
 ·rw [hP] at hml
  refine AD rfl ?_
  refine AH (b13.ext e11) ?_
  refine AV (p := o) (b4.ext (E10.trans e11)) (EE.trans (E10.trans e11)) s3 fun w' e' => ?_
  rw [hml] at H
  exact H o w' e' ho (fun r hr => by simpa using hr)
end


section
open Go Go.Vc Ieee
variable {w : World} {K : Value → World → Prop}
def zB (b : Nat) : Bool := single.order b 0 == some .eq
theorem LP {p : PV} (h : PF p) : PF (ngP p) := ⟨⟨RN h.1.1, RN h.1.2⟩, IP h.1.1 h.2.1, IP h.1.2 h.2.2⟩
theorem Aem {p : PV} (h : isPB p = true) (hb : pvB p) : PF p := ⟨hb, Abs h⟩
theorem Abz {a b : Nat} {p : PV} (h : okP (qkF a b) = some p) : pvB p := AjT (RR h).1
theorem Xl {p q r : PV} (h : adF p q = some r) : PF r := by
 refine Aem (VT h) ?_
 unfold adF at h
 split at h
 ·unfold ad2 at h
  split at h
  ·split at h
   ·cases h
   ·split at h
    ·exact Abz h
    ·cases h
  ·cases h
 ·cases h
theorem Ws {p q r : PV} (h : mlF p q = some r) : PF r := by
 refine Aem (Wh h) ?_
 unfold mlF at h
 split at h
 ·cases h
 ·split at h
  ·exact Abz h
  ·cases h
theorem Aku {p q r : PV} (h : dvF p q = some r) : PF r := by
 refine Aem (Acf h) ?_
 unfold dvF at h
 split at h
 ·split at h
  ·cases h
  ·unfold dv2 at h
   split at h
   ·cases h
   ·split at h
    ·exact Abz h
    ·cases h
 ·cases h
theorem PF_H {a : Nat} (h : finB a = true) (ha : a < 4294967296) : PF (a, 0) := ⟨⟨ha, show (0 : Nat) < 4294967296 by decide⟩, BU.1 h, show Vc.Fin single 0 by decide⟩
set_option maxRecDepth 20000 in
theorem AdI {p q : PV} (hp : PF p) (hq : PF q) (hz : zB q.1 = false) (H : ∀ o w', Ext w w' → pvB o → (∀ r, dvF p q = some r → o = r) → K (.tuple #[pvv o, .bool (dvF p q).isSome]) w') : call P Kb [pvv p, pvv q] w K := by
 have hz' : FloatKind.f32.format.order q.1 0 ≠ some .eq := fun h => by
  unfold zB at hz
  rw [show single.order q.1 0 = some .eq from h] at hz
  cases hz
 refine Xw ?_
 unfold J0
 refine C6 fun x2 w1 b2 e1 => ?_
 refine C6 fun x3 w2 b3 e2 => ?_
 refine AN fun x4 w3 ⟨a0, b0, b4⟩ e3 => ?_
 have b2 := (b2.ext e2).ext e3
 have b3 := b3.ext e3
 have E3 := e1.trans (e2.trans e3)
 have s3 : w.heap.size ≤ w2.heap.size := (e1.trans e2).size
 have fail : ∀ {w' : World}, Ext w3 w' → dvF p q = none → bld P Ag [] w' fun x => sto P Ag x4 x w' fun w' => ldc P Ag x4 w' fun r => K (.tuple #[r, .bool false]) w' := fun e hn => by
  rw [BZ]
  refine AV (p := (0, 0)) (b4.ext e) (E3.trans e) s3 fun w' e' => ?_
  rw [hn] at H
  exact H _ w' e' ⟨by decide, by decide⟩ (fun r hr => by cases hr)
 refine pv_H b2 ?_
 refine pv_H b3 ?_
 refine AA (by simp) fun a ha => ?_
 obtain rfl : a = opF .quo p.1 q.1 := Ep ha (U7 hp.2.1 hq.2.1 hz')
 have hAlt := FR32 ha
 generalize hA : opF .quo p.1 q.1 = A at *
 refine JO hAlt ?_
 rw [A5]
 refine Az (fun h1 => ?_) (fun h1 => ?_)
 ·refine fail (Ext.refl _) ?_
  unfold dvF; rw [hA, if_neg (by simpa using h1)]
 have fA : finB A = true := by simpa using h1
 refine AH b3 ?_
 rw [Re]
 refine RF hq (PF_H fA hAlt) fun r w4 e4 hr hm => ?_
 rw [A8, Ax]
 refine AN fun x7 w5 ⟨a1, b1, b7⟩ e5 => ?_
 refine Ba b7 fun w6 b7 g6 => ?_
 have e6 : Ext w4 w6 := Ab e5 (fun g hg => Bv b7 g hg) g6
 have E6 := e4.trans e6
 rw [A5]
 refine Az (fun h2 => ?_) (fun h2 => ?_)
 ·refine fail E6 ?_
  have : mlF q (A, 0) = none := by cases hh : mlF q (A, 0); rfl; rw [hh] at h2; cases h2
  unfold dvF; rw [hA, if_pos fA, this]
 obtain ⟨r', hr'⟩ : ∃ r', mlF q (A, 0) = some r' := by cases hh : mlF q (A, 0); rw [hh] at h2; cases h2; exact ⟨_, rfl⟩
 have hrr := hm r' hr'
 subst hrr
 have hPr := Ws hr'
 have hdv : dvF p q = dv2 A q.1 (adF p (ngP r)) := by
  unfold dvF; rw [hA, if_pos fA, hr']
 refine ⟨fun x9 x10 w' => ∃ (B : Nat) (o : PV), w6.heap.size ≤ B ∧ Bx w' B Ag x9 (pv2 o.1 o.2) ∧ Ext w6 w' ∧ pvB o ∧ x10 = .bool (adF p (ngP r)).isSome ∧ ∀ s, adF p (ngP r) = some s → o = s, ?_, ?_⟩
 ·rintro x9 x10 junk w7 ⟨B, o, hB, b9, e7, ho, rfl, hos⟩
  rw [A5]
  have E7 := E6.trans e7
  refine Az (fun h3 => ?_) (fun h3 => ?_)
  ·refine fail E7 ?_
   have : adF p (ngP r) = none := by cases hh : adF p (ngP r); rfl; rw [hh] at h3; cases h3
   rw [hdv, this]; rfl
  obtain ⟨s, hs⟩ : ∃ s, adF p (ngP r) = some s := by cases hh : adF p (ngP r); rw [hh] at h3; cases h3; exact ⟨_, rfl⟩
  have := hos s hs
  subst this
  have hPo := Xl hs
  rw [hs] at hdv
  unfold dv2 at hdv
  simp only at hdv
  refine pv_H b9 ?_
  refine pv_H (b3.ext E7) ?_
  refine AA (by simp) fun b hb => ?_
  obtain rfl : b = opF .quo o.1 q.1 := Ep hb (U7 hPo.2.1 hq.2.1 hz')
  have hBlt := FR32 hb
  generalize hBq : opF .quo o.1 q.1 = Bq at *
  refine JO hBlt ?_
  rw [A5]
  refine Az (fun h4 => ?_) (fun h4 => ?_)
  ·refine fail E7 ?_
   rw [hdv, if_neg (by simpa using h4)]
  have fB : finB Bq = true := by simpa using h4
  have hdv : dvF p q = okP (qkF A Bq) := by rw [hdv, if_pos fB]
  refine UC hAlt hBlt fun out q4 w8 e8 hout hq2 => ?_
  rw [A8, Ax]
  refine AN fun x12 w9 ⟨a4, b4', b12⟩ e9 => ?_
  refine Ba b12 fun w10 b12 g10 => ?_
  have e10 : Ext w8 w10 := Ab e9 (fun g hg => Bv b12 g hg) g10
  have E10 := E7.trans (e8.trans e10)
  obtain ⟨r1, r2⟩ := hq2 fA fB
  rw [A5]
  refine orJ (fun k2 => ?_) (fun k2 => ?_)
  ·refine A9 rfl (fail E10 ?_)
   have : q4 = false := by simpa using k2
   rw [hdv]
   cases hh : qkF A Bq with
   | none => rfl
   | some x => rw [r1, hh] at this; cases this
  have hq4 : q4 = true := by simpa using k2
  rw [r1] at hq4
  obtain ⟨o', ho'⟩ := Option.isSome_iff_exists.1 hq4
  have := r2 o' ho'
  subst this
  rw [Aci ho'] at hdv
  refine AH b12 ?_
  refine Rx hout fun w11 e11 => ?_
  rw [A5]
  cases hP : isPB out
  ·rw [hP] at hdv
   exact A9 rfl (fail (E10.trans e11) hdv)
  ·rw [hP] at hdv
   refine AD rfl ?_
   refine AH (b12.ext e11) ?_
   refine AV (p := out) (b4.ext (E10.trans e11)) (E3.trans (E10.trans e11)) s3 fun w' e' => ?_
   rw [hdv] at H
   exact H out w' e' hout (fun r hr => by simpa using hr)
 ·refine AH (b2.ext E6) ?_
  refine AH b7 ?_
  have hPn := LP hPr
  refine ⟨?_, ?_⟩
  ·refine Jz hr fun w7 e7 => ?_
   refine ⟨e7, ?_, ?_⟩
   ·refine J7 hp hPn fun o w8 e8 ho hos => ?_
    rw [A8, Ax]
    refine AN fun x9 w9 ⟨a1, b1, b9⟩ e9 => ?_
    refine ⟨e9, ?_⟩
    refine Ba b9 fun w10 b9 g10 => ?_
    rw [Ax]
    have e10 : Ext w8 w10 := Ab e9 (fun g hg => Bv b9 g hg) g10
    exact ⟨rfl, _, o, (e7.trans e8).size, b9, e7.trans (e8.trans e10), ho, rfl, hos⟩
   ·refine AN fun x9 w8 ⟨a1, b1, b9⟩ e8 => ?_
    refine ⟨e8, ?_⟩
    refine J7 hp hPn fun o w9 e9 ho hos => ?_
    rw [A8, Ax]
    refine Ba (b9.ext e9) fun w10 b9 g10 => ?_
    rw [Ax]
    have e10 : Ext w7 w10 := Ab (e8.trans e9) (fun g hg => Bv b9 g hg) g10
    exact ⟨rfl, _, o, e7.size, b9, e7.trans e10, ho, rfl, hos⟩
  ·refine AN fun x9 w7 ⟨a1, b1, b9⟩ e7 => ?_
   refine ⟨e7, ?_⟩
   refine Jz hr fun w8 e8 => ?_
   refine ⟨e8, ?_⟩
   refine J7 hp hPn fun o w9 e9 ho hos => ?_
   rw [A8, Ax]
   refine Ba ((b9.ext e8).ext e9) fun w10 b9 g10 => ?_
   rw [Ax]
   have e10 : Ext w6 w10 := Ab (e7.trans (e8.trans e9)) (fun g hg => Bv b9 g hg) g10
   exact ⟨rfl, _, o, Nat.le_refl _, b9, e10, ho, rfl, hos⟩
def lim (o : Option PV) : PV × Int := match o with
 | none => ((0, 0), 3)
 | some r => (r, 0)
noncomputable def pvQ (p : PV) : Rat := fq p.1 + fq p.2
noncomputable def prOne (l : List UInt8) (p : PV) : PV × Int := if l = [110, 101, 103] then (ngP p, 0) else if l = [115, 113, 114] then lim (mlF p p) else if l = [97, 98, 115] then (if pvQ p < 0 then ngP p else p, 0) else ((0, 0), 5)
noncomputable def prTwo (l : List UInt8) (p q : PV) : PV × Int :=
 if l = [43] then lim (adF p q) else if l = [45] then lim (adF p (ngP q)) else if l = [42] then lim (mlF p q) else if l = [47] then (if zB q.1 then ((0, 0), 5) else lim (dvF p q))
 else if 0 < cmpQ (pvQ p) (pvQ q) ∧ l = [109, 105, 110] ∨ cmpQ (pvQ p) (pvQ q) < 0 ∧ l = [109, 97, 120] then (q, 0) else (p, 0)
noncomputable def prM (vs : List Nat) : Mach PV := ⟨fun l => (leafB vs l, 0), prOne, prTwo, (0, 0)⟩
theorem Th {o : PV} {x : Option PV} (ho : pvB o) (hx : ∀ r, x = some r → o = r) (H : ∀ o' w', Ext w w' → pvB o' → ((lim x).2 = 0 → o' = (lim x).1) → K (.tuple #[pvv o', .int .i64 (lim x).2]) w') : call P CC [pvv o, .bool x.isSome] w K := by
 refine AfP ho fun o' w' e ho' hv => ?_
 cases x with
 | none => exact H o' w' e ho' (fun h => by cases h)
 | some r =>
  have : o' = r := (hv rfl).trans (hx r rfl)
  exact H o' w' e ho' (fun _ => this)
theorem Agc {l : List UInt8} {p : PV} (hp : PF p) (H : ∀ o w', Ext w w' → pvB o → ((prOne l p).2 = 0 → o = (prOne l p).1) → K (.tuple #[pvv o, .int .i64 (prOne l p).2]) w') : call P Df [str l, pvv p] w K := by
 refine XL ?_
 unfold Kr
 refine C6 fun x3 w1 b3 e1 => ?_
 refine AN fun x4 w2 ⟨a0, b0, b4⟩ e2 => ?_
 have b3 := b3.ext e2
 have E2 := e1.trans e2
 have s1 := e1.size
 unfold prOne at H
 rw [A7]
 refine Ac (fun h1 => ?_) (fun h1 => ?_)
 ·rw [if_pos h1] at H
  refine AH b3 ?_
  refine Jz hp.1 fun w3 e3 => ?_
  exact AV (p := ngP p) (b4.ext e3) (E2.trans e3) s1 fun w' e => H _ w' e (LP hp).1 (fun _ => rfl)
 rw [if_neg h1] at H
 rw [A7]
 refine Ac (fun h2 => ?_) (fun h2 => ?_)
 ·rw [if_pos h2] at H
  refine AH b3 ?_
  refine AH b3 ?_
  refine RF hp hp fun o w3 e3 ho hx => ?_
  rw [A8, Ax]
  refine Th ho hx fun o' w4 e4 ho' hv => ?_
  rw [A8, Ax]
  exact AV (p := o') (b4.ext (e3.trans e4)) (E2.trans (e3.trans e4)) s1 fun w' e => H _ w' e ho' hv
 rw [if_neg h2] at H
 rw [A7]
 refine Ac (fun h3 => ?_) (fun h3 => ?_)
 ·rw [if_pos h3] at H
  refine AH b3 ?_
  refine Qf hp fun u w3 e3 hu => ?_
  refine XB hu fun w4 e4 => ?_
  have E4 := e3.trans e4
  rw [Ai]
  have hs : pvQ p < 0 ↔ sgQ (fq p.1 + fq p.2) < 0 := by
   show pvQ p < 0 ↔ sgQ (pvQ p) < 0
   unfold sgQ
   by_cases h : pvQ p < 0
   ·rw [if_pos h]; exact ⟨fun _ => by decide, fun _ => h⟩
   ·rw [if_neg h]
    constructor
    ·intro h'; exact absurd h' h
    ·intro h'; split at h' <;> cases h'
  refine Ac (fun h4 => ?_) (fun h4 => ?_)
  ·rw [if_pos (hs.2 h4)] at H
   refine AH (b3.ext E4) ?_
   refine Jz hp.1 fun w5 e5 => ?_
   exact AV (p := ngP p) (b4.ext (E4.trans e5)) (E2.trans (E4.trans e5)) s1 fun w' e => H _ w' e (LP hp).1 (fun _ => rfl)
  ·rw [if_neg (fun h => h4 (hs.1 h))] at H
   refine AH (b3.ext E4) ?_
   exact AV (p := p) (b4.ext E4) (E2.trans E4) s1 fun w' e => H _ w' e hp.1 (fun _ => rfl)
 rw [if_neg h3] at H
 rw [BZ]
 exact AV (p := (0, 0)) b4 E2 s1 fun w' e => H _ w' e ⟨by decide, by decide⟩ (fun h => by cases h)
theorem Afg {l : List UInt8} {p q : PV} (hp : PF p) (hq : PF q) (H : ∀ o w', Ext w w' → pvB o → ((prTwo l p q).2 = 0 → o = (prTwo l p q).1) → K (.tuple #[pvv o, .int .i64 (prTwo l p q).2]) w') : call P Dg [str l, pvv p, pvv q] w K := by
 refine Yr ?_
 unfold KG
 refine C6 fun x4 w0 b4 e0 => ?_
 refine C6 fun x5 w1 b5 e1' => ?_
 refine AN fun x6 w2 ⟨a0, b0, b6⟩ e2 => ?_
 have b4 := (b4.ext e1').ext e2
 have b5 := b5.ext e2
 have E2 := (e0.trans e1').trans e2
 have s1 := (e0.trans e1').size
 unfold prTwo at H
 have ret : ∀ {w3 : World} {o : PV} {c : Int}, Ext w2 w3 → (∀ w', Ext w w' → K (.tuple #[pvv o, .int .i64 c]) w') → sto P Ag x6 (pvv o) w3 fun w' => ldc P Ag x6 w' fun r => K (.tuple #[r, .int .i64 c]) w' := fun e HH =>
  AV (b6.ext e) (E2.trans e) s1 HH
 rw [A7]
 refine Ac (fun h1 => ?_) (fun h1 => ?_)
 ·rw [if_pos h1] at H
  refine AH b4 ?_
  refine AH b5 ?_
  refine J7 hp hq fun o w3 e3 ho hx => ?_
  rw [A8, Ax]
  refine Th ho hx fun o' w4 e4 ho' hv => ?_
  rw [A8, Ax]
  exact ret (e3.trans e4) fun w' e => H _ w' e ho' hv
 rw [if_neg h1] at H
 rw [A7]
 refine Ac (fun h2 => ?_) (fun h2 => ?_)
 ·rw [if_pos h2] at H
  refine AH b4 ?_
  refine AH b5 ?_
  refine Jz hq.1 fun w3 e3 => ?_
  refine ⟨e3, ?_⟩
  refine J7 hp (LP hq) fun o w4 e4 ho hx => ?_
  rw [A8, Ax]
  refine Th ho hx fun o' w5 e5 ho' hv => ?_
  rw [A8, Ax]
  exact ret (e3.trans (e4.trans e5)) fun w' e => H _ w' e ho' hv
 rw [if_neg h2] at H
 rw [A7]
 refine Ac (fun h3 => ?_) (fun h3 => ?_)
 ·rw [if_pos h3] at H
  refine AH b4 ?_
  refine AH b5 ?_
  refine RF hp hq fun o w3 e3 ho hx => ?_
  rw [A8, Ax]
  refine Th ho hx fun o' w4 e4 ho' hv => ?_
  rw [A8, Ax]
  exact ret (e3.trans e4) fun w' e => H _ w' e ho' hv
 rw [if_neg h3] at H
 rw [A7]
 refine Ac (fun h4 => ?_) (fun h4 => ?_)
 ·rw [if_pos h4] at H
  refine pv_H b5 ?_
  rw [DO]
  show cnd (.bool (zB q.1)) _ _
  cases hz : zB q.1
  ·rw [hz] at H
   refine AD rfl ?_
   refine AH b4 ?_
   refine AH b5 ?_
   refine AdI hp hq hz fun o w3 e3 ho hx => ?_
   rw [A8, Ax]
   refine Th ho hx fun o' w4 e4 ho' hv => ?_
   rw [A8, Ax]
   exact ret (e3.trans e4) fun w' e => H _ w' e ho' hv
  ·rw [hz] at H
   refine A9 rfl ?_
   rw [BZ]
   exact ret (o := (0, 0)) (Ext.refl _) fun w' e => H _ w' e ⟨by decide, by decide⟩ (fun h => by cases h)
 rw [if_neg h4] at H
 refine AH b4 ?_
 refine AH b5 ?_
 refine Qf hp fun u w3 e3 hu => ?_
 refine ⟨e3, ?_⟩
 refine Qf hq fun v w4 e4 hv => ?_
 refine AfA (hu.ext e4) hv (by decide) (by decide) fun w5 e5 => ?_
 have E5 := e3.trans (e4.trans e5)
 have b4 := b4.ext E5
 have b5 := b5.ext E5
 rw [Aq]
 have yes : (0 < cmpQ (pvQ p) (pvQ q) ∧ l = [109, 105, 110] ∨ cmpQ (pvQ p) (pvQ q) < 0 ∧ l = [109, 97, 120]) → ld P Ag x5 w5 fun x => sto P Ag x6 x w5 fun w' => ldc P Ag x6 w' fun r => K (.tuple #[r, .int .i64 0]) w' := fun hc => by
  rw [if_pos hc] at H
  refine AH b5 ?_
  exact ret E5 fun w' e => H _ w' e hq.1 (fun _ => rfl)
 have no : ¬ (0 < cmpQ (pvQ p) (pvQ q) ∧ l = [109, 105, 110] ∨ cmpQ (pvQ p) (pvQ q) < 0 ∧ l = [109, 97, 120]) → ld P Ag x4 w5 fun x => sto P Ag x6 x w5 fun w' => ldc P Ag x6 w' fun r => K (.tuple #[r, .int .i64 0]) w' := fun hc => by
  rw [if_neg hc] at H
  refine AH b4 ?_
  exact ret E5 fun w' e => H _ w' e hp.1 (fun _ => rfl)
 change ∃ J81, _
 generalize hcq : cmpQ (fq p.1 + fq p.2) (fq q.1 + fq q.2) = c
 have hcq' : cmpQ (pvQ p) (pvQ q) = c := hcq
 rw [hcq'] at yes no
 by_cases hg : 0 < c
 ·rw [decide_eq_true (show c > 0 from hg)]
  refine ⟨_, fun _ _ _ h => h, ?_⟩
  simp only [Au, A7, An, cond_true]
  by_cases hm : l = [109, 105, 110]
  ·rw [decide_eq_true hm]
   refine ⟨_, fun _ _ _ h => h, ?_⟩
   simp only [At]
   refine ⟨_, fun _ _ _ h => h, ?_⟩
   simp only [IZ]
   refine ⟨_, fun _ _ _ h => h, ?_⟩
   simp only [At, An, cond_true, A6]
   exact yes (.inl ⟨hg, hm⟩)
  ·rw [decide_eq_false hm]
   refine ⟨_, fun _ _ _ h => h, ?_⟩
   simp only [Ak, Ai, decide_eq_false (show ¬ c < 0 by omega)]
   refine ⟨_, fun _ _ _ h => h, ?_⟩
   simp only [Ap]
   refine ⟨_, fun _ _ _ h => h, ?_⟩
   simp only [Ak, An, cond_false, Ao]
   exact no fun hc => hc.elim (fun h => hm h.2) (fun h => absurd h.1 (by omega))
 ·rw [decide_eq_false (show ¬ c > 0 from hg)]
  refine ⟨_, fun _ _ _ h => h, ?_⟩
  simp only [Ap, An, cond_false]
  refine ⟨_, fun _ _ _ h => h, ?_⟩
  simp only [Ak, Ai]
  by_cases hlt : c < 0
  ·simp only [decide_eq_true hlt]
   refine ⟨_, fun _ _ _ h => h, ?_⟩
   simp only [Au, A7]
   refine ⟨_, fun _ _ _ h => h, ?_⟩
   simp only [Ak, An, cond_true, cond_false]
   refine Ac (fun hm => yes (.inr ⟨hlt, hm⟩)) (fun hm => no fun hc => hc.elim (fun h => hg h.1) (fun h => hm h.2))
  ·simp only [decide_eq_false hlt]
   refine ⟨_, fun _ _ _ h => h, ?_⟩
   simp only [Ap]
   refine ⟨_, fun _ _ _ h => h, ?_⟩
   simp only [Ak, An, cond_false, Ao]
   exact no fun hc => hc.elim (fun h => hg h.1) (fun h => hlt h.1)
end


section
open Go Go.Vc
variable {w : World} {K : Value → World → Prop}
theorem AbK {ws : List (List UInt8)} {vs : List Nat} (h : askF ws (vs.all finB) vs.length = 0) : (∃ m, depF ws = some m) ∧ (∀ b ∈ vs, Vc.Fin Ieee.single b) ∧ ndS ws ws.length ≤ (vs.length : Int) ∧ vs.length ≤ 3 := by
 unfold askF at h
 split at h
 ·cases h
 ·rename_i h1
  split at h
  ·cases h
  ·rename_i h2
   have a1 : isPF ws = true := by cases hh : isPF ws; exact absurd (.inl hh) h1; rfl
   have a2 : vs.all finB = true := by cases hh : vs.all finB; exact absurd (.inr hh) h1; rfl
   refine ⟨Option.isSome_iff_exists.1 a1, fun b hb => BU.1 (List.all_eq_true.1 a2 b hb), by omega, by omega⟩
end


section
open Go Go.Vc Ieee
variable {w : World} {K : Value → World → Prop}
def RP (w : World) (c : List Value) (p : PV) : Prop := c = [fl p.1, fl p.2] ∧ PF p
abbrev PL (w : World) (base : Nat) (v : Value) (ps : List PV) : Prop := SL RP 2 Ag w base v ps
section
variable {base : Nat} {v : Value} {ps : List PV}
theorem PL.ext {w' : World} (h : PL w base v ps) (he : Ext w w') : PL w' base v ps := SL.ext (w := w) (R := RP) (fun c a h => h) h he
theorem PL.at {K : Value → Prop} {k : IntKind} {i : Nat} (h : PL w base v ps) (hi : i < ps.length) (H : PF ps[i] → K (pvv ps[i])) : ixa P AW v (.int k (i : Int)) w (fun a => ld P Ag a w K) :=
 SL.at h hi D5 C5 ES rfl fun c hc => by rw [hc.1]; exact H hc.2
theorem PL.len {ty : TypeId} {K : Value → Prop} (h : PL w base v ps) : bl0 P .len #[AW] ty [v] w K = K (.int .i64 ps.length) := SL.len h D5
theorem PL.nil0 {KW : Value → World → Prop} (H : ∀ v w', Ext w w' → PL w' w.heap.size v [] → KW v w') : bsl P AW 0 [] w KW := SL.nil D5 C5 H
theorem PL.take {K : Value → Prop} {ik : IntKind} {k : Nat} (h : PL w base v ps) (hk : k ≤ ps.length) (H : ∀ v', PL w base v' (ps.take k) → K v') : sli P AW v none (some (.int ik (k : Int))) none w K :=
 SL.take h hk D5 C5 H
set_option maxRecDepth 20000 in
theorem Ak8 {KW : Value → World → Prop} {a b : Nat} (h : KW (.slice (some ⟨w.heap.size, 0, none⟩) 1 1) (w.alloc (.cells #[fl a, fl b] Ag))) : bsl P AW 1 [(0, .agg #[fl a, fl b])] w KW := by
 unfold bsl Instr.buildSlice
 refine Cs (A4 D5) ?_
 refine Cs (sm := sizeOf Ag) (Ch C5) ?_
 simp only [Nat.one_mul]
 rw [if_neg (by omega), if_neg (by omega)]
 refine AL (s := zeroValue Ag) ?_
 refine EO (Cl _ (DS C5) ?_)
 refine AL (AS ?_)
 have : Instr.fill (fun i => some (i * 2, 2)) ((Array.range 2).map (fun i => ((Value.agg #[(.float .f32 0), (.float .f32 0)]).cells)[i % ((Value.agg #[(.float .f32 0), (.float .f32 0)]).cells).size]!)) [(0, .agg #[fl a, fl b])].toArray.toList = some #[fl a, fl b] := by
  have hr : Array.range 2 = #[0, 1] := rfl
  simp [Instr.fill, hr, Value.cells]
 simp only [this]
 exact AL (AL (FJ (AS (AS h))))
theorem PL.push2 {KW : Value → World → Prop} {ty : TypeId} {p : PV} (h : PL w base v ps) (hp : PF p) (hbase : base ≤ w.heap.size) (hn : ps.length ≤ 1048576)
  (H : ∀ v' w', PL w' base v' (ps ++ [p]) → (∀ {w0}, Ext w0 w → w0.heap.size ≤ base → Ext w0 w') → KW v' w') : bsl P AW 1 [(0, pvv p)] w fun x w1 => Ext w w1 ∧ bl2 P .append #[AW, AW] ty [v, x] w1 KW := by
 refine Ak8 ?_
 have he := Bg w (.cells #[fl p.1, fl p.2] Ag)
 refine ⟨he, ?_⟩
 have hrow : Row 2 (w.alloc (.cells #[fl p.1, fl p.2] Ag)) (.slice (some ⟨w.heap.size, 0, none⟩) 1 1) 1 [fl p.1, fl p.2] := by
  refine ⟨rfl, by decide, _, _, rfl, fun _ => ⟨w.heap.size, 0, rfl, fun j u hj => ?_⟩⟩
  match j, hj with
  | 0, hj => cases hj; simp only [World.cell?, AbU]; rfl
  | 1, hj => cases hj; simp only [World.cell?, AbU]; rfl
  | _ + 2, hj => simp at hj
 refine SL.push (a := p) h hrow rfl (AeT _ _) he hbase (fun w' c a row hr hk hg ht => hr) ⟨rfl, hp⟩ D5 C5 rfl (by decide) hn (by decide) fun v' w' h' hg hk => ?_
 exact H v' w' h' fun he0 hs => Ab (he0.trans he) (fun k hk' => Nat.le_trans hs (hk k hk')) hg
theorem PL.push {KW : Value → World → Prop} {ty : TypeId} {p : PV} (h : PL w base v ps) (hp : PF p) (hbase : base ≤ w.heap.size) (hn : ps.length ≤ 1048576)
  (H : ∀ v' w', PL w' base v' (ps ++ [p]) → (∀ {w0}, Ext w0 w → w0.heap.size ≤ base → Ext w0 w') → KW v' w') : bsl P AW 1 [(0, pvv p)] w fun x w1 => bl2 P .append #[AW, AW] ty [v, x] w1 KW :=
 Hc (fun _ _ q => q.2) (PL.push2 h hp hbase hn H)
end
theorem Aah {base : Nat} {x f0 f1 f2 : Value} {K : Value → Prop} (h : Bx w base Ck x [f0, f1, f2]) (H : K f0) : fda P Ck x 0 w (fun y => ld P TV y w K) := by
 obtain ⟨d, hd, ha⟩ := TK
 exact h.fld (off := 0) rfl IG rfl Uj hd ha H
theorem Zf {base : Nat} {x f0 f1 f2 : Value} {K : Value → Prop} (h : Bx w base Ck x [f0, f1, f2]) (H : K f1) : fda P Ck x 1 w (fun y => ld P Tu y w K) := by
 obtain ⟨d, hd, ha⟩ := SY
 exact h.fld (off := 1) rfl IG rfl Ut hd ha H
theorem XM {base : Nat} {x f0 f1 f2 : Value} {K : Value → Prop} (h : Bx w base Ck x [f0, f1, f2]) (H : K f2) : fda P Ck x 2 w (fun y => ld P Tt y w K) := by
 obtain ⟨d, hd, ha⟩ := TA
 exact h.fld (off := 2) rfl IG rfl Up hd ha H
theorem Ac5 {b : Nat} (H : ∀ w', Ext w w' → K (pvv (b, 0)) w') : call P CA [fl b] w K := by
 refine V9 ?_
 unfold I8
 refine AN fun x w1 ⟨a0, b0, b1⟩ e1 => ?_
 rw [Re]
 exact AV (p := (b, 0)) b1 e1 (Nat.le_refl _) H
theorem Rd {KW : Value → World → Prop} (H : ∀ a w', Bx w' w.heap.size Ag (.pointer (some a)) (pv2 0 0) → Ext w w' → KW (.pointer (some a)) w') : alc P Ag w KW :=
 BI C5 fun x w' b e _ => by
  obtain ⟨g, rfl, h2, h3⟩ := b
  exact H _ w' ⟨g, rfl, h2, h3⟩ e
theorem TP {o : Option PV} (h : (lim o).2 = 0) (ho : ∀ r, o = some r → PF r) : PF (lim o).1 := by
 cases o with
 | none => cases h
 | some r => exact ho r rfl
theorem VF {l : List UInt8} {p : PV} (hp : PF p) (h : (prOne l p).2 = 0) : PF (prOne l p).1 := by
 unfold prOne at *
 split at h
 ·rename_i h1; rw [if_pos h1]; exact LP hp
 ·rename_i h1
  rw [if_neg h1]
  split at h
  ·rename_i h2; rw [if_pos h2]; exact TP h fun r hr => Ws hr
  ·rename_i h2
   rw [if_neg h2]
   split at h
   ·rename_i h3
    rw [if_pos h3]
    simp only
    split
    ·exact LP hp
    ·exact hp
   ·cases h
theorem VM {l : List UInt8} {p q : PV} (hp : PF p) (hq : PF q) (h : (prTwo l p q).2 = 0) : PF (prTwo l p q).1 := by
 unfold prTwo at *
 split at h
 ·rename_i h1; rw [if_pos h1]; exact TP h fun r hr => Xl hr
 ·rename_i h1
  rw [if_neg h1]
  split at h
  ·rename_i h2; rw [if_pos h2]; exact TP h fun r hr => Xl hr
  ·rename_i h2
   rw [if_neg h2]
   split at h
   ·rename_i h3; rw [if_pos h3]; exact TP h fun r hr => Ws hr
   ·rename_i h3
    rw [if_neg h3]
    split at h
    ·rename_i h4
     rw [if_pos h4]
     split at h
     ·cases h
     ·rename_i h5; rw [if_neg h5]; exact TP h fun r hr => Aku hr
    ·rename_i h4
     rw [if_neg h4]
     split
     ·exact hq
     ·exact hp
theorem Ady {vs : List Nat} {l : List UInt8} (hv : ∀ b ∈ vs, b < 4294967296 ∧ Vc.Fin single b) : PF (leafB vs l, 0) := by
 obtain ⟨h1, h2⟩ := ZE (l := l) hv
 exact ⟨⟨h1, show (0 : Nat) < 4294967296 by decide⟩, h2, show Vc.Fin single 0 by decide⟩
theorem AdH {vs : List Nat} {i : Nat} (h : i < (vs.map fun b => ((b, 0) : PV)).length) : (vs.map fun b => ((b, 0) : PV))[i] = (vs.getD i 0, 0) := by
 have : i < vs.length := by simpa using h
 rw [El this]; simp
set_option maxRecDepth 20000 in
theorem AdF {v vv : Value} {ws : List (List UInt8)} {vs : List Nat} {m : Int} {vb : Nat} (h : Bm w v ws) (hd : depF ws = some m) (hv : PL w vb vv (vs.map fun b => ((b, 0) : PV))) (hfin : ∀ b ∈ vs, b < 4294967296 ∧ Vc.Fin single b)
  (hn : ndS ws ws.length ≤ (vs.length : Int))
  (H : ∀ w', Ext w w' → pvB ((prM vs).res ws).1 → K (.tuple #[pvv ((prM vs).res ws).1, .int .i64 ((prM vs).res ws).2]) w') :
  call P FN [v, vv, .agg #[fnv CA, fnv Df, fnv Dg]] w K := by
 obtain ⟨s, rfl, hs⟩ := h
 obtain ⟨mm, hdp, rfl, hlen, hlen1⟩ := Vu hd
 refine RC ?_
 unfold F7
 refine Du fun x3 w1 b3 e1 => ?_
 refine Ix fun x5 w2 b5 e2 _ => ?_
 have b5 : Bx w2 w1.heap.size Ck x5 [fnv CA, fnv Df, fnv Dg] := b5
 refine Rd fun a6 w3 z6 e3 => ?_
 refine Rd fun a19 w4 z19 e4 => ?_
 rw [AgQ]
 refine AH z19 ?_
 refine Rd fun a8 w5 z8 e5 => ?_
 refine Ba z8 fun w6 z8 g6 => ?_
 have e6 : Ext w4 w6 := Ab e5 (fun g hg => Bv z8 g hg) g6
 have E2 := e1.trans e2
 have E26 := e3.trans (e4.trans e6)
 have E6 := E2.trans E26
 have b3 := (b3.ext e2).ext E26
 have b5 := b5.ext E26
 have z6 := z6.ext (e4.trans e6)
 have hs := hs.ext E6
 have hv := hv.ext E6
 have s26 := E2.size
 refine PL.nil0 fun v22 w7 e7 hst => ?_
 refine pr_w (b3.ext e7) ?_
 rw [(hs.ext e7).len]
 refine ⟨fun g x9 x26 w' => ∃ (i : Nat) (st : List PV) (b : Int), x26 = .int .i64 i ∧ g + i = ws.length ∧ (prM vs).run ws i = (st, 0) ∧ dpS ws i = some ((st.length : Int), b) ∧ Ext w6 w' ∧ PL w' w6.heap.size x9 st,
  ⟨ws.length, 0, [], 0, rfl, by omega, rfl, rfl, e7, hst⟩, ?_⟩
 rintro g x9 x26 junk w8 ⟨i, st, b, rfl, hg, hrun, hdi, e8, hst⟩
 have hrg := GE ws i _ _ hdi
 rw [Ai]
 refine Ac (fun hlt => ?_) (fun hge => ?_)
 ·have hi : i < ws.length := by omega
  have hs8 := hs.ext e8
  have hv8 := hv.ext e8
  have s8 := e8.size
  refine hs8.at hi ?_
  refine X5 ?_
  have hvr := MC ws[i]
  have hvl := AeY hn hi
  obtain ⟨f0, f1, hd1⟩ := Abg hd hi hdi
  have hsucc := (prM vs).succ ws hrun
  rw [LW hi] at hsucc
  have hl := hs8.le hi
  have leaf : ∀ {w' : World}, form0 ws[i] = 0 → Ext w8 w' →
    bsl P AW 1 [(0, pvv (leafB vs ws[i], 0))] w' fun x w1 => bl2 P .append #[AW, AW] AW [x9, x] w1 fun x40 w37 =>
     bin P .add Bw false true (.int .i64 i) (.int .i64 1) w37 fun x101 => ∃ m39, m39 < g ∧ ∃ (i : Nat) (st : List PV) (b : Int), x101 = .int .i64 i ∧ m39 + i = ws.length ∧ (prM vs).run ws i = (st, 0) ∧ dpS ws i = some ((st.length : Int), b) ∧ Ext w6 w37 ∧ PL w37 w6.heap.size x40 st := fun hf e9 => by
   refine (hst.ext e9).push (Ady hfin) (Nat.le_trans s8 e9.size) (by omega) fun v' w9 hst' he => ?_
   rw [Aw, Ad (by omega) (by omega)]
   refine ⟨g - 1, by omega, i + 1, st ++ [(leafB vs ws[i], 0)], max b ((st.length : Int) + 1 - form0 ws[i]), rfl, by omega, ?_, ?_, he (e8.trans e9) (Nat.le_refl _), hst'⟩
   ·rw [hsucc]; unfold Mach.step; rw [if_pos hf]; rfl
   ·rw [hd1, hf]; simp
  rw [B6]
  refine Ac (fun hx => ?_) (fun hx => ?_)
  ·have hf := Ag3 hx
   obtain ⟨k, hk⟩ : ∃ k : Nat, varF ws[i] = (k : Int) := ⟨(varF ws[i]).toNat, by omega⟩
   have hlb : leafB vs ws[i] = vs.getD k 0 := by unfold leafB; rw [if_pos hx, hk]; rfl
   rw [hk]
   have hk' : k < (vs.map fun b => ((b, 0) : PV)).length := by simp; omega
   refine hv8.at hk' fun _ => ?_
   rw [AdH hk', ← hlb]
   exact leaf hf (Ext.refl _)
  ·refine AeU hl fun w9 e9 => ?_
   rw [Ae]
   refine Ac (fun hf => ?_) (fun hf => ?_)
   ·refine TM hl fun b w10 e10 hb => ?_
    obtain ⟨b', hb'⟩ := Aim hf (by omega)
    have hlb : leafB vs ws[i] = b' := by unfold leafB; rw [if_neg (by omega), hb']; rfl
    have hbb := hb b' hb'
    subst hbb
    rw [A8, Ax]
    have E := e9.trans e10
    refine Aah (b5.ext (e8.trans E)) ?_
    refine RL ?_
    show call P CA [fl b] w10 _
    refine Ac5 fun w11 e11 => ?_
    rw [← hlb]
    exact leaf hf (E.trans e11)
   ·have hst9 := hst.ext e9
    have hpos : 0 < st.length := by omega
    rw [hst9.len, AC, Ad (by omega) (by omega), show ((st.length : Int) - 1) = ((st.length - 1 : Nat) : Int) by omega]
    refine hst9.at (i := st.length - 1) (by omega) fun hPt => ?_
    refine Rd fun a16 w10 z16 e10 => ?_
    refine Ba z16 fun w11 v16 g16 => ?_
    have e911 : Ext w9 w11 := Ab e10 (fun g hg => Bv v16 g hg) g16
    refine AH (z8.ext ((e8.trans e9).trans e911)) ?_
    refine Rd fun a17 w12 z17 e12 => ?_
    refine Ba z17 fun w13 z17 g17 => ?_
    have e1113 : Ext w11 w13 := Ab e12 (fun g hg => Bv z17 g hg) g17
    have E813 := e9.trans (e911.trans e1113)
    have hst13 := hst.ext E813
    have v16 := v16.ext e1113
    have E613 := e8.trans E813
    have hsz : w6.heap.size ≤ w11.heap.size := Nat.le_trans s8 (Nat.le_trans e9.size e911.size)
    have hb5 := b5.ext E613
    generalize hR : (if form0 ws[i] = 1 then prOne ws[i] (st.getD (st.length - 1) (0, 0)) else prTwo ws[i] (st.getD (st.length - 2) (0, 0)) (st.getD (st.length - 1) (0, 0))) = R
    have hstep : (prM vs).run ws (i + 1) = (st.take (st.length - (form0 ws[i]).toNat) ++ [R.1], R.2) := by
     rw [hsucc]
     unfold Mach.step
     rw [if_neg hf, ← hR]
     split
     ·rename_i h1
      rw [h1]; rfl
     ·rename_i h1
      have : form0 ws[i] = 2 := by have := J3 ws[i]; omega
      rw [this]; rfl
    refine ⟨fun x18 w' => x18 = .int .i64 R.2 ∧ Ext w11 w' ∧ ∃ o, Bx w' w11.heap.size Ag (.pointer (some a17)) (pv2 o.1 o.2) ∧ (R.2 = 0 → o = R.1 ∧ PF o), ?_, ?_⟩
    ·rintro x18 junk w14 ⟨rfl, e14, o, b17, h17⟩
     have E614 : Ext w6 w14 := (e8.trans (e9.trans e911)).trans e14
     rw [B5]
     refine Ac (fun hc => ?_) (fun hc => ?_)
     ·refine AH (z8.ext E614) ?_
      have hres := (prM vs).bad ws (i := i + 1) (by omega) (by rw [hstep]; exact hc)
      rw [hstep] at hres
      rw [hres] at H
      exact AV (p := (0, 0)) (z6.ext E614) (E6.trans E614) s26 fun w' e => H w' e (show pvB (0, 0) from ⟨by decide, by decide⟩)
     ·have hc : R.2 = 0 := by simpa using hc
      obtain ⟨rfl, hPo⟩ := h17 hc
      have hst14 := (hst.ext (e9.trans e911)).ext e14
      have hfn : form0 ws[i] = ((form0 ws[i]).toNat : Int) := by omega
      rw [hst14.len, AC, Ad (by omega) (by omega), show ((st.length : Int) - form0 ws[i]) = ((st.length - (form0 ws[i]).toNat : Nat) : Int) by omega]
      refine hst14.take (by omega) fun v97 hst97 => ?_
      refine AH b17 ?_
      refine hst97.push2 hPo (Nat.le_trans hsz e14.size) (by simp; omega) fun v' w15 hst' he => ?_
      rw [Aw, Ad (by omega) (by omega)]
      refine ⟨g - 1, by omega, i + 1, st.take (st.length - (form0 ws[i]).toNat) ++ [R.1], max b ((st.length : Int) + 1 - form0 ws[i]), rfl, by omega, ?_, ?_, he E614 (Nat.le_refl _), hst'⟩
      ·rw [hstep, hc]
      ·have el : (((st.take (st.length - (form0 ws[i]).toNat) ++ [R.1]).length : Nat) : Int) = (st.length : Int) + 1 - form0 ws[i] := by simp; omega
       rw [hd1, el]
    ·have put : ∀ {o : PV} {w14 : World} {KW : World → Prop}, Ext w13 w14 → (R.2 = 0 → o = R.1 ∧ PF o) →
       (∀ w', Ext w11 w' → Bx w' w11.heap.size Ag (.pointer (some a17)) (pv2 o.1 o.2) → KW w') → sto P Ag (.pointer (some a17)) (pvv o) w14 KW := fun e14 hq HK => by
      refine Ba (z17.ext e14) fun w15 b15 g15 => ?_
      exact HK w15 (Ab (e1113.trans e14) (fun g hg => Bv b15 g hg) g15) b15
     rw [Ae]
     refine Ac (fun h1 => ?_) (fun h1 => ?_)
     ·refine Zf hb5 ?_
      refine AH v16 ?_
      refine RL ?_
      show call P Df [str ws[i], pvv st[st.length - 1]] w13 _
      refine Agc hPt fun o w14 e14 ho hq => ?_
      rw [A8, Ax]
      have hR1 : R = prOne ws[i] st[st.length - 1] := by rw [← hR, if_pos h1, El]
      have hq' : R.2 = 0 → o = R.1 ∧ PF o := fun h0 => by
       rw [hR1] at h0 ⊢
       have := hq h0
       exact ⟨this, by rw [this]; exact VF hPt h0⟩
      rw [← hR1]
      exact put e14 hq' fun w' hw' hb' => ⟨rfl, hw', o, hb', hq'⟩
     ·have h2 : form0 ws[i] = 2 := by have := J3 ws[i]; omega
      refine XM hb5 ?_
      rw [hst13.len, AC, Ad (by omega) (by omega), show ((st.length : Int) - 2) = ((st.length - 2 : Nat) : Int) by omega]
      refine hst13.at (i := st.length - 2) (by omega) fun hP2 => ?_
      refine AH v16 ?_
      refine RL ?_
      show call P Dg [str ws[i], pvv st[st.length - 2], pvv st[st.length - 1]] w13 _
      refine Afg hP2 hPt fun o w14 e14 ho hq => ?_
      rw [A8, Ax]
      have hR1 : R = prTwo ws[i] st[st.length - 2] st[st.length - 1] := by rw [← hR, if_neg h1, El, El]
      have hq' : R.2 = 0 → o = R.1 ∧ PF o := fun h0 => by
       rw [hR1] at h0 ⊢
       have := hq h0
       exact ⟨this, by rw [this]; exact VM hP2 hPt h0⟩
      rw [← hR1]
      refine put e14 hq' fun w' hw' hb' => ?_
      rw [Ax]
      exact ⟨rfl, rfl, hw', o, hb', hq'⟩
 ·have hi : i = ws.length := by omega
  subst hi
  rw [hdp] at hdi
  simp only [Option.some.injEq, Prod.mk.injEq] at hdi
  have h1 : st.length = 1 := by omega
  refine hst.at (k := .i64) (i := 0) (by omega) fun hP => ?_
  have hres : (prM vs).res ws = (st[0], 0) := by
   unfold Mach.res
   rw [hrun]
   simp only [if_true]
   rw [El]
  rw [hres] at H
  exact AV (p := st[0]) (z6.ext e8) (E6.trans e8) s26 fun w' e => H w' e hP.1
noncomputable def runPF (ws : List (List UInt8)) (vs : List Nat) : PV × Int :=
 if askF ws (vs.all finB) vs.length = 0 then (prM vs).res ws else ((0, 0), askF ws (vs.all finB) vs.length)
theorem AeH {a v : Value} {ws : List (List UInt8)} {vs : List Nat} (ha : Bm w a ws) (hv0 : Xx w v vs)
  (H : ∀ u w', Ext w w' → Akd w' w.heap.size w'.heap.size u (runPF ws vs).1 → K (.tuple #[u, .int .i64 (runPF ws vs).2]) w') : call P HP [a, v] w K := by
 have hv : FS w v vs := hv0
 obtain ⟨s, rfl, hs⟩ := ha
 refine YN ?_
 unfold L4
 refine Du fun x2 w1 b2 e1 => ?_
 refine AN fun x4 w2 ⟨a0, b0, b4⟩ e2 => ?_
 have E2 := e1.trans e2
 have s1 := e1.size
 have b2 := b2.ext e2
 have hs := hs.ext E2
 have hv := hv.ext E2
 have hvb := hv.bound
 refine Bb b2 ?_
 rw [hv.row.len B7]
 refine Ik hv ?_
 refine ⟨Ext.refl _, ?_⟩
 refine AiE ⟨s, rfl, hs⟩ fun w3 e3 => ?_
 have E3 := E2.trans e3
 have b2 := b2.ext e3
 have b4 := b4.ext e3
 have hs := hs.ext e3
 have hv := hv.ext e3
 rw [B5]
 refine Ac (fun hne => ?_) (fun heq => ?_)
 ·rw [BZ]
  refine AV (p := (0, 0)) b4 E3 s1 fun w' e => ?_
  have hr : runPF ws vs = ((0, 0), askF ws (vs.all finB) vs.length) := by unfold runPF; rw [if_neg hne]
  rw [hr] at H
  exact H _ w' e ⟨rfl, show (0 : Nat) < 4294967296 by decide, show (0 : Nat) < 4294967296 by decide⟩
 have h0 : askF ws (vs.all finB) vs.length = 0 := by simpa using heq
 obtain ⟨⟨m, hd⟩, hfin, hn, hn3⟩ := AbK h0
 have hfin' : ∀ b ∈ vs, b < 4294967296 ∧ Vc.Fin Ieee.single b := fun b hb => ⟨hv.lt b hb, hfin b hb⟩
 have hr : runPF ws vs = (prM vs).res ws := by unfold runPF; rw [if_pos h0]
 refine PL.nil0 fun v22 w4 e4 hst => ?_
 rw [(hv.ext e4).row.len B7]
 refine ⟨fun g x7 x25 w' => ∃ i : Nat, x25 = .int .i64 i ∧ g + i = vs.length ∧ Ext w3 w' ∧ PL w' w3.heap.size x7 ((vs.take i).map fun b => ((b, 0) : PV)), ⟨vs.length, 0, rfl, rfl, e4, by simpa using hst⟩, ?_⟩
 rintro g x7 x25 junk w5 ⟨i, rfl, hg, e5, hst⟩
 rw [Ai]
 refine Ac (fun hlt => ?_) (fun hge => ?_)
 ·have hi : i < vs.length := by omega
  have s5 := e5.size
  refine (hv.ext e5).at hi ?_
  obtain ⟨p1, p2⟩ := hfin' vs[i] (List.getElem_mem hi)
  rw [Re]
  refine hst.push (p := (vs[i], 0)) ⟨⟨p1, show (0 : Nat) < 4294967296 by decide⟩, p2, show Vc.Fin single 0 by decide⟩ s5 (by simp; omega) fun v' w8 hst' he => ?_
  rw [Aw, Ad (by omega) (by omega)]
  refine ⟨g - 1, by omega, i + 1, rfl, by omega, he e5 (Nat.le_refl _), ?_⟩
  rw [List.take_succ_eq_append_getElem hi, List.map_append]
  exact hst'
 ·have hi : i = vs.length := by omega
  subst hi
  rw [List.take_length] at hst
  refine Bb (b2.ext e5) ?_
  rw [show bld P Ck [(0, (.func (.func CA) #[] #[])), (1, (.func (.func Df) #[] #[])), (2, (.func (.func Dg) #[] #[]))] w5 = _ from funext fun K => DT (v := .agg #[fnv CA, fnv Df, fnv Dg]) (by kernel_rfl)]
  refine AdF ⟨s, rfl, hs.ext e5⟩ hd hst hfin' hn fun w6 e6 hb => ?_
  rw [A8, Ax]
  rw [← hr] at hb ⊢
  exact AV (p := (runPF ws vs).1) (b4.ext (e5.trans e6)) (E3.trans (e5.trans e6)) s1 fun w' e => H _ w' e ⟨rfl, hb⟩
end


section
open Go Go.Vc Ieee
theorem Px {b : Nat} (hb : b < 4294967296) (h : Vc.Fin single b) : ∃ s m e, single.read b = .number s m e ∧ single.read (turnB b) = .number (!s) m e ∧ m = (fM b).natAbs ∧ e = fE b ∧ s = (b / 2147483648 % 2 == 1) := by
 refine ⟨_, _, _, Ka h hb, ?_, rfl, rfl, rfl⟩
 rw [Ka (IP hb h) (RN hb)]
 have e0 : turnB b % 2147483648 = b % 2147483648 := by unfold turnB; split <;> omega
 have e1 : turnB b % 8388608 = b % 8388608 := by omega
 have e2 : turnB b / 8388608 % 256 = b / 8388608 % 256 := by omega
 have e3 : (turnB b / 2147483648 % 2 == 1) = !(b / 2147483648 % 2 == 1) := by
  have : turnB b / 2147483648 = 1 - b / 2147483648 := by unfold turnB; split <;> omega
  have hq : b / 2147483648 = 0 ∨ b / 2147483648 = 1 := by omega
  rw [this]
  rcases hq with q | q <;> rw [q] <;> rfl
 have ea : ∀ c : Nat, (fM c).natAbs = c % 8388608 + (if 0 < c / 8388608 % 256 then 8388608 else 0) := fun c => by
  unfold fM
  simp only
  split <;> omega
 have eM : (fM (turnB b)).natAbs = (fM b).natAbs := by rw [ea, ea, e1, e2]
 have eE : fE (turnB b) = fE b := by unfold fE; rw [e2]
 rw [e3, eM, eE]
theorem Ju (s : Bool) (m k : Nat) : signed (!s) m k = -signed s m k := by
 cases s <;> simp [signed]
theorem AdT (x y : Int) : (compare (-x) (-y) = .eq) ↔ (compare x y = .eq) := by
 rw [Int.compare_eq_eq, Int.compare_eq_eq]
 omega
theorem Ri {o : Ordering} : ((some o : Option Ordering) == some .eq) = true ↔ o = .eq := by cases o <;> simp
theorem Fs (s : Bool) (k : Nat) : signed s 0 k = 0 := by cases s <;> simp [signed]
theorem YM {a b : Nat} {s t : Bool} {m n : Nat} {i j : Int} (ha : single.read a = .number s m i) (hb : single.read b = .number t n j) :
  opF .add a b = W single (if signed s m (i - min i j).toNat + signed t n (j - min i j).toNat = 0 then s && t else decide (signed s m (i - min i j).toNat + signed t n (j - min i j).toNat < 0))
   (signed s m (i - min i j).toNat + signed t n (j - min i j).toNat).natAbs (min i j) := by
 unfold opF
 show (single.add a b).getD _ = _
 unfold Format.add
 rw [ha, hb]
 rfl
theorem OI (s : Bool) (e : Int) : ∃ g, single.read (W single s 0 e) = .number s 0 g := by
 have h0 : SameN 0 e 0 0 := .of_dy (by rw [show ((0 : Nat) : Int) = 0 from rfl, Dv, Dv])
 have : W single s 0 e = W single s 0 0 := Jo single s h0
 rw [this]
 cases s
 ·exact ⟨-149, by decide⟩
 ·exact ⟨-149, by decide⟩
theorem M7 {a b : Nat} {s t : Bool} {m n : Nat} {i j : Int} (ha : single.read a = .number s m i) (hb : single.read b = .number t n j) :
  single.order a b = some (compare (signed s m (i - min i j).toNat) (signed t n (j - min i j).toNat)) := by
 unfold Format.order
 rw [ha, hb]; rfl
theorem AgE {m k : Nat} (h : m <<< k = 0) : m = 0 := by
 rw [Nat.shiftLeft_eq] at h
 rcases Nat.mul_eq_zero.1 h with h | h
 ·exact h
 ·exact absurd h (Nat.ne_of_gt (Nat.two_pow_pos k))
theorem sgd (s : Bool) (m k : Nat) : signed s m k = if s then -((m * 2 ^ k : Nat) : Int) else ((m * 2 ^ k : Nat) : Int) := by unfold signed; rw [Nat.shiftLeft_eq]
theorem Ad2 {s : Bool} {m k : Nat} (h : signed s m k = 0) : m = 0 := by
 apply AgE (k := k)
 unfold signed at h
 split at h <;> omega
theorem AcA {s : Bool} {m : Nat} {e : Int} : ∃ q, q < 2147483648 ∧ ∀ s, W single s m e = single.word s q := by
 obtain ⟨q, hq⟩ := Wz single m e
 refine ⟨q, ?_, hq⟩
 have hf := OG true m e
 rw [hq] at hf
 have e : single.word true q = 2147483648 + q := rfl
 omega
theorem AfR (s : Bool) {q : Nat} (h : q < 2147483648) : turnB (single.word s q) = single.word (!s) q ∧ single.word s q < 4294967296 := by
 have t1 : single.word true q = 2147483648 + q := rfl
 have t2 : single.word false q = q := rfl
 unfold turnB
 cases s
 ·rw [t2, Bool.not_false, t1, if_pos h]; omega
 ·rw [t1, Bool.not_true, t2, if_neg (by omega)]; omega
theorem Abr {r a : Nat} {o : Ordering} (ha : ∃ s m e, single.read a = .number s m e) (h : single.order r a = some o) (ho : o = .eq) : Vc.Fin single r := by
 obtain ⟨s, m, e, ha⟩ := ha
 refine Y9 (by decide) ?_
 unfold Format.order at h
 rw [ha] at h
 cases hr : single.read r with
 | number => rfl
 | infinity t =>
  rw [hr] at h
  simp only [Datum.order, Option.some.injEq] at h
  rw [ho] at h
  cases t <;> simp at h
 | nan => rw [hr] at h; simp [Datum.order] at h
theorem Zg {p : PV} (hp : pvB p) (h : isPB p = true) : isPB (ngP p) = true := by
 obtain ⟨f1, f2⟩ := Abs h
 unfold isPB at h ⊢
 rw [Bool.and_eq_true] at h ⊢
 refine ⟨by
  rw [Bool.and_eq_true]
  exact ⟨BU.2 (IP hp.1 f1), BU.2 (IP hp.2 f2)⟩, ?_⟩
 have h := h.2
 obtain ⟨s, m, i, a1, a2, _⟩ := Px hp.1 f1
 obtain ⟨t, n, j, b1, b2, _⟩ := Px hp.2 f2
 have e1 := YM a1 b1
 have e2 := YM a2 b2
 rw [Ju, Ju] at e2
 show (single.order (opF .add (turnB p.1) (turnB p.2)) (turnB p.1) == some .eq) = true
 generalize hT : signed s m (i - min i j).toNat + signed t n (j - min i j).toNat = T at e1 e2
 have hT' : -signed s m (i - min i j).toNat + -signed t n (j - min i j).toNat = -T := by omega
 rw [hT'] at e2
 by_cases h0 : T = 0
 ·subst h0
  rw [if_pos rfl] at e1
  rw [if_pos (by omega)] at e2
  have en : (-(0 : Int)).natAbs = 0 := rfl
  have en' : ((0 : Int)).natAbs = 0 := rfl
  rw [en] at e2
  rw [en'] at e1
  obtain ⟨g, hg⟩ := OI (s && t) (min i j)
  obtain ⟨g', hg'⟩ := OI (!s && !t) (min i j)
  rw [e1, M7 hg a1, Ri, Fs, Int.compare_eq_eq] at h
  rw [e2, M7 hg' a2, Ri, Fs, Int.compare_eq_eq, Ju]
  have hm := Ad2 h.symm
  rw [hm, Fs]; rfl
 ·rw [if_neg h0] at e1
  rw [if_neg (by omega), show (-T).natAbs = T.natAbs by omega] at e2
  obtain ⟨q, hq, hW⟩ := AcA (s := true) (m := T.natAbs) (e := min i j)
  rw [hW] at e1 e2
  have hs : decide (-T < 0) = !decide (T < 0) := by
   by_cases hl : T < 0
   ·rw [decide_eq_true hl, decide_eq_false (by omega)]; rfl
   ·rw [decide_eq_false hl, decide_eq_true (by omega)]; rfl
  rw [hs] at e2
  obtain ⟨tw, hlt⟩ := AfR (decide (T < 0)) hq
  rw [← tw, ← e1] at e2
  rw [← e1] at hlt
  rw [e2]
  generalize opF .add p.1 p.2 = r at *
  cases ho : single.order r p.1 with
  | none => rw [ho] at h; simp at h
  | some o =>
   rw [ho, Ri] at h
   have fr := Abr ⟨_, _, _, a1⟩ ho h
   obtain ⟨u, k, l, c1, c2, _⟩ := Px hlt fr
   rw [M7 c1 a1, Option.some.injEq] at ho
   rw [h] at ho
   rw [M7 c2 a2, Ri, Ju, Ju, AdT]
   exact ho
theorem Tw {b : Nat} (hb : b < 4294967296) (h : Vc.Fin single b) : isPB (b, 0) = true := by
 unfold isPB
 rw [Bool.and_eq_true]
 refine ⟨by rw [Bool.and_eq_true]; exact ⟨BU.2 h, show finB 0 = true by decide⟩, ?_⟩
 obtain ⟨s, m, i, a1, _, hm, hi, hs⟩ := Px hb h
 have b1 : single.read 0 = .number false 0 (-149) := by decide
 have e1 := YM a1 b1
 rw [Fs, Int.add_zero] at e1
 show (single.order (opF .add b 0) b == some .eq) = true
 by_cases h0 : signed s m (i - min i (-149)).toNat = 0
 ·rw [h0, if_pos rfl] at e1
  obtain ⟨g, hg⟩ := OI (s && false) (min i (-149))
  rw [e1]
  show (single.order (W single (s && false) 0 (min i (-149))) b == some .eq) = true
  rw [M7 hg a1, Ri, Fs, Int.compare_eq_eq, Ad2 h0, Fs]
 ·rw [if_neg h0] at e1
  have hr : opF .add b 0 = b := by
   rw [e1]
   have hs' : decide (signed s m (i - min i (-149)).toNat < 0) = s := by
    rw [sgd] at h0 ⊢
    generalize m * 2 ^ (i - min i (-149)).toNat = y at *
    cases s
    ·rw [if_neg (by decide)] at h0 ⊢
     exact decide_eq_false (by omega)
    ·rw [if_pos rfl] at h0 ⊢
     exact decide_eq_true (by omega)
   have hn : (signed s m (i - min i (-149)).toNat).natAbs = m * 2 ^ (i - min i (-149)).toNat := by
    rw [sgd]
    generalize m * 2 ^ (i - min i (-149)).toNat = y
    split <;> omega
   rw [hs', hn]
   have := Afo h hb
   rw [← hs, ← hm, ← hi] at this
   rw [← this]
   obtain ⟨k, hk⟩ : ∃ k : Nat, (i - min i (-149)).toNat = k ∧ min i (-149) = i - k := ⟨_, rfl, by omega⟩
   rw [hk.1, hk.2]
   have h2 : single.write (.number s (m * 2 ^ k) (i - k)) = single.write (.number s m i) := Jo single s (SameN.shl m i k)
   exact h2
  rw [hr, WA (Ra h) (by decide)]
  rfl
def OkP (p : PV) : Prop := PF p ∧ isPB p = true
theorem Pe {o : Option PV} (h : ∀ r, o = some r → isPB r = true) (h0 : (lim o).2 = 0) : isPB (lim o).1 = true := by
 cases o with
 | none => cases h0
 | some r => exact h r rfl
theorem AhF {l : List UInt8} {p : PV} (hp : OkP p) (h : (prOne l p).2 = 0) : OkP (prOne l p).1 := by
 refine ⟨VF hp.1 h, ?_⟩
 unfold prOne at h ⊢
 split
 ·exact Zg hp.1.1 hp.2
 ·rename_i h1
  rw [if_neg h1] at h
  split
  ·rename_i h2
   rw [if_pos h2] at h
   exact Pe (fun r hr => Wh hr) h
  ·rename_i h2
   rw [if_neg h2] at h
   split
   ·show isPB (if pvQ p < 0 then ngP p else p) = true
    split
    ·exact Zg hp.1.1 hp.2
    ·exact hp.2
   ·rename_i h3
    rw [if_neg h3] at h
    exact absurd h (by decide)
theorem Ah5 {l : List UInt8} {p q : PV} (hp : OkP p) (hq : OkP q) (h : (prTwo l p q).2 = 0) : OkP (prTwo l p q).1 := by
 refine ⟨VM hp.1 hq.1 h, ?_⟩
 unfold prTwo at h ⊢
 split
 ·rename_i h1; rw [if_pos h1] at h; exact Pe (fun r hr => VT hr) h
 rename_i h1
 rw [if_neg h1] at h
 split
 ·rename_i h2; rw [if_pos h2] at h; exact Pe (fun r hr => VT hr) h
 rename_i h2
 rw [if_neg h2] at h
 split
 ·rename_i h3; rw [if_pos h3] at h; exact Pe (fun r hr => Wh hr) h
 rename_i h3
 rw [if_neg h3] at h
 split
 ·rename_i h4
  rw [if_pos h4] at h
  split
  ·rename_i h5
   rw [if_pos h5] at h
   exact absurd h (by decide)
  ·rename_i h5
   rw [if_neg h5] at h
   exact Pe (fun r hr => Acf hr) h
 rename_i h4
 split
 ·exact hq.2
 ·exact hp.2
theorem AfB {ws : List (List UInt8)} {vs : List Nat} (hv : ∀ b ∈ vs, b < 4294967296 ∧ Vc.Fin single b) : ∀ i, ((prM vs).run ws i).2 = 0 → ∀ p ∈ ((prM vs).run ws i).1, OkP p
 | 0, _, p, hp => by cases hp
 | i + 1, h, p, hp => by
  rw [Mach.run] at h hp
  split at h
  ·rename_i h0
   rw [if_pos h0] at hp
   have ih := AfB (ws := ws) hv i h0
   have hl := ZE (l := ws.getD i []) hv
   have z1 : (0 : Nat) < 4294967296 := by decide
   have z2 : Vc.Fin single 0 := by decide
   refine Mach.step_all (prM vs) (p := OkP) ih ⟨⟨⟨hl.1, z1⟩, hl.2, z2⟩, Tw hl.1 hl.2⟩ (fun a ha hc => AhF ha hc) (fun a b ha hb hc => Ah5 ha hb hc) ⟨⟨⟨z1, z1⟩, z2, z2⟩, Tw z1 z2⟩ h p hp
  ·rename_i h0; exact absurd h h0
theorem Ah7 {ws : List (List UInt8)} {vs : List Nat} (hb : ∀ b ∈ vs, b < 4294967296) (h : (runPF ws vs).2 = 0) : isPB (runPF ws vs).1 = true := by
 unfold runPF at h ⊢
 split
 ·rename_i h0
  rw [if_pos h0] at h
  have hfin : vs.all finB = true := by
   unfold askF at h0
   split at h0
   ·cases h0
   ·rename_i hn
    cases hq : vs.all finB with
    | true => rfl
    | false => exact absurd (.inr hq) hn
  have hv : ∀ b ∈ vs, b < 4294967296 ∧ Vc.Fin single b := fun b hm => ⟨hb b hm, BU.1 (List.all_eq_true.1 hfin b hm)⟩
  unfold Mach.res at h ⊢
  split
  ·rename_i h1
   have hall := AfB (ws := ws) hv ws.length h1
   by_cases hl : 0 < ((prM vs).run ws ws.length).1.length
   ·show isPB (((prM vs).run ws ws.length).1.getD 0 (prM vs).z) = true
    rw [El hl]
    exact (hall _ (List.getElem_mem hl)).2
   ·show isPB (((prM vs).run ws ws.length).1.getD 0 (prM vs).z) = true
    rw [List.getD_eq_getElem?_getD, List.getElem?_eq_none (by omega)]
    exact Tw (b := 0) (by decide) (by decide)
  ·rename_i h1
   rw [if_neg h1] at h
   exact absurd h h1
 ·rename_i h0
  rw [if_neg h0] at h
  exact absurd h h0
end


section
open Go Go.Vc Ieee
theorem Ag7 (neg : Bool) (n d : Nat) : n / 2 ^ d ≤ Toward.even.cut neg n d ∧ Toward.even.cut neg n d ≤ n / 2 ^ d + 1 := by
 have hb : ∀ b : Bool, b.toNat ≤ 1 := by decide
 unfold Toward.cut
 simp only
 by_cases hd : d ≤ n.log2 + 2
 ·rw [Nat.min_eq_left hd, Nat.shiftLeft_eq, Nat.one_mul]
  generalize (decide (2 ^ d < 2 * (n % 2 ^ d)) || 2 ^ d == 2 * (n % 2 ^ d) && n / 2 ^ d % 2 == 1) = b
  have := hb b
  omega
 ·rw [Nat.min_eq_right (by omega), Nat.shiftLeft_eq, Nat.one_mul]
  have h1 : n < 2 ^ (n.log2 + 2) := Nat.lt_of_lt_of_le Nat.lt_log2_self (Nat.pow_le_pow_right (by decide) (by omega))
  have h2 : n < 2 ^ d := Nat.lt_of_lt_of_le h1 (Nat.pow_le_pow_right (by decide) (by omega))
  rw [Nat.div_eq_of_lt h1, Nat.div_eq_of_lt h2]
  generalize (decide (2 ^ (n.log2 + 2) < 2 * (n % 2 ^ (n.log2 + 2))) || 2 ^ (n.log2 + 2) == 2 * (n % 2 ^ (n.log2 + 2)) && 0 % 2 == 1) = b
  have := hb b
  omega
theorem AgT (s : Bool) {r : Nat} (h : r < 2147483648) : single.word s r % 2147483648 = r := by
 have t1 : single.word true r = 2147483648 + r := rfl
 have t2 : single.word false r = r := rfl
 cases s
 ·rw [t2]; omega
 ·rw [t1]; omega
set_option maxRecDepth 20000 in
theorem Akj {s : Bool} {a : Nat} {e : Int} (ha : a ≠ 0) (h : Vc.Fin single (W single s a e)) :
  ∃ (k : Nat) (last : Int), -149 ≤ last ∧ last ≤ 105 ∧ W single s a e = W single s k last ∧ Cut k last ∧ (last ≤ e → k = a * 2 ^ (e - last).toNat) ∧ (e < last → a / 2 ^ (last - e).toNat ≤ k ∧ k ≤ a / 2 ^ (last - e).toNat + 1) := by
 have hW : W single s a e = single.word s (min ((max (e + a.log2 - 23) (-149) - -149).toNat * 8388608 + Toward.even.cut s (a <<< (e - max (e + a.log2 - 23) (-149)).toNat) (max (e + a.log2 - 23) (-149) - e).toNat) 2139095040) := by
  show single.nearest s a e = _
  unfold Format.nearest
  rw [if_neg ha]
  rfl
 have hlog : a.log2 = bl a - 1 := IY ha
 have hbp := Eu ha
 generalize hL : max (e + a.log2 - 23) (-149) = last at hW
 have hlo : -149 ≤ last := by omega
 generalize hk : Toward.even.cut s (a <<< (e - last).toNat) (last - e).toNat = k at hW
 have hlt : (last - -149).toNat * 8388608 + k < 2139095040 := by
  generalize (last - -149).toNat * 8388608 + k = R at hW ⊢
  have hm : min R 2139095040 ≤ 2139095040 := Nat.min_le_right _ _
  have h1 := h
  rw [hW] at h1
  unfold Vc.Fin at h1
  rw [s_sw, LO] at h1
  generalize hQ : min R 2139095040 = Q at h1 hm
  rw [AgT s (show Q < 2147483648 by omega)] at h1
  omega
 have hl2 : last ≤ 105 := by omega
 have e1 : last ≤ e → k = a * 2 ^ (e - last).toNat := fun hle => by
  rw [← hk, show (last - e).toNat = 0 by omega, D6, Nat.shiftLeft_eq]
 have e2 : e < last → a / 2 ^ (last - e).toNat ≤ k ∧ k ≤ a / 2 ^ (last - e).toNat + 1 := fun hlt => by
  rw [← hk, show (e - last).toNat = 0 by omega, Nat.shiftLeft_zero]
  exact Ag7 s a (last - e).toNat
 have hbl : (bl a : Int) + e - last ≤ 24 := by omega
 have hk24 : k ≤ 16777216 := by
  by_cases hle : last ≤ e
  ·rw [e1 hle]
   have : bl (a * 2 ^ (e - last).toNat) ≤ 24 := by rw [Fw ha]; omega
   have := Bf.1 this
   exact Nat.le_of_lt this
  ·have := (e2 (by omega)).2
   have h3 : a / 2 ^ (last - e).toNat < 16777216 := by
    refine Nat.div_lt_of_lt_mul ?_
    have h4 : bl a ≤ (last - e).toNat + 24 := by omega
    have := Bf.1 h4
    rw [Nat.pow_add] at this
    exact this
   omega
 have hk23 : -149 < last → 8388608 ≤ k := fun hl => by
  have hll : last = e + a.log2 - 23 := by omega
  have hb : 24 = (bl a : Int) + e - last := by omega
  by_cases hle : last ≤ e
  ·rw [e1 hle]
   have h5 : ¬ bl (a * 2 ^ (e - last).toNat) ≤ 23 := by rw [Fw ha]; omega
   rw [Bf] at h5
   have : (2 : Nat) ^ 23 = 8388608 := by decide
   omega
  ·have := (e2 (by omega)).1
   have h3 : 8388608 ≤ a / 2 ^ (last - e).toNat := by
    refine (Nat.le_div_iff_mul_le (Nat.two_pow_pos _)).2 ?_
    have h5 : ¬ bl a ≤ (last - e).toNat + 23 := by omega
    rw [Bf, Nat.pow_add] at h5
    have : (2 : Nat) ^ 23 = 8388608 := by decide
    rw [this, Nat.mul_comm] at h5
    omega
   omega
 have htop : (bl k : Int) + last ≤ 128 := by
  by_cases h1 : k < 8388608
  ·have := Bf.2 (show k < 2 ^ 23 from h1); omega
  ·by_cases h2 : k < 16777216
   ·have := Bf.2 (show k < 2 ^ 24 from h2); omega
   ·have := Bf.2 (show k < 2 ^ 25 by show k < 33554432; omega); omega
 refine ⟨k, last, hlo, hl2, ?_, ⟨hk24, hlo, htop⟩, e1, e2⟩
 rw [hW, Nat.min_eq_left (by omega)]
 symm
 show single.nearest s k last = _
 unfold Format.nearest
 by_cases hk0 : k = 0
 ·have : last = -149 := Classical.byContradiction fun hc => by have := hk23 (by omega); omega
  subst this
  rw [if_pos hk0, hk0]; rfl
 ·rw [if_neg hk0]
  have hlogk : k.log2 = bl k - 1 := IY hk0
  have hbk := Eu hk0
  show single.word s (min ((max (last + k.log2 - 23) (-149) - -149).toNat * 8388608 + Toward.even.cut s (k <<< (last - max (last + k.log2 - 23) (-149)).toNat) (max (last + k.log2 - 23) (-149) - last).toNat) 2139095040) = _
  by_cases h1 : k < 16777216
  ·have hm : max (last + k.log2 - 23) (-149) = last := by
    have b24 := Bf.2 (show k < 2 ^ 24 from h1)
    by_cases hl : last = -149
    ·omega
    ·have h3 := hk23 (by omega)
     have h5 : ¬ bl k ≤ 23 := fun h => by have := Bf.1 h; have : (2 : Nat) ^ 23 = 8388608 := by decide
                                          omega
     omega
   rw [hm, show (last - last).toNat = 0 by omega, D6, Nat.shiftLeft_zero, Nat.min_eq_left (by omega)]
  ·have hk' : k = 16777216 := by omega
   have hm : max (last + k.log2 - 23) (-149) = last + 1 := by
    rw [hlogk, hk', show bl 16777216 = 25 from by decide]; omega
   rw [hm, show (last - (last + 1)).toNat = 0 by omega, show (last + 1 - last).toNat = 1 by omega, Nat.shiftLeft_zero, hk', show Toward.even.cut s 16777216 1 = 8388608 by
    have := Tb .even s 8388608 1 (fun h => by cases h)
    exact this]
   rw [hk'] at hlt
   have hs : (last + 1 - -149).toNat * 8388608 + 8388608 = (last - -149).toNat * 8388608 + 16777216 := by omega
   rw [hs, Nat.min_eq_left (by omega)]
theorem fq_W {s : Bool} {k : Nat} {l : Int} (h : Cut k l) : fq (W single s k l) = dy (if s then -(k : Int) else k) l := by
 obtain ⟨k', l', r, sn⟩ := CK (s := s) hss h.has
 have hf := AaJ (s := s) h
 have hlt := OG s k l
 have r2 := Ka hf hlt
 rw [r] at r2
 simp only [Datum.number.injEq] at r2
 obtain ⟨r3, r4, r5⟩ := r2
 unfold fq
 have hsg : fM (W single s k l) = if s then -(k' : Int) else k' := by
  have hM : fM (W single s k l) = (if W single s k l / 2147483648 % 2 = 1 then -((fM (W single s k l)).natAbs : Int) else ((fM (W single s k l)).natAbs : Int)) := by
   unfold fM
   simp only
   split <;> omega
  rw [hM, ← r4]
  cases s
  ·have : ¬ W single false k l / 2147483648 % 2 = 1 := fun h => by rw [h] at r3; cases r3
   rw [if_neg this]; rfl
  ·have : W single true k l / 2147483648 % 2 = 1 := by simpa using r3.symm
   rw [if_pos this]; rfl
 rw [hsg, ← r5]
 have hd := sn.dy
 cases s
 ·exact hd.symm
 ·show dy (-(k' : Int)) l' = dy (-(k : Int)) l
  rw [Fi, Fi, hd]
theorem Adl {m e : Int} (h : m ≠ 0 → (bl m.natAbs : Int) + e ≤ 108) (md : Int) : Vc.Fin single (rndQ md (dy m e)).1 := by
 rw [QH]
 refine W6 ?_
 unfold roundF
 split
 ·decide
 ·rename_i h0
  have := h h0
  simp only
  rw [if_neg]
  ·simp only
   split
   ·decide
   ·split <;> decide
  ·have hc := U4 md (decide (m < 0)) m.natAbs e
   have := Bf.2 (show (cutT md (decide (m < 0)) m.natAbs e).1 < 2 ^ 25 by show _ < 33554432; omega)
   unfold qOf
   omega
theorem Ag4 {s : Bool} {a : Nat} {e : Int} (h : Vc.Fin single (W single s a e)) (md : Int) : Vc.Fin single (rndQ md (dy (if s then -(a : Int) else a) e - fq (W single s a e))).1 := by
 by_cases ha : a = 0
 ·subst ha
  rw [Jh]
  have hz : fq (single.word s 0) = 0 := by
   cases s
   ·show dy (fM 0) (fE 0) = 0; rw [NH]; decide
   ·show dy (fM 2147483648) (fE 2147483648) = 0; rw [NH]; decide
  rw [hz]
  have : dy (if s = true then -((0 : Nat) : Int) else ((0 : Nat) : Int)) e - 0 = dy 0 0 := by
   have e0 : (if s = true then -((0 : Nat) : Int) else ((0 : Nat) : Int)) = 0 := by cases s <;> rfl
   rw [e0, Dv, Dv]; grind
  rw [this]
  exact Adl (fun h => absurd rfl h) md
 ·obtain ⟨k, last, l1, l2, hw, hc, e1, e2⟩ := Akj ha h
  rw [hw, fq_W hc]
  have hd : ∃ d : Int, dy (if s then -(a : Int) else a) e - dy (if s then -(k : Int) else k) last = dy d (min e last) ∧ (d ≠ 0 → (bl d.natAbs : Int) + min e last ≤ 108) := by
   by_cases hle : last ≤ e
   ·have hk := e1 hle
    refine ⟨0, ?_, fun h => absurd rfl h⟩
    have : dy (a : Int) e = dy (k : Int) last := by
     rw [hk, Int.natCast_mul, Int.natCast_pow]
     exact (BE (by omega)).symm
    rw [Dv]
    cases s
    ·show dy (a : Int) e - dy (k : Int) last = 0
     rw [this]; grind
    ·show dy (-(a : Int)) e - dy (-(k : Int)) last = 0
     rw [Fi, Fi, this]; grind
   ·have hk := e2 (by omega)
    have hmin : min e last = e := by omega
    rw [hmin]
    obtain ⟨j, hj⟩ : ∃ j : Nat, last = e + j := ⟨(last - e).toNat, by omega⟩
    have hj' : (last - e).toNat = j := by omega
    rw [hj'] at hk
    have hkd : dy (k : Int) last = dy ((k : Int) * 2 ^ j) e := (BE (by omega)).symm
    have hp := Nat.two_pow_pos j
    have hab : ((a : Int) - (k : Int) * 2 ^ j).natAbs ≤ 2 ^ j := by
     have d1 := Nat.div_add_mod a (2 ^ j)
     have d2 := Nat.mod_lt a hp
     have m1 := Nat.mul_le_mul_right (2 ^ j) hk.1
     have m2 := Nat.mul_le_mul_right (2 ^ j) hk.2
     rw [Nat.add_mul, Nat.one_mul] at m2
     rw [Nat.mul_comm] at d1
     have c : ((k : Int) * 2 ^ j) = ((k * 2 ^ j : Nat) : Int) := by rw [Int.natCast_mul, Int.natCast_pow]; rfl
     rw [c]
     generalize k * 2 ^ j = X at *
     generalize a / 2 ^ j * 2 ^ j = Y at *
     generalize 2 ^ j = Z at *
     omega
    refine ⟨if s then -((a : Int) - k * 2 ^ j) else (a : Int) - k * 2 ^ j, ?_, fun hne => ?_⟩
    ·cases s
     ·show dy (a : Int) e - dy (k : Int) last = dy ((a : Int) - k * 2 ^ j) e
      rw [hkd, Int.sub_eq_add_neg, ← QW, Fi]; grind
     ·show dy (-(a : Int)) e - dy (-(k : Int)) last = dy (-((a : Int) - k * 2 ^ j)) e
      rw [Fi, Fi, Fi, hkd, Int.sub_eq_add_neg, ← QW, Fi]; grind
    ·have hn : (if s = true then -((a : Int) - k * 2 ^ j) else (a : Int) - k * 2 ^ j).natAbs ≤ 2 ^ j := by
      split
      ·rw [Int.natAbs_neg]; exact hab
      ·exact hab
     have : bl (if s = true then -((a : Int) - k * 2 ^ j) else (a : Int) - k * 2 ^ j).natAbs ≤ j + 1 := Bf.2 (by rw [Nat.pow_succ]; omega)
     omega
  obtain ⟨d, hd, hb⟩ := hd
  rw [hd]
  exact Adl hb md
theorem Zu {b : Nat} (hb : b < 4294967296) : fq b = dy (if (b / 2147483648 % 2 == 1) = true then -((fM b).natAbs : Int) else ((fM b).natAbs : Int)) (fE b) := by
 have : ∀ mm : Nat, (if b / 2147483648 % 2 = 1 then -(mm : Int) else (mm : Int)) = if (b / 2147483648 % 2 == 1) = true then -((if b / 2147483648 % 2 = 1 then -(mm : Int) else (mm : Int)).natAbs : Int) else ((if b / 2147483648 % 2 = 1 then -(mm : Int) else (mm : Int)).natAbs : Int) := by
  intro mm
  by_cases h : b / 2147483648 % 2 = 1
  ·rw [if_pos h, if_pos (beq_iff_eq.2 h)]; omega
  ·rw [if_neg h, if_neg (fun h' => h (beq_iff_eq.1 h'))]; omega
 unfold fq
 congr 1
 exact this _
theorem AhK {x y : Nat} (hx : x < 4294967296) (hy : y < 4294967296) (fx : Vc.Fin single x) (fy : Vc.Fin single y) (hf : Vc.Fin single (opF .mul x y)) (md : Int) : Vc.Fin single (rndQ md (fq x * fq y - fq (opF .mul x y))).1 := by
 have hm : opF .mul x y = W single ((x / 2147483648 % 2 == 1) ^^ (y / 2147483648 % 2 == 1)) ((fM x).natAbs * (fM y).natAbs) (fE x + fE y) := by
  unfold opF
  rw [show floatBits .mul .f32 x y = some (W single ((x / 2147483648 % 2 == 1) ^^ (y / 2147483648 % 2 == 1)) ((fM x).natAbs * (fM y).natAbs) (fE x + fE y)) by
   show single.mul x y = _
   unfold Format.mul
   rw [Ka fx hx, Ka fy hy]; rfl]
  rfl
 rw [hm] at hf ⊢
 have h := Ag4 hf md
 have e : fq x * fq y = dy (if ((x / 2147483648 % 2 == 1) ^^ (y / 2147483648 % 2 == 1)) = true then -(((fM x).natAbs * (fM y).natAbs : Nat) : Int) else (((fM x).natAbs * (fM y).natAbs : Nat) : Int)) (fE x + fE y) := by
  rw [Zu hx, Zu hy, Qu]
  congr 1
  cases (x / 2147483648 % 2 == 1) <;> cases (y / 2147483648 % 2 == 1) <;> simp [Int.natCast_mul, Int.mul_neg, Int.neg_mul]
 rw [e]; exact h
end


section
open Go Go.Vc Ieee
variable {w : World} {K : Value → World → Prop}
theorem ZC {v : Value} {lo hi : Nat} {q : Rat} (h : DQ w v lo hi q) (hl : lo ≤ 1000) (hh : hi ≤ 1000) (H : ∀ w', Ext w w' → K (fl (zF (rndQ 0 q).1)) w') : call P HD [v] w K := by
 refine YG ?_
 unfold Li
 refine AkQ h fun x w1 v1 e1 => ?_
 refine v1.get fun u hu => ?_
 obtain ⟨m, e, hd, hc⟩ := hu
 refine Xh hd hc.bd (by omega) (by omega) hc.canon fun w2 e2 => ?_
 rw [A8, Ax]
 have hr : rndQ 0 q = roundF 0 m e := by rw [hc.val, QH]
 rw [← hr, DO]
 have H := H w2 (e1.trans e2)
 unfold zF at H
 refine Az (fun h => ?_) (fun h => ?_)
 ·rw [if_pos (by unfold isZ; exact h)] at H; exact H
 ·rw [if_neg (by unfold isZ; rw [show (single.order (rndQ 0 q).1 0 == some .eq) = false from h]; decide)] at H; exact H
theorem YW {p : PV} (hp : pvB p) (H : ∀ w', Ext w w' → K (.bool (isPB p)) w') : call P GQ [pvv p] w K := by
 refine Acd ?_
 unfold OU
 refine C6 fun x1 w1 b1 e1 => ?_
 refine pv_H b1 ?_
 refine BH ?_
 have H := H w1 e1
 unfold isPB at H
 refine andJ (fun h => ?_) (fun h => ?_)
 ·refine pv_L b1 ?_
  refine BH ?_
  refine andJ (fun h2 => ?_) (fun h2 => ?_)
  ·refine pv_H b1 ?_
   refine pv_L b1 ?_
   refine AA (by simp) fun r hr => ?_
   refine pv_H b1 ?_
   rw [DO]
   have : r = opF .add p.1 p.2 := by rcases Cc hr with ⟨_, h'⟩ | ⟨h', _⟩; exact h'; rw [h, h2] at h'; cases h'
   rw [this]
   rw [h, h2, Bool.and_self, Bool.true_and] at H
   exact H
  ·rw [h2, Bool.and_false, Bool.false_and] at H; exact H
 ·refine andJ (fun h2 => by cases h2) (fun _ => ?_)
  rw [h, Bool.false_and, Bool.false_and] at H; exact H
theorem RY {p : PV} (hp : PF p) (H : ∀ v w', Ext w w' → DQ w' v 149 129 (pvQ p) → K v w') : call P Ex [pvv p] w K := by
 refine Xa ?_
 unfold J6
 refine C6 fun x1 w1 b1 e1 => ?_
 refine AfM fun x2 w2 n2 e2 => ?_
 have b1 := b1.ext e2
 refine pv_H b1 ?_
 refine pv_L b1 ?_
 refine Gb hp.2.1 hp.1.1 fun u w3 e3 hu => ?_
 refine ⟨e3, ?_⟩
 refine Gb hp.2.2 hp.1.2 fun v w4 e4 hv => ?_
 refine VY (hu.ext e4) hv (by decide) (by decide) fun s w5 e5 hs => ?_
 have E := e3.trans (e4.trans e5)
 refine Akk (n2.ext E) hs fun v' w' g hv => ?_
 exact H v' w' (Im (e1.trans (e2.trans E)) e1.size g) hv
theorem AaP {x y : Nat} (hx : x < 4294967296) (hy : y < 4294967296) (fx : Vc.Fin single x) (fy : Vc.Fin single y) (H : ∀ o w', Ext w w' → pvB o → (∀ p, smF x y = some p → o = p) → K (.tuple #[pvv o, .bool (smF x y).isSome]) w') : call P Iu [fl x, fl y] w K := by
 refine Aa1 ?_
 unfold MZ
 refine AN fun x4 w1 ⟨a0, b0, b4⟩ e1 => ?_
 refine AA (by simp) fun h h1 => ?_
 have he : h = opF .add x y := Ep h1 (Yw fx fy)
 subst he
 have hlt := FR32 h1
 refine BH ?_
 rw [A5]
 unfold smF at H
 cases hf : finB (opF .add x y)
 ·rw [hf] at H
  refine A9 rfl ?_
  rw [BZ]
  exact AV (p := (0, 0)) b4 e1 (Nat.le_refl _) fun w' e => H _ w' e ⟨by decide, by decide⟩ (fun p hp => by cases hp)
 ·rw [hf] at H
  refine AD rfl ?_
  refine Gb fx hx fun u w2 e2 hu => ?_
  refine Gb fy hy fun v w3 e3 hv => ?_
  refine VY (hu.ext e3) hv (by decide) (by decide) fun s w4 e4 hs => ?_
  refine Gb (BU.1 hf) hlt fun hq w5 e5 hh => ?_
  refine VO (hs.ext e5) (hh.mono (Nat.le_refl _) (by decide)) (by decide) (by decide) fun r w6 e6 hr => ?_
  refine ZC hr (by decide) (by decide) fun w7 e7 => ?_
  rw [Hh]
  have E := e2.trans (e3.trans (e4.trans (e5.trans (e6.trans e7))))
  exact AV (p := (opF .add x y, zF (rndQ 0 (fq x + fq y - fq (opF .add x y))).1)) (b4.ext E) (e1.trans E) (Nat.le_refl _) fun w' e => H _ w' e ⟨Mu, Q9 (Kt _ _)⟩ (fun p hp => by simpa using hp)
theorem Ak2 {b : Nat} (h : Vc.Fin single b) : Vc.Fin single (zF b) := by
 unfold zF
 split
 ·decide
 ·exact h
theorem Ab1 {x y : Nat} (hx : x < 4294967296) (hy : y < 4294967296) (fx : Vc.Fin single x) (fy : Vc.Fin single y) (H : ∀ o f w', Ext w w' → pvB o → (∀ p, spF x y = some p → o = p) → K (.tuple #[pvv o, .bool f, .bool (spF x y).isSome]) w') : call P Ia [fl x, fl y] w K := by
 refine UL ?_
 unfold HT
 refine AN fun x4 w1 ⟨a0, b0, b4⟩ e1 => ?_
 refine AA (by simp) fun h h1 => ?_
 have he : h = opF .mul x y := Ep h1 (NS fx fy)
 subst he
 have hlt := FR32 h1
 refine BH ?_
 rw [A5]
 unfold spF at H
 cases hf : finB (opF .mul x y)
 ·rw [hf] at H
  refine A9 rfl ?_
  rw [BZ]
  exact AV (p := (0, 0)) b4 e1 (Nat.le_refl _) fun w' e => H _ _ w' e ⟨by decide, by decide⟩ (fun p hp => by cases hp)
 ·rw [hf] at H
  refine AD rfl ?_
  refine Gb fx hx fun u w2 e2 hu => ?_
  refine Gb fy hy fun v w3 e3 hv => ?_
  refine AhI (hu.ext e3) hv (by decide) (by decide) (by decide) (by decide) fun s w4 e4 hs => ?_
  refine Gb (BU.1 hf) hlt fun hq w5 e5 hh => ?_
  refine VO (hs.ext e5) (hh.mono (by decide) (by decide)) (by decide) (by decide) fun r w6 e6 hr => ?_
  refine AfM fun x8 w7 d8 e7 => ?_
  refine d8.put (hr.ext e7) fun w8 v8 g8 _ => ?_
  have e8 : Ext w6 w8 := Im e7 (Nat.le_refl _) g8
  refine v8.get fun u8 hu8 => ?_
  refine ZC hu8 (by decide) (by decide) fun w9 e9 => ?_
  rw [Hh]
  have hz := Q9 (Kt 0 (fq x * fq y - fq (opF .mul x y)))
  have hzf := Ak2 (AhK hx hy fx fy (BU.1 hf) 0)
  refine (v8.ext e9).get fun u9 hu9 => ?_
  refine Gb hzf hz fun u10 w10 e10 h10 => ?_
  refine ⟨e10, ?_⟩
  refine Uf (h10.mono (by decide) (by decide)) ((hu9.ext e10).mono (by decide) (by decide)) (lo := 1000) (hi := 1000) (by decide) (by decide) fun w11 e11 => ?_
  refine ⟨e11, ?_⟩
  rw [Ae]
  have E := e2.trans (e3.trans (e4.trans (e5.trans (e6.trans (e8.trans (e9.trans (e10.trans e11)))))))
  refine Ba (b4.ext E) fun w12 b12 g12 => ?_
  rw [Ae]
  refine ⟨rfl, ?_⟩
  refine Qm b12 ?_
  exact H (opF .mul x y, zF (rndQ 0 (fq x * fq y - fq (opF .mul x y))).1) _ w12 (Ab (e1.trans E) (fun g hg => Bv b12 g hg) g12) ⟨Mu, hz⟩ (fun p hp => by simpa using hp)
theorem NK {a b : Nat} (ha : a < 4294967296) (hb : b < 4294967296) (H : ∀ o w', Ext w w' → pvB o → (finB a = true → finB b = true → (finB o.1 && finB o.2) = (qkF a b).isSome ∧ ∀ p, qkF a b = some p → o = p) → K (pvv o) w') : call P Dt [fl a, fl b] w K := by
 refine Xk ?_
 unfold Jj
 refine AN fun x w1 ⟨a0, b0, b4⟩ e1 => ?_
 refine AA (by simp) fun h h1 => ?_
 refine AA (by simp) fun k h2 => ?_
 refine AA (by simp) fun l h3 => ?_
 rw [Hh]
 refine AV (p := (h, l)) b4 e1 (Nat.le_refl _) fun w' e => H (h, l) w' e ⟨FR32 h1, FR32 h3⟩ fun fa fb => ?_
 have := Wq fa fb h1 h2 h3
 exact ⟨this.2.1, this.2.2⟩
theorem TG {p : PV} (hp : PF p) (H : ∀ w', Ext w w' → K (pvv (ngP p)) w') : call P Fj [pvv p] w K := by
 refine Yp ?_
 unfold LD
 refine C6 fun x1 w1 b1 e1 => ?_
 refine AN fun x2 w2 ⟨a0, b0, b2⟩ e2 => ?_
 have b1 := b1.ext e2
 refine pv_H b1 ?_
 refine pv_L b1 ?_
 refine Dp hp.2.1 hp.1.1 ?_
 refine ⟨Ext.refl _, ?_⟩
 refine Dp hp.2.2 hp.1.2 ?_
 rw [Hh]
 exact AV (p := ngP p) b2 (e1.trans e2) e1.size H
end


section
open Go Go.Vc Ieee
variable {w : World} {K : Value → World → Prop}
theorem andJL {a : Bool} {C : Value → Value → World → Prop} {A : (Value → World → Prop) → Prop} (h1 : a = true → A (fun x => C x x)) (h2 : a = false → C undef (.bool false) w) :
  ∃ J : Value → World → Prop, (∀ (x : Value) (junk : Env) (w' : World), J x w' → pick (.bool a) x (.bool false) fun r => C x r w') ∧ grd (.bool a) true (A J) (J undef w) := by
 cases a
 ·exact ⟨fun y w' => y = undef ∧ w' = w, fun x _ w' h => by obtain ⟨rfl, rfl⟩ := h; exact h2 rfl, rfl, rfl⟩
 ·exact ⟨fun x => C x x, fun x _ w' h => h, h1 rfl⟩
def QK (a b : Nat) (o : PV) : Prop := finB a = true → finB b = true → (finB o.1 && finB o.2) = (qkF a b).isSome ∧ ∀ p, qkF a b = some p → o = p
theorem YV {o : PV} (h : (finB o.1 && finB o.2) = false) : isPB o = false := by unfold isPB; rw [h, Bool.false_and]
theorem Ai5 {s t v o : PV} {f g : Nat} (fs1 : finB s.1 = true) (ft1 : finB t.1 = true) (hf : FR .add .f32 s.2 t.1 f) (hv : QK s.1 f v) (hg : FR .add .f32 t.2 v.2 g) (ho : QK v.1 g o) :
  (finB f && finB v.1 && finB v.2 && finB g && isPB o) = (ad2 s t).isSome ∧ ∀ r, ad2 s t = some r → o = r := by
 cases ff : finB f
 ·have hN : ad2 s t = none := by
   unfold ad2
   by_cases hc : (finB s.2 && finB (opF .add s.2 t.1)) = true
   ·rw [Bool.and_eq_true] at hc
    rcases Cc hf with ⟨_, h⟩ | ⟨h, _⟩
    ·rw [h, hc.2] at ff; cases ff
    ·rw [hc.1, ft1] at h; cases h
   ·rw [if_neg hc]
  rw [hN]; exact ⟨by simp, fun r h => by cases h⟩
 obtain ⟨hfe, rfl⟩ : (finB s.2 && finB t.1) = true ∧ f = opF .add s.2 t.1 := by
  rcases Cc hf with h | ⟨_, h⟩
  ·exact h
  ·rw [ff] at h; cases h
 rw [Bool.and_eq_true] at hfe
 obtain ⟨r1, r2⟩ := hv fs1 ff
 have hA0 : ad2 s t = match qkF s.1 (opF .add s.2 t.1) with
  | none => none
  | some v => if finB t.2 && finB (opF .add t.2 v.2) then okP (qkF v.1 (opF .add t.2 v.2)) else none := by
  unfold ad2
  rw [hfe.1, ff, Bool.and_self, if_pos rfl]
  all_goals (cases qkF s.1 (opF .add s.2 t.1) <;> rfl)
 cases hq : qkF s.1 (opF .add s.2 t.1) with
 | none =>
  rw [hq] at hA0 r1
  rw [hA0, Bool.true_and, r1]
  exact ⟨by simp, fun r h => by cases h⟩
 | some v' =>
  have := r2 v' hq
  subst this
  rw [hq] at hA0
  have fv := AcZ hq
  simp only at hA0
  cases fg : finB g
  ·have hN : ad2 s t = none := by
    rw [hA0]
    by_cases hc : (finB t.2 && finB (opF .add t.2 v.2)) = true
    ·rw [Bool.and_eq_true] at hc
     rcases Cc hg with ⟨_, h⟩ | ⟨h, _⟩
     ·rw [h, hc.2] at fg; cases fg
     ·rw [hc.1, fv.2] at h; cases h
    ·rw [if_neg hc]
   rw [hN]; exact ⟨by simp, fun r h => by cases h⟩
  ·obtain ⟨hge, rfl⟩ : (finB t.2 && finB v.2) = true ∧ g = opF .add t.2 v.2 := by
    rcases Cc hg with h | ⟨_, h⟩
    ·exact h
    ·rw [fg] at h; cases h
   rw [Bool.and_eq_true] at hge
   rw [hge.1, fg, Bool.and_self, if_pos rfl] at hA0
   obtain ⟨k1, k2⟩ := ho fv.1 fg
   rw [fv.1, fv.2, hA0]
   cases hk : qkF v.1 (opF .add t.2 v.2) with
   | none =>
    rw [hk] at k1
    rw [YV k1]
    exact ⟨rfl, fun r h => by cases h⟩
   | some o' =>
    have := k2 o' hk
    subst this
    unfold okP
    simp only
    cases isPB o
    ·exact ⟨rfl, fun r h => by cases h⟩
    ·exact ⟨rfl, fun r h => by simpa using h⟩
theorem AiB {p q s o : PV} {c d : Nat} (hs : spF p.1 q.1 = some s) (hc : FR .add .f32 (opF .mul p.1 q.2) (opF .mul p.2 q.1) c) (hd : FR .add .f32 s.2 c d) (ho : QK s.1 d o) :
  (finB (opF .mul p.1 q.2) && finB (opF .mul p.2 q.1) && finB c && finB d && isPB o) = (mlF p q).isSome ∧ ∀ r, mlF p q = some r → o = r := by
 have fs1 := (Zl hs).1
 have hm : mlF p q = if finB (opF .mul p.1 q.2) && finB (opF .mul p.2 q.1) && finB (opF .add (opF .mul p.1 q.2) (opF .mul p.2 q.1)) && finB s.2 && finB (opF .add s.2 (opF .add (opF .mul p.1 q.2) (opF .mul p.2 q.1))) then
   okP (qkF s.1 (opF .add s.2 (opF .add (opF .mul p.1 q.2) (opF .mul p.2 q.1)))) else none := by unfold mlF; rw [hs]
 rw [hm]
 generalize opF .mul p.1 q.2 = A at *
 generalize opF .mul p.2 q.1 = B at *
 cases fA : finB A
 ·exact ⟨by simp, fun r h => by simp at h⟩
 cases fB : finB B
 ·exact ⟨by simp, fun r h => by simp at h⟩
 have hce : c = opF .add A B := by rcases Cc hc with ⟨_, h⟩ | ⟨h, _⟩; exact h; rw [fA, fB] at h; cases h
 subst hce
 cases fc : finB (opF .add A B)
 ·exact ⟨by simp, fun r h => by simp at h⟩
 cases fs : finB s.2
 ·have : finB d = false := by rcases Cc hd with ⟨h, _⟩ | ⟨_, h⟩; rw [fs] at h; cases h; exact h
  rw [this]
  exact ⟨by simp, fun r h => by simp at h⟩
 have hde : d = opF .add s.2 (opF .add A B) := by rcases Cc hd with ⟨_, h⟩ | ⟨h, _⟩; exact h; rw [fs, fc] at h; cases h
 subst hde
 cases fd : finB (opF .add s.2 (opF .add A B))
 ·exact ⟨by simp, fun r h => by simp at h⟩
 simp only [Bool.and_self, Bool.true_and, if_true]
 obtain ⟨k1, k2⟩ := ho fs1 fd
 cases hk : qkF s.1 (opF .add s.2 (opF .add A B)) with
 | none =>
  rw [hk] at k1
  rw [YV k1]
  exact ⟨rfl, fun r h => by cases h⟩
 | some o' =>
  have := k2 o' hk
  subst this
  unfold okP
  simp only
  cases isPB o
  ·exact ⟨rfl, fun r h => by cases h⟩
  ·exact ⟨rfl, fun r h => by simpa using h⟩
set_option maxRecDepth 20000 in
theorem KX {p q : PV} (hp : PF p) (hq : PF q) (H : ∀ o w', Ext w w' → pvB o → (∀ r, adF p q = some r → o = r) → K (.tuple #[pvv o, .bool (adF p q).isSome]) w') : call P CU [pvv p, pvv q] w K := by
 refine Aav ?_
 unfold Ni
 refine C6 fun x2 w1 b2 e1 => ?_
 refine C6 fun x3 w2 b3 e2 => ?_
 refine AN fun x4 w3 ⟨a0, b0, b4⟩ e3 => ?_
 have b2 := (b2.ext e2).ext e3
 have b3 := b3.ext e3
 have E3 := e1.trans (e2.trans e3)
 have s3 : w.heap.size ≤ w2.heap.size := (e1.trans e2).size
 refine pv_H b2 ?_
 refine pv_H b3 ?_
 refine AaP hp.1.1 hq.1.1 hp.2.1 hq.2.1 fun s w4 e4 hs hsp => ?_
 rw [A8, Ax]
 refine AN fun x6 w5 ⟨a1, b1, b6⟩ e5 => ?_
 refine Ba b6 fun w6 b6 g6 => ?_
 have e6 : Ext w4 w6 := Ab e5 (fun g hg => Bv b6 g hg) g6
 have E6 := e4.trans e6
 refine pv_L (b2.ext E6) ?_
 refine pv_L (b3.ext E6) ?_
 refine AaP hp.1.2 hq.1.2 hp.2.2 hq.2.2 fun t w7 e7 ht htp => ?_
 rw [A8, Ax]
 refine AN fun x8 w8 ⟨a2, b2', b8⟩ e8 => ?_
 refine Ba b8 fun w9 b8 g9 => ?_
 have e9 : Ext w7 w9 := Ab e8 (fun g hg => Bv b8 g hg) g9
 have b6 := (b6.ext e7).ext e9
 have E9 := E6.trans (e7.trans e9)
 have b4 := b4.ext E9
 have EE := E3.trans E9
 have fail : ∀ {w' : World}, Ext w9 w' → adF p q = none → bld P Ag [] w' fun x => sto P Ag x4 x w' fun w' => ldc P Ag x4 w' fun r => K (.tuple #[r, .bool false]) w' := fun e hn => by
  rw [BZ]
  refine AV (p := (0, 0)) (b4.ext e) (EE.trans e) s3 fun w' e' => ?_
  rw [hn] at H
  exact H _ w' e' ⟨by decide, by decide⟩ (fun r hr => by cases hr)
 rw [A5]
 refine orJ (fun h1 => ?_) (fun h1 => ?_)
 ·refine A9 rfl (fail (Ext.refl _) ?_)
  have : smF p.1 q.1 = none := by cases hh : smF p.1 q.1; rfl; rw [hh] at h1; cases h1
  unfold adF; rw [this]
 rw [A5]
 refine Az (fun h2 => ?_) (fun h2 => ?_)
 ·refine fail (Ext.refl _) ?_
  have : smF p.2 q.2 = none := by cases hh : smF p.2 q.2; rfl; rw [hh] at h2; cases h2
  unfold adF; rw [this]; cases smF p.1 q.1 <;> rfl
 obtain ⟨s', hs'⟩ : ∃ s', smF p.1 q.1 = some s' := by cases hh : smF p.1 q.1; rw [hh] at h1; cases h1; exact ⟨_, rfl⟩
 obtain ⟨t', ht'⟩ : ∃ t', smF p.2 q.2 = some t' := by cases hh : smF p.2 q.2; rw [hh] at h2; cases h2; exact ⟨_, rfl⟩
 have hss := hsp s' hs'
 have htt := htp t' ht'
 subst hss; subst htt
 have had : adF p q = ad2 s t := by unfold adF; rw [hs', ht']
 rw [had] at H
 refine pv_L b6 ?_
 refine pv_H b8 ?_
 refine AA (by simp) fun f hf => ?_
 refine pv_H b6 ?_
 refine NK hs.1 (FR32 hf) fun v w10 e10 hv hq1 => ?_
 refine AN fun x11 w11 ⟨a3, b3', b11⟩ e11 => ?_
 refine Ba b11 fun w12 b11 g12 => ?_
 have e12 : Ext w10 w12 := Ab e11 (fun g hg => Bv b11 g hg) g12
 have E12 := e10.trans e12
 refine pv_L (b8.ext E12) ?_
 refine pv_L b11 ?_
 refine AA (by simp) fun g hg => ?_
 refine pv_H b11 ?_
 refine NK hv.1 (FR32 hg) fun o w13 e13 ho hq2 => ?_
 refine AN fun x14 w14 ⟨a4, b4', b14⟩ e14 => ?_
 refine Ba b14 fun w15 b14 g15 => ?_
 have e15 : Ext w13 w15 := Ab e14 (fun g hg => Bv b14 g hg) g15
 have E15 := E12.trans (e13.trans e15)
 have b11 := b11.ext (e13.trans e15)
 obtain ⟨k1, k2⟩ := Ai5 (Pw hs').1 (Pw ht').1 hf hq1 hg hq2
 have fin : ∀ {w' : World} {A : World → Prop} {b : Bool}, Ext w15 w' → (∀ w'', A w'') → b = (ad2 s t).isSome → sto P Ag x4 (pvv o) w' fun w'' => A w'' ∧ ldc P Ag x4 w'' fun r => K (.tuple #[r, .bool b]) w'' := fun e hA hb => by
  refine Ba (b4.ext (E15.trans e)) fun w'' b'' g'' => ⟨hA _, Qm b'' ?_⟩
  rw [hb]
  exact H o _ (Ab (EE.trans (E15.trans e)) (fun g hg => Nat.le_trans s3 (Bv b'' g hg)) g'') ho k2
 refine AH b14 ?_
 refine BH ?_
 refine ⟨Ext.refl _, ?_⟩
 refine andJ (fun h1 => ?_) (fun h1 => ?_)
 ·refine pv_H b11 ?_
  refine BH ?_
  refine ⟨Ext.refl _, ?_⟩
  refine andJ (fun h2 => ?_) (fun h2 => ?_)
  ·refine pv_L b11 ?_
   refine BH ?_
   refine ⟨Ext.refl _, ?_⟩
   refine andJ (fun h3 => ?_) (fun h3 => ?_)
   ·refine BH ?_
    refine ⟨Ext.refl _, ?_⟩
    refine andJL (fun h4 => ?_) (fun h4 => ?_)
    ·refine AH b14 ?_
     refine YW ho fun w16 e16 => ?_
     refine ⟨e16, ?_⟩
     exact fin e16 (fun _ => by rw [h4]; rfl) (by rw [← k1, h1, h2, h3, h4]; simp)
    ·exact fin (Ext.refl _) (fun _ => by rw [h4]; rfl) (by rw [← k1, h4]; simp)
   ·refine andJL (fun h => by cases h) (fun _ => ?_)
    exact fin (Ext.refl _) (fun _ => rfl) (by rw [← k1, h3]; simp)
  ·refine andJ (fun h => by cases h) (fun _ => ?_)
   refine andJL (fun h => by cases h) (fun _ => ?_)
   exact fin (Ext.refl _) (fun _ => rfl) (by rw [← k1, h2]; simp)
 ·refine andJ (fun h => by cases h) (fun _ => ?_)
  refine andJ (fun h => by cases h) (fun _ => ?_)
  refine andJL (fun h => by cases h) (fun _ => ?_)
  exact fin (Ext.refl _) (fun _ => rfl) (by rw [← k1, h1]; simp)
set_option maxRecDepth 20000 in
theorem RG {p q : PV} (hp : PF p) (hq : PF q) (H : ∀ o w', Ext w w' → pvB o → (∀ r, mlF p q = some r → o = r) → K (.tuple #[pvv o, .bool (mlF p q).isSome]) w') : call P EP [pvv p, pvv q] w K := by
 refine Xi ?_
 unfold Kd
 refine C6 fun x2 w1 b2 e1 => ?_
 refine C6 fun x3 w2 b3 e2 => ?_
 refine AN fun x4 w3 ⟨a0, b0, b4⟩ e3 => ?_
 have b2 := (b2.ext e2).ext e3
 have b3 := b3.ext e3
 have E3 := e1.trans (e2.trans e3)
 have s3 : w.heap.size ≤ w2.heap.size := (e1.trans e2).size
 refine pv_H b2 ?_
 refine pv_H b3 ?_
 refine Ab1 hp.1.1 hq.1.1 hp.2.1 hq.2.1 fun s ex w4 e4 hs hsp => ?_
 rw [A8, Ax, P9]
 refine AN fun x6 w5 ⟨a1, b1, b6⟩ e5 => ?_
 refine Ba b6 fun w6 b6 g6 => ?_
 have e6 : Ext w4 w6 := Ab e5 (fun g hg => Bv b6 g hg) g6
 have E6 := e4.trans e6
 have b2 := b2.ext E6
 have b3 := b3.ext E6
 have b4 := b4.ext E6
 have EE := E3.trans E6
 rw [A5]
 refine Az (fun h1 => ?_) (fun h1 => ?_)
 ·have hn : mlF p q = none := by
   have : spF p.1 q.1 = none := by cases hh : spF p.1 q.1; rfl; rw [hh] at h1; cases h1
   unfold mlF; rw [this]
  rw [BZ]
  refine AV (p := (0, 0)) b4 EE s3 fun w' e' => ?_
  rw [hn] at H
  exact H _ w' e' ⟨by decide, by decide⟩ (fun r hr => by cases hr)
 obtain ⟨s', hs'⟩ : ∃ s', spF p.1 q.1 = some s' := by cases hh : spF p.1 q.1; rw [hh] at h1; cases h1; exact ⟨_, rfl⟩
 have hss := hsp s' hs'
 subst hss
 refine pv_H b2 ?_
 refine pv_L b3 ?_
 refine pv_L b2 ?_
 refine pv_H b3 ?_
 refine AA (by simp) fun a ha => ?_
 obtain rfl : a = opF .mul p.1 q.2 := Ep ha (NS hp.2.1 hq.2.2)
 refine AA (by simp) fun b hb => ?_
 obtain rfl : b = opF .mul p.2 q.1 := Ep hb (NS hp.2.2 hq.2.1)
 refine AA (by simp) fun c hc => ?_
 refine pv_L b6 ?_
 refine AA (by simp) fun d hd => ?_
 refine pv_H b6 ?_
 refine NK hs.1 (FR32 hd) fun o w7 e7 ho hq2 => ?_
 refine AN fun x13 w8 ⟨a4, b4', b13⟩ e8 => ?_
 refine Ba b13 fun w9 b13 g9 => ?_
 have e9 : Ext w7 w9 := Ab e8 (fun g hg => Bv b13 g hg) g9
 have E9 := e7.trans e9
 obtain ⟨k1, k2⟩ := AiB hs' hc hd hq2
 have fin : ∀ {w' : World} {A : World → Prop} {b : Bool}, Ext w9 w' → (∀ w'', A w'') → b = (mlF p q).isSome → sto P Ag x4 (pvv o) w' fun w'' => A w'' ∧ ldc P Ag x4 w'' fun r => K (.tuple #[r, .bool b]) w'' := fun e hA hb => by
  refine Ba (b4.ext (E9.trans e)) fun w'' b'' g'' => ⟨hA _, Qm b'' ?_⟩
  rw [hb]
  exact H o _ (Ab (EE.trans (E9.trans e)) (fun g hg => Nat.le_trans s3 (Bv b'' g hg)) g'') ho k2
 refine AH b13 ?_
 refine BH ?_
 refine ⟨Ext.refl _, ?_⟩
 refine andJ (fun h1 => ?_) (fun h1 => ?_)
 ·refine BH ?_
  refine ⟨Ext.refl _, ?_⟩
  refine andJ (fun h2 => ?_) (fun h2 => ?_)
  ·refine BH ?_
   refine ⟨Ext.refl _, ?_⟩
   refine andJ (fun h3 => ?_) (fun h3 => ?_)
   ·refine BH ?_
    refine ⟨Ext.refl _, ?_⟩
    refine andJL (fun h4 => ?_) (fun h4 => ?_)
    ·refine AH b13 ?_
     refine YW ho fun w16 e16 => ?_
     refine ⟨e16, ?_⟩
     exact fin e16 (fun _ => by rw [h4]; rfl) (by rw [← k1, h1, h2, h3, h4]; simp)
    ·exact fin (Ext.refl _) (fun _ => by rw [h4]; rfl) (by rw [← k1, h4]; simp)
   ·refine andJL (fun h => by cases h) (fun _ => ?_)
    exact fin (Ext.refl _) (fun _ => rfl) (by rw [← k1, h3]; simp)
  ·refine andJ (fun h => by cases h) (fun _ => ?_)
   refine andJL (fun h => by cases h) (fun _ => ?_)
   exact fin (Ext.refl _) (fun _ => rfl) (by rw [← k1, h2]; simp)
 ·refine andJ (fun h => by cases h) (fun _ => ?_)
  refine andJ (fun h => by cases h) (fun _ => ?_)
  refine andJL (fun h => by cases h) (fun _ => ?_)
  exact fin (Ext.refl _) (fun _ => rfl) (by rw [← k1, h1]; simp)
set_option maxRecDepth 20000 in
set_option maxHeartbeats 2000000 in
theorem AeQ {p q : PV} (hp : PF p) (hq : PF q) (hz : zB q.1 = false) (H : ∀ o w', Ext w w' → pvB o → (∀ r, dvF p q = some r → o = r) → K (.tuple #[pvv o, .bool (dvF p q).isSome]) w') : call P Lk [pvv p, pvv q] w K := by
 have hz' : FloatKind.f32.format.order q.1 0 ≠ some .eq := fun h => by
  unfold zB at hz
  rw [show single.order q.1 0 = some .eq from h] at hz
  cases hz
 refine Yf ?_
 unfold KT
 refine C6 fun x2 w1 b2 e1 => ?_
 refine C6 fun x3 w2 b3 e2 => ?_
 refine AN fun x4 w3 ⟨a0, b0, b4⟩ e3 => ?_
 have b2 := (b2.ext e2).ext e3
 have b3 := b3.ext e3
 have E3 := e1.trans (e2.trans e3)
 have s3 : w.heap.size ≤ w2.heap.size := (e1.trans e2).size
 have fail : ∀ {w' : World}, Ext w3 w' → dvF p q = none → bld P Ag [] w' fun x => sto P Ag x4 x w' fun w' => ldc P Ag x4 w' fun r => K (.tuple #[r, .bool false]) w' := fun e hn => by
  rw [BZ]
  refine AV (p := (0, 0)) (b4.ext e) (E3.trans e) s3 fun w' e' => ?_
  rw [hn] at H
  exact H _ w' e' ⟨by decide, by decide⟩ (fun r hr => by cases hr)
 refine pv_H b2 ?_
 refine pv_H b3 ?_
 refine AA (by simp) fun a ha => ?_
 obtain rfl : a = opF .quo p.1 q.1 := Ep ha (U7 hp.2.1 hq.2.1 hz')
 have hAlt := FR32 ha
 generalize hA : opF .quo p.1 q.1 = A at *
 refine BH ?_
 rw [A5]
 refine Az (fun h1 => ?_) (fun h1 => ?_)
 ·refine fail (Ext.refl _) ?_
  unfold dvF; rw [hA, if_neg (by simpa using h1)]
 have fA : finB A = true := by simpa using h1
 refine AH b3 ?_
 rw [Re]
 refine RG hq (PF_H fA hAlt) fun r w4 e4 hr hm => ?_
 rw [A8, Ax]
 refine AN fun x7 w5 ⟨a1, b1, b7⟩ e5 => ?_
 refine Ba b7 fun w6 b7 g6 => ?_
 have e6 : Ext w4 w6 := Ab e5 (fun g hg => Bv b7 g hg) g6
 have E6 := e4.trans e6
 rw [A5]
 refine Az (fun h2 => ?_) (fun h2 => ?_)
 ·refine fail E6 ?_
  have : mlF q (A, 0) = none := by cases hh : mlF q (A, 0); rfl; rw [hh] at h2; cases h2
  unfold dvF; rw [hA, if_pos fA, this]
 obtain ⟨r', hr'⟩ : ∃ r', mlF q (A, 0) = some r' := by cases hh : mlF q (A, 0); rw [hh] at h2; cases h2; exact ⟨_, rfl⟩
 have hrr := hm r' hr'
 subst hrr
 have hPr := Ws hr'
 have hdv : dvF p q = dv2 A q.1 (adF p (ngP r)) := by
  unfold dvF; rw [hA, if_pos fA, hr']
 refine ⟨fun x9 x10 w' => ∃ (B : Nat) (o : PV), w6.heap.size ≤ B ∧ Bx w' B Ag x9 (pv2 o.1 o.2) ∧ Ext w6 w' ∧ pvB o ∧ x10 = .bool (adF p (ngP r)).isSome ∧ ∀ s, adF p (ngP r) = some s → o = s, ?_, ?_⟩
 ·rintro x9 x10 junk w7 ⟨B, o, hB, b9, e7, ho, rfl, hos⟩
  rw [A5]
  have E7 := E6.trans e7
  refine Az (fun h3 => ?_) (fun h3 => ?_)
  ·refine fail E7 ?_
   have : adF p (ngP r) = none := by cases hh : adF p (ngP r); rfl; rw [hh] at h3; cases h3
   rw [hdv, this]; rfl
  obtain ⟨s, hs⟩ : ∃ s, adF p (ngP r) = some s := by cases hh : adF p (ngP r); rw [hh] at h3; cases h3; exact ⟨_, rfl⟩
  have := hos s hs
  subst this
  have hPo := Xl hs
  rw [hs] at hdv
  unfold dv2 at hdv
  simp only at hdv
  refine pv_H b9 ?_
  refine pv_H (b3.ext E7) ?_
  refine AA (by simp) fun b hb => ?_
  obtain rfl : b = opF .quo o.1 q.1 := Ep hb (U7 hPo.2.1 hq.2.1 hz')
  have hBlt := FR32 hb
  generalize hBq : opF .quo o.1 q.1 = Bq at *
  refine NK hAlt hBlt fun out w8 e8 hout hq2 => ?_
  refine AN fun x12 w9 ⟨a4, b4', b12⟩ e9 => ?_
  refine Ba b12 fun w10 b12 g10 => ?_
  have e10 : Ext w8 w10 := Ab e9 (fun g hg => Bv b12 g hg) g10
  have E10 := E7.trans (e8.trans e10)
  obtain ⟨k1, k2⟩ : (finB Bq && isPB out) = (dvF p q).isSome ∧ ∀ r, dvF p q = some r → out = r := by
   rw [hdv]
   cases fB : finB Bq
   ·exact ⟨by simp, fun r h => by simp at h⟩
   simp only [Bool.true_and, if_true]
   obtain ⟨k1, k2⟩ := hq2 fA fB
   cases hk : qkF A Bq with
   | none =>
    rw [hk] at k1
    rw [YV k1]
    exact ⟨rfl, fun r h => by cases h⟩
   | some o' =>
    have := k2 o' hk
    subst this
    unfold okP
    simp only
    cases isPB out
    ·exact ⟨rfl, fun r h => by cases h⟩
    ·exact ⟨rfl, fun r h => by simpa using h⟩
  have fin : ∀ {w' : World} {A : World → Prop} {b : Bool}, Ext w10 w' → (∀ w'', A w'') → b = (dvF p q).isSome → sto P Ag x4 (pvv out) w' fun w'' => A w'' ∧ ldc P Ag x4 w'' fun r => K (.tuple #[r, .bool b]) w'' := fun e hA hb => by
   refine Ba (b4.ext (E10.trans e)) fun w'' b'' g'' => ⟨hA _, Qm b'' ?_⟩
   rw [hb]
   exact H out _ (Ab (E3.trans (E10.trans e)) (fun g hg => Nat.le_trans s3 (Bv b'' g hg)) g'') hout k2
  refine AH b12 ?_
  refine BH ?_
  refine ⟨Ext.refl _, ?_⟩
  refine andJL (fun h4 => ?_) (fun h4 => ?_)
  ·refine AH b12 ?_
   refine YW hout fun w16 e16 => ?_
   refine ⟨e16, ?_⟩
   exact fin e16 (fun _ => by rw [h4]; rfl) (by rw [← k1, h4]; simp)
  ·exact fin (Ext.refl _) (fun _ => by rw [h4]; rfl) (by rw [← k1, h4]; simp)
 ·refine AH (b2.ext E6) ?_
  refine pv_H b7 ?_
  refine pv_L b7 ?_
  have hPn := LP hPr
  refine ⟨?_, ?_⟩
  ·refine Dp hPr.2.1 hPr.1.1 ?_
   refine ⟨Ext.refl _, ?_, ?_⟩
   ·refine Dp hPr.2.2 hPr.1.2 ?_
    refine ⟨Ext.refl _, ?_⟩
    rw [Hh]
    refine ⟨?_, ?_⟩
    ·refine KX hp hPn fun o w8 e8 ho hos => ?_
     rw [A8, Ax]
     refine AN fun x9 w9 ⟨a1, b1, b9⟩ e9 => ?_
     refine ⟨e9, ?_⟩
     refine Ba b9 fun w10 b9 g10 => ?_
     rw [Ax]
     have e10 : Ext w8 w10 := Ab e9 (fun g hg => Bv b9 g hg) g10
     exact ⟨rfl, _, o, e8.size, b9, e8.trans e10, ho, rfl, hos⟩
    ·refine AN fun x9 w8 ⟨a1, b1, b9⟩ e8 => ?_
     refine ⟨e8, ?_⟩
     refine KX hp hPn fun o w9 e9 ho hos => ?_
     rw [A8, Ax]
     refine Ba (b9.ext e9) fun w10 b9 g10 => ?_
     rw [Ax]
     have e10 : Ext w6 w10 := Ab (e8.trans e9) (fun g hg => Bv b9 g hg) g10
     exact ⟨rfl, _, o, Nat.le_refl _, b9, e10, ho, rfl, hos⟩
   ·refine AN fun x9 w8 ⟨a1, b1, b9⟩ e8 => ?_
    refine ⟨e8, ?_⟩
    refine Dp hPr.2.2 hPr.1.2 ?_
    refine ⟨Ext.refl _, ?_⟩
    rw [Hh]
    refine KX hp hPn fun o w9 e9 ho hos => ?_
    rw [A8, Ax]
    refine Ba (b9.ext e9) fun w10 b9 g10 => ?_
    rw [Ax]
    have e10 : Ext w6 w10 := Ab (e8.trans e9) (fun g hg => Bv b9 g hg) g10
    exact ⟨rfl, _, o, Nat.le_refl _, b9, e10, ho, rfl, hos⟩
  ·refine AN fun x9 w8 ⟨a1, b1, b9⟩ e8 => ?_
   refine ⟨e8, ?_⟩
   refine Dp hPr.2.1 hPr.1.1 ?_
   refine ⟨Ext.refl _, ?_⟩
   refine Dp hPr.2.2 hPr.1.2 ?_
   refine ⟨Ext.refl _, ?_⟩
   rw [Hh]
   refine KX hp hPn fun o w9 e9 ho hos => ?_
   rw [A8, Ax]
   refine Ba (b9.ext e9) fun w10 b9 g10 => ?_
   rw [Ax]
   have e10 : Ext w6 w10 := Ab (e8.trans e9) (fun g hg => Bv b9 g hg) g10
   exact ⟨rfl, _, o, Nat.le_refl _, b9, e10, ho, rfl, hos⟩
end
end Go.Proofs.YtjompmflommadaaGreatDoor
