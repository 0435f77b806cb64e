import Derived.Test.YtjompmflommadaaGreatDoorQFnProgramTextsVVcE
import Derived.Test.YtjompmflommadaaGreatDoorQFnProgramTextsVVcG
set_option linter.unusedSimpArgs false
set_option linter.unusedVariables false
namespace Go.Vc
open Go
variable {P : Program} {w : World}
theorem AA {op : BinOp} {t : TypeId} {cx cy : Bool} {k : FloatKind} {a b : Nat} {K : Value → Prop} (hop : op = .add ∨ op = .sub ∨ op = .mul ∨ op = .quo)
  (h : ∀ r, FR op k a b r → K (.float k r)) : rbin P op t cx cy (.float k a) (.float k b) w K := by
 unfold rbin
 rw [CG]
 refine Cl _ (GJ op t cx cy k k a b) ?_
 have key : rd P (Op.floatArith op k a b) w K := by
  have hc : ∀ r : Option Nat, floatBits op k a b = r → rd P (match r with
    | some r => pure (.float k r)
    | none => do pure (.float k (← choose (.nanBits k a b)))) w K := by
   intro r hr
   cases r with
   | some r => exact h r (.inl hr)
   | none =>
    simp only [choose, CG, rd, Question.forced, Bool.false_eq_true, if_false, Yz]
    intro t
    have := Adq k a b t
    exact h _ (.inr ⟨hr, this.1, this.2⟩)
  rcases hop with rfl | rfl | rfl | rfl <;> exact hc _ rfl
 rcases hop with rfl | rfl | rfl | rfl <;> simpa [binOp] using key
theorem Dw {op : BinOp} {k : FloatKind} {a b r r' : Nat} (h : FR op k a b r) (h' : floatBits op k a b = some r') : r = r' := by
 rcases h with h | h
 ·rw [h'] at h; exact (Option.some.inj h).symm
 ·rw [h.1] at h'; cases h'
theorem XA {op : BinOp} {k : FloatKind} {a b r : Nat} (h : FR op k a b r) : r < 2 ^ k.format.width := by
 rcases h with h | h
 ·unfold floatBits at h
  split at h
  ·exact k.format.add_lt h
  ·exact k.format.sub_lt h
  ·exact k.format.mul_lt h
  ·exact k.format.div_lt h
  ·cases h
 ·exact h.2.2
def wid (b : Nat) : Nat := Ieee.double.write (Ieee.single.read b)
def Wid (b r : Nat) : Prop := (¬ NaN Ieee.single b ∧ r = wid b) ∨ (NaN Ieee.single b ∧ NaN Ieee.double r)
theorem AdS {s d : TypeId} {b : Nat} {K : Value → Prop} (hs : P.underlying s = some (.float .f32)) (hd : P.underlying d = some (.float .f64)) (h : ∀ r, Wid b r → K (.float .f64 r)) : rcnv P s d (.float .f32 b) w K := by
 unfold rcnv convert
 rw [CG]
 refine Cl _ (A4 hs) ?_
 rw [CG]
 refine Cl _ (A4 hd) ?_
 simp only [Conv.floatToFloat]
 rw [if_neg (by decide)]
 rcases DF Ieee.single b with h1 | h1 | h1
 ·obtain ⟨m, e, hr⟩ := D9 h1
  have hn : ¬ NaN Ieee.single b := by unfold Fin at h1; unfold NaN; omega
  have hdec : FloatKind.f32.decode b = .number (b / Ieee.single.signWeight % 2 == 1) m e := hr
  rw [hdec]
  simp only []
  have hni : (FloatKind.f64.decode (FloatKind.f64.encode (.number (b / Ieee.single.signWeight % 2 == 1) m e))).isInfinity = false := by
   have h3 := AeM hr
   have h4 := CH Ieee.double (b / Ieee.single.signWeight % 2 == 1) m e
   show (Ieee.double.read (Ieee.double.write _)).isInfinity = false
   rcases DF Ieee.double (Ieee.double.write (.number (b / Ieee.single.signWeight % 2 == 1) m e)) with h5 | h5 | h5
   ·obtain ⟨m', e', hr'⟩ := D9 h5; rw [hr']; rfl
   ·exact absurd h5 h3
   ·exact absurd h5 h4
  rw [hni]
  simp only [Bool.false_eq_true, if_false]
  exact h _ (.inl ⟨hn, by unfold wid; rw [hr]; rfl⟩)
 ·have hn : ¬ NaN Ieee.single b := by unfold Inf at h1; unfold NaN; omega
  have hr := KC hs1 h1
  have hdec : FloatKind.f32.decode b = .infinity (b / Ieee.single.signWeight % 2 == 1) := hr
  rw [hdec]
  exact h _ (.inl ⟨hn, by unfold wid; rw [hr]; rfl⟩)
 ·obtain ⟨t, ht⟩ := AlP hs1 h1
  have hdec : FloatKind.f32.decode b = .nan (b / Ieee.single.signWeight % 2 == 1) t := ht
  rw [hdec]
  simp only [choose, CG, rd, Question.forced, Bool.false_eq_true, if_false, Yz]
  intro t
  refine h _ (.inr ⟨h1, ?_⟩)
  have := (Adq .f64 0 0 t).1
  exact this
theorem BX {s d : TypeId} {q : IntKind} {k : FloatKind} {n : Int} {K : Value → Prop} {u : TypeDesc} (hs : P.underlying s = some u) (hd : P.underlying d = some (.float k)) : cnv P s d (.int q n) w K = K (.float k (floatOfInt k n)) := by
 unfold cnv dv convert
 simp only [AR, A4 hs, A4 hd, Option.bind_some]
 cases u <;> simp [Conv.intToFloat, floatOfInt]
theorem AJ {s d : TypeId} {q k : IntKind} {n : Int} {K : Value → Prop} {u : TypeDesc} (hs : P.underlying s = some u) (hd : P.underlying d = some (.int k)) : cnv P s d (.int q n) w K = K (.int k (k.wrap n)) := by
 unfold cnv dv convert
 simp only [AR, A4 hs, A4 hd, Option.bind_some]
 cases u <;> simp [Conv.intToInt]
def Row (s : Nat) (w : World) (v : Value) (n : Nat) (xs : List Value) : Prop :=
 xs.length = n * s ∧ n ≤ maxLen ∧ ∃ a cap, v = .slice a n cap ∧ (n ≠ 0 → ∃ b o, a = some ⟨b, o, none⟩ ∧ ∀ j u, xs[j]? = some u → w.cell? ⟨b, o + j, none⟩ = some u)
section
variable {s n : Nat} {v : Value} {xs : List Value} {t e : TypeId} {z : Value} {b : Nat} {d : TypeDesc} {K : Value → Prop}
theorem Row.ext {w' : World} (h : Row s w v n xs) (he : Ext w w') : Row s w' v n xs := by
 obtain ⟨h1, h2, a, cap, rfl, h3⟩ := h
 refine ⟨h1, h2, a, cap, rfl, fun hn => ?_⟩
 obtain ⟨b, o, rfl, hc⟩ := h3 hn
 exact ⟨b, o, rfl, fun j u hu => he.cell (hc j u hu)⟩
theorem Row.len {ty : TypeId} (h : Row s w v n xs) (hu : P.underlying t = some (.slice e)) : bl0 P .len #[t] ty [v] w K = K (.int .i64 n) := by
 obtain ⟨_, _, a, cap, rfl, _⟩ := h
 exact DI hu
theorem Row.bound (h : Row s w v n xs) : n ≤ maxLen := h.2.1
theorem Row.nil (s : Nat) (w : World) : Row s w (.slice none 0 0) 0 [] := ⟨by simp, Nat.zero_le _, none, 0, rfl, fun h => absurd rfl h⟩
theorem Row.at1 (h : Row 1 w v n xs) {k : IntKind} {i : Nat} {x : Value} (hx : xs[i]? = some x) (hu : P.underlying t = some (.slice e)) (ht : TI P e z 1 b) (hue : P.underlying e = some d) (hd : aggB d = false) (H : K x) :
  ixa P t v (.int k (i : Int)) w (fun a => ld P e a w K) := by
 obtain ⟨h1, h2, a, cap, rfl, h3⟩ := h
 have hi : i < n := by
  have := (List.getElem?_eq_some_iff.1 hx).1
  omega
 obtain ⟨bl, o, rfl, hc⟩ := h3 (by omega)
 rw [Ug hu ht (by omega) (by omega)]
 rw [F4 hue hd (v := x) (by simpa using hc i x hx)]
 exact H
theorem Ahb {base : Nat} (h : w.ownsRow base e s v n xs) (hn : n ≤ maxLen := by first | assumption | omega) : Row s w v n xs := by
 refine ⟨h.1, hn, ?_⟩
 rcases h.2 with ⟨rfl, rfl⟩ | ⟨g, cap, cur, rfl, hb, hg, hnc, hcm, hcs, htake⟩
 ·exact ⟨none, 0, rfl, fun h => absurd rfl h⟩
 ·refine ⟨_, _, rfl, fun _ => ⟨g, 0, rfl, fun j u hu => ?_⟩⟩
  have hj : j < n * s := by
   have := (List.getElem?_eq_some_iff.1 hu).1
   rw [h.1] at this; exact this
  rw [Nat.zero_add, h.cellAt j hj]
  exact hu
theorem Aea {base : Nat} (h : w.ownsRow base e s v n xs) : n ≤ maxLen := by
 rcases h.2 with ⟨rfl, rfl⟩ | ⟨g, cap, cur, rfl, hb, hg, hnc, hcm, hcs, htake⟩
 ·exact Nat.zero_le _
 ·omega
theorem Bc {base : Nat} (h : w.ownsRow base e s v n xs) : Row s w v n xs := Ahb h (Aea h)
theorem Di {base : Nat} {w' : World} (h : w.ownsRow base e s v n xs) (he : Ext w w') : w'.ownsRow base e s v n xs := by
 refine ⟨h.1, ?_⟩
 rcases h.2 with h0 | ⟨g, cap, cur, hv, hb, hg, hr⟩
 ·exact .inl h0
 ·refine .inr ⟨g, cap, cur, hv, hb, ?_, hr⟩
  have hlt : g < w.heap.size := by
   rcases Nat.lt_or_ge g w.heap.size with h | h
   ·exact h
   ·rw [Array.getElem?_eq_none h] at hg; cases hg
  rw [he.block g hlt]; exact hg
theorem Cw {base base' : Nat} (h : w.ownsRow base e s v n xs) (hb : base' ≤ base) : w.ownsRow base' e s v n xs := by
 refine ⟨h.1, ?_⟩
 rcases h.2 with h0 | ⟨g, cap, cur, hv, hbb, hr⟩
 ·exact .inl h0
 ·exact .inr ⟨g, cap, cur, hv, Nat.le_trans hb hbb, hr⟩
theorem Rz {base : Nat} {KW : World → Prop} (h : w.ownsRow base e 1 v n xs) {k : IntKind} {i : Nat} {x : Value} (hi : i < n) (hx : x.oneCell' = true) (hu : P.underlying t = some (.slice e)) (ht : TI P e z 1 b)
  (H : ∀ w', w'.ownsRow base e 1 v n (xs.set i x) → w.grownBy w' v.ownBlock → KW w') : ixa P t v (.int k (i : Int)) w (fun a => sto P e a x w KW) := by
 have h0 := h
 rcases h.2 with ⟨rfl, rfl⟩ | ⟨g, cap, cur, rfl, hb, hg, hnc, hcm, hcs, htake⟩
 ·omega
 ·rw [Ug hu ht (by omega) (by omega)]
  simp only [Int.toNat_natCast, Nat.mul_one, Nat.zero_add]
  have hc := h0.cellAt i (by omega)
  have hlt : i < xs.length := by rw [h.1]; omega
  rw [List.getElem?_eq_getElem hlt] at hc
  have hst := h0.stored i x
  exact NM ht hx hc (h0.frozenAt i) (H _ hst.1 hst.2)
theorem ZI {KW : Value → World → Prop} {k k' : IntKind} {n : Nat} (hu : P.underlying t = some (.slice e)) (ht : TI P e z 1 b) (hz : z.oneCell' = true) (hb : b * n ≤ 281474976710656) (hn : n ≤ maxLen)
  (H : ∀ w' v, w'.ownsRow w.heap.size e 1 v n (List.replicate n z) → Ext w w' → KW v w') : mks P t (.int k (n : Int)) (.int k' (n : Int)) w KW := by
 intro c hc
 subst hc
 obtain ⟨i, h1, h2, h3, h4⟩ := ht
 obtain ⟨w', hr, ho, hg⟩ := run_make_full (P := P) c c.heap.size t e i z 1 hu h1 h2 h3 k k' n (by rw [h4]; exact hb) hn (Nat.le_refl _)
 refine ⟨_, w', hr, H (N w') _ ?_ ?_⟩
 ·have hcells : z.cells = #[z] := by cases z <;> first | rfl | (simp [Value.oneCell'] at hz; done)
  rw [hcells, Nat.mul_one, toList_madeCells_one] at ho
  exact ho
 ·exact ⟨hg.os, hg.tape, hg.output, hg.size, fun k hk => hg.block k hk (fun e => by cases e)⟩
theorem Jk {base : Nat} {ty : TypeId} {KW : Value → World → Prop} {y : Value} {m : Nat} {ys : List Value} (h : w.ownsRow base e s v n xs) (hy : Row s w y m ys) (h1 : ∀ u ∈ ys, u.oneCell' = true)
  (hu : P.underlying t = some (.slice e)) (ht : TI P e z s b) (hzs : z.cells.size = s) (hs : 0 < s) (hn : n + m ≤ maxLen) (hby : (n + m) * b ≤ 140737488355328) (hbase : base ≤ w.heap.size)
  (H : ∀ v' w', w'.ownsRow base e s v' (n + m) (xs ++ ys) → w.grownBy w' v.ownBlock → KW v' w') : bl2 P .append #[t, t] ty [v, y] w KW := by
 intro c hc
 subst hc
 obtain ⟨i, i1, i2, i3, i4⟩ := ht
 obtain ⟨hl, _, a, cap, rfl, hcells⟩ := hy
 have hrun : ∃ v' w', (Builtin.append_ #[t, t] ty #[v, .slice a m cap]).run P c = .ok v' w' ∧ w'.ownsRow base e s v' (n + m) (xs ++ ys) ∧ c.grownBy w' v.ownBlock := by
  by_cases hm : m = 0
  ·subst hm
   obtain rfl : ys = [] := List.eq_nil_of_length_eq_zero (by simpa using hl)
   cases a with
   | none =>
    have hr : (Builtin.append_ #[t, t] ty #[v, .slice none 0 cap]).run P c = .ok v c := by
     have h : c.ownsRow base e s v n xs := h
     rcases h.2 with ⟨rfl, rfl⟩ | ⟨g, cap', cur, rfl, _, _, hnc, _⟩
     ·simp [Builtin.append_, run_underlying hu, sizeOf, typeInfo, i1, Builtin.lenOf, Builtin.firstCells]
     ·simp [Builtin.append_, run_underlying hu, sizeOf, typeInfo, i1, Builtin.lenOf, Builtin.firstCells, hnc, storeCells]
    exact ⟨v, c, hr, by rw [Nat.add_zero, List.append_nil]; exact h, ⟨rfl, rfl, rfl, Nat.le_refl _, fun _ _ _ => rfl⟩⟩
   | some ad =>
    obtain ⟨v', w', q1, q2, q3, _⟩ := run_append_own (P := P) c base t ty e i z s b hu i1 i2 i3 i4 hzs hs v n xs h ad 0 cap [] (by simp) (by simp) (by simp) hn hby hbase
    exact ⟨v', w', q1, q2, q3⟩
  ·obtain ⟨bl, o, rfl, hcl⟩ := hcells hm
   obtain ⟨v', w', q1, q2, q3, _⟩ := run_append_own (P := P) c base t ty e i z s b hu i1 i2 i3 i4 hzs hs v n xs h ⟨bl, o, none⟩ m cap ys hl (fun j u hj => by rw [Addr.add_lit]; exact hcl j u hj) h1 hn hby hbase
   exact ⟨v', w', q1, q2, q3⟩
 obtain ⟨v', w', q1, q2, q3⟩ := hrun
 refine ⟨.value v', w', ?_, H v' (N w') q2 ⟨q3.os, q3.tape, q3.output, q3.size, q3.block⟩⟩
 simp [builtin, q1]
theorem Adb {KW : Value → World → Prop} {x y : Value} (hu : P.underlying t = some (.slice e)) (ht : TI P e z 1 b) (h1 : x.oneCell' = true) (h2 : y.oneCell' = true) (hz : z.oneCell' = true)
  (h : KW (.slice (some ⟨w.heap.size, 0, none⟩) 2 2) (w.alloc (.cells #[x, y] e))) : bsl P t 2 [(0, x), (1, y)] w KW := by
 have hcells : ∀ v : Value, v.oneCell' = true → v.cells = #[v] := by intro v h1; cases v <;> first | rfl | (simp [Value.oneCell'] at h1; done)
 unfold bsl Instr.buildSlice
 refine Cs (A4 hu) ?_
 refine Cs (sm := sizeOf e) (Ch ht) ?_
 simp only [Nat.mul_one]
 rw [if_neg (by omega), if_neg (by omega)]
 refine AL (s := zeroValue e) ?_
 refine EO (Cl _ (DS ht) ?_)
 refine AL (AS ?_)
 have : Instr.fill (fun i => some (i * 1, 1)) ((Array.range 2).map (fun i => z.cells[i % z.cells.size]!)) [(0, x), (1, y)].toArray.toList = some #[x, y] := by
  rw [hcells z hz]
  have hr : Array.range 2 = #[0, 1] := rfl
  simp [Instr.fill, hcells x h1, hcells y h2, hr]
 simp only [Nat.mul_one] at this ⊢
 simp only [this]
 exact AL (AL (FJ (AS (AS h))))
theorem Bg (w : World) (o : Obj) : Ext w (w.alloc o) := (RowKit.Below.refl _ _).alloc (Nat.le_refl _) o
theorem B9 (w : World) (xs : List Value) (e : TypeId) (hm : xs.length ≤ maxLen := by decide) : (w.alloc (.cells xs.toArray e)).ownsRow w.heap.size e 1 (.slice (some ⟨w.heap.size, 0, none⟩) xs.length xs.length) xs.length xs := by
 have := World.ownsRow_lit (w := w) (base := w.heap.size) (e := e) (size := 1) xs.toArray xs.length (Nat.le_refl _) hm (by simp)
 simpa using this
end
end Go.Vc
