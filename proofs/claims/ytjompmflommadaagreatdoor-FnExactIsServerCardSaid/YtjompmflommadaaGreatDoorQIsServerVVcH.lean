import Derived.Test.YtjompmflommadaaGreatDoorQIsServerVVcE
import Derived.Test.YtjompmflommadaaGreatDoorQIsServerVVcG
namespace Go.Vc
open Go
variable {P : Program} {w : World}
theorem rbin_float {op : BinOp} {t : TypeId} {cx cy : Bool} {k : FloatKind} {a b : Nat} {K : Value → Prop} (hop : op = .add ∨ op = .sub ∨ op = .mul ∨ op = .quo)
    (h : ∀ r, FR op k a b r → K (.float k r)) : rbin P op t cx cy (.float k a) (.float k b) w K := by
  unfold rbin
  rw [rd_bind']
  refine rd_of_rv _ (eqg_float op t cx cy k k a b) ?_
  have key : rd P (Op.floatArith op k a b) w K := by
    have hc : ∀ r : Option Nat, floatBits op k a b = r → rd P (match r with
        | some r => pure (.float k r)
        | none => do pure (.float k (← choose (.nanBits k a b)))) w K := by
      intro r hr
      cases r with
      | some r => exact h r (.inl hr)
      | none =>
        simp only [choose, rd_bind', rd, Question.forced, Bool.false_eq_true, if_false, rd_pure]
        intro t
        have := nan_cut k a b t
        exact h _ (.inr ⟨hr, this.1, this.2⟩)
    rcases hop with rfl | rfl | rfl | rfl <;> exact hc _ rfl
  rcases hop with rfl | rfl | rfl | rfl <;> simpa [binOp] using key
theorem FR_some {op : BinOp} {k : FloatKind} {a b r r' : Nat} (h : FR op k a b r) (h' : floatBits op k a b = some r') : r = r' := by
  rcases h with h | h
  · rw [h'] at h; exact (Option.some.inj h).symm
  · rw [h.1] at h'; cases h'
theorem cnv_int_float {s d : TypeId} {q : IntKind} {k : FloatKind} {n : Int} {K : Value → Prop} {u : TypeDesc} (hs : P.underlying s = some u) (hd : P.underlying d = some (.float k)) : cnv P s d (.int q n) w K = K (.float k (floatOfInt k n)) := by
  unfold cnv dv convert
  simp only [rv_bind', rv_underlying hs, rv_underlying hd, Option.bind_some]
  cases u <;> simp [Conv.intToFloat, floatOfInt]
theorem cnv_int_int {s d : TypeId} {q k : IntKind} {n : Int} {K : Value → Prop} {u : TypeDesc} (hs : P.underlying s = some u) (hd : P.underlying d = some (.int k)) : cnv P s d (.int q n) w K = K (.int k (k.wrap n)) := by
  unfold cnv dv convert
  simp only [rv_bind', rv_underlying hs, rv_underlying hd, Option.bind_some]
  cases u <;> simp [Conv.intToInt]
def Row (s : Nat) (w : World) (v : Value) (n : Nat) (xs : List Value) : Prop :=
  xs.length = n * s ∧ n ≤ maxLen ∧ ∃ a cap, v = .slice a n cap ∧ (n ≠ 0 → ∃ b o, a = some ⟨b, o, none⟩ ∧ ∀ j u, xs[j]? = some u → w.cell? ⟨b, o + j, none⟩ = some u)
section
variable {s n : Nat} {v : Value} {xs : List Value} {t e : TypeId} {z : Value} {b : Nat} {d : TypeDesc} {K : Value → Prop}
theorem Row.ext {w' : World} (h : Row s w v n xs) (he : Ext w w') : Row s w' v n xs := by
  obtain ⟨h1, h2, a, cap, rfl, h3⟩ := h
  refine ⟨h1, h2, a, cap, rfl, fun hn => ?_⟩
  obtain ⟨b, o, rfl, hc⟩ := h3 hn
  exact ⟨b, o, rfl, fun j u hu => he.cell (hc j u hu)⟩
theorem Row.cell {w' : World} (h : Row s w v n xs) (he : ∀ a u, w.cell? a = some u → w'.cell? a = some u) : Row s w' v n xs := by
  obtain ⟨h1, h2, a, cap, rfl, h3⟩ := h
  refine ⟨h1, h2, a, cap, rfl, fun hn => ?_⟩
  obtain ⟨b, o, rfl, hc⟩ := h3 hn
  exact ⟨b, o, rfl, fun j u hu => he _ _ (hc j u hu)⟩
theorem Row.len {ty : TypeId} (h : Row s w v n xs) (hu : P.underlying t = some (.slice e)) : bl0 P .len #[t] ty [v] w K = K (.int .i64 n) := by
  obtain ⟨_, _, a, cap, rfl, _⟩ := h
  exact bl0_len hu
theorem Row.bound (h : Row s w v n xs) : n ≤ maxLen := h.2.1
theorem Row.nil (s : Nat) (w : World) : Row s w (.slice none 0 0) 0 [] := ⟨by simp, Nat.zero_le _, none, 0, rfl, fun h => absurd rfl h⟩
theorem Row.at1 (h : Row 1 w v n xs) {k : IntKind} {i : Nat} {x : Value} (hx : xs[i]? = some x) (hu : P.underlying t = some (.slice e)) (ht : TI P e z 1 b) (hue : P.underlying e = some d) (hd : aggB d = false) (H : K x) :
    ixa P t v (.int k (i : Int)) w (fun a => ld P e a w K) := by
  obtain ⟨h1, h2, a, cap, rfl, h3⟩ := h
  have hi : i < n := by
    have := (List.getElem?_eq_some_iff.1 hx).1
    omega
  obtain ⟨bl, o, rfl, hc⟩ := h3 (by omega)
  rw [ixa_slice hu ht (by omega) (by omega)]
  rw [ld_scalar hue hd (v := x) (by simpa using hc i x hx)]
  exact H
theorem owns_row {base : Nat} (h : w.ownsRow base e s v n xs) (hn : n ≤ maxLen := by first | assumption | omega) : Row s w v n xs := by
  refine ⟨h.1, hn, ?_⟩
  rcases h.2 with ⟨rfl, rfl⟩ | ⟨g, cap, cur, rfl, hb, hg, hnc, hcm, hcs, htake⟩
  · exact ⟨none, 0, rfl, fun h => absurd rfl h⟩
  · refine ⟨_, _, rfl, fun _ => ⟨g, 0, rfl, fun j u hu => ?_⟩⟩
    have hj : j < n * s := by
      have := (List.getElem?_eq_some_iff.1 hu).1
      rw [h.1] at this; exact this
    rw [Nat.zero_add, h.cellAt j hj]
    exact hu
theorem owns_bound {base : Nat} (h : w.ownsRow base e s v n xs) : n ≤ maxLen := by
  rcases h.2 with ⟨rfl, rfl⟩ | ⟨g, cap, cur, rfl, hb, hg, hnc, hcm, hcs, htake⟩
  · exact Nat.zero_le _
  · omega
theorem owns_Row {base : Nat} (h : w.ownsRow base e s v n xs) : Row s w v n xs := owns_row h (owns_bound h)
theorem owns_ext {base : Nat} {w' : World} (h : w.ownsRow base e s v n xs) (he : Ext w w') : w'.ownsRow base e s v n xs := by
  refine ⟨h.1, ?_⟩
  rcases h.2 with h0 | ⟨g, cap, cur, hv, hb, hg, hr⟩
  · exact .inl h0
  · refine .inr ⟨g, cap, cur, hv, hb, ?_, hr⟩
    have hlt : g < w.heap.size := by
      rcases Nat.lt_or_ge g w.heap.size with h | h
      · exact h
      · rw [Array.getElem?_eq_none h] at hg; cases hg
    rw [he.block g hlt]; exact hg
theorem owns_base {base base' : Nat} (h : w.ownsRow base e s v n xs) (hb : base' ≤ base) : w.ownsRow base' e s v n xs := by
  refine ⟨h.1, ?_⟩
  rcases h.2 with h0 | ⟨g, cap, cur, hv, hbb, hr⟩
  · exact .inl h0
  · exact .inr ⟨g, cap, cur, hv, Nat.le_trans hb hbb, hr⟩
theorem owns_set {base : Nat} {KW : World → Prop} (h : w.ownsRow base e 1 v n xs) {k : IntKind} {i : Nat} {x : Value} (hi : i < n) (hx : x.oneCell' = true) (hu : P.underlying t = some (.slice e)) (ht : TI P e z 1 b)
    (H : ∀ w', w'.ownsRow base e 1 v n (xs.set i x) → w.grownBy w' v.ownBlock → KW w') : ixa P t v (.int k (i : Int)) w (fun a => sto P e a x w KW) := by
  have h0 := h
  rcases h.2 with ⟨rfl, rfl⟩ | ⟨g, cap, cur, rfl, hb, hg, hnc, hcm, hcs, htake⟩
  · omega
  · rw [ixa_slice hu ht (by omega) (by omega)]
    simp only [Int.toNat_natCast, Nat.mul_one, Nat.zero_add]
    have hc := h0.cellAt i (by omega)
    have hlt : i < xs.length := by rw [h.1]; omega
    rw [List.getElem?_eq_getElem hlt] at hc
    have hst := h0.stored i x
    exact sto_scalar ht hx hc (h0.frozenAt i) (H _ hst.1 hst.2)
theorem mks_intro {KW : Value → World → Prop} {k k' : IntKind} {n : Nat} (hu : P.underlying t = some (.slice e)) (ht : TI P e z 1 b) (hz : z.oneCell' = true) (hb : b * n ≤ 281474976710656) (hn : n ≤ maxLen)
    (H : ∀ w' v, w'.ownsRow w.heap.size e 1 v n (List.replicate n z) → Ext w w' → KW v w') : mks P t (.int k (n : Int)) (.int k' (n : Int)) w KW := by
  intro c hc
  subst hc
  obtain ⟨i, h1, h2, h3, h4⟩ := ht
  obtain ⟨w', hr, ho, hg⟩ := run_make_full (P := P) c c.heap.size t e i z 1 hu h1 h2 h3 k k' n (by rw [h4]; exact hb) hn (Nat.le_refl _)
  refine ⟨_, w', hr, H (N w') _ ?_ ?_⟩
  · have hcells : z.cells = #[z] := by cases z <;> first | rfl | (simp [Value.oneCell'] at hz; done)
    rw [hcells, Nat.mul_one, toList_madeCells_one] at ho
    exact ho
  · exact ⟨hg.os, hg.tape, hg.output, hg.size, fun k hk => hg.block k hk (fun e => by cases e)⟩
theorem append_intro {base : Nat} {ty : TypeId} {KW : Value → World → Prop} {y : Value} {m : Nat} {ys : List Value} (h : w.ownsRow base e s v n xs) (hy : Row s w y m ys) (h1 : ∀ u ∈ ys, u.oneCell' = true)
    (hu : P.underlying t = some (.slice e)) (ht : TI P e z s b) (hzs : z.cells.size = s) (hs : 0 < s) (hn : n + m ≤ maxLen) (hby : (n + m) * b ≤ 140737488355328) (hbase : base ≤ w.heap.size)
    (H : ∀ v' w', w'.ownsRow base e s v' (n + m) (xs ++ ys) → w.grownBy w' v.ownBlock → KW v' w') : bl2 P .append #[t, t] ty [v, y] w KW := by
  intro c hc
  subst hc
  obtain ⟨i, i1, i2, i3, i4⟩ := ht
  obtain ⟨hl, _, a, cap, rfl, hcells⟩ := hy
  have hrun : ∃ v' w', (Builtin.append_ #[t, t] ty #[v, .slice a m cap]).run P c = .ok v' w' ∧ w'.ownsRow base e s v' (n + m) (xs ++ ys) ∧ c.grownBy w' v.ownBlock := by
    by_cases hm : m = 0
    · subst hm
      obtain rfl : ys = [] := List.eq_nil_of_length_eq_zero (by simpa using hl)
      cases a with
      | none =>
        have hr : (Builtin.append_ #[t, t] ty #[v, .slice none 0 cap]).run P c = .ok v c := by
          have h : c.ownsRow base e s v n xs := h
          rcases h.2 with ⟨rfl, rfl⟩ | ⟨g, cap', cur, rfl, _, _, hnc, _⟩
          · simp [Builtin.append_, run_underlying hu, sizeOf, typeInfo, i1, Builtin.lenOf, Builtin.firstCells]
          · simp [Builtin.append_, run_underlying hu, sizeOf, typeInfo, i1, Builtin.lenOf, Builtin.firstCells, hnc, storeCells]
        exact ⟨v, c, hr, by rw [Nat.add_zero, List.append_nil]; exact h, ⟨rfl, rfl, rfl, Nat.le_refl _, fun _ _ _ => rfl⟩⟩
      | some ad =>
        obtain ⟨v', w', q1, q2, q3, _⟩ := run_append_own (P := P) c base t ty e i z s b hu i1 i2 i3 i4 hzs hs v n xs h ad 0 cap [] (by simp) (by simp) (by simp) hn hby hbase
        exact ⟨v', w', q1, q2, q3⟩
    · obtain ⟨bl, o, rfl, hcl⟩ := hcells hm
      obtain ⟨v', w', q1, q2, q3, _⟩ := run_append_own (P := P) c base t ty e i z s b hu i1 i2 i3 i4 hzs hs v n xs h ⟨bl, o, none⟩ m cap ys hl (fun j u hj => by rw [Addr.add_lit]; exact hcl j u hj) h1 hn hby hbase
      exact ⟨v', w', q1, q2, q3⟩
  obtain ⟨v', w', q1, q2, q3⟩ := hrun
  refine ⟨.value v', w', ?_, H v' (N w') q2 ⟨q3.os, q3.tape, q3.output, q3.size, q3.block⟩⟩
  simp [builtin, q1]
theorem bsl_two {KW : Value → World → Prop} {x y : Value} (hu : P.underlying t = some (.slice e)) (ht : TI P e z 1 b) (h1 : x.oneCell' = true) (h2 : y.oneCell' = true) (hz : z.oneCell' = true)
    (h : KW (.slice (some ⟨w.heap.size, 0, none⟩) 2 2) (w.alloc (.cells #[x, y] e))) : bsl P t 2 [(0, x), (1, y)] w KW := by
  have hcells : ∀ v : Value, v.oneCell' = true → v.cells = #[v] := by intro v h1; cases v <;> first | rfl | (simp [Value.oneCell'] at h1; done)
  unfold bsl Instr.buildSlice
  refine SemA_rv (rv_underlying hu) ?_
  refine SemA_rv (sm := sizeOf e) (rv_sizeOf ht) ?_
  simp only [Nat.mul_one]
  rw [if_neg (by omega), if_neg (by omega)]
  refine SemA_bind (s := zeroValue e) ?_
  refine SemA_of_rd (rd_of_rv _ (rv_zeroValue ht) ?_)
  refine SemA_bind (SemA_pure ?_)
  have : Instr.fill (fun i => some (i * 1, 1)) ((Array.range 2).map (fun i => z.cells[i % z.cells.size]!)) [(0, x), (1, y)].toArray.toList = some #[x, y] := by
    rw [hcells z hz]
    have hr : Array.range 2 = #[0, 1] := rfl
    simp [Instr.fill, hcells x h1, hcells y h2, hr]
  simp only [Nat.mul_one] at this ⊢
  simp only [this]
  exact SemA_bind (SemA_bind (SemA_new (SemA_pure (SemA_pure h))))
theorem Ext_alloc (w : World) (o : Obj) : Ext w (w.alloc o) := (RowKit.Below.refl _ _).alloc (Nat.le_refl _) o
theorem owns_lit (w : World) (xs : List Value) (e : TypeId) (hm : xs.length ≤ maxLen := by decide) : (w.alloc (.cells xs.toArray e)).ownsRow w.heap.size e 1 (.slice (some ⟨w.heap.size, 0, none⟩) xs.length xs.length) xs.length xs := by
  have := World.ownsRow_lit (w := w) (base := w.heap.size) (e := e) (size := 1) xs.toArray xs.length (Nat.le_refl _) hm (by simp)
  simpa using this
end
end Go.Vc
