import Derived.Test.YtjompmflommadaaGreatDoorQFnProgramTextsVVcH
set_option linter.unusedSimpArgs false
set_option linter.unusedVariables false
namespace Go.Vc
open Go Ieee
theorem YA {f : Format} {b : Nat} (h : NaN f b) : ¬ Fin f b := by unfold NaN at h; unfold Fin; omega
theorem Ra {f : Format} {b : Nat} (h : Fin f b) : ¬ NaN f b := by unfold Fin at h; unfold NaN; omega
theorem NS {k : FloatKind} {a b : Nat} (ha : Fin k.format a) (hb : Fin k.format b) : ∃ r, floatBits .mul k a b = some r ∧ ¬ NaN k.format r := by
 obtain ⟨m, e, h1⟩ := D9 ha
 obtain ⟨n, g, h2⟩ := D9 hb
 show ∃ r, k.format.mul a b = some r ∧ _
 unfold Format.mul
 rw [h1, h2]
 exact ⟨_, rfl, CH _ _ _ _⟩
theorem Yw {k : FloatKind} {a b : Nat} (ha : Fin k.format a) (hb : Fin k.format b) : ∃ r, floatBits .add k a b = some r ∧ ¬ NaN k.format r := by
 obtain ⟨m, e, h1⟩ := D9 ha
 obtain ⟨n, g, h2⟩ := D9 hb
 show ∃ r, k.format.add a b = some r ∧ _
 unfold Format.add
 rw [h1, h2]
 exact ⟨_, rfl, CH _ _ _ _⟩
theorem Ajl {k : FloatKind} {a b : Nat} (ha : Fin k.format a) (hb : Fin k.format b) : ∃ r, floatBits .sub k a b = some r ∧ ¬ NaN k.format r := by
 obtain ⟨m, e, h1⟩ := D9 ha
 obtain ⟨n, g, h2⟩ := D9 hb
 show ∃ r, k.format.sub a b = some r ∧ _
 unfold Format.sub
 rw [h1, h2]
 exact ⟨_, rfl, CH _ _ _ _⟩
theorem AfL (k : FloatKind) : ∃ e, k.format.read 0 = .number false 0 e := by
 cases k
 ·exact ⟨_, rfl⟩
 ·exact ⟨_, rfl⟩
theorem U7 {k : FloatKind} {a b : Nat} (ha : Fin k.format a) (hb : Fin k.format b) (h0 : k.format.order b 0 ≠ some .eq) : ∃ r, floatBits .quo k a b = some r ∧ ¬ NaN k.format r := by
 obtain ⟨m, e, h1⟩ := D9 ha
 obtain ⟨n, g, h2⟩ := D9 hb
 obtain ⟨z, hz⟩ := AfL k
 have hn : n ≠ 0 := by
  rintro rfl
  apply h0
  unfold Format.order
  rw [h2, hz]
  simp [Datum.order, signed]
 show ∃ r, k.format.div a b = some r ∧ _
 unfold Format.div
 rw [h1, h2]
 simp only [Datum.quotient, if_neg hn]
 exact ⟨_, rfl, CH _ _ _ _⟩
def opF (op : BinOp) (a b : Nat) : Nat := (floatBits op .f32 a b).getD 2143289344
theorem Ep {op : BinOp} {a b r : Nat} (h : FR op .f32 a b r) (hs : ∃ r', floatBits op .f32 a b = some r' ∧ ¬ NaN FloatKind.f32.format r') : r = opF op a b := by
 obtain ⟨r', h1, _⟩ := hs
 rw [Dw h h1]; unfold opF; rw [h1]; rfl
theorem Mu {op : BinOp} {a b : Nat} : opF op a b < 4294967296 := by
 unfold opF
 cases h : floatBits op .f32 a b with
 | none => simp
 | some r => exact XA (k := .f32) (.inl h)
variable {P : Program} {w : World}
def Bx (w : World) (base : Nat) (t : TypeId) (p : Value) (cs : List Value) : Prop := ∃ g, p = .pointer (some ⟨g, 0, none⟩) ∧ base ≤ g ∧ w.heap[g]? = some (.cells cs.toArray t)
def blk : Value → Option Nat
 | .pointer (some a) => some a.block
 | _ => none
section
variable {base : Nat} {t ty : TypeId} {p : Value} {cs : List Value} {z : Value} {s b : Nat} {d : TypeDesc}
theorem Gf {w : World} {g : Nat} {o : Obj} (h : w.heap[g]? = some o) : g < w.heap.size := by
 rcases Nat.lt_or_ge g w.heap.size with h1 | h1
 ·exact h1
 ·rw [Array.getElem?_eq_none h1] at h; cases h
theorem Bx.ext {w' : World} (h : Bx w base t p cs) (he : Ext w w') : Bx w' base t p cs := by
 obtain ⟨g, h1, h2, h3⟩ := h
 exact ⟨g, h1, h2, by rw [he.block g (Gf h3)]; exact h3⟩
theorem Bx.kept {w' : World} {row : Option Nat} (h : Bx w base t p cs) (hg : w.grownBy w' row) (hne : row = none ∨ row ≠ blk p) : Bx w' base t p cs := by
 obtain ⟨g, rfl, h2, h3⟩ := h
 refine ⟨g, rfl, h2, ?_⟩
 rw [hg.block g (Gf h3) (by
  rcases hne with h | h
  ·rw [h]; simp
  ·intro e; exact h (by rw [← e]; rfl))]
 exact h3
theorem Bx.low {base' : Nat} (h : Bx w base t p cs) (hb : base' ≤ base) : Bx w base' t p cs := by
 obtain ⟨g, h1, h2, h3⟩ := h
 exact ⟨g, h1, by omega, h3⟩
theorem Bx.blk_lt (h : Bx w base t p cs) {k : Nat} (hk : blk p = some k) : base ≤ k ∧ k < w.heap.size := by
 obtain ⟨g, rfl, h2, h3⟩ := h
 cases hk
 exact ⟨h2, Gf h3⟩
theorem Bx.cell (h : Bx w base t p cs) : ∃ g, p = .pointer (some ⟨g, 0, none⟩) ∧ ∀ j u, cs[j]? = some u → w.cell? ⟨g, j, none⟩ = some u ∧ w.frozen? ⟨g, j, none⟩ = false := by
 obtain ⟨g, h1, h2, h3⟩ := h
 refine ⟨g, h1, fun j u hu => ⟨?_, ?_⟩⟩
 ·unfold World.cell?
  simp [h3, hu]
 ·unfold World.frozen?
  simp [h3]
theorem Ve (w : World) (o : Obj) : (w.alloc o).heap[w.heap.size]? = some o := by
 rw [show (w.alloc o).heap = w.heap.push o from rfl]
 simp
theorem BI {KW : Value → World → Prop} (ht : TI P t z s b) (H : ∀ p w', Bx w' w.heap.size t p z.cells.toList → Ext w w' → blk p = some w.heap.size → KW p w') : alc P t w KW :=
 AfD ht (H _ _ ⟨_, rfl, Nat.le_refl _, by rw [Ve]⟩ (Bg _ _) rfl)
theorem Ix {KW : Value → World → Prop} {v : Value} (H : ∀ p w', Bx w' w.heap.size t p v.cells.toList → Ext w w' → blk p = some w.heap.size → KW p w') : bx P t v w KW :=
 Ah8 (H _ _ ⟨_, rfl, Nat.le_refl _, by rw [Ve]⟩ (Bg _ _) rfl)
theorem Bx.fld {fs : Array Field} {f off : Nat} {x : Value} {K : Value → Prop} (h : Bx w base t p cs) (hx : cs[off]? = some x) (hu : P.underlying t = some (.struct fs)) (hf : (fs[f]?).map (fun x => (x.type, x.offset)) = some (ty, off)) (ht : TI P ty z 1 b)
  (hue : P.underlying ty = some d) (hd : aggB d = false) (H : K x) : fda P t p f w (fun a => ld P ty a w K) := by
 obtain ⟨g, rfl, hc⟩ := h.cell
 rw [Bu hu hf ht (by decide)]
 rw [show (Addr.mk g 0 none).add off = ⟨g, off, none⟩ by rw [Addr.add_lit, Nat.zero_add]]
 rw [F4 hue hd (hc off x hx).1]
 exact H
theorem Bx.get {K : Value → Prop} (h : Bx w base t p cs) (hu : P.underlying t = some d) (hd : aggB d = true) (ht : TI P t z s b) (hl : cs.length = s) (H : K (.agg cs.toArray)) : ld P t p w K := by
 obtain ⟨g, rfl, hc⟩ := h.cell
 rw [Ace hu hd ht hl (fun j u hu => by rw [show (Addr.mk g 0 none).add j = ⟨g, j, none⟩ by rw [Addr.add_lit, Nat.zero_add]]; exact (hc j u hu).1)]
 exact H
theorem Bx.getc {K : Value → Prop} (h : Bx w base t p cs) (hu : P.underlying t = some d) (hd : aggB d = true) (ht : TI P t z s b) (hl : cs.length = s) (H : K (.agg cs.toArray)) : ldc P t p w K := by
 obtain ⟨g, rfl, hc⟩ := h.cell
 rw [Ajw hu hd ht hl (fun j u hu => by rw [show (Addr.mk g 0 none).add j = ⟨g, j, none⟩ by rw [Addr.add_lit, Nat.zero_add]]; exact (hc j u hu).1)]
 exact H
theorem Bx.get1 {K : Value → Prop} {x : Value} (h : Bx w base t p [x]) (hu : P.underlying t = some d) (hd : aggB d = false) (H : K x) : ld P t p w K := by
 obtain ⟨g, rfl, hc⟩ := h.cell
 rw [F4 hu hd (hc 0 x rfl).1]
 exact H
theorem Iw {g off : Nat} {x : Value} {e : TypeId} (h : w.heap[g]? = some (.cells cs.toArray e)) : (w.setCell ⟨g, off, none⟩ x).heap[g]? = some (.cells (cs.set off x).toArray e) := by
 simp only [World.setCell, Array.getElem?_modify, h]
 simp
theorem Iv {g off : Nat} {x : Value} : w.grownBy (w.setCell ⟨g, off, none⟩ x) (some g) := by
 refine ⟨rfl, rfl, rfl, by simp [World.setCell], fun k hk hne => ?_⟩
 have : g ≠ k := fun e => hne (by rw [e])
 simp only [World.setCell, Array.getElem?_modify, if_neg this]
theorem Bt {a b c : World} {row : Option Nat} (h : a.grownBy b row) (k : b.grownBy c row) : a.grownBy c row :=
 ⟨k.os.trans h.os, k.tape.trans h.tape, k.output.trans h.output, Nat.le_trans h.size k.size, fun i hi hr => (k.block i (Nat.lt_of_lt_of_le hi h.size) hr).trans (h.block i hi hr)⟩
theorem UU {g : Nat} {e : TypeId} : ∀ (ds : List Value) (i : Nat) (cs : List Value) (w : World), i + ds.length = cs.length → w.heap[g]? = some (.cells cs.toArray e) →
  ((ds.zipIdx i).foldl (fun w x => w.setCell ((Addr.mk g 0 none).add x.2) x.1) w).heap[g]? = some (.cells (cs.take i ++ ds).toArray e) ∧ w.grownBy ((ds.zipIdx i).foldl (fun w x => w.setCell ((Addr.mk g 0 none).add x.2) x.1) w) (some g)
 | [], i, cs, w, hl, h => by
  have : cs.take i = cs := List.take_of_length_le (by simp at hl; omega)
  simp only [List.zipIdx_nil, List.foldl_nil, List.append_nil, this]
  exact ⟨h, World.grownBy.refl _ _⟩
 | x :: ds, i, cs, w, hl, h => by
  simp only [List.zipIdx_cons, List.foldl_cons]
  have ha : (Addr.mk g 0 none).add i = ⟨g, i, none⟩ := by rw [Addr.add_lit, Nat.zero_add]
  rw [ha]
  have h1 := Iw (off := i) (x := x) h
  obtain ⟨q1, q2⟩ := UU ds (i + 1) (cs.set i x) _ (by simp at hl ⊢; omega) h1
  have hi : i < cs.length := by simp at hl; omega
  refine ⟨?_, Bt Iv q2⟩
  rw [q1]
  congr 3
  rw [List.take_succ_eq_append_getElem (by simpa using hi)]
  simp [List.take_set_of_le]
theorem Bx.put {ds : List Value} {K : World → Prop} (h : Bx w base t p cs) (ht : TI P t z s b) (hl : ds.length = s) (hl' : cs.length = s) (h1 : ∀ v ∈ ds, v.oneCell' = true) (H : ∀ w', Bx w' base t p ds → w.grownBy w' (blk p) → K w') : sto P t p (.agg ds.toArray) w K := by
 obtain ⟨g, rfl, hb, hg⟩ := h
 obtain ⟨q1, q2⟩ := UU ds 0 cs w (by omega) hg
 refine AiW ht hl h1 (fun j hj => ?_) (H _ ⟨g, rfl, hb, by simpa using q1⟩ q2)
 have hj' : j < cs.length := by omega
 refine ⟨cs[j], ?_, ?_⟩
 ·rw [Addr.add_lit]; simp [World.cell?, hg, hj']
 ·rw [Addr.add_lit]; simp [World.frozen?, hg]
theorem Bx.put1 {x y : Value} {K : World → Prop} (h : Bx w base t p [x]) (ht : TI P t z 1 b) (h1 : y.oneCell' = true) (H : ∀ w', Bx w' base t p [y] → w.grownBy w' (blk p) → K w') : sto P t p y w K := by
 obtain ⟨g, rfl, hb, hg⟩ := h
 refine NM ht h1 (u := x) ?_ ?_ (H _ ⟨g, rfl, hb, ?_⟩ Iv)
 ·simp [World.cell?, hg]
 ·simp [World.frozen?, hg]
 ·exact Iw hg
theorem Bx.fput {fs : Array Field} {f off : Nat} {x : Value} {K : World → Prop} (h : Bx w base t p cs) (ho : off < cs.length) (hu : P.underlying t = some (.struct fs)) (hf : (fs[f]?).map (fun x => (x.type, x.offset)) = some (ty, off)) (ht : TI P ty z 1 b)
  (h1 : x.oneCell' = true) (H : ∀ w', Bx w' base t p (cs.set off x) → w.grownBy w' (blk p) → K w') : fda P t p f w (fun a => sto P ty a x w K) := by
 obtain ⟨g, rfl, hb, hg⟩ := h
 rw [Bu hu hf ht (by decide)]
 rw [show (Addr.mk g 0 none).add off = ⟨g, off, none⟩ by rw [Addr.add_lit, Nat.zero_add]]
 refine NM ht h1 (u := cs[off]) ?_ ?_ (H _ ⟨g, rfl, hb, Iw hg⟩ Iv)
 ·simp [World.cell?, hg, ho]
 ·simp [World.frozen?, hg]
end
end Go.Vc
