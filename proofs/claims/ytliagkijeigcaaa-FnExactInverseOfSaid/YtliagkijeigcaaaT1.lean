/- One interface for the kinds of data that the laws copy, compare and mark: lists of floats, matrices. -/
import Derived.Test.YtliagkijeigcaaaC9
set_option linter.unusedVariables false
namespace Go.Proofs.Ytliagkijeigcaaa
open Go Go.Vc

variable {w : World} {K : Value → World → Prop} {lo hi : Nat} {v : Value}

/-- A variable whose block is one of its own range. -/
structure BxR (w : World) (lo hi : Nat) (t : TypeId) (p : Value) (cs : List Value) : Prop where
  own : Bx w lo t p cs
  top : ∀ k, blk p = some k → k < hi
theorem BxR.ext {w' : World} {t : TypeId} {p : Value} {cs : List Value} (h : BxR w lo hi t p cs) (he : Ext w w') : BxR w' lo hi t p cs := ⟨h.own.ext he, h.top⟩
theorem BxR.chg {w' : World} {lo' hi' : Nat} {t : TypeId} {p : Value} {cs : List Value} (h : BxR w lo hi t p cs) (hc : Chg lo' hi' w w') (hd : hi ≤ lo' ∨ hi' ≤ lo) : BxR w' lo hi t p cs := by
  obtain ⟨⟨g, h1, h2, h3⟩, ht⟩ := h
  have ht' := ht
  subst h1
  have := ht g rfl
  exact ⟨⟨g, rfl, h2, by rw [hc.block g (heap_lt h3) (by omega)]; exact h3⟩, ht⟩
theorem BxR.of {t : TypeId} {p : Value} {cs : List Value} (h : Bx w lo t p cs) : BxR w lo w.heap.size t p cs := ⟨h, fun k hk => (h.blk_lt hk).2⟩
theorem BxR.grown {w' : World} {t : TypeId} {p : Value} {cs : List Value} (h : BxR w lo hi t p cs) (hg : w.grownBy w' (blk p)) : Chg lo hi w w' := Chg.grown hg fun k hk => ⟨(h.own.blk_lt hk).1, h.top k hk⟩

/-! ### lists of floats -/
abbrev A_Float32S := FS
abbrev I_Float32S := FS
def O_Float32S (w : World) (lo hi : Nat) (v : Value) (l : List Nat) : Prop := OwnR w lo hi t_float32 1 v l.length (l.map fl) ∧ ∀ b ∈ l, b < 4294967296
theorem O_Float32S.ext {l : List Nat} {w' : World} (h : O_Float32S w lo hi v l) (he : Ext w w') : O_Float32S w' lo hi v l := ⟨h.1.ext he, h.2⟩
theorem O_Float32S.chg {l : List Nat} {w' : World} {lo' hi' : Nat} (h : O_Float32S w lo hi v l) (hc : Chg lo' hi' w w') (hd : hi ≤ lo' ∨ hi' ≤ lo) : O_Float32S w' lo hi v l := ⟨h.1.chg hc hd, h.2⟩
theorem O_Float32S.I {l : List Nat} (h : O_Float32S w lo hi v l) : I_Float32S w v l := OS.FS h.1.own h.2
def sz_Float32S (l : List Nat) : Nat := l.length
def cnt_Float32S (l : List Nat) : Nat := l.length
def mk_Float32S (k : Int) (l : List Nat) : List Nat := mk k l.length
theorem cnt_sz_Float32S (l : List Nat) : cnt_Float32S l ≤ sz_Float32S l := Nat.le_refl _
theorem len_Float32S {l : List Nat} (h : A_Float32S w v l) {ty : TypeId} {K : Value → Prop} : bl0 P .len #[t_s_float32] ty [v] w K = K (.int .i64 (sz_Float32S l)) := h.row.len u_s_float32
theorem c_to_Float32S {l : List Nat} (h : A_Float32S w v l) (hs : sz_Float32S l ≤ 1048576) (H : ∀ v' w', Ext w w' → O_Float32S w' w.heap.size w'.heap.size v' l → K v' w') : call P f_laws_toFloat32S [v] w K :=
  c_toFloat32S h hs fun v' w' he ho => H v' w' he ⟨OwnR.of ho, h.lt⟩
theorem c_eq_Float32S {u : Value} {l : List Nat} (h1 : I_Float32S w u l) (h2 : I_Float32S w v l) (H : ∀ w', Ext w w' → K (.bool true) w') : call P f_laws_eqFloat32S [u, v] w K :=
  c_eqFloat32S h1 h2 (Leq.refl _) (H _ (Ext.refl _))
theorem c_mark_Float32S {l : List Nat} {k : Int} (h : O_Float32S w lo hi v l) (h0 : 0 ≤ k) (h1 : k + cnt_Float32S l ≤ 4611686018427387904) (H : ∀ w', O_Float32S w' lo hi v (mk_Float32S k l) → Chg lo hi w w' → K (.int .i64 (k + cnt_Float32S l)) w') :
    call P f_laws_markFloat32S [v, .int .i64 k] w K :=
  c_markFloat32S h.1.own h0 h1 fun w' ho hg => H w' ⟨⟨ho, h.1.top⟩, mk_bits _ _⟩ (h.1.grown hg)
theorem c_held_Float32S {l : List Nat} {k : Int} (h : I_Float32S w v (mk_Float32S k l)) (h0 : 0 ≤ k) (h1 : k + cnt_Float32S l ≤ 4611686018427387904) (H : ∀ w', Ext w w' → K (.int .i64 (k + cnt_Float32S l)) w') : call P f_laws_heldFloat32S [v, .int .i64 k] w K :=
  c_heldFloat32S h h0 h1 (H _ (Ext.refl _))

/-! ### matrices -/
def A_Float32SS (w : World) (v : Value) (m : List (List Nat)) : Prop := FSS w v m ∧ bits m
abbrev I_Float32SS := A_Float32SS
theorem A_Float32SS.ext {m : List (List Nat)} {w' : World} (h : A_Float32SS w v m) (he : Ext w w') : A_Float32SS w' v m := ⟨h.1.ext he, h.2⟩
def O_Float32SS (w : World) (lo hi : Nat) (v : Value) (m : List (List Nat)) : Prop := (∃ vs, OM w lo hi v m vs) ∧ bits m
theorem O_Float32SS.ext {m : List (List Nat)} {w' : World} (h : O_Float32SS w lo hi v m) (he : Ext w w') : O_Float32SS w' lo hi v m := ⟨let ⟨vs, h⟩ := h.1; ⟨vs, h.ext he⟩, h.2⟩
theorem O_Float32SS.chg {m : List (List Nat)} {w' : World} {lo' hi' : Nat} (h : O_Float32SS w lo hi v m) (hc : Chg lo' hi' w w') (hd : hi ≤ lo' ∨ hi' ≤ lo) : O_Float32SS w' lo hi v m := ⟨let ⟨vs, h⟩ := h.1; ⟨vs, h.chg hc hd⟩, h.2⟩
theorem O_Float32SS.I {m : List (List Nat)} (h : O_Float32SS w lo hi v m) : I_Float32SS w v m := ⟨let ⟨_, h1⟩ := h.1; h1.FSS h.2, h.2⟩
def sz_Float32SS (m : List (List Nat)) : Nat := m.length + total m
def cnt_Float32SS (m : List (List Nat)) : Nat := total m
def mk_Float32SS (k : Int) (m : List (List Nat)) : List (List Nat) := mkM k m
theorem cnt_sz_Float32SS (m : List (List Nat)) : cnt_Float32SS m ≤ sz_Float32SS m := by unfold cnt_Float32SS sz_Float32SS; omega
theorem c_sz_Float32SS {m : List (List Nat)} {left : Int} (h : A_Float32SS w v m) (h0 : 0 ≤ left) (h1 : left ≤ 1048576) (H : ∀ (r : Int) w', Ext w w' → (r = -1 ∨ ((sz_Float32SS m : Nat) : Int) ≤ left ∧ r = left - (sz_Float32SS m : Nat)) → K (.int .i64 r) w') : call P f_laws_szFloat32SS [v, .int .i64 left] w K :=
  c_szFloat32SS h.1 h0 h1 fun r hr => H r _ (Ext.refl _) hr
theorem c_to_Float32SS {m : List (List Nat)} (h : A_Float32SS w v m) (hs : sz_Float32SS m ≤ 1048576) (H : ∀ v' w', Ext w w' → O_Float32SS w' w.heap.size w'.heap.size v' m → K v' w') : call P f_laws_toFloat32SS [v] w K := by
  unfold sz_Float32SS at hs
  exact c_toFloat32SS h.1 (by omega) (fun r hr => by have := len_le_total hr; omega) fun v' w' vs he ho => H v' w' he ⟨⟨vs, ho⟩, h.2⟩
theorem c_eq_Float32SS {u : Value} {m : List (List Nat)} (h1 : I_Float32SS w u m) (h2 : I_Float32SS w v m) (H : ∀ w', Ext w w' → K (.bool true) w') : call P f_laws_eqFloat32SS [u, v] w K :=
  c_eqFloat32SS h1.1 h2.1 (LLeq.refl _) (H _ (Ext.refl _))
theorem c_mark_Float32SS {m : List (List Nat)} {k : Int} (h : O_Float32SS w lo hi v m) (h0 : 0 ≤ k) (h1 : k + cnt_Float32SS m ≤ 4611686018427387904) (H : ∀ w', O_Float32SS w' lo hi v (mk_Float32SS k m) → Chg lo hi w w' → K (.int .i64 (k + cnt_Float32SS m)) w') :
    call P f_laws_markFloat32SS [v, .int .i64 k] w K := by
  obtain ⟨vs, ho⟩ := h.1
  exact c_markFloat32SS ho h0 h1 fun w' ho' hc => H w' ⟨⟨vs, ho'⟩, mkM_bits _ _⟩ hc
theorem c_held_Float32SS {m : List (List Nat)} {k : Int} (h : I_Float32SS w v (mk_Float32SS k m)) (h0 : 0 ≤ k) (h1 : k + cnt_Float32SS m ≤ 4611686018427387904) (H : ∀ w', Ext w w' → K (.int .i64 (k + cnt_Float32SS m)) w') : call P f_laws_heldFloat32SS [v, .int .i64 k] w K :=
  c_heldFloat32SS h.1 h0 h1 (H _ (Ext.refl _))
end Go.Proofs.Ytliagkijeigcaaa
