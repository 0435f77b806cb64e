import Derived.Test.YtjompmflommadaaGreatDoorQIsServerVVcI
set_option linter.unusedVariables false
namespace Go.Vc
open Go
structure Chg (lo hi : Nat) (w w' : World) : Prop where
  os : w'.os = w.os
  tape : w'.tape = w.tape
  output : w'.output = w.output
  size : w.heap.size ≤ w'.heap.size
  block : ∀ k, k < w.heap.size → (k < lo ∨ hi ≤ k) → w'.heap[k]? = w.heap[k]?
theorem Chg.refl (lo hi : Nat) (w : World) : Chg lo hi w w := ⟨rfl, rfl, rfl, Nat.le_refl _, fun _ _ _ => rfl⟩
theorem Chg.trans {lo hi : Nat} {a b c : World} (h : Chg lo hi a b) (k : Chg lo hi b c) : Chg lo hi a c :=
  ⟨k.os.trans h.os, k.tape.trans h.tape, k.output.trans h.output, Nat.le_trans h.size k.size, fun i hi hr => (k.block i (Nat.lt_of_lt_of_le hi h.size) hr).trans (h.block i hi hr)⟩
theorem Chg.grown {lo hi : Nat} {a b : World} {row : Option Nat} (h : a.grownBy b row) (hr : ∀ k, row = some k → lo ≤ k ∧ k < hi) : Chg lo hi a b :=
  ⟨h.os, h.tape, h.output, h.size, fun k hk ho => h.block k hk (fun e => by have := hr k e.symm; omega)⟩
theorem Chg.mono {lo hi lo' hi' : Nat} {a b : World} (h : Chg lo hi a b) (h1 : lo' ≤ lo) (h2 : hi ≤ hi') : Chg lo' hi' a b := ⟨h.os, h.tape, h.output, h.size, fun k hk ho => h.block k hk (by omega)⟩
theorem Chg.below {lo hi B : Nat} {w0 a b : World} (h : Chg lo hi a b) (hb : RowKit.Below B w0 a) (hB : B ≤ lo) (hs : B ≤ w0.heap.size) : RowKit.Below B w0 b :=
  hb.trans ⟨h.os, h.tape, h.output, h.size, fun k hk => h.block k (by have := hb.size; omega) (.inl (by omega))⟩
structure OwnR (w : World) (lo hi : Nat) (e : TypeId) (s : Nat) (v : Value) (n : Nat) (xs : List Value) : Prop where
  own : w.ownsRow lo e s v n xs
  top : ∀ k, v.ownBlock = some k → k < hi
section
variable {w w' : World} {lo hi lo' hi' s n : Nat} {e : TypeId} {v : Value} {xs : List Value}
theorem owns_ext_of {base : Nat} (h : w.ownsRow base e s v n xs) (hk : ∀ k, v.ownBlock = some k → w'.heap[k]? = w.heap[k]?) : w'.ownsRow base e s v n xs := by
  refine ⟨h.1, ?_⟩
  rcases h.2 with h0 | ⟨g, cap, cur, hv, hb, hg, hr⟩
  · exact .inl h0
  · refine .inr ⟨g, cap, cur, hv, hb, ?_, hr⟩
    rw [hk g (by rw [hv]; rfl)]; exact hg
theorem OwnR.ext (h : OwnR w lo hi e s v n xs) (he : Ext w w') : OwnR w' lo hi e s v n xs := ⟨owns_ext h.own he, h.top⟩
theorem OwnR.chg (h : OwnR w lo hi e s v n xs) (hc : Chg lo' hi' w w') (hd : hi ≤ lo' ∨ hi' ≤ lo) : OwnR w' lo hi e s v n xs := by
  refine ⟨owns_ext_of h.own fun k hk => hc.block k (h.own.lt k hk).2 ?_, h.top⟩
  have h1 := (h.own.lt k hk).1
  have h2 := h.top k hk
  omega
theorem OwnR.of {base : Nat} (h : w.ownsRow base e s v n xs) : OwnR w base w.heap.size e s v n xs := ⟨h, fun k hk => (h.lt k hk).2⟩
theorem OwnR.mono (h : OwnR w lo hi e s v n xs) (h1 : lo' ≤ lo) (h2 : hi ≤ hi') : OwnR w lo' hi' e s v n xs := ⟨owns_base h.own h1, fun k hk => Nat.lt_of_lt_of_le (h.top k hk) h2⟩
theorem OwnR.grown {b : World} (h : OwnR w lo hi e s v n xs) (hg : w.grownBy b v.ownBlock) : Chg lo hi w b := Chg.grown hg fun k hk => ⟨(h.own.lt k hk).1, h.top k hk⟩
end
theorem bld_of {P : Program} {w : World} {t : TypeId} {ps : List (Nat × Value)} {v : Value} {K : Value → Prop} (h : rv P (Instr.build t ps.toArray) w = some v) : bld P t ps w K = K v := by
  unfold bld dv
  simp [h]
section
variable {P : Program} {w : World} {t : TypeId} {cx cy : Bool} {k : IntKind} {a b : Int} {K : Value → Prop}
theorem bneq_no {x : Bool} (hu : P.underlying t = some .bool) (H : K (.bool false)) : bin P .neq t cx cy (.bool x) (.bool x) w K := by
  rw [bin_bneq _ _ _ _ _ _ hu]; simpa using H
end
end Go.Vc
