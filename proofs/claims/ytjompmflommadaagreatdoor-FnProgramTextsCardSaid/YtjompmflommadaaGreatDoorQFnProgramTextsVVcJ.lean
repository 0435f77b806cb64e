import Derived.Test.YtjompmflommadaaGreatDoorQFnProgramTextsVVcI
set_option linter.unusedSimpArgs false
set_option linter.unusedVariables false
namespace Go.Vc
open Go
structure Chg (lo hi : Nat) (w w' : World) : Prop where
 os : w'.os = w.os
 tape : w'.tape = w.tape
 output : w'.output = w.output
 size : w.heap.size ≤ w'.heap.size
 block : ∀ k, k < w.heap.size → (k < lo ∨ hi ≤ k) → w'.heap[k]? = w.heap[k]?
structure OwnR (w : World) (lo hi : Nat) (e : TypeId) (s : Nat) (v : Value) (n : Nat) (xs : List Value) : Prop where
 own : w.ownsRow lo e s v n xs
 top : ∀ k, v.ownBlock = some k → k < hi
section
variable {w w' : World} {lo hi lo' hi' s n : Nat} {e : TypeId} {v : Value} {xs : List Value}
theorem OwnR.ext (h : OwnR w lo hi e s v n xs) (he : Ext w w') : OwnR w' lo hi e s v n xs := ⟨Di h.own he, h.top⟩
theorem OwnR.of {base : Nat} (h : w.ownsRow base e s v n xs) : OwnR w base w.heap.size e s v n xs := ⟨h, fun k hk => (h.lt k hk).2⟩
theorem OwnR.mono (h : OwnR w lo hi e s v n xs) (h1 : lo' ≤ lo) (h2 : hi ≤ hi') : OwnR w lo' hi' e s v n xs := ⟨Cw h.own h1, fun k hk => Nat.lt_of_lt_of_le (h.top k hk) h2⟩
end
theorem DT {P : Program} {w : World} {t : TypeId} {ps : List (Nat × Value)} {v : Value} {K : Value → Prop} (h : rv P (Instr.build t ps.toArray) w = some v) : bld P t ps w K = K v := by
 unfold bld dv
 simp [h]
section
variable {P : Program} {w : World} {t : TypeId} {cx cy : Bool} {k : IntKind} {a b : Int} {K : Value → Prop}
theorem Akn (h : ¬ a < b) (H : K (.bool false)) : bin P .lss t cx cy (.int k a) (.int k b) w K := by
 rw [Ai, decide_eq_false h]; exact H
theorem AjP (h : a = b) (H : K (.bool false)) : bin P .neq t cx cy (.int k a) (.int k b) w K := by
 rw [B5, decide_eq_false (by simpa using h)]; exact H
theorem AiR {x : Bool} (hu : P.underlying t = some .bool) (H : K (.bool false)) : bin P .neq t cx cy (.bool x) (.bool x) w K := by
 rw [VI _ _ _ _ _ _ hu]; simpa using H
theorem Add {x : ByteArray} (H : K (.bool false)) : bin P .neq t cx cy (.string x) (.string x) w K := by
 rw [AbN]; simpa using H
end
end Go.Vc
