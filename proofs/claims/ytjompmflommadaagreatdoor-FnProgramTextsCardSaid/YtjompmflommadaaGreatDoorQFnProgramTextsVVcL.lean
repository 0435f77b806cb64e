import Derived.Test.YtjompmflommadaaGreatDoorQFnProgramTextsVU1
import Derived.Test.YtjompmflommadaaGreatDoorQFnProgramTextsVVcK
set_option linter.unusedSimpArgs false
set_option linter.unusedVariables false
namespace Go.Vc
open Go
variable {P : Program} {w : World}
def CapOk : Value → Prop
 | .slice _ n cap => n ≤ cap
 | _ => True
theorem RX {base n s : Nat} {v : Value} {xs : List Value} {e : TypeId} (h : w.ownsRow base e s v n xs) : CapOk v := by
 rcases h.2 with ⟨rfl, rfl⟩ | ⟨g, cap, cur, rfl, hb, hg, hnc, _⟩
 ·exact Nat.le_refl _
 ·exact hnc
theorem Mt (a : Addr) : a.add 0 = a := by
 cases a; simp [Addr.add]
section
variable {t e : TypeId} {z : Value} {s b n : Nat} {K : Value → Prop} {a : Option Addr} {cap : Nat}
theorem Ln {ik : IntKind} {h y : Nat} {c : BoundsCode} (hy : h ≤ y) : rv P (Instr.sliceBound (.int ik (h : Int)) y c) w = some h := by
 unfold Instr.sliceBound
 have : (0 : Int) ≤ (h : Int) ∧ (h : Int) ≤ (y : Int) := by omega
 simp only [asIntOf, AR, HG, Option.bind_some]
 rw [if_pos this]; simp
theorem sli_h {ik : IntKind} {h : Nat} (hu : P.underlying t = some (.slice e)) (ht : TI P e z s b) (h1 : h ≤ cap) : sli P t (.slice a n cap) none (some (.int ik (h : Int))) none w K = K (.slice a h cap) := by
 unfold sli dv Instr.sliceAt
 simp only [AR, A4 hu, Option.bind_some]
 unfold Instr.slice
 simp only [AR, A4 hu, Option.bind_some]
 unfold Instr.sliceBounds
 simp only [AR, HG, Option.bind_some, Ln h1, Ch ht]
 simp only [Nat.zero_mul, Nat.sub_zero]
 have : (if cap = 0 then a else a.map (fun x => x.add 0)) = a := by
  split
  ·rfl
  ·cases a <;> simp [Mt]
 simp only [this]
 simp
theorem sli_l {ik : IntKind} {l : Nat} (hu : P.underlying t = some (.slice e)) (ht : TI P e z s b) (h1 : l ≤ n) : sli P t (.slice a n cap) (some (.int ik (l : Int))) none none w K = K (.slice (if cap = l then a else a.map (·.add (l * s))) (n - l) (cap - l)) := by
 unfold sli dv Instr.sliceAt
 simp only [AR, A4 hu, Option.bind_some]
 unfold Instr.slice
 simp only [AR, A4 hu, Option.bind_some]
 unfold Instr.sliceBounds
 simp only [AR, HG, Option.bind_some, Ln h1, Ch ht, Option.isSome_none, Bool.false_eq_true, if_false]
 simp
theorem Row.sli_h {v : Value} {xs : List Value} {ik : IntKind} {h : Nat} (hr : Row 1 w v n xs) (hc : CapOk v) (hu : P.underlying t = some (.slice e)) (ht : TI P e z 1 b) (h1 : h ≤ n)
  (H : ∀ v', Row 1 w v' h (xs.take h) → CapOk v' → (∀ base, w.ownsRow base e 1 v n xs → w.ownsRow base e 1 v' h (xs.take h)) → (v' = .slice none 0 0 ∨ v'.ownBlock = v.ownBlock) → K v') : sli P t v none (some (.int ik (h : Int))) none w K := by
 obtain ⟨r1, r2, a, cap, rfl, r3⟩ := hr
 have hc' : n ≤ cap := hc
 rw [Vc.sli_h hu ht (by omega)]
 refine H _ ⟨by rw [List.length_take, r1]; omega, by omega, a, cap, rfl, fun hn => ?_⟩ (by show h ≤ cap; omega) (fun base ho => ?_) ?_
 ·obtain ⟨bb, o, rfl, q⟩ := r3 (by omega)
  exact ⟨bb, o, rfl, fun j u hu => q j u (by
   rw [List.getElem?_take] at hu
   split at hu
   ·exact hu
   ·cases hu)⟩
 ·refine ⟨by rw [List.length_take, r1]; omega, ?_⟩
  rcases ho.2 with ⟨e1, e2⟩ | ⟨g, cap', cur, e1, hb, hg, hnc, hcm, hcs, htake⟩
  ·left
   cases e1
   exact ⟨by rw [show h = 0 by omega], by omega⟩
  ·right
   cases e1
   refine ⟨g, _, cur, rfl, hb, hg, by omega, hcm, hcs, ?_⟩
   rw [← htake, List.take_take]
   congr 1
   simp; omega
 ·cases a with
  | none => exact .inr (by simp [Value.ownBlock])
  | some a => exact .inr (by simp [Value.ownBlock])
theorem Row.sli_l {v : Value} {xs : List Value} {ik : IntKind} {l : Nat} (hr : Row 1 w v n xs) (hc : CapOk v) (hu : P.underlying t = some (.slice e)) (ht : TI P e z 1 b) (h1 : l ≤ n)
  (H : ∀ v', Row 1 w v' (n - l) (xs.drop l) → CapOk v' → K v') : sli P t v (some (.int ik (l : Int))) none none w K := by
 obtain ⟨r1, r2, a, cap, rfl, r3⟩ := hr
 have hc' : n ≤ cap := hc
 rw [Vc.sli_l hu ht h1]
 refine H _ ⟨by rw [List.length_drop, r1]; omega, by omega, _, _, rfl, fun hn => ?_⟩ (by show n - l ≤ cap - l; omega)
 obtain ⟨bb, o, rfl, q⟩ := r3 (by omega)
 rw [if_neg (by omega)]
 refine ⟨bb, o + l, by simp [Addr.add], fun j u hu => ?_⟩
 rw [List.getElem?_drop] at hu
 have := q (l + j) u hu
 rw [Nat.add_assoc]; exact this
end
abbrev iv (k : IntKind) (d : Nat) : Value := .int k (d : Int)
structure IR (k : IntKind) (w : World) (v : Value) (l : List Nat) : Prop where
 row : Row 1 w v l.length (l.map (iv k))
 cap : CapOk v
theorem IR.ext {k : IntKind} {w' : World} {v : Value} {l : List Nat} (h : IR k w v l) (he : Ext w w') : IR k w' v l := ⟨h.row.ext he, h.cap⟩
theorem IR.bound {k : IntKind} {v : Value} {l : List Nat} (h : IR k w v l) : l.length ≤ 9223372036854775807 := by have := h.row.bound; simp only [maxLen] at this; omega
theorem IR.nil (k : IntKind) (w : World) : IR k w (.slice none 0 0) [] := ⟨Row.nil 1 w, Nat.le_refl 0⟩
abbrev OD (k : IntKind) (e : TypeId) (w : World) (base : Nat) (v : Value) (l : List Nat) : Prop := w.ownsRow base e 1 v l.length (l.map (iv k))
theorem OD.IR {k : IntKind} {e : TypeId} {base : Nat} {v : Value} {l : List Nat} (h : OD k e w base v l) : Vc.IR k w v l := ⟨Bc h, RX h⟩
theorem OD.nil (k : IntKind) (e : TypeId) (w : World) (base : Nat) : OD k e w base (.slice none 0 0) [] := ⟨rfl, .inl ⟨rfl, rfl⟩⟩
section
variable {t e : TypeId} {z : Value} {b : Nat} {k : IntKind} {d : TypeDesc} {v : Value} {l : List Nat} {base : Nat}
theorem IR.at {ik : IntKind} {i : Nat} {K : Value → Prop} (h : IR k w v l) (hi : i < l.length) (hu : P.underlying t = some (.slice e)) (ht : TI P e z 1 b) (hue : P.underlying e = some (.int k)) (H : K (iv k l[i])) :
  ixa P t v (.int ik (i : Int)) w (fun a => ld P e a w K) :=
 h.row.at1 (x := iv k l[i]) (by simp [hi]) hu ht hue rfl H
theorem OD.set {ik : IntKind} {i x : Nat} {KW : World → Prop} (h : OD k e w base v l) (hi : i < l.length) (hu : P.underlying t = some (.slice e)) (ht : TI P e z 1 b)
  (H : ∀ w', OD k e w' base v (l.set i x) → w.grownBy w' v.ownBlock → KW w') : ixa P t v (.int ik (i : Int)) w (fun a => sto P e a (iv k x) w KW) := by
 refine Rz h hi rfl hu ht fun w' ho hg => H w' ?_ hg
 unfold OD
 rw [List.length_set, List.map_set]
 exact ho
theorem OD.make {KW : Value → World → Prop} {ik ik' : IntKind} {n : Nat} (hu : P.underlying t = some (.slice e)) (ht : TI P e (.int k 0) 1 b) (hb : b * n ≤ 281474976710656) (hn : n ≤ maxLen)
  (H : ∀ w' v, OD k e w' w.heap.size v (List.replicate n 0) → Ext w w' → KW v w') : mks P t (.int ik (n : Int)) (.int ik' (n : Int)) w KW := by
 refine ZI hu ht rfl hb hn fun w' v ho he => H w' v ?_ he
 unfold OD
 rw [List.length_replicate, List.map_replicate]
 exact ho
end
theorem Ab {w w' w'' : World} {row : Option Nat} (he : Ext w w') (hw : ∀ g, row = some g → w.heap.size ≤ g) (hg : w'.grownBy w'' row) : Ext w w'' :=
 RowKit.Below.grown he hg he.size hw
end Go.Vc
