import Derived.Orders
import Derived.Deep.LoopGhost
import Derived.KernelRfl
import Derived.Below
set_option linter.unusedSimpArgs false
set_option linter.unusedVariables false
namespace Go.Vc
open Go
def N (c : World) : World := { c with drawn := 0 }
def SemA (P : Program) {α : Type} (s : Sem α) (w : World) (K : α → World → Prop) : Prop :=
 ∀ c, N c = w → ∃ v c', s.run P c = .ok v c' ∧ K v (N c')
def rd (P : Program) {α : Type} : Sem α → World → (α → Prop) → Prop
 | .pure a, _, K => K a
 | .load _ a k, w, K => match w.cell? a with
  | some v => rd P (k v) w K
  | none => False
 | .shape r k, w, K => match w.shape? r with
  | some s => rd P (k (some s)) w K
  | none => False
 | .choose q k, w, K => if q.forced = true then rd P (k 0) w K else ∀ t, rd P (k (q.cut t)) w K
 | .program k, w, K => rd P (k P) w K
 | .mark _ k, w, K => rd P k w K
 | _, _, _ => False
section
variable {P : Program} {α β : Type}
@[simp] theorem AlE (a : α) (w : World) (K : α → Prop) : rd P (Sem.pure a) w K = K a := rfl
@[simp] theorem Yz (a : α) (w : World) (K : α → Prop) : rd P (pure a : Sem α) w K = K a := rfl
theorem QR {w : World} {K K' : α → Prop} (h : ∀ a, K a → K' a) : ∀ s : Sem α, rd P s w K → rd P s w K' := by
 intro s
 induction s <;> simp only [rd] <;> intro hs
 case pure a => exact h _ hs
 case load m a k ih => split <;> simp_all
 case shape r k ih => split <;> simp_all
 case choose q k ih => split <;> simp_all
 case program k ih => exact ih _ hs
 case mark m k ih => exact ih hs
 all_goals exact hs.elim
theorem Ade (s : Sem α) (f : α → Sem β) (w : World) (K : β → Prop) : rd P (Sem.bind s f) w K = rd P s w (fun a => rd P (f a) w K) := by
 induction s <;> simp only [Sem.bind, rd]
 case load m a k ih => cases w.cell? a <;> simp only [ih]
 case shape r k ih => cases w.shape? r <;> simp only [ih]
 case choose q k ih => simp only [ih]
 case program k ih => exact ih _
 case mark m k ih => exact ih
@[simp] theorem CG (s : Sem α) (f : α → Sem β) (w : World) (K : β → Prop) : rd P (s >>= f) w K = rd P s w (fun a => rd P (f a) w K) := Ade s f w K
@[simp] theorem AlN (s : Sem α) (f : α → β) (w : World) (K : β → Prop) : rd P (f <$> s) w K = rd P s w (fun a => K (f a)) := Ade s (fun a => pure (f a)) w K
theorem Yd {w : World} {K : α → Prop} : ∀ s : Sem α, rd P s w K → ∃ a, K a := by
 intro s
 induction s <;> simp only [rd] <;> intro hs
 case pure a => exact ⟨_, hs⟩
 case load m a k ih =>
  split at hs
  ·exact ih _ hs
  ·exact hs.elim
 case shape r k ih =>
  split at hs
  ·exact ih _ hs
  ·exact hs.elim
 case choose q k ih =>
  split at hs
  ·exact ih _ hs
  ·exact ih _ (hs 0)
 case program k ih => exact ih _ hs
 case mark m k ih => exact ih hs
 all_goals exact hs.elim
theorem Akw {ι : Type} [Inhabited ι] {w : World} {K : ι → α → Prop} : ∀ s : Sem α, (∀ i, rd P s w (K i)) → rd P s w (fun a => ∀ i, K i a) := by
 intro s
 induction s <;> simp only [rd] <;> intro hs
 case pure a => exact hs
 case load m a k ih => split <;> simp_all
 case shape r k ih => split <;> simp_all
 case choose q k ih =>
  split
  ·rename_i hf; simp only [hf, if_true] at hs; exact ih _ hs
  ·rename_i hf; simp only [hf] at hs; exact fun t => ih _ fun i => by simpa using hs i t
 case program k ih => exact ih _ hs
 case mark m k ih => exact ih hs
 all_goals exact hs default
theorem Ajv {w : World} (t : Sem β) {K : α → β → Prop} : ∀ s : Sem α, rd P s w (fun a => rd P t w (K a)) → rd P t w (fun b => rd P s w (fun a => K a b)) := by
 intro s
 induction s <;> simp only [rd] <;> intro hs
 case pure a => exact hs
 case load m a k ih => split <;> simp_all
 case shape r k ih => split <;> simp_all
 case choose q k ih =>
  split
  ·rename_i hf; simp only [hf, if_true] at hs; exact ih _ hs
  ·rename_i hf
   simp only [hf] at hs
   exact Akw t fun i => ih _ (by simpa using hs i)
 case program k ih => exact ih _ hs
 case mark m k ih => exact ih hs
 all_goals exact hs.elim
theorem cell?_N (c : World) (a : Addr) : (N c).cell? a = c.cell? a := rfl
theorem shape?_N (c : World) (r : Nat) : (N c).shape? r = c.shape? r := rfl
theorem AgR {w : World} {K : α → Prop} : ∀ (s : Sem α), rd P s w K → ∀ c, N c = w → ∃ v c', s.run P c = .ok v c' ∧ N c' = w ∧ K v := by
 intro s
 induction s <;> simp only [rd] <;> intro hs c hc
 case pure a => exact ⟨a, c, rfl, hc, hs⟩
 case load m a k ih =>
  subst hc
  rw [cell?_N] at hs
  simp only [Sem.run]
  split at hs
  ·rename_i v hv; rw [hv]; exact ih _ hs c rfl
  ·exact hs.elim
 case shape r k ih =>
  subst hc
  rw [shape?_N] at hs
  simp only [Sem.run]
  split at hs
  ·rename_i v hv; rw [hv]; exact ih _ hs c rfl
  ·exact hs.elim
 case choose q k ih =>
  simp only [Sem.run]
  split at hs
  ·rename_i hf; rw [if_pos hf]; exact ih _ hs c hc
  ·rename_i hf; rw [if_neg hf]; exact ih _ (hs _) _ hc
 case program k ih => exact ih _ hs c hc
 case mark m k ih => exact ih hs c hc
 all_goals exact hs.elim
theorem EO {s : Sem α} {w : World} {K : α → World → Prop} (h : rd P s w (fun v => K v w)) : SemA P s w K := fun c hc =>
 let ⟨v, c', h1, h2, h3⟩ := AgR s h c hc
 ⟨v, c', h1, by rw [h2]; exact h3⟩
theorem Hc {s : Sem α} {w : World} {K K' : α → World → Prop} (h : ∀ v w', K v w' → K' v w') (hs : SemA P s w K) : SemA P s w K' := fun c hc =>
 let ⟨v, c', h1, h2⟩ := hs c hc
 ⟨v, c', h1, h _ _ h2⟩
def Ext (w w' : World) : Prop := RowKit.Below w.heap.size w w'
theorem Ext.refl (w : World) : Ext w w := RowKit.Below.refl _ _
theorem Ext.size {w w' : World} (h : Ext w w') : w.heap.size ≤ w'.heap.size := RowKit.Below.size h
theorem Ext.block {w w' : World} (h : Ext w w') : ∀ k, k < w.heap.size → w'.heap[k]? = w.heap[k]? := RowKit.Below.block h
theorem Ext.trans {a b c : World} (h : Ext a b) (k : Ext b c) : Ext a c := RowKit.Below.trans h (RowKit.Below.mono k h.size)
theorem Ext.cell {w w' : World} (h : Ext w w') {a : Addr} {v : Value} (hv : w.cell? a = some v) : w'.cell? a = some v := by
 unfold World.cell? at *
 by_cases hb : a.block < w.heap.size
 ·rw [h.block _ hb]; exact hv
 ·rw [Array.getElem?_eq_none (Nat.le_of_not_lt hb)] at hv; simp at hv
theorem Ext.shape {w w' : World} (h : Ext w w') {r : Nat} {s : TypeId × Nat} (hv : w.shape? r = some s) : w'.shape? r = some s := by
 unfold World.shape? at *
 by_cases hb : r < w.heap.size
 ·rw [h.block _ hb]; exact hv
 ·rw [Array.getElem?_eq_none (Nat.le_of_not_lt hb)] at hv; simp at hv
end
def rv (P : Program) {α : Type} : Sem α → World → Option α
 | .pure a, _ => some a
 | .load _ a k, w => match w.cell? a with
  | some v => rv P (k v) w
  | none => none
 | .shape r k, w => match w.shape? r with
  | some s => rv P (k (some s)) w
  | none => none
 | .choose q k, w => if q.forced = true then rv P (k 0) w else none
 | .program k, w => rv P (k P) w
 | .mark _ k, w => rv P k w
 | _, _ => none
section
variable {P : Program} {α β : Type}
@[simp] theorem AlD (a : α) (w : World) : rv P (Sem.pure a) w = some a := rfl
@[simp] theorem HG (a : α) (w : World) : rv P (pure a : Sem α) w = some a := rfl
theorem Ads (s : Sem α) (f : α → Sem β) (w : World) : rv P (Sem.bind s f) w = (rv P s w).bind (fun a => rv P (f a) w) := by
 induction s <;> simp only [Sem.bind, rv, Option.bind_none, Option.bind_some]
 case load m a k ih => cases w.cell? a <;> simp only [ih, Option.bind_none]
 case shape r k ih => cases w.shape? r <;> simp only [ih, Option.bind_none]
 case choose q k ih => split <;> simp only [ih, Option.bind_none]
 case program k ih => exact ih _
 case mark m k ih => exact ih
@[simp] theorem AR (s : Sem α) (f : α → Sem β) (w : World) : rv P (s >>= f) w = (rv P s w).bind (fun a => rv P (f a) w) := Ads s f w
@[simp] theorem AlM (s : Sem α) (f : α → β) (w : World) : rv P (f <$> s) w = (rv P s w).map f := by
 have := Ads (P := P) s (fun a => pure (f a)) w
 show rv P (Sem.bind s (fun a => pure (f a))) w = _
 rw [this]; cases rv P s w <;> rfl
theorem Cl {w : World} {v : α} {K : α → Prop} : ∀ s : Sem α, rv P s w = some v → K v → rd P s w K := by
 intro s
 induction s <;> simp only [rd, rv] <;> intro hs hK
 case pure a => cases hs; exact hK
 case load m a k ih => split at hs <;> first | exact ih _ hs hK | cases hs
 case shape r k ih => split at hs <;> first | exact ih _ hs hK | cases hs
 case choose q k ih =>
  split at hs
  ·rename_i hf; rw [if_pos hf]; exact ih _ hs hK
  ·cases hs
 case program k ih => exact ih _ hs hK
 case mark m k ih => exact ih hs hK
 all_goals cases hs
theorem Akl {w w' : World} (he : Ext w w') {v : α} : ∀ s : Sem α, rv P s w = some v → rv P s w' = some v := by
 intro s
 induction s <;> simp only [rv] <;> intro hs
 case pure a => exact hs
 case load m a k ih =>
  split at hs
  ·rename_i v hv; rw [he.cell hv]; exact ih _ hs
  ·cases hs
 case shape r k ih =>
  split at hs
  ·rename_i v hv; rw [he.shape hv]; exact ih _ hs
  ·cases hs
 case choose q k ih =>
  split at hs
  ·rename_i hf; rw [if_pos hf]; exact ih _ hs
  ·cases hs
 case program k ih => exact ih _ hs
 case mark m k ih => exact ih hs
 all_goals cases hs
end
def CallsA (P : Program) (f : FuncId) (args : Array Value) (w : World) (K : Value → World → Prop) : Prop :=
 ∀ c, N c = w → Calls P f args c (fun e c' => ∃ v, e = .returned v ∧ K v (N c'))
def nextK (P : Program) (K : Value → World → Prop) : Next → World → Prop
 | .value v, w => K v w
 | .skip, w => K undef w
 | .enter f args, w => CallsA P f args w K
 | _, _ => False
def valK (K : Value → Prop) : Next → Prop
 | .value v => K v
 | .skip => K undef
 | _ => False
theorem CallsA.mono {P : Program} {f : FuncId} {args : Array Value} {w : World} {K K' : Value → World → Prop} (h : ∀ v w', K v w' → K' v w') (hs : CallsA P f args w K) : CallsA P f args w K' :=
 fun c hc => (hs c hc).mono fun _ _ ⟨v, he, hk⟩ => ⟨v, he, h _ _ hk⟩
theorem AdC {P : Program} {K K' : Value → World → Prop} (h : ∀ v w', K v w' → K' v w') : ∀ n w, nextK P K n w → nextK P K' n w := by
 intro n w hn
 cases n <;> simp only [nextK] at * <;> first | exact h _ _ hn | exact CallsA.mono h hn
theorem Aeh {P : Program} {K : Value → World → Prop} {w : World} {n : Next} (h : valK (fun v => K v w) n) : nextK P K n w := by
 cases n <;> first | exact h | exact h.elim
theorem Mw {K K' : Value → Prop} (h : ∀ v, K v → K' v) : ∀ n, valK K n → valK K' n := by
 intro n hn
 cases n <;> first | exact h _ hn | exact hn
def dvE (P : Program) (ρ : Operand → Value) (o : Oper) (w : World) (K : Value → Prop) : Prop := ∃ n, rv P (execOp ρ o) w = some n ∧ valK K n
def rdE (P : Program) (ρ : Operand → Value) (o : Oper) (w : World) (K : Value → Prop) : Prop := rd P (execOp ρ o) w (valK K)
def chE (P : Program) (ρ : Operand → Value) (o : Oper) (w : World) (K : Value → World → Prop) : Prop := SemA P (execOp ρ o) w (nextK P K)
abbrev Env := Nat → Value
def ev (e : Env) : Operand → Value
 | .tmp t => e t
 | .const v => v
 | .global g => .pointer (some ⟨g, 0, none⟩)
 | .func f => .func (.func f) #[] #[]
def upd (e : Env) (dst : Option Nat) (v : Value) : Env := match dst with
 | none => e
 | some d => fun k => cond (Nat.beq k d) v (e k)
structure Rep (n : Nat) (a : Act) (e : Env) : Prop where
 size : a.tmps.size = n
 val : ∀ t, a.tmps.getD t undef = e t
 defers : a.defers = []
theorem Rep.eval {n : Nat} {a : Act} {e : Env} (h : Rep n a e) : a.eval = ev e := by
 funext x
 cases x <;> simp only [Act.eval, ev]
 exact h.val _
theorem Rep.put {n : Nat} {a : Act} {e : Env} (h : Rep n a e) {dst : Option Nat} (hd : ∀ d, dst = some d → d < n) (v : Value) : Rep n (a.put dst v) (upd e dst v) := by
 cases dst with
 | none => exact h
 | some d =>
  have hlt := hd d rfl
  refine ⟨by simp [Act.put, h.size], fun t => ?_, h.defers⟩
  have hv := h.val t
  simp only [Act.put, upd, Array.getD_eq_getD_getElem?, Array.getElem?_setIfInBounds] at *
  by_cases ht : d = t
  ·subst ht
   have hb : Nat.beq d d = true := Nat.beq_refl d
   simp [h.size, hlt]
  ·have hb : Nat.beq t d = false := by
    cases hbb : Nat.beq t d
    ·rfl
    ·exact absurd (Nat.eq_of_beq_eq_true hbb).symm ht
   simp [hb, ht, hv]
theorem Oper.wp_of_chE {P : Program} {o : Oper} {n : Nat} {a : Act} {e : Env} {c : World} {K : Value → World → Prop} {next : Act → World → Prop} {Q : Exit → Act → World → Prop}
  (hr : Rep n a e) (h : chE P (ev e) o (N c) K) (hK : ∀ v c', K v (N c') → next (a.put o.dst v) c') : o.wp P a c next Q := by
 obtain ⟨m, c', hrun, hm⟩ := h c rfl
 unfold Oper.wp
 rw [hr.eval, hrun]
 cases m <;> simp only [nextK, Oper.upon] at *
 case value v => exact hK _ _ hm
 case skip => exact hK _ _ hm
 case enter f args =>
  refine (hm c' rfl).mono ?_
  rintro _ c'' ⟨v, rfl, hk⟩
  exact hK _ _ hk
end Go.Vc
