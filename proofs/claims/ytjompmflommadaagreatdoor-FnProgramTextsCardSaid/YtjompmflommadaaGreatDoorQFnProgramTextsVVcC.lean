import Derived.Test.YtjompmflommadaaGreatDoorQFnProgramTextsVVcB
set_option linter.unusedSimpArgs false
set_option linter.unusedVariables false
namespace Go.Vc
open Go
def dv (P : Program) {α : Type} (s : Sem α) (w : World) (K : α → Prop) : Prop := ∃ x, rv P s w = some x ∧ K x
def isC : Operand → Bool
 | .const _ => true
 | _ => false
def eqg (op : BinOp) (t : TypeId) (cx cy : Bool) (a b : Value) : Sem Unit :=
 eqGuard op t (if cx then .const undef else .tmp 0) (if cy then .const undef else .tmp 0) a b
def pick (c x y : Value) (K : Value → Prop) : Prop := match c with
 | .bool b => K (cond b x y)
 | _ => False
def ld (P : Program) (t : TypeId) (a : Value) (w : World) (K : Value → Prop) : Prop := dv P (Instr.loadAt t a) w K
def ixa (P : Program) (t : TypeId) (x i : Value) (w : World) (K : Value → Prop) : Prop := dv P (Instr.indexAt t x i) w K
def fda (P : Program) (t : TypeId) (x : Value) (f : Nat) (w : World) (K : Value → Prop) : Prop := dv P (Instr.fieldAt t x f) w K
def fld (P : Program) (t : TypeId) (x : Value) (f : Nat) (w : World) (K : Value → Prop) : Prop := dv P (Instr.field t x f) w K
def idx (P : Program) (t : TypeId) (x i : Value) (w : World) (K : Value → Prop) : Prop := dv P (Instr.index t x i) w K
def bin (P : Program) (op : BinOp) (t : TypeId) (cx cy : Bool) (x y : Value) (w : World) (K : Value → Prop) : Prop := dv P (do eqg op t cx cy x y; binOp op t x y) w K
def una (P : Program) (op : UnOp) (x : Value) (w : World) (K : Value → Prop) : Prop := dv P (Op.unary op x) w K
def cnv (P : Program) (s d : TypeId) (x : Value) (w : World) (K : Value → Prop) : Prop := dv P (convert s d x) w K
def xtr (P : Program) (x : Value) (i : Nat) (w : World) (K : Value → Prop) : Prop := dv P (Instr.extract x i) w K
def nch (x : Value) (K : Value → Prop) : Prop := match x with
 | .pointer none | .nilIface | .nilFunc => False
 | .func (.method _) _ _ => False
 | x => K x
def sli (P : Program) (t : TypeId) (x : Value) (lo hi mx : Option Value) (w : World) (K : Value → Prop) : Prop := dv P (Instr.sliceAt t x lo hi mx) w K
def bld (P : Program) (t : TypeId) (ps : List (Nat × Value)) (w : World) (K : Value → Prop) : Prop := dv P (Instr.build t ps.toArray) w K
def mki (P : Program) (t : TypeId) (x : Value) (w : World) (K : Value → Prop) : Prop := dv P (Instr.makeInterface t x) w K
def tas (P : Program) (x : Value) (t a : TypeId) (ok : Bool) (w : World) (K : Value → Prop) : Prop := dv P (Instr.typeAssert x t a ok) w K
def bl0 (P : Program) (b : Builtin) (ats : Array TypeId) (t : TypeId) (args : List Value) (w : World) (K : Value → Prop) : Prop := ∃ n, rv P (builtin b ats t #[] args.toArray) w = some n ∧ valK K n
def rbin (P : Program) (op : BinOp) (t : TypeId) (cx cy : Bool) (x y : Value) (w : World) (K : Value → Prop) : Prop := rd P (do eqg op t cx cy x y; binOp op t x y) w K
def rcnv (P : Program) (s d : TypeId) (x : Value) (w : World) (K : Value → Prop) : Prop := rd P (convert s d x) w K
def rbl (P : Program) (b : Builtin) (ats : Array TypeId) (t : TypeId) (args : List Value) (w : World) (K : Value → Prop) : Prop := rd P (builtin b ats t #[] args.toArray) w (valK K)
def call (P : Program) (f : FuncId) (args : List Value) (w : World) (K : Value → World → Prop) : Prop := SemA P (callFunc f args.toArray) w (nextK P K)
def callv (P : Program) (f : Value) (args : List Value) (w : World) (K : Value → World → Prop) : Prop := SemA P (do let d ← Deferred.ofValue f args.toArray; invoke d.target d.args) w (nextK P K)
def bl2 (P : Program) (b : Builtin) (ats : Array TypeId) (t : TypeId) (args : List Value) (w : World) (K : Value → World → Prop) : Prop := SemA P (builtin b ats t #[] args.toArray) w (nextK P K)
def sto (P : Program) (t : TypeId) (a x : Value) (w : World) (K : World → Prop) : Prop := SemA P (Instr.storeAt t a x) w (fun _ w => K w)
def alc (P : Program) (t : TypeId) (w : World) (K : Value → World → Prop) : Prop := SemA P (Instr.alloc t true (.tuple #[])) w K
def bx (P : Program) (t : TypeId) (x : Value) (w : World) (K : Value → World → Prop) : Prop := SemA P (Instr.box t x) w K
def bsl (P : Program) (t : TypeId) (n : Nat) (ps : List (Nat × Value)) (w : World) (K : Value → World → Prop) : Prop := SemA P (Instr.buildSlice t n ps.toArray) w K
def mks (P : Program) (t : TypeId) (l c : Value) (w : World) (K : Value → World → Prop) : Prop := SemA P (Instr.makeSlice t l c) w K
def cnv2 (P : Program) (s d : TypeId) (x : Value) (w : World) (K : Value → World → Prop) : Prop := SemA P (convert s d x) w K
def silent : Builtin → Bool
 | .print | .println => false
 | _ => true
def dvN (P : Program) (ρ : Operand → Value) (o : Oper) (w : World) (K : Value → Prop) : Prop :=
 match o.op with
 | .move x => K (ρ x)
 | .assign x => K (ρ x)
 | .pick c a b => pick (ρ c) (ρ a) (ρ b) K
 | .load t a => ld P t (ρ a) w K
 | .indexAddr t x i => ixa P t (ρ x) (ρ i) w K
 | .fieldAddr t x f => fda P t (ρ x) f w K
 | .field t x f => fld P t (ρ x) f w K
 | .index t x i => idx P t (ρ x) (ρ i) w K
 | .binOp op t x y _ => bin P op t (isC x) (isC y) (ρ x) (ρ y) w K
 | .unOp op _ x => una P op (ρ x) w K
 | .convert s d x => cnv P s d (ρ x) w K
 | .extract x i => xtr P (ρ x) i w K
 | .nilCheck x => nch (ρ x) K
 | .slice t x lo hi mx => sli P t (ρ x) (lo.map ρ) (hi.map ρ) (mx.map ρ) w K
 | .build t ps => bld P t (ps.toList.map (fun p => (p.1, ρ p.2))) w K
 | .makeInterface t x => mki P t (ρ x) w K
 | .makeFunc fn f c => K (.func fn (f.toList.map ρ).toArray (c.toList.map ρ).toArray)
 | .typeAssert x t a ok => tas P (ρ x) t a ok w K
 | .call c => match c.callee with
  | .builtin b => cond (silent b) (bl0 P b c.argTypes o.type (c.args.toList.map ρ) w K) False
  | _ => False
 | _ => False
def rdN (P : Program) (ρ : Operand → Value) (o : Oper) (w : World) (K : Value → Prop) : Prop :=
 match o.op with
 | .binOp op t x y _ => rbin P op t (isC x) (isC y) (ρ x) (ρ y) w K
 | .convert s d x => rcnv P s d (ρ x) w K
 | .call c => match c.callee with
  | .builtin b => cond (silent b) (rbl P b c.argTypes o.type (c.args.toList.map ρ) w K) False
  | _ => False
 | _ => False
def chN (P : Program) (ρ : Operand → Value) (o : Oper) (w : World) (K : Value → World → Prop) : Prop :=
 match o.op with
 | .call c => match c.callee with
  | .value f => match f with
   | .func g => call P g (c.args.toList.map ρ) w K
   | f => callv P (ρ f) (c.args.toList.map ρ) w K
  | .builtin b => cond (silent b) (bl2 P b c.argTypes o.type (c.args.toList.map ρ) w K) False
  | _ => False
 | .store t a x => sto P t (ρ a) (ρ x) w (fun w => K undef w)
 | .alloc t => alc P t w K
 | .box t x => bx P t (ρ x) w K
 | .buildSlice t n ps => bsl P t n (ps.toList.map (fun p => (p.1, ρ p.2))) w K
 | .makeSlice t l c => mks P t (ρ l) (ρ c) w K
 | .convert s d x => cnv2 P s d (ρ x) w K
 | _ => False
def opN (P : Program) (ρ : Operand → Value) (o : Oper) (x : It) (w : World) (K : Value → World → Prop) : Prop :=
 match x.2.1 with
 | 0 => dvN P ρ o w (fun v => K v w)
 | 1 => rdN P ρ o w (fun v => K v w)
 | _ => cond x.2.2 (chN P ρ o w (fun v w' => Ext w w' ∧ K v w')) (chN P ρ o w K)
section
variable {P : Program}
theorem V8 {s : Sem Value} {w : World} {K : Value → Prop} (h : dv P s w K) : ∃ n, rv P (do pure (Next.value (← s))) w = some n ∧ valK K n := by
 obtain ⟨x, h1, h2⟩ := h
 exact ⟨.value x, by rw [AR, h1]; rfl, h2⟩
theorem AL {α β : Type} {s : Sem α} {f : α → Sem β} {w : World} {K : β → World → Prop} (h : SemA P s w (fun v w' => SemA P (f v) w' K)) : SemA P (s >>= f) w K := by
 intro c hc
 obtain ⟨v, c', h1, h2⟩ := h c hc
 obtain ⟨u, c'', h3, h4⟩ := h2 c' rfl
 refine ⟨u, c'', ?_, h4⟩
 rw [Sem.run_bind, h1]
 exact h3
theorem AS {α : Type} {a : α} {w : World} {K : α → World → Prop} (h : K a w) : SemA P (pure a : Sem α) w K := fun c hc => ⟨a, c, rfl, by rw [hc]; exact h⟩
theorem WJ {s : Sem Value} {w : World} {K : Value → World → Prop} (h : SemA P s w K) : SemA P (do pure (Next.value (← s))) w (nextK P K) :=
 AL (Hc (fun _ _ q => AS q) h)
theorem Afn (op : BinOp) (t : TypeId) (x y : Operand) (a b : Value) : eqg op t (isC x) (isC y) a b = eqGuard op t x y a b := by
 unfold eqg eqGuard
 cases x <;> cases y <;> simp [isC]
theorem Lt {b : Builtin} (hb : silent b = true) (ats : Array TypeId) (t : TypeId) (cs : Array Bool) (args : Array Value) : builtin b ats t cs args = builtin b ats t #[] args := by
 cases b <;> first | rfl | cases hb
theorem Abh (ps : Array (Nat × Operand)) (ρ : Operand → Value) : (ps.map fun (i, x) => (i, ρ x)) = (ps.toList.map (fun p => (p.1, ρ p.2))).toArray := by
 apply Array.ext'
 simp
theorem OK (xs : Array Operand) (ρ : Operand → Value) : xs.map ρ = (xs.toList.map ρ).toArray := by
 apply Array.ext'
 simp
theorem ZG {ρ : Operand → Value} {o : Oper} {w : World} {K : Value → Prop} (h : dvN P ρ o w K) : dvE P ρ o w K := by
 unfold dvN at h
 unfold dvE
 split at h <;> rename_i hop <;> simp only [execOp, hop]
 case h_1 => exact ⟨_, rfl, h⟩
 case h_2 => exact ⟨_, rfl, h⟩
 case h_3 =>
  unfold pick at h
  split at h
  ·rename_i b hb; rw [hb]; refine ⟨.value _, ?_, h⟩; cases b <;> simp [asBool]
  ·exact h.elim
 case h_9 x y => exact V8 (by rw [← Afn]; exact h)
 case h_13 =>
  unfold nch at h
  split at h
  ·exact h.elim
  ·exact h.elim
  ·exact h.elim
  ·exact h.elim
  ·rename_i h1 h2 h3 h4
   refine ⟨.value _, ?_, h⟩
   split <;> simp_all
 case h_15 => rw [Abh]; exact V8 h
 case h_17 => rw [OK, OK]; exact ⟨.value _, by simp [Instr.makeFunc], h⟩
 case h_19 =>
  split at h
  ·rename_i b hb
   cases hs : silent b
   ·simp [hs] at h
   ·simp only [hs, cond_true] at h
    obtain ⟨n, h1, h2⟩ := h
    refine ⟨n, ?_, h2⟩
    rw [← OK] at h1
    simp only [resolve, hb, AR, HG, Option.bind_some, invoke]
    rw [Lt hs]
    exact h1
  ·exact h.elim
 all_goals first | exact h.elim | exact V8 h
theorem Age {ρ : Operand → Value} {o : Oper} {w : World} {K : Value → Prop} (h : rdN P ρ o w K) : rdE P ρ o w K := by
 unfold rdN at h
 unfold rdE
 split at h <;> rename_i hop <;> simp only [execOp, hop]
 case h_1 op t x y _ =>
  rw [CG, ← Afn]
  exact h
 case h_2 => rw [CG]; exact h
 case h_3 =>
  split at h
  ·rename_i b hb
   cases hs : silent b
   ·simp [hs] at h
   ·simp only [hs, cond_true] at h
    unfold rbl at h
    rw [← OK] at h
    simp only [resolve, hb, CG, Yz, invoke]
    rw [Lt hs]
    exact h
  ·exact h.elim
 all_goals exact h.elim
theorem QB {α β : Type} {a : α} {f : α → Sem β} {w : World} {K : β → World → Prop} (h : SemA P (f a) w K) : SemA P (pure a >>= f) w K := h
theorem Zs {ρ : Operand → Value} (hρ : ∀ g, ρ (.func g) = .func (.func g) #[] #[]) {o : Oper} {w : World} {K : Value → World → Prop} (h : chN P ρ o w K) : chE P ρ o w K := by
 unfold chN at h
 unfold chE
 split at h <;> rename_i hop <;> simp only [execOp, hop]
 case h_1 c =>
  split at h
  ·rename_i f hf
   split at h
   ·rename_i g
    unfold call at h
    rw [← OK] at h
    simp only [resolve, hf, hρ, Deferred.ofValue]
    refine QB ?_
    simp only [invoke, Array.empty_append, Array.append_empty]
    exact h
   ·unfold callv at h
    rw [← OK] at h
    simp only [resolve, hf]
    exact h
  ·rename_i b hb
   cases hs : silent b
   ·simp [hs] at h
   ·simp only [hs, cond_true] at h
    unfold bl2 at h
    rw [← OK] at h
    simp only [resolve, hb]
    refine QB ?_
    simp only [invoke]
    rw [Lt hs]
    exact h
  ·exact h.elim
 case h_2 => exact AL (Hc (fun _ _ q => AS q) h)
 case h_5 => rw [Abh]; exact WJ h
 all_goals first | exact h.elim | exact WJ h
theorem Pt {ρ : Operand → Value} (hρ : ∀ g, ρ (.func g) = .func (.func g) #[] #[]) {o : Oper} {x : It} {w : World} {K : Value → World → Prop} (h : opN P ρ o x w K) : opS P ρ o x w K := by
 unfold opN at h
 unfold opS
 split at h
 ·rename_i h0; simp only [h0]; exact ZG h
 ·rename_i h0; simp only [h0]; exact Age h
 ·rename_i h0 h1
  split
  ·rename_i e; exact absurd e h0
  ·rename_i e; exact absurd e h1
  ·cases hx : x.2.2
   ·simp only [hx, cond_false] at h
    refine I5 (fun v w' q => ⟨fun e => ?_, q⟩) (Zs hρ h)
    cases e
   ·simp only [hx, cond_true] at h
    exact I5 (fun v w' q => ⟨fun _ => q.1, q.2⟩) (Zs hρ h)
end
def look : List Nat → List Value → Nat → Option Value
 | d :: L, v :: l, k => cond (Nat.beq k d) (some v) (look L l k)
 | _, _, _ => none
def mix (L : List Nat) (l : List Value) (W : Nat) (junk e : Env) : Env := fun k => match look L l k with
 | some v => v
 | none => cond (Nat.testBit W k) (junk k) (e k)
def Fn : Nat → Type
 | 0 => World → Prop
 | n + 1 => Value → Fn n
def ap : (n : Nat) → Fn n → List Value → World → Prop
 | 0, J, _, w => J w
 | n + 1, J, v :: l, w => ap n (J v) l w
 | _ + 1, _, [], _ => False
def allV : Nat → (List Value → Prop) → Prop
 | 0, p => p []
 | n + 1, p => ∀ x, allV n (fun l => p (x :: l))
def grd (v : Value) (want : Bool) (A B : Prop) : Prop := match v with
 | .bool b => cond (b == want) A B
 | _ => B
inductive Item where
 | op (x : It)
 | grp (j : Nat) (want : Bool) (xs : List It) (L : List Nat) (W : Nat)
def vcX (P : Program) (ops : List Oper) : List It → Env → World → (Env → World → Prop) → Prop
 | [], e, w, K => K e w
 | x :: r, e, w, K => match nth ops x.1 with
  | none => False
  | some o => opN P (ev e) o x w (fun v w' => vcX P ops r (upd e o.dst v) w' K)
def RcN0 : Rc := fun _ _ => False
def rcN (P : Program) (R : Rc) (e : Env) (o : Oper) (x : It) (v : Value) : Rc :=
 fun k => cond (recs o x && Nat.beq k x.1) (fun w => dvN P (ev e) o w (fun z => z = v)) (R k)
def vcG (P : Program) (ops : List Oper) : List Item → Rc → Env → World → (Env → World → Prop) → Prop
 | [], _, e, w, K => K e w
 | .op x :: r, R, e, w, K => match nth ops x.1 with
  | none => False
  | some o => opN P (ev e) o x w (fun v w' => pend x.2.1 R w' (vcG P ops r (rcN P R e o x v) (upd e o.dst v) w' K))
 | .grp j want xs L W :: r, R, e, w, K => ∃ J : Fn L.length, allV L.length (fun l => ∀ (junk : Env) (w' : World), ap L.length J l w' → vcG P ops r R (mix L l W junk e) w' K) ∧
   grd (gv ops e j) want (vcX P ops xs e w (fun e' w' => ap L.length J (L.map e') w')) (ap L.length J (L.map (fun _ => undef)) w)
def flat : List Item → List It
 | [] => []
 | .op x :: r => x :: flat r
 | .grp _ _ xs _ _ :: r => xs ++ flat r
def mstep (ops : List Oper) (s : Nat) (x : It) : Nat := match nth ops x.1 with
 | some o => match o.dst with
  | some d => s ||| 2 ^ d
  | none => s
 | none => s
def dstMask (ops : List Oper) (xs : List It) : Nat := xs.foldl (mstep ops) 0
def itemsOk (ops : List Oper) : List Item → Bool
 | [] => true
 | .op x :: r => (match nth ops x.1 with
  | some o => o.guard.isNone
  | none => false) && itemsOk ops r
 | .grp j want xs L W :: r => xs.all (fun x => match nth ops x.1 with
   | some o => o.guard == some (j, want) && Nat.ble x.2.1 2
   | none => false) &&
  (match nth ops j with
   | some o => match o.dst with
    | some d => !(dstMask ops xs).testBit d
    | none => false
   | none => false) &&
  ((dstMask ops xs ||| W) == W) && L.all (fun d => (dstMask ops xs).testBit d) && itemsOk ops r
theorem U5 (e : Env) : ∀ g, ev e (.func g) = .func (.func g) #[] #[] := fun _ => rfl
theorem OO {p : List Value → Prop} : ∀ {n : Nat}, allV n p → ∀ l : List Value, l.length = n → p l
 | 0, h, [], _ => h
 | n + 1, h, v :: l, hl => OO (p := fun l => p (v :: l)) (h v) l (by simpa using hl)
theorem AaS {e : Env} : ∀ (L : List Nat) (k : Nat), look L (L.map e) k = none ∨ look L (L.map e) k = some (e k)
 | [], k => .inl rfl
 | d :: L, k => by
  simp only [List.map_cons, look]
  cases hb : Nat.beq k d
  ·exact AaS L k
  ·rw [Nat.eq_of_beq_eq_true hb]; exact .inr rfl
theorem RV {L : List Nat} {W : Nat} {e e' : Env} (h : ∀ k, W.testBit k = false → e' k = e k) : mix L (L.map e') W e' e = e' := by
 funext k
 unfold mix
 rcases AaS (e := e') L k with hl | hl
 ·rw [hl]
  cases hb : W.testBit k
  ·simp only [cond_false]; exact (h k hb).symm
  ·rfl
 ·rw [hl]
def Agree (W : Nat) (e e' : Env) : Prop := ∀ k, W.testBit k = false → e' k = e k
theorem Agree.refl (W : Nat) (e : Env) : Agree W e e := fun _ _ => rfl
theorem Agree.trans {W : Nat} {a b c : Env} (h : Agree W a b) (k : Agree W b c) : Agree W a c := fun i hi => (k i hi).trans (h i hi)
theorem Agree.mono {W W' : Nat} {a b : Env} (h : Agree W a b) (hw : ∀ k, W.testBit k = true → W'.testBit k = true) : Agree W' a b := fun k hk => h k (by
 cases hb : W.testBit k
 ·rfl
 ·rw [hw k hb] at hk; cases hk)
theorem Agree.upd {W : Nat} {e : Env} {dst : Option Nat} (v : Value) (h : ∀ d, dst = some d → W.testBit d = true) : Agree W e (upd e dst v) := by
 intro k hk
 cases dst with
 | none => rfl
 | some d =>
  simp only [Vc.upd]
  cases hb : Nat.beq k d
  ·rfl
  ·rw [Nat.eq_of_beq_eq_true hb, h d rfl] at hk; cases hk
theorem AdJ {ops : List Oper} {s k : Nat} (x : It) (h : s.testBit k = true) : (mstep ops s x).testBit k = true := by
 unfold mstep
 split
 ·split
  ·rw [Nat.testBit_or, h]; rfl
  ·exact h
 ·exact h
theorem Af4 {ops : List Oper} {s d : Nat} {x : It} {o : Oper} (ho : nth ops x.1 = some o) (hd : o.dst = some d) : (mstep ops s x).testBit d = true := by
 unfold mstep
 rw [ho]; simp only [hd]
 rw [Nat.testBit_or, Nat.testBit_two_pow]; simp
theorem TN (ops : List Oper) (k : Nat) : ∀ (xs : List It) (s : Nat), s.testBit k = true → (xs.foldl (mstep ops) s).testBit k = true
 | [], _, h => h
 | x :: xs, _, h => TN ops k xs _ (AdJ x h)
theorem Qh (ops : List Oper) : ∀ (xs : List It) (s : Nat) (x : It) (o : Oper) (d : Nat), x ∈ xs → nth ops x.1 = some o → o.dst = some d → (xs.foldl (mstep ops) s).testBit d = true
 | [], _, _, _, _, hx, _, _ => by cases hx
 | y :: xs, s, x, o, d, hx, ho, hd => by
  rw [List.foldl_cons]
  rcases List.mem_cons.1 hx with h | h
  ·subst h; exact TN ops d xs _ (Af4 ho hd)
  ·exact Qh ops xs _ x o d h ho hd
theorem NA {a W : Nat} (h : (a ||| W) = W) : ∀ k, a.testBit k = true → W.testBit k = true := by
 intro k hk
 rw [← h, Nat.testBit_or, hk]; rfl
section
variable {P : Program} {ops : List Oper}
theorem Uw {W : Nat} {K : Rc → Env → World → Prop} : ∀ {xs : List It} {R : Rc} {e : Env} {w : World}, (∀ x ∈ xs, ∀ o, nth ops x.1 = some o → ∀ d, o.dst = some d → W.testBit d = true) → vcO P ops xs R e w K →
  vcO P ops xs R e w (fun R' e' w' => K R' e' w' ∧ Agree W e e')
 | [], R, e, w, _, h => ⟨h, Agree.refl _ _⟩
 | x :: xs, R, e, w, hW, h => by
  simp only [vcO] at h ⊢
  have key : stepO P ops x R e w (fun R' e' w' => vcO P ops xs R' e' w' K ∧ Agree W e e') := by
   unfold stepO at h ⊢
   split at h
   ·exact h
   ·rename_i o ho
    have hd := hW x (by simp) o ho
    split at h
    ·rename_i hw; rw [if_pos hw]; exact FA (fun v w' q => IT (fun _ q => q) (fun q => ⟨q, Agree.upd v hd⟩) q) h
    ·rename_i hw; rw [if_neg hw]; exact ⟨h, Agree.upd _ hd⟩
  exact Et (fun R' e' w' q => O7 (fun R'' e'' w'' q2 => ⟨q2.1, q.2.trans q2.2⟩) (Uw (fun y hy => hW y (by simp [hy])) q.1)) key
theorem RQ {xs ys : List It} {K : Rc → Env → World → Prop} : ∀ {R : Rc} {e : Env} {w : World}, vcO P ops xs R e w (fun R' e' w' => vcO P ops ys R' e' w' K) → vcO P ops (xs ++ ys) R e w K := by
 induction xs with
 | nil => intro R e w h; exact h
 | cons x xs ih => intro R e w h; exact Et (fun _ _ _ q => ih q) h
theorem Aie {j : Nat} {want : Bool} {K : Env → World → Prop} : ∀ {xs : List It} {R : Rc} {e : Env} {w : World}, (∀ x ∈ xs, ∃ o, nth ops x.1 = some o ∧ o.guard = some (j, want) ∧ x.2.1 ≤ 2 ∧ (∀ d e v, o.dst = some d → gv ops (upd e (some d) v) j = gv ops e j)) →
  wantB (gv ops e j) want = true → vcX P ops xs e w K → vcO P ops xs R e w (fun R' e' w' => R' = R ∧ K e' w')
 | [], _, _, _, _, _, h => ⟨rfl, h⟩
 | x :: xs, R, e, w, hx, hw, h => by
  obtain ⟨o, ho, hg, h2, hd⟩ := hx x (by simp)
  simp only [vcX, ho] at h
  simp only [vcO, stepO, ho, Vw h2]
  rw [if_pos (by simp only [wantedE, hg]; exact hw)]
  refine FA (fun v w' q => ?_) (Pt (U5 e) h)
  have hR : rcd P R e o x v = R := by
   funext k
   unfold rcd recs
   rw [hg]; simp
  rw [hR]
  refine Aie (fun y hy => hx y (by simp [hy])) ?_ q
  cases hdst : o.dst with
  | none => exact hw
  | some d => rw [hd d e v hdst]; exact hw
theorem AfE {j : Nat} {want : Bool} {K : Rc → Env → World → Prop} : ∀ {xs : List It} {R : Rc} {e : Env} {w : World}, (∀ x ∈ xs, ∃ o, nth ops x.1 = some o ∧ o.guard = some (j, want) ∧ x.2.1 ≤ 2 ∧ (∀ d e v, o.dst = some d → gv ops (upd e (some d) v) j = gv ops e j)) →
  wantB (gv ops e j) want = false → (∀ e', (∀ x ∈ xs, ∀ o, nth ops x.1 = some o → ∀ d, o.dst = some d → e' d = undef) → (∀ k, (∀ x ∈ xs, ∀ o, nth ops x.1 = some o → o.dst ≠ some k) → e' k = e k) → K R e' w) → vcO P ops xs R e w K
 | [], R, e, w, _, _, h => h e (fun _ hx => by cases hx) (fun _ _ => rfl)
 | x :: xs, R, e, w, hx, hw, h => by
  obtain ⟨o, ho, hg, h2', hd⟩ := hx x (by simp)
  simp only [vcO, stepO, ho]
  rw [if_neg (by simp only [wantedE, hg, hw]; simp)]
  refine AfE (fun y hy => hx y (by simp [hy])) ?_ ?_
  ·cases hdst : o.dst with
   | none => exact hw
   | some d => rw [hd d e undef hdst]; exact hw
  ·intro e' h1 h2
   refine h e' ?_ ?_
   ·intro y hy oy hoy d hdy
    by_cases hin : ∃ z ∈ xs, ∃ oz, nth ops z.1 = some oz ∧ oz.dst = some d
    ·obtain ⟨z, hz, oz, hoz, hdz⟩ := hin
     exact h1 z hz oz hoz d hdz
    ·have hno : ∀ z ∈ xs, ∀ oz, nth ops z.1 = some oz → oz.dst ≠ some d := fun z hz oz hoz hdz => hin ⟨z, hz, oz, hoz, hdz⟩
     rw [h2 d hno]
     rcases List.mem_cons.1 hy with rfl | hy
     ·rw [ho] at hoy; cases hoy
      simp [upd, hdy]
     ·exact absurd hdy (hno y hy oy hoy)
   ·intro k hk
    rw [h2 k fun y hy => hk y (by simp [hy])]
    have := hk x (by simp) o ho
    cases hdst : o.dst with
    | none => rfl
    | some d =>
     simp only [upd]
     cases hb : Nat.beq k d
     ·rfl
     ·rw [Nat.eq_of_beq_eq_true hb] at this; exact absurd hdst this
theorem XU {R R' : Rc} {e : Env} {o : Oper} {x : It} {v : Value} (hR : ∀ k w, R k w → R' k w) : ∀ k w, rcN P R e o x v k w → rcd P R' e o x v k w := by
 intro k w h
 unfold rcN at h
 unfold rcd
 cases hb : (recs o x && Nat.beq k x.1)
 ·rw [hb] at h; exact hR k w h
 ·rw [hb] at h; exact ZG h
theorem Aef {K : Env → World → Prop} : ∀ {is : List Item} {R R' : Rc} {e : Env} {w : World}, (∀ k w, R k w → R' k w) → itemsOk ops is = true → vcG P ops is R e w K → vcO P ops (flat is) R' e w (fun _ e' w' => K e' w')
 | [], _, _, _, _, _, _, h => h
 | .op x :: r, R, R', e, w, hR, hok, h => by
  simp only [itemsOk, Bool.and_eq_true] at hok
  obtain ⟨h1, h2⟩ := hok
  simp only [vcG] at h
  simp only [flat, vcO, stepO]
  split at h
  ·exact h.elim
  ·rename_i o ho
   rw [ho] at h1
   have hg : o.guard = none := by simpa using h1
   simp only [ho]
   rw [if_pos (by simp only [wantedE, hg])]
   exact FA (fun v w' q => IT (fun p => hR p w') (fun q => Aef (XU hR) h2 q) q) (Pt (U5 e) h)
 | .grp j want xs L W :: r, R, R', e, w, hR, hok, h => by
  simp only [itemsOk, Bool.and_eq_true, List.all_eq_true, beq_iff_eq] at hok
  obtain ⟨⟨⟨⟨h1, h2⟩, h3⟩, h4⟩, h5⟩ := hok
  simp only [vcG] at h
  obtain ⟨J, hJ, hg⟩ := h
  have hmask := NA h3
  have hj : ∀ d, (dstMask ops xs).testBit d = true → ∀ e v, gv ops (upd e (some d) v) j = gv ops e j := by
   intro d hd e v
   unfold gv
   split at h2
   ·rename_i oj hoj
    split at h2
    ·rename_i t ht
     simp only [hoj, ht]
     simp only [upd]
     cases hb : Nat.beq t d
     ·rfl
     ·rw [Nat.eq_of_beq_eq_true hb, hd] at h2; simp at h2
    ·cases h2
   ·cases h2
  have hxs : ∀ x ∈ xs, ∃ o, nth ops x.1 = some o ∧ o.guard = some (j, want) ∧ x.2.1 ≤ 2 ∧ (∀ d e v, o.dst = some d → gv ops (upd e (some d) v) j = gv ops e j) := by
   intro x hx
   have := h1 x hx
   split at this
   ·rename_i o ho
    simp only [Bool.and_eq_true, beq_iff_eq] at this
    exact ⟨o, ho, this.1, Nat.le_of_ble_eq_true this.2, fun d e v hd => hj d (Qh ops xs 0 x o d hx ho hd) e v⟩
   ·cases this
  have hdst : ∀ x ∈ xs, ∀ o, nth ops x.1 = some o → ∀ d, o.dst = some d → W.testBit d = true := fun x hx o ho d hd => hmask d (Qh ops xs 0 x o d hx ho hd)
  simp only [flat]
  refine RQ ?_
  have fin : ∀ e' w', ap L.length J (L.map e') w' → Agree W e e' → vcO P ops (flat r) R' e' w' (fun _ e' w' => K e' w') := by
   intro e' w' ha hag
   have := OO hJ (L.map e') (by simp) e' w' ha
   rw [RV hag] at this
   exact Aef hR h5 this
  by_cases hw : wantB (gv ops e j) want = true
  ·have hX : vcX P ops xs e w (fun e' w' => ap L.length J (L.map e') w') := by
    unfold grd at hg
    unfold wantB at hw
    split at hg
    ·rename_i b hb; rw [hb] at hw; simp only at hw; rw [hw] at hg; exact hg
    ·rename_i hno
     split at hw
     ·rename_i b hb; exact absurd hb (hno b)
     ·cases hw
   exact O7 (fun R2 e' w' q => by rw [q.1.1]; exact fin e' w' q.1.2 q.2) (Uw hdst (Aie (R := R') hxs hw hX))
  ·have hw' : wantB (gv ops e j) want = false := by simpa using hw
   have hX : ap L.length J (L.map (fun _ => undef)) w := by
    unfold grd at hg
    unfold wantB at hw'
    split at hg
    ·rename_i b hb; rw [hb] at hw'; simp only at hw'; rw [hw'] at hg; exact hg
    ·exact hg
   refine AfE hxs hw' fun e' hu hk => fin e' w ?_ ?_
   ·have : L.map e' = L.map (fun _ => undef) := by
     refine List.map_congr_left fun d hd => ?_
     have hb := h4 d hd
     refine Classical.byContradiction fun hne => ?_
     have hno : ∀ x ∈ xs, ∀ o, nth ops x.1 = some o → o.dst ≠ some d := fun x hx o ho hdd => hne (hu x hx o ho d hdd)
     have : (dstMask ops xs).testBit d = false := by
      have gen : ∀ (xs : List It) (s : Nat), (∀ x ∈ xs, ∀ o, nth ops x.1 = some o → o.dst ≠ some d) → s.testBit d = false → (xs.foldl (mstep ops) s).testBit d = false := by
       intro xs
       induction xs with
       | nil => intro s _ h; exact h
       | cons x xs ih =>
        intro s hx hs
        simp only [List.foldl_cons]
        refine ih _ (fun y hy => hx y (by simp [hy])) ?_
        unfold mstep
        split
        ·rename_i o ho
         split
         ·rename_i d' hd'
          have hne' : d' ≠ d := fun he => hx x (by simp) o ho (he ▸ hd')
          rw [Nat.testBit_or, hs, Nat.testBit_two_pow]
          simp [hne']
         ·exact hs
        ·exact hs
      exact gen xs 0 hno (by simp)
     rw [this] at hb; cases hb
    rw [this]; exact hX
   ·intro k hkW
    refine hk k fun x hx o ho hd => ?_
    have := hdst x hx o ho k hd
    rw [hkW] at this; cases this
end
end Go.Vc
