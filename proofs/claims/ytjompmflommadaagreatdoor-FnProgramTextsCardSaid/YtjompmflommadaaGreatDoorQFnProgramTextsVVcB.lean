import Derived.Test.YtjompmflommadaaGreatDoorQFnProgramTextsVVcA
set_option linter.unusedSimpArgs false
set_option linter.unusedVariables false
namespace Go.Vc
open Go
def nth : List Oper → Nat → Option Oper
 | [], _ => none
 | o :: _, 0 => some o
 | _ :: r, n + 1 => nth r n
theorem CY : ∀ (l : List Oper) (i : Nat), nth l i = l[i]?
 | [], _ => by simp [nth]
 | o :: _, 0 => by simp [nth]
 | _ :: r, n + 1 => by simp [nth, CY r n]
def gv (ops : List Oper) (e : Env) (j : Nat) : Value := match nth ops j with
 | some o => match o.dst with
  | some d => e d
  | none => undef
 | none => undef
def wantB (v : Value) (want : Bool) : Bool := match v with
 | .bool b => b == want
 | _ => false
def wantedE (ops : List Oper) (e : Env) (o : Oper) : Bool := match o.guard with
 | none => true
 | some (j, want) => wantB (gv ops e j) want
theorem Ae4 {n : Nat} {a : Act} {e : Env} (h : Rep n a e) (ops : Array Oper) (o : Oper) : Region.wanted o (yielded ops a.tmps) = wantedE ops.toList e o := by
 unfold Region.wanted wantedE
 cases hg : o.guard with
 | none => rfl
 | some g =>
  obtain ⟨j, want⟩ := g
  simp only [yielded, gv, CY, Array.getElem?_toList]
  cases ho : ops[j]? with
  | none => simp [wantB, undef]
  | some oj =>
   cases hd : oj.dst with
   | none => simp [wantB, undef, hd]
   | some d =>
    have hv := h.val d
    simp only [Option.bind_some, hd]
    rw [← hv, Array.getD_eq_getD_getElem?]
    cases hx : a.tmps[d]? with
    | none => simp [wantB, undef]
    | some v => cases v <;> simp [wantB]
abbrev It := Nat × Nat × Bool
def opS (P : Program) (ρ : Operand → Value) (o : Oper) (x : It) (w : World) (K : Value → World → Prop) : Prop :=
 match x.2.1 with
 | 0 => dvE P ρ o w (fun v => K v w)
 | 1 => rdE P ρ o w (fun v => K v w)
 | _ => chE P ρ o w (fun v w' => (x.2.2 = true → Ext w w') ∧ K v w')
abbrev Rc := Nat → World → Prop
def Rc0 : Rc := fun _ _ => True
def recs (o : Oper) (x : It) : Bool := Nat.beq x.2.1 0 && o.guard.isNone
def rcd (P : Program) (R : Rc) (e : Env) (o : Oper) (x : It) (v : Value) : Rc :=
 fun k => cond (recs o x && Nat.beq k x.1) (fun w => dvE P (ev e) o w (fun z => z = v)) (R k)
def pbits (k : Nat) : List Nat := (List.range 250).filter (fun p => Nat.testBit (k - 2) p)
def pendL (R : Rc) (w : World) (Q : Prop) : List Nat → Prop
 | [] => Q
 | p :: r => R p w ∧ pendL R w Q r
def pend (k : Nat) (R : Rc) (w : World) (Q : Prop) : Prop :=
 match k with
 | k + 3 => pendL R w Q (pbits (k + 3))
 | _ => Q
def stepO (P : Program) (ops : List Oper) (x : It) (R : Rc) (e : Env) (w : World) (K : Rc → Env → World → Prop) : Prop :=
 match nth ops x.1 with
 | none => False
 | some o => if wantedE ops e o = true then opS P (ev e) o x w (fun v w' => pend x.2.1 R w' (K (rcd P R e o x v) (upd e o.dst v) w')) else K R (upd e o.dst undef) w
def vcO (P : Program) (ops : List Oper) : List It → Rc → Env → World → (Rc → Env → World → Prop) → Prop
 | [], R, e, w, K => K R e w
 | x :: r, R, e, w, K => stepO P ops x R e w (fun R' e' w' => vcO P ops r R' e' w' K)
theorem Zt {R : Rc} {w : World} {Q : Prop} : ∀ {l : List Nat}, pendL R w Q l ↔ (∀ p ∈ l, R p w) ∧ Q
 | [] => by simp [pendL]
 | p :: r => by simp only [pendL, Zt (l := r), List.mem_cons, forall_eq_or_imp, and_assoc]
theorem Oa {k : Nat} {R : Rc} {w : World} {Q : Prop} : pend k R w Q ↔ (3 ≤ k → ∀ p ∈ pbits k, R p w) ∧ Q := by
 unfold pend
 split
 ·rename_i n
  rw [Zt]
  exact ⟨fun h => ⟨fun _ => h.1, h.2⟩, fun h => ⟨h.1 (by omega), h.2⟩⟩
 ·rename_i n h
  refine ⟨fun q => ⟨fun h3 => ?_, q⟩, fun q => q.2⟩
  exfalso
  exact h (k - 3) (by omega)
theorem Vw {k : Nat} {R : Rc} {w : World} {Q : Prop} (h : k ≤ 2) : pend k R w Q = Q :=
 propext (by rw [Oa]; exact ⟨fun q => q.2, fun q => ⟨fun h3 => by omega, q⟩⟩)
theorem IT {k : Nat} {R R' : Rc} {w : World} {Q Q' : Prop} (hR : ∀ p, R p w → R' p w) (h : Q → Q') (hp : pend k R w Q) : pend k R' w Q' := by
 rw [Oa] at *
 exact ⟨fun h3 p hp' => hR p (hp.1 h3 p hp'), h hp.2⟩
theorem AbL {a b : Nat} (h : a ≠ b) : Nat.beq a b = false := by
 cases hb : Nat.beq a b
 ·rfl
 ·exact absurd (Nat.eq_of_beq_eq_true hb) h
theorem Ml {P : Program} {R : Rc} {e : Env} {o : Oper} {x : It} {v : Value} {k : Nat} (h : k ≠ x.1) : rcd P R e o x v k = R k := by
 unfold rcd
 have : Nat.beq k x.1 = false := AbL h
 rw [this, Bool.and_false, cond_false]
theorem AbV {P : Program} {R : Rc} {e : Env} {ox oy : Oper} {x y : It} {v u : Value} (h : x.1 ≠ y.1) : rcd P (rcd P R e ox x v) e oy y u = rcd P (rcd P R e oy y u) e ox x v := by
 funext k
 by_cases hx : k = x.1
 ·subst hx
  rw [Ml h]
  unfold rcd
  have : Nat.beq x.1 y.1 = false := AbL h
  simp only [this, Bool.and_false, cond_false]
 ·rw [Ml (x := x) hx]
  unfold rcd
  have : Nat.beq k x.1 = false := AbL hx
  simp only [this, Bool.and_false, cond_false]
variable {P : Program} {ops : List Oper}
theorem I5 {ρ : Operand → Value} {o : Oper} {w : World} {K K' : Value → World → Prop} (h : ∀ v w', K v w' → K' v w') (hs : chE P ρ o w K) : chE P ρ o w K' :=
 Hc (AdC h) hs
theorem Abc {ρ : Operand → Value} {o : Oper} {w : World} {K K' : Value → Prop} (h : ∀ v, K v → K' v) (hs : rdE P ρ o w K) : rdE P ρ o w K' :=
 QR (Mw h) _ hs
theorem Abw {ρ : Operand → Value} {o : Oper} {w : World} {K K' : Value → Prop} (h : ∀ v, K v → K' v) (hs : dvE P ρ o w K) : dvE P ρ o w K' :=
 let ⟨n, h1, h2⟩ := hs
 ⟨n, h1, Mw h _ h2⟩
theorem AdL {ρ : Operand → Value} {o : Oper} {w : World} {K : Value → Prop} (hs : dvE P ρ o w K) : rdE P ρ o w K :=
 let ⟨_, h1, h2⟩ := hs
 Cl _ h1 h2
theorem WP {ρ : Operand → Value} {o : Oper} {w : World} {K : Value → World → Prop} (hs : rdE P ρ o w (fun v => K v w)) : chE P ρ o w K :=
 EO (QR (fun _ h => Aeh h) _ hs)
theorem FA {ρ : Operand → Value} {o : Oper} {x : It} {w : World} {K K' : Value → World → Prop} (h : ∀ v w', K v w' → K' v w') (hs : opS P ρ o x w K) : opS P ρ o x w K' := by
 unfold opS at *
 split at hs
 ·exact Abw (fun v q => h _ _ q) hs
 ·exact Abc (fun v q => h _ _ q) hs
 ·exact I5 (fun v w' q => ⟨q.1, h _ _ q.2⟩) hs
theorem Akr {ρ : Operand → Value} {o : Oper} {x : It} {w : World} {K : Value → World → Prop} (hs : opS P ρ o x w K) : chE P ρ o w K := by
 unfold opS at *
 split at hs
 ·exact WP (AdL hs)
 ·exact WP hs
 ·exact I5 (fun v w' q => q.2) hs
theorem UZ {x : It} {R : Rc} {e : Env} {w : World} {K K' : Rc → Env → World → Prop} (h : ∀ R' e w, (∀ k, k ≠ x.1 → R' k = R k) → K R' e w → K' R' e w) (hs : stepO P ops x R e w K) : stepO P ops x R e w K' := by
 unfold stepO at *
 split at hs
 ·exact hs
 ·split at hs
  ·rename_i h1; rw [if_pos h1]; exact FA (fun v w' q => IT (fun _ q => q) (fun q => h _ _ _ (fun k hk => Ml hk) q) q) hs
  ·rename_i h1; rw [if_neg h1]; exact h _ _ _ (fun _ _ => rfl) hs
theorem Et {x : It} {R : Rc} {e : Env} {w : World} {K K' : Rc → Env → World → Prop} (h : ∀ R e w, K R e w → K' R e w) (hs : stepO P ops x R e w K) : stepO P ops x R e w K' :=
 UZ (fun R' e w _ q => h R' e w q) hs
theorem O7 {K K' : Rc → Env → World → Prop} (h : ∀ R e w, K R e w → K' R e w) : ∀ {l : List It} {R : Rc} {e : Env} {w : World}, vcO P ops l R e w K → vcO P ops l R e w K'
 | [], _, _, _, hs => h _ _ _ hs
 | _ :: _, _, _, _, hs => Et (fun _ _ _ q => O7 h q) hs
theorem AgI (e : Env) {x y : Option Nat} (v u : Value) (h : ∀ d, x = some d → y ≠ some d) : upd (upd e x v) y u = upd (upd e y u) x v := by
 cases x with
 | none => rfl
 | some d =>
  cases y with
  | none => rfl
  | some f =>
   funext k
   have hne : d ≠ f := fun he => h d rfl (he ▸ rfl)
   simp only [upd]
   cases h1 : Nat.beq k f <;> cases h2 : Nat.beq k d <;> simp
   exact absurd ((Nat.eq_of_beq_eq_true h2).symm.trans (Nat.eq_of_beq_eq_true h1)) hne
theorem Afk {e : Env} {dst : Option Nat} {v : Value} {x : Operand} (h : ∀ d, dst = some d → x ≠ .tmp d) : ev (upd e dst v) x = ev e x := by
 cases dst with
 | none => rfl
 | some d =>
  cases x with
  | tmp t =>
   simp only [ev, upd]
   cases hb : Nat.beq t d
   ·rfl
   ·exact absurd (congrArg Operand.tmp (Nat.eq_of_beq_eq_true hb)) (h d rfl)
  | _ => rfl
theorem Xt (o : Oper) (hs : ∀ cs b, o.op ≠ .select cs b) (e : Env) (dst : Option Nat) (v : Value) (h : ∀ d, dst = some d → d ∉ o.looksAt ops.toArray) :
  execOp (ev (upd e dst v)) o = execOp (ev e) o :=
 execOp_congr o hs fun x hx => Afk fun d hd hxd => h d hd (by
  subst hxd
  exact List.mem_append_left _ (List.mem_filterMap.2 ⟨.tmp d, by simpa using hx, rfl⟩))
theorem Vp (o : Oper) (e : Env) (dst : Option Nat) (v : Value) (h : ∀ d, dst = some d → d ∉ o.looksAt ops.toArray) :
  wantedE ops (upd e dst v) o = wantedE ops e o := by
 unfold wantedE
 cases hg : o.guard with
 | none => rfl
 | some g =>
  obtain ⟨j, want⟩ := g
  simp only [gv]
  cases ho : nth ops j with
  | none => rfl
  | some oj =>
   cases hd : oj.dst with
   | none => simp only [hd]
   | some t =>
    simp only [hd]
    have : upd e dst v t = e t := by
     have := @Afk e dst v (.tmp t) (fun d hd' hx => h d hd' (by
      cases hx
      refine List.mem_append_right _ ?_
      rw [CY] at ho
      simp [hg, ho, hd]))
     exact this
    rw [this]
def notSel (o : Oper) : Bool := match o.op with
 | .select .. => false
 | _ => true
theorem Vs {o : Oper} (h : notSel o = true) : ∀ cs b, o.op ≠ .select cs b := by
 intro cs b hc
 simp [notSel, hc] at h
def isMove (o : Oper) : Bool := match o.op with
 | .move _ => true
 | .assign _ => true
 | _ => false
theorem Ajm {P : Program} {ρ : Operand → Value} {o : Oper} (h : isMove o = true) (w w' : World) : rv P (execOp ρ o) w = rv P (execOp ρ o) w' := by
 unfold isMove at h
 split at h
 ·rename_i x hx; unfold execOp; rw [hx]; rfl
 ·rename_i x hx; unfold execOp; rw [hx]; rfl
 ·cases h
def okPair (ops : List Oper) (x y : It) : Bool :=
 match nth ops x.1, nth ops y.1 with
 | some ox, some oy => ox.apart ops.toArray oy && notSel ox && notSel oy && (match x.2.1, y.2.1 with
  | 0, 0 => true
  | 0, 1 => true
  | 1, 0 => true
  | 1, 1 => true
  | 0, k => y.2.2 || isMove ox || (ox.guard.isNone && (3 ≤ k : Bool) && (pbits k).contains x.1)
  | _, _ => false)
 | _, _ => false
theorem swap0 {ρ : Operand → Value} {ox oy : Oper} {x y : It} {w : World} {K : Value → Value → World → Prop} (hx : x.2.1 = 0) (hy : y.2.1 = 0 ∨ y.2.1 = 1 ∨ y.2.2 = true ∨ (∀ w1 w2, rv P (execOp ρ ox) w1 = rv P (execOp ρ ox) w2) ∨ (∀ v u w', K v u w' → dvE P ρ ox w' (fun z => z = v)))
  (h : opS P ρ ox x w (fun v w' => opS P ρ oy y w' (fun u w'' => K v u w''))) : opS P ρ oy y w (fun u w' => opS P ρ ox x w' (fun v w'' => K v u w'')) := by
 unfold opS at h
 simp only [hx] at h
 obtain ⟨n, hn, hv⟩ := h
 have key : ∃ v, opS P ρ oy y w (fun u w'' => K v u w'') ∧ ∀ w', rv P (execOp ρ ox) w' = some n → ∀ {K' : Value → World → Prop}, K' v w' → opS P ρ ox x w' K' := by
  cases n <;> simp only [valK] at hv
  case value v => exact ⟨v, hv, fun w' h1 K' h2 => by unfold opS; simp only [hx]; exact ⟨_, h1, h2⟩⟩
  case skip => exact ⟨undef, hv, fun w' h1 K' h2 => by unfold opS; simp only [hx]; exact ⟨_, h1, h2⟩⟩
 obtain ⟨v, hv, hin⟩ := key
 unfold opS at hv
 conv at hv => skip
 unfold opS
 split
 ·rename_i hy0
  simp only [hy0] at hv
  refine Abw (fun u q => ?_) hv
  have := hin w hn (K' := fun v w'' => K v u w'') q
  unfold opS at this; exact this
 ·rename_i hy0
  simp only [hy0] at hv
  refine Abc (fun u q => ?_) hv
  have := hin w hn (K' := fun v w'' => K v u w'') q
  unfold opS at this; exact this
 ·rename_i h0 h1
  have hv' : chE P ρ oy w (fun u w' => (y.2.2 = true → Ext w w') ∧ K v u w') := by
   split at hv
   ·rename_i e0; exact absurd e0 h0
   ·rename_i e0; exact absurd e0 h1
   ·exact hv
  rcases hy with hy | hy | he | he | he
  ·exact absurd hy h0
  ·exact absurd hy h1
  ·refine I5 (fun u w' q => ⟨q.1, ?_⟩) hv'
   have := hin w' (Akl (q.1 he) _ hn) (K' := fun v w'' => K v u w'') q.2
   unfold opS at this; exact this
  ·refine I5 (fun u w' q => ⟨q.1, ?_⟩) hv'
   have := hin w' ((he w' w).trans hn) (K' := fun v w'' => K v u w'') q.2
   unfold opS at this; exact this
  ·refine I5 (fun u w' q => ⟨q.1, ?_⟩) hv'
   obtain ⟨n', hn', hv2⟩ := he v u w' q.2
   have : opS P ρ ox x w' (fun v w'' => K v u w'') := by
    unfold opS
    simp only [hx]
    exact ⟨n', hn', Mw (fun z hz => by rw [hz]; exact q.2) n' hv2⟩
   unfold opS at this; exact this
theorem AhP {ρ : Operand → Value} {o : Oper} {x : It} {w : World} {A : World → Prop} {K : Value → World → Prop} (hx : x.2.1 = 0) (h : opS P ρ o x w (fun v w' => A w' ∧ K v w')) : A w ∧ opS P ρ o x w K := by
 unfold opS at *
 simp only [hx] at *
 obtain ⟨n, hn, hv⟩ := h
 refine ⟨?_, n, hn, Mw (fun v q => q.2) n hv⟩
 cases n <;> first | exact hv.1 | exact hv.elim
theorem swap1 {ρ : Operand → Value} {ox oy : Oper} {x y : It} {w : World} {K : Value → Value → World → Prop} (hx : x.2.1 = 1) (hy : y.2.1 = 0 ∨ y.2.1 = 1)
  (h : opS P ρ ox x w (fun v w' => opS P ρ oy y w' (fun u w'' => K v u w''))) : opS P ρ oy y w (fun u w' => opS P ρ ox x w' (fun v w'' => K v u w'')) := by
 rcases hy with hy | hy
 ·simp only [opS, hx, hy] at h ⊢
  unfold rdE at h
  obtain ⟨k, hk⟩ := Yd _ h
  have h1 : ∃ m, rv P (execOp ρ oy) w = some m := by
   cases k <;> simp only [valK] at hk <;> exact ⟨_, hk.choose_spec.1⟩
  obtain ⟨m, hm⟩ := h1
  refine ⟨m, hm, ?_⟩
  have h2 : rd P (execOp ρ ox) w (valK fun v => valK (fun u => K v u w) m) := by
   refine QR (fun n hn => Mw (fun v hv => ?_) n hn) _ h
   obtain ⟨m2, hm2, hk2⟩ := hv
   rw [hm] at hm2; cases hm2; exact hk2
  cases m <;> simp only [valK] at h2 ⊢
  case value u => exact h2
  case skip => exact h2
  all_goals
   obtain ⟨k, hk⟩ := Yd _ h2
   cases k <;> exact hk
 ·simp only [opS, hx, hy] at h ⊢
  unfold rdE at h ⊢
  have h2 : rd P (execOp ρ ox) w (fun a => rd P (execOp ρ oy) w (fun b => valK (fun v => valK (fun u => K v u w) b) a)) := by
   refine QR (fun n hn => ?_) _ h
   cases n <;> first | exact hn | exact hn.elim
  have h3 := Ajv _ _ h2
  refine QR (fun b hb => ?_) _ h3
  cases b <;> simp only [valK] at hb ⊢
  case value u => exact hb
  case skip => exact hb
  all_goals
   obtain ⟨k, hk⟩ := Yd _ hb
   cases k <;> exact hk
theorem swapO {x y : It} {r : List It} {R : Rc} {e : Env} {w : World} {K : Rc → Env → World → Prop} (hp : okPair ops x y = true) (hne : x.1 ≠ y.1) (hR : ∀ w, R x.1 w) (h : vcO P ops (x :: y :: r) R e w K) : vcO P ops (y :: x :: r) R e w K := by
 unfold okPair at hp
 split at hp
 ·rename_i ox oy hox hoy
  simp only [Bool.and_eq_true] at hp
  obtain ⟨⟨⟨hap, hsx⟩, hsy⟩, hk⟩ := hp
  obtain ⟨a1, a2, a3⟩ := Oper.apart_spec hap
  have hsx := Vs hsx
  have hsy := Vs hsy
  have ey := fun v => Xt (ops := ops) oy hsy e ox.dst v a1
  have ex := fun v => Xt (ops := ops) ox hsx e oy.dst v a3
  have oy' : ∀ v w K, opS P (ev (upd e ox.dst v)) oy y w K = opS P (ev e) oy y w K := fun v w K => by simp only [opS, dvE, rdE, chE, ey]
  have ox' : ∀ v w K, opS P (ev (upd e oy.dst v)) ox x w K = opS P (ev e) ox x w K := fun v w K => by simp only [opS, dvE, rdE, chE, ex]
  have ry : ∀ R v u, rcd P R (upd e ox.dst v) oy y u = rcd P R e oy y u := fun R v u => by unfold rcd dvE; rw [ey]
  have rx : ∀ R v u, rcd P R (upd e oy.dst u) ox x v = rcd P R e ox x v := fun R v u => by unfold rcd dvE; rw [ex]
  have wy := fun v => Vp (ops := ops) oy e ox.dst v a1
  have wx := fun v => Vp (ops := ops) ox e oy.dst v a3
  have cm := fun v u => AgI e (x := ox.dst) (y := oy.dst) v u a2
  have hx2 : x.2.1 ≤ 2 := by
   split at hk <;> simp_all
  simp only [vcO, stepO, hox, hoy, oy', ox', wy, wx, ry, rx, Vw hx2] at h ⊢
  by_cases hwx : wantedE ops e ox = true
  ·by_cases hwy : wantedE ops e oy = true
   ·simp only [hwx, hwy, if_true] at h ⊢
    simp only [← cm]
    have low : y.2.1 ≤ 2 → (x.2.1 = 0 ∨ x.2.1 = 1) → (∀ {K : Value → Value → World → Prop}, opS P (ev e) ox x w (fun v w' => opS P (ev e) oy y w' (fun u w'' => K v u w'')) → opS P (ev e) oy y w (fun u w' => opS P (ev e) ox x w' (fun v w'' => K v u w''))) →
      opS P (ev e) oy y w (fun u w' => pend y.2.1 R w' (opS P (ev e) ox x w' (fun v w'' => vcO P ops r (rcd P (rcd P R e oy y u) e ox x v) (upd (upd e ox.dst v) oy.dst u) w'' K))) := by
     intro hy2 _ hsw
     simp only [Vw hy2] at h ⊢
     simp only [← AbV (P := P) (R := R) (e := e) (ox := ox) (oy := oy) hne]
     exact hsw h
    split at hk
    ·rename_i h0 h1; exact low (by omega) (.inl h0) (fun q => swap0 h0 (.inl h1) q)
    ·rename_i h0 h1; exact low (by omega) (.inl h0) (fun q => swap0 h0 (.inr (.inl h1)) q)
    ·rename_i h0 h1; exact low (by omega) (.inr h0) (fun q => swap1 h0 (.inl h1) q)
    ·rename_i h0 h1; exact low (by omega) (.inr h0) (fun q => swap1 h0 (.inr h1) q)
    ·rename_i h0 hn0 hn1
     simp only [Bool.or_eq_true, Bool.and_eq_true, decide_eq_true_eq] at hk
     have hy : y.2.2 = true ∨ (∀ w1 w2, rv P (execOp (ev e) ox) w1 = rv P (execOp (ev e) ox) w2) ∨ (∀ (v u : Value) (w' : World), pend y.2.1 (rcd P R e ox x v) w' (vcO P ops r (rcd P (rcd P R e ox x v) e oy y u) (upd (upd e ox.dst v) oy.dst u) w' K) → dvE P (ev e) ox w' (fun z => z = v)) := by
      rcases hk with (hk | hk) | hk
      ·exact .inl hk
      ·exact .inr (.inl fun w1 w2 => Ajm hk w1 w2)
      ·refine .inr (.inr fun v u w' q => ?_)
       obtain ⟨⟨hg, h3⟩, hb⟩ := hk
       rw [Oa] at q
       have q := q.1 h3 x.1 (by simpa using hb)
       unfold rcd at q
       have : (recs ox x && Nat.beq x.1 x.1) = true := by
        unfold recs
        rw [h0, hg]; simp
       rw [this] at q
       exact q
     have h' := swap0 (K := fun v u w' => pend y.2.1 (rcd P R e ox x v) w' (vcO P ops r (rcd P (rcd P R e ox x v) e oy y u) (upd (upd e ox.dst v) oy.dst u) w' K)) h0 (.inr (.inr hy)) h
     refine FA (fun u w' q => ?_) h'
     simp only [Oa] at q ⊢
     have q := AhP (A := fun w' => 3 ≤ y.2.1 → ∀ p ∈ pbits y.2.1, p = x.1 ∨ R p w') h0 (FA (fun v w'' z => ⟨fun h3 p hp => ?_, z.2⟩) q)
     ·refine ⟨fun h3 p hp => ?_, ?_⟩
      ·rcases q.1 h3 p hp with e1 | e1
       ·rw [e1]; exact hR w'
       ·exact e1
      ·have q := q.2
       simp only [AbV (P := P) (R := R) (e := e) (ox := ox) (oy := oy) hne] at q
       exact q
     ·by_cases hpx : p = x.1
      ·exact .inl hpx
      ·have := z.1 h3 p hp
       rw [Ml hpx] at this
       exact .inr this
    ·exact absurd hk (by simp)
   ·simp only [hwx, hwy, if_true, Bool.false_eq_true, if_false] at h ⊢
    simp only [← cm]
    exact h
  ·by_cases hwy : wantedE ops e oy = true
   ·simp only [hwx, hwy, if_true, Bool.false_eq_true, if_false] at h ⊢
    simp only [← cm]
    exact h
   ·simp only [hwx, hwy, Bool.false_eq_true, if_false] at h ⊢
    simp only [← cm]
    exact h
 ·exact absurd hp (by simp)
theorem frontO {x : It} {r : List It} {K : Rc → Env → World → Prop} : ∀ {l : List It} {R : Rc} {e : Env} {w : World}, (∀ y ∈ l, okPair ops y x = true) → (l.map (·.1)).Nodup → (∀ y ∈ l, y.1 ≠ x.1) → (∀ y ∈ l, ∀ w, R y.1 w) → vcO P ops (l ++ x :: r) R e w K → vcO P ops (x :: (l ++ r)) R e w K
 | [], _, _, _, _, _, _, _, h => h
 | y :: l, R, e, w, hl, hnd, hne, hR, h => by
  refine swapO (hl y (by simp)) (hne y (by simp)) (hR y (by simp)) ?_
  rw [List.map_cons, List.nodup_cons] at hnd
  refine UZ (fun R' e w hR' q => frontO (l := l) (fun z hz => hl z (by simp [hz])) hnd.2 (fun z hz => hne z (by simp [hz])) (fun z hz w => ?_) q) h
  rw [hR' z.1 (fun e => hnd.1 (by rw [← e]; exact List.mem_map.2 ⟨z, hz, rfl⟩))]
  exact hR z (by simp [hz]) w
def depsOf (o : Oper) : List Nat := (o.after.toList.filter (Region.binds .any)).map (·.on)
def ancOf (A : List Nat) (o : Oper) : Nat := (depsOf o).foldl (fun s j => s ||| 2 ^ j ||| A.getD j 0) 0
def ancs : List Oper → List Nat → List Nat
 | [], A => A
 | o :: r, A => ancs r (A ++ [ancOf A o])
def pairsOk (ops : List Oper) (A : List Nat) : List It → Bool
 | [] => true
 | x :: r => r.all (fun y => (A.getD y.1 0).testBit x.1 || okPair ops x y) && pairsOk ops A r
def distinct : List Nat → Bool
 | [] => true
 | x :: r => !(r.contains x) && distinct r
def drawOk (ops : List Oper) (os : List It) : Bool :=
 let A := ancs ops []
 (os.length == ops.length) && (List.range ops.length).all (fun i => (os.map (·.1)).contains i) && distinct (os.map (·.1)) && os.all (fun x => x.1 < ops.length) &&
 (List.range ops.length).all (fun i => match nth ops i with
  | some o => (depsOf o).all (· < i) && (A.getD i 0 == ancOf A o)
  | none => false) &&
 pairsOk ops A os
theorem SG (f : Nat → Nat) : ∀ (l : List Nat) (s k : Nat), (l.foldl (fun s j => s ||| 2 ^ j ||| f j) s).testBit k = true → s.testBit k = true ∨ ∃ j ∈ l, j = k ∨ (f j).testBit k = true
 | [], s, k, h => .inl h
 | j :: l, s, k, h => by
  rcases SG f l _ k h with h | ⟨i, hi, h⟩
  ·rw [Nat.testBit_or, Nat.testBit_or, Nat.testBit_two_pow] at h
   simp only [Bool.or_eq_true, decide_eq_true_eq] at h
   rcases h with (h | h) | h
   ·exact .inl h
   ·exact .inr ⟨j, by simp, .inl h⟩
   ·exact .inr ⟨j, by simp, .inr h⟩
  ·exact .inr ⟨i, by simp [hi], h⟩
theorem Adn {A : List Nat} (hA : ∀ i o, nth ops i = some o → (∀ j ∈ depsOf o, j < i) ∧ A.getD i 0 = ancOf A o) (S : Nat → Prop)
  (hS : ∀ i o, nth ops i = some o → S i → ∀ j ∈ depsOf o, S j) : ∀ i o, nth ops i = some o → (∀ j ∈ depsOf o, S j) → ∀ k, (A.getD i 0).testBit k = true → S k := by
 intro i
 induction i using Nat.strongRecOn with
 | _ i ih =>
  intro o ho hd k hk
  obtain ⟨h1, h2⟩ := hA i o ho
  rw [h2] at hk
  rcases SG (fun j => A.getD j 0) _ _ _ hk with h | ⟨j, hj, h⟩
  ·simp at h
  ·rcases h with rfl | h
   ·exact hd _ hj
   ·have hlt := h1 j hj
    cases hoj : nth ops j with
    | none =>
     rw [CY] at hoj ho
     have := (List.getElem?_eq_some_iff.1 ho).1
     simp only [List.getElem?_eq_none_iff] at hoj
     omega
    | some oj => exact ih j hlt oj hoj (hS j oj hoj (hd j hj)) k h
theorem QP : ∀ {l : List Nat}, distinct l = true → l.Nodup
 | [], _ => List.nodup_nil
 | x :: r, h => by
  simp only [distinct, Bool.and_eq_true, Bool.not_eq_true', List.contains_eq_mem, decide_eq_false_iff_not] at h
  exact List.nodup_cons.2 ⟨h.1, QP h.2⟩
def PairR (ops : List Oper) (A : List Nat) (x y : It) : Prop := (A.getD y.1 0).testBit x.1 = true ∨ okPair ops x y = true
theorem Ob {A : List Nat} : ∀ {os : List It}, pairsOk ops A os = true → os.Pairwise (PairR ops A)
 | [], _ => .nil
 | x :: r, h => by
  simp only [pairsOk, Bool.and_eq_true, List.all_eq_true, Bool.or_eq_true] at h
  exact .cons (fun y hy => h.1 y hy) (Ob h.2)
theorem IN {ops : Array Oper} {listed : Array Bool} {i : Nat} : i ∈ Region.ready .any ops listed ↔ ∃ o, ops[i]? = some o ∧ listed.getD i true = false ∧ ∀ j ∈ depsOf o, listed.getD j false = true := by
 unfold Region.ready
 simp only [List.mem_filter, List.mem_range, Bool.and_eq_true, Bool.not_eq_true', depsOf, List.mem_map, List.mem_filter, Array.mem_toList_iff]
 constructor
 ·rintro ⟨hi, h1, h2⟩
  have ho : ops[i]? = some ops[i] := by simp [hi]
  refine ⟨ops[i], ho, h1, ?_⟩
  rw [ho] at h2
  simp only [Option.map_some, Option.getD_some, Array.all_eq_true_iff_forall_mem] at h2
  rintro j ⟨e, ⟨he, hb⟩, rfl⟩
  have := h2 e he
  simpa [hb] using this
 ·rintro ⟨o, ho, h1, h2⟩
  have hi : i < ops.size := by
   rcases Nat.lt_or_ge i ops.size with h | h
   ·exact h
   ·simp [Array.getElem?_eq_none h] at ho
  refine ⟨hi, h1, ?_⟩
  rw [ho]
  simp only [Option.map_some, Option.getD_some, Array.all_eq_true_iff_forall_mem]
  intro e he
  by_cases hb : Region.binds .any e = true
  ·have := h2 e.on ⟨e, ⟨he, hb⟩, rfl⟩
   simp [this]
  ·simp [hb]
section
variable {n : Nat} {K : Rc → Env → World → Prop} {Q : Exit → Act → World → Prop}
theorem NI {ops : Array Oper} (hdst : ∀ o ∈ ops.toList, ∀ d, o.dst = some d → d < n) {x : It} {R : Rc} {a : Act} {e : Env} {c : World} {K : Rc → Env → World → Prop} {next : Act → World → Prop} {Q : Exit → Act → World → Prop}
  (hr : Rep n a e) (h : stepO P ops.toList x R e (N c) K) (hK : ∀ R' a e c, (∀ k, k ≠ x.1 → R' k = R k) → Rep n a e → K R' e (N c) → next a c) : wpOp P ops Q x.1 next a c := by
 unfold stepO at h
 unfold wpOp
 rw [CY, Array.getElem?_toList] at h
 split at h
 ·exact h.elim
 ·rename_i o ho
  rw [ho]
  have hm : o ∈ ops.toList := by
   rw [← Array.getElem?_toList] at ho
   exact List.mem_of_getElem? ho
  have hd := hdst o hm
  simp only [Ae4 hr]
  split
  ·rename_i hw
   rw [if_pos hw] at h
   refine .inl (Oper.wp_of_chE hr (Akr h) fun v c' q => hK _ _ _ _ (fun k hk => Ml hk) (hr.put hd v) (Oa.1 q).2)
  ·rename_i hw
   rw [if_neg hw] at h
   exact hK _ _ _ _ (fun _ _ => rfl) (hr.put hd undef) h
theorem Xc (listed : Array Bool) (i j : Nat) (hi : i < listed.size) (d : Bool) : (listed.setIfInBounds i true).getD j d = if i = j then true else listed.getD j d := by
 simp only [Array.getD_eq_getD_getElem?, Array.getElem?_setIfInBounds]
 by_cases h : i = j
 ·subst h; simp [hi]
 ·simp [h]
theorem anyO {ops : Array Oper} (hdst : ∀ o ∈ ops.toList, ∀ d, o.dst = some d → d < n) {A : List Nat}
  (hA : ∀ i o, nth ops.toList i = some o → (∀ j ∈ depsOf o, j < i) ∧ A.getD i 0 = ancOf A o)
  (hK : ∀ R a e c, Rep n a e → K R e (N c) → Q .normal a c) :
  ∀ (fuel : Nat) (L : List It) (R : Rc) (listed : Array Bool) (a : Act) (e : Env) (c : World), (∀ x ∈ L, ∀ w, R x.1 w) → L.length ≤ fuel → listed.size = ops.size →
   (∀ i, i < ops.size → (listed.getD i true = true ↔ i ∉ L.map (·.1))) → (∀ x ∈ L, x.1 < ops.size) → (L.map (·.1)).Nodup →
   (∀ i o, nth ops.toList i = some o → i ∉ L.map (·.1) → ∀ j ∈ depsOf o, j ∉ L.map (·.1)) → L.Pairwise (PairR ops.toList A) →
   Rep n a e → vcO P ops.toList L R e (N c) K → wpAny P .any ops Q fuel listed a c := by
 intro fuel
 induction fuel with
 | zero =>
  intro L R listed a e c hRL hL hsz hl hin hnd hdown hpw hr h
  obtain rfl : L = [] := List.eq_nil_of_length_eq_zero (by omega)
  refine ⟨?_, hK _ _ _ _ hr h⟩
  refine List.eq_nil_iff_forall_not_mem.2 fun i hi => ?_
  obtain ⟨o, ho, h1, _⟩ := IN.1 hi
  have hi' : i < ops.size := by
   rcases Nat.lt_or_ge i ops.size with h | h
   ·exact h
   ·simp [Array.getElem?_eq_none h] at ho
  have := (hl i hi').2 (by simp)
  rw [h1] at this; cases this
 | succ fuel ih =>
  intro L R listed a e c hRL hL hsz hl hin hnd hdown hpw hr h
  have hld : ∀ i, i < ops.size → ∀ d, listed.getD i d = listed.getD i true := by
   intro i hi d
   have : i < listed.size := by omega
   simp [Array.getD_eq_getD_getElem?, this]
  constructor
  ·intro h0
   cases L with
   | nil => exact hK _ _ _ _ hr h
   | cons x r =>
    exfalso
    have hne : ∃ i, i ∈ ((x :: r).map (·.1)) := ⟨x.1, by simp⟩
    obtain ⟨i, hi, hmin⟩ := exists_least hne
    obtain ⟨y, hy, rfl⟩ := List.mem_map.1 hi
    have hlt := hin y hy
    have ho : ops[y.1]? = some ops[y.1] := by simp [hlt]
    have hn : nth ops.toList y.1 = some ops[y.1] := by rw [CY, Array.getElem?_toList, ho]
    have : y.1 ∈ Region.ready .any ops listed := by
     refine IN.2 ⟨_, ho, ?_, ?_⟩
     ·cases hb : listed.getD y.1 true with
      | false => rfl
      | true => exact absurd hi ((hl _ hlt).1 hb)
     ·intro j hj
      have hji := (hA _ _ hn).1 j hj
      have hjs : j < ops.size := by omega
      rw [hld j hjs]
      refine (hl j hjs).2 fun hm => ?_
      have := hmin j hm
      omega
    rw [h0] at this
    cases this
  ·intro i hi
   obtain ⟨o, ho, h1, h2⟩ := IN.1 hi
   have hlt : i < ops.size := by
    rcases Nat.lt_or_ge i ops.size with h | h
    ·exact h
    ·simp [Array.getElem?_eq_none h] at ho
   have hn : nth ops.toList i = some o := by rw [CY, Array.getElem?_toList, ho]
   have hmem : i ∈ L.map (·.1) := by
    refine Classical.byContradiction fun hno => ?_
    have := (hl i hlt).2 hno
    rw [h1] at this; cases this
   obtain ⟨x, hx, rfl⟩ := List.mem_map.1 hmem
   obtain ⟨L1, L2, rfl⟩ := List.append_of_mem hx
   have hdeps : ∀ j ∈ depsOf o, j ∉ (L1 ++ x :: L2).map (·.1) := by
    intro j hj
    have hji := (hA _ _ hn).1 j hj
    have hjs : j < ops.size := by omega
    have := h2 j hj
    rw [hld j hjs] at this
    exact (hl j hjs).1 this
   have hpre : ∀ y ∈ L1, okPair ops.toList y x = true := by
    intro y hy
    have hp : PairR ops.toList A y x := (List.pairwise_append.1 hpw).2.2 y hy x (by simp)
    rcases hp with hp | hp
    ·exfalso
     have := Adn hA (fun k => k ∉ (L1 ++ x :: L2).map (·.1)) (fun i o ho hi => hdown i o ho hi) x.1 o hn hdeps y.1 hp
     exact this (by simp only [List.map_append, List.mem_append, List.mem_map]; exact .inl ⟨y, hy, rfl⟩)
    ·exact hp
   have hnd1 : (L1.map (·.1)).Nodup := by
    rw [List.map_append, List.nodup_append] at hnd
    exact hnd.1
   have hnx : ∀ y ∈ L1 ++ L2, y.1 ≠ x.1 := by
    intro y hy hyx
    rw [List.map_append, List.nodup_append, List.map_cons, List.nodup_cons] at hnd
    obtain ⟨n1, n2, n3⟩ := hnd
    rcases List.mem_append.1 hy with hy | hy
    ·exact n3 _ (List.mem_map.2 ⟨y, hy, rfl⟩) x.1 (by simp) hyx
    ·exact n2.1 (List.mem_map.2 ⟨y, hy, hyx⟩)
   have hf := frontO hpre hnd1 (fun y hy => hnx y (by simp [hy])) (fun y hy => hRL y (by simp [hy])) h
   simp only [vcO] at hf
   have hndx : x.1 ∉ (L1 ++ L2).map (·.1) := by
    intro hm
    simp only [List.map_append, List.map_cons, List.mem_append] at hm hnd
    rw [List.nodup_append] at hnd
    obtain ⟨n1, n2, n3⟩ := hnd
    rw [List.nodup_cons] at n2
    rcases hm with hm | hm
    ·exact n3 _ hm _ (by simp) rfl
    ·exact n2.1 hm
   refine NI hdst hr hf fun R' a' e' c' hR' hr' hk => ih (L1 ++ L2) R' _ a' e' c' ?_ ?_ ?_ ?_ ?_ ?_ ?_ ?_ hr' hk
   ·intro y hy w
    rw [hR' y.1 (hnx y hy)]
    exact hRL y (by rcases List.mem_append.1 hy with hy | hy <;> simp [hy]) w
   ·simp only [List.length_append, List.length_cons] at hL ⊢; omega
   ·simp [hsz]
   ·intro j hj
    rw [Xc _ _ _ (by omega)]
    by_cases hij : x.1 = j
    ·subst hij; simp only [if_true]; exact ⟨fun _ => hndx, fun _ => trivial⟩
    ·rw [if_neg hij, hl j hj]
     simp only [List.map_append, List.map_cons, List.mem_append, List.mem_cons, not_or]
     constructor
     ·rintro ⟨q1, _, q2⟩; exact ⟨q1, q2⟩
     ·rintro ⟨q1, q2⟩; exact ⟨q1, fun q => hij q.symm, q2⟩
   ·intro y hy
    refine hin y ?_
    rcases List.mem_append.1 hy with hy | hy <;> simp [hy]
   ·refine List.Nodup.sublist ?_ hnd
    exact (List.Sublist.refl L1 |>.append (List.sublist_cons_self x L2)).map _
   ·intro j oj hoj hnj k hk hmem'
    have hkk : k ∈ (L1 ++ x :: L2).map (·.1) := by
     simp only [List.map_append, List.map_cons, List.mem_append, List.mem_cons] at hmem' ⊢
     rcases hmem' with q | q
     ·exact .inl q
     ·exact .inr (.inr q)
    by_cases hjx : j = x.1
    ·subst hjx
     rw [hn] at hoj; cases hoj
     exact hdeps k hk hkk
    ·refine hdown j oj hoj ?_ k hk hkk
     simp only [List.map_append, List.map_cons, List.mem_append, List.mem_cons, not_or] at hnj ⊢
     exact ⟨hnj.1, hjx, hnj.2⟩
   ·exact hpw.sublist (List.Sublist.refl L1 |>.append (List.sublist_cons_self x L2))
theorem AcJ (hm : P.follows .mixedOrders = true) {ops : Array Oper} {id : Nat} {os : List It} {a : Act} {e : Env} {c : World} (hdst : ∀ o ∈ ops.toList, ∀ d, o.dst = some d → d < n)
  (hchk : drawOk ops.toList os = true) (hr : Rep n a e) (hK : ∀ R a e c, Rep n a e → K R e (N c) → Q .normal a c) (h : vcO P ops.toList os Rc0 e (N c) K) : (Code.region id ops true).wp P Q a c := by
 refine wp_region_any hm ?_
 simp only [drawOk, Bool.and_eq_true, List.all_eq_true, decide_eq_true_eq, beq_iff_eq, List.mem_range] at hchk
 obtain ⟨⟨⟨⟨⟨h1, h0⟩, h2⟩, h3⟩, h4⟩, h5⟩ := hchk
 have hA : ∀ i o, nth ops.toList i = some o → (∀ j ∈ depsOf o, j < i) ∧ (ancs ops.toList []).getD i 0 = ancOf (ancs ops.toList []) o := by
  intro i o ho
  have hi : i < ops.toList.length := by
   rw [CY] at ho
   exact (List.getElem?_eq_some_iff.1 ho).1
  have := h4 i hi
  rw [ho] at this
  simpa only [Bool.and_eq_true, List.all_eq_true, decide_eq_true_eq, beq_iff_eq] using this
 have hnd := QP h2
 have hlen : os.length = ops.size := by simpa using h1
 have hmemAll : ∀ i, i < ops.size → i ∈ os.map (·.1) := fun i hi => by simpa [List.contains_eq_mem] using h0 i (by simpa using hi)
 refine anyO (c := { c with drawn := c.drawn + 1 }) hdst hA hK ops.size os Rc0 (Array.replicate ops.size false) a e (fun _ _ _ => trivial) (by omega) (by simp) ?_ (fun x hx => by simpa using h3 x hx) hnd ?_ (Ob h5) hr h
 ·intro i hi
  refine ⟨fun q => ?_, fun q => absurd (hmemAll i hi) q⟩
  have : (Array.replicate ops.size false).getD i true = false := by simp [hi]
  rw [this] at q
  cases q
 ·intro i o ho hi
  have hi' : i < ops.size := by
   rw [CY] at ho
   simpa using (List.getElem?_eq_some_iff.1 ho).1
  exact absurd (hmemAll i hi') hi
theorem W7 {ops : Array Oper} (hdst : ∀ o ∈ ops.toList, ∀ d, o.dst = some d → d < n) (hK : ∀ R a e c, Rep n a e → K R e (N c) → Q .normal a c) :
  ∀ (os : List It) (R : Rc) (a : Act) (e : Env) (c : World), Rep n a e → vcO P ops.toList os R e (N c) K → wpOps P ops Q (os.map (·.1)) a c
 | [], R, a, e, c, hr, h => hK _ _ _ _ hr h
 | x :: r, R, a, e, c, hr, h => by
  rw [List.map_cons, wpOps_cons]
  exact NI hdst hr h fun R' a' e' c' _ hr' h' => W7 hdst hK r R' a' e' c' hr' h'
theorem Acs {ops : Array Oper} {id : Nat} {os : List It} {a : Act} {e : Env} {c : World} (hdst : ∀ o ∈ ops.toList, ∀ d, o.dst = some d → d < n)
  (hchk : os.map (·.1) = List.range ops.size) (hr : Rep n a e) (hK : ∀ R a e c, Rep n a e → K R e (N c) → Q .normal a c) (h : vcO P ops.toList os Rc0 e (N c) K) : (Code.region id ops false).wp P Q a c := by
 refine wp_region ?_
 rw [← hchk]
 exact W7 hdst hK os Rc0 a e c hr h
end
end Go.Vc
