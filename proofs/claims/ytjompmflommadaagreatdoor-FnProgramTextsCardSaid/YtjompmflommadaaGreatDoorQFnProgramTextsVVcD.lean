import Derived.Test.YtjompmflommadaaGreatDoorQFnProgramTextsVVcT
set_option linter.unusedSimpArgs false
set_option linter.unusedVariables false
namespace Go.Vc
open Go
inductive Plan where
 | leaf
 | reg (is : List Item)
 | tree (L : List Nat) (W : Nat) (t : Tr)
 | seq (a b : Plan)
 | cut (L : List Nat) (W : Nat) (a b : Plan)
 | cond (a b : Plan)
 | blk (a : Plan)
 | loop (L : List Nat) (W : Nat) (a : Plan)
def thenX (next : Env → World → Prop) (Q : Exit → Env → World → Prop) : Exit → Env → World → Prop := fun ex e w => match ex with
 | .normal => next e w
 | ex => Q ex e w
def blkX (id : Nat) (Q : Exit → Env → World → Prop) : Exit → Env → World → Prop := fun ex e w => match ex with
 | .exit i => cond (Nat.beq i id) (Q .normal e w) (Q (.exit i) e w)
 | ex => Q ex e w
def cnd (v : Value) (A B : Prop) : Prop := match v with
 | .bool b => cond b A B
 | _ => False
def vc (P : Program) : Plan → Code → Env → World → (Exit → Env → World → Prop) → Prop
 | .leaf, c, e, w, Q => match c with
  | .skip => Q .normal e w
  | .ret => Q .ret e w
  | .exit id => Q (.exit id) e w
  | _ => False
 | .reg is, c, e, w, Q => match c with
  | .region _ ops _ => vcG P ops.toList is RcN0 e w (Q .normal)
  | _ => False
 | .tree L W t, c, e, w, Q => match c with
  | .region _ ops _ => ∃ J : Fn L.length, allV L.length (fun l => ∀ (junk : Env) (w' : World), ap L.length J l w' → Q .normal (mix L l W junk e) w') ∧ vcTN P ops.toList t RcN0 e w (fun e' w' => ap L.length J (L.map e') w')
  | _ => False
 | .seq a b, c, e, w, Q => match c with
  | .seq x y => vc P a x e w (thenX (fun e' w' => vc P b y e' w' Q) Q)
  | _ => False
 | .cut L W a b, c, e, w, Q => match c with
  | .seq x y => ∃ J : Fn L.length, allV L.length (fun l => ∀ (junk : Env) (w' : World), ap L.length J l w' → vc P b y (mix L l W junk e) w' Q) ∧ vc P a x e w (thenX (fun e' w' => ap L.length J (L.map e') w') Q)
  | _ => False
 | .cond a b, c, e, w, Q => match c with
  | .cond v x y => cnd (ev e v) (vc P a x e w Q) (vc P b y e w Q)
  | _ => False
 | .blk a, c, e, w, Q => match c with
  | .block id x => vc P a x e w (blkX id Q)
  | _ => False
 | .loop L W a, c, e, w, Q => match c with
  | .loop x => ∃ I : Nat → Fn L.length, (∃ m, ap L.length (I m) (L.map e) w) ∧ ∀ m, allV L.length (fun l => ∀ (junk : Env) (w' : World), ap L.length (I m) l w' →
    vc P a x (mix L l W junk e) w' (thenX (fun e' w'' => ∃ m', m' < m ∧ ap L.length (I m') (L.map e') w'') Q))
  | _ => False
def wstep (s : Nat) (o : Oper) : Nat := match o.dst with
 | some d => s ||| 2 ^ d
 | none => s
def wr : Code → Nat
 | .region _ ops _ => ops.toList.foldl wstep 0
 | .seq a b => wr a ||| wr b
 | .cond _ a b => wr a ||| wr b
 | .block _ a => wr a
 | .loop a => wr a
 | _ => 0
def planOk (n : Nat) : Plan → Code → Bool
 | .leaf, c => match c with
  | .skip | .ret | .exit _ => true
  | _ => false
 | .reg is, c => match c with
  | .region _ ops draw => ops.toList.all (fun o => match o.dst with
    | some d => d < n
    | none => true) && itemsOk ops.toList is && (if draw then drawOk ops.toList (flat is) else (flat is).map (·.1) == List.range ops.size)
  | _ => false
 | .tree _ W t, c => match c with
  | .region id ops draw => ops.toList.all (fun o => match o.dst with
    | some d => d < n
    | none => true) && (wr (.region id ops draw) ||| W == W) && draw && treeOk ops.toList t
  | _ => false
 | .seq a b, c => match c with
  | .seq x y => planOk n a x && planOk n b y
  | _ => false
 | .cut _ W a b, c => match c with
  | .seq x y => (wr x ||| W == W) && planOk n a x && planOk n b y
  | _ => false
 | .cond a b, c => match c with
  | .cond _ x y => planOk n a x && planOk n b y
  | _ => false
 | .blk a, c => match c with
  | .block _ x => planOk n a x
  | _ => false
 | .loop _ W a, c => match c with
  | .loop x => (wr x ||| W == W) && planOk n a x
  | _ => false
def postX (n : Nat) (W : Nat) (e : Env) (Q : Exit → Env → World → Prop) : Exit → Act → World → Prop := fun ex a c => ∃ e', Rep n a e' ∧ Q ex e' (N c) ∧ Agree W e e'
theorem Aex {s d : Nat} (o : Oper) (h : s.testBit d = true) : (wstep s o).testBit d = true := by
 unfold wstep
 split
 ·rw [Nat.testBit_or, h]; rfl
 ·exact h
theorem X3 {d : Nat} : ∀ (l : List Oper) (s : Nat), s.testBit d = true → (l.foldl wstep s).testBit d = true
 | [], _, h => h
 | o :: l, _, h => X3 l _ (Aex o h)
theorem ZF {d : Nat} {o : Oper} (hd : o.dst = some d) : ∀ (l : List Oper) (s : Nat), o ∈ l → (l.foldl wstep s).testBit d = true
 | [], _, h => by cases h
 | y :: l, s, h => by
  rw [List.foldl_cons]
  rcases List.mem_cons.1 h with h | h
  ·subst h
   refine X3 l _ ?_
   unfold wstep
   rw [hd]
   show (s ||| 2 ^ d).testBit d = true
   rw [Nat.testBit_or, Nat.testBit_two_pow]; simp
  ·exact ZF hd l _ h
theorem Vq {ops : List Oper} {x : It} {o : Oper} (ho : nth ops x.1 = some o) {d : Nat} (hd : o.dst = some d) : (ops.foldl wstep 0).testBit d = true := by
 rw [CY] at ho
 exact ZF hd ops 0 (List.mem_of_getElem? ho)
theorem NF {n W W' : Nat} {e e0 : Env} {Q : Exit → Env → World → Prop} (hag : Agree W' e0 e) (hw : ∀ k, W.testBit k = true → W'.testBit k = true) {ex : Exit} {a : Act} {c : World} (h : postX n W e Q ex a c) : postX n W' e0 Q ex a c :=
 let ⟨e', h1, h2, h3⟩ := h
 ⟨e', h1, h2, hag.trans (h3.mono hw)⟩
theorem QN {a b k : Nat} (h : a.testBit k = true) : (a ||| b).testBit k = true := by rw [Nat.testBit_or, h]; rfl
theorem VV {a b k : Nat} (h : b.testBit k = true) : (a ||| b).testBit k = true := by rw [Nat.testBit_or, h]; simp
theorem Ah1 {P : Program} (hm : P.follows .mixedOrders = true) {n : Nat} : ∀ (p : Plan) (c : Code) (e : Env) (w : World) (Q : Exit → Env → World → Prop), planOk n p c = true → vc P p c e w Q →
  ∀ (a : Act) (cw : World), Rep n a e → N cw = w → c.wp P (postX n (wr c) e Q) a cw := by
 intro p
 induction p with
 | leaf =>
  intro c e w Q hok h a cw hr hc
  subst hc
  cases c <;> simp only [vc] at h <;> try exact h.elim
  case skip => exact wp_skip ⟨e, hr, h, Agree.refl _ _⟩
  case exit id => exact wp_exit ⟨e, hr, h, Agree.refl _ _⟩
  case ret => exact wp_ret ⟨e, hr, h, Agree.refl _ _⟩
 | reg is =>
  intro c e w Q hok h a cw hr hc
  subst hc
  cases c <;> simp only [vc] at h <;> try exact h.elim
  case region id ops draw =>
   simp only [planOk, Bool.and_eq_true, List.all_eq_true] at hok
   obtain ⟨⟨h1, h2⟩, h3⟩ := hok
   have hdst : ∀ o ∈ ops.toList, ∀ d, o.dst = some d → d < n := by
    intro o ho d hd
    have := h1 o ho
    rw [hd] at this
    simpa using this
   have hO := Uw (W := wr (.region id ops draw)) (fun x _ o ho d hd => by
    simp only [wr]; exact Vq ho hd) (Aef (R := RcN0) (R' := Rc0) (fun _ _ q => q.elim) h2 h)
   have hK : ∀ (_ : Rc) a' e' c', Rep n a' e' → (Q .normal e' (N c') ∧ Agree (wr (.region id ops draw)) e e') → postX n (wr (.region id ops draw)) e Q .normal a' c' := fun _ a' e' c' hr' hq => ⟨e', hr', hq.1, hq.2⟩
   cases draw
   ·simp only [Bool.false_eq_true, if_false, beq_iff_eq] at h3
    exact Acs hdst h3 hr hK hO
   ·simp only [if_true] at h3
    exact AcJ hm hdst h3 hr hK hO
 | tree L W t =>
  intro c e w Q hok h a cw hr hc
  subst hc
  cases c <;> simp only [vc] at h <;> try exact h.elim
  case region id ops draw =>
   simp only [planOk, Bool.and_eq_true, List.all_eq_true, beq_iff_eq] at hok
   obtain ⟨⟨⟨h1, hW⟩, hdr⟩, h3⟩ := hok
   subst hdr
   have hWm := NA hW
   obtain ⟨J, hJ, hx⟩ := h
   have hdst : ∀ o ∈ ops.toList, ∀ d, o.dst = some d → d < n := by
    intro o ho d hd
    have := h1 o ho
    rw [hd] at this
    simpa using this
   have hchk := h3
   simp only [treeOk, Bool.and_eq_true] at hchk
   have hT := Po (W := wr (.region id ops true)) (fun i o ho d hd => by
    simp only [wr]; exact Vq (x := (i, 0, false)) ho hd) t (Xj (R := RcN0) (R' := Rc0) t (fun _ _ q => q.elim) hchk.2 hx)
   refine AcP hm hdst h3 hr (fun _ a' e' c' hr' hq => ⟨e', hr', ?_, hq.2⟩) hT
   have := OO hJ (L.map e') (by simp) e' (N c') hq.1
   rw [RV (hq.2.mono hWm)] at this
   exact this
 | seq pa pb iha ihb =>
  intro c e w Q hok h a cw hr hc
  cases c <;> simp only [vc] at h <;> try exact h.elim
  case seq x y =>
   simp only [planOk, Bool.and_eq_true] at hok
   refine wp_seq (wp_mono (iha x e w _ hok.1 h a cw hr hc) ?_)
   rintro ex a' c' ⟨e', hr', hq, hag⟩
   cases ex with
   | normal =>
    refine wp_mono (ihb y e' _ Q hok.2 hq a' c' hr' rfl) fun ex a'' c'' hp => ?_
    exact NF (hag.mono fun k => QN) (fun k => VV) hp
   | _ => exact ⟨e', hr', hq, hag.mono fun k => QN⟩
 | cut L W pa pb iha ihb =>
  intro c e w Q hok h a cw hr hc
  cases c <;> simp only [vc] at h <;> try exact h.elim
  case seq x y =>
   simp only [planOk, Bool.and_eq_true, beq_iff_eq] at hok
   obtain ⟨⟨hW, hokx⟩, hoky⟩ := hok
   obtain ⟨J, hJ, hx⟩ := h
   refine wp_seq (wp_mono (iha x e w _ hokx hx a cw hr hc) ?_)
   rintro ex a' c' ⟨e', hr', hq, hag⟩
   cases ex with
   | normal =>
    have hy := OO hJ (L.map e') (by simp) e' (N c') hq
    rw [RV (hag.mono (NA hW))] at hy
    refine wp_mono (ihb y e' _ Q hoky hy a' c' hr' rfl) fun ex a'' c'' hp => ?_
    exact NF (hag.mono fun k => QN) (fun k => VV) hp
   | _ => exact ⟨e', hr', hq, hag.mono fun k => QN⟩
 | cond pa pb iha ihb =>
  intro c e w Q hok h a cw hr hc
  cases c <;> simp only [vc] at h <;> try exact h.elim
  case cond v x y =>
   simp only [planOk, Bool.and_eq_true] at hok
   unfold cnd at h
   split at h
   ·rename_i b hb
    rw [← hr.eval] at hb
    cases b
    ·exact wp_cond_false hb (wp_mono (ihb y e w Q hok.2 h a cw hr hc) fun _ _ _ hp => NF (Agree.refl _ _) (fun k => VV) hp)
    ·exact wp_cond_true hb (wp_mono (iha x e w Q hok.1 h a cw hr hc) fun _ _ _ hp => NF (Agree.refl _ _) (fun k => QN) hp)
   ·exact h.elim
 | blk pa iha =>
  intro c e w Q hok h a cw hr hc
  cases c <;> simp only [vc] at h <;> try exact h.elim
  case block id x =>
   simp only [planOk] at hok
   refine wp_block (wp_mono (iha x e w _ hok h a cw hr hc) ?_)
   rintro ex a' c' ⟨e', hr', hq, hag⟩
   cases ex with
   | exit i =>
    simp only [Exit.inBlock]
    simp only [blkX] at hq
    cases hb : Nat.beq i id
    ·rw [if_neg (fun he => by rw [he, Nat.beq_refl] at hb; cases hb)]
     rw [hb] at hq
     exact ⟨e', hr', hq, hag⟩
    ·rw [if_pos (Nat.eq_of_beq_eq_true hb)]
     rw [hb] at hq
     exact ⟨e', hr', hq, hag⟩
   | _ => exact ⟨e', hr', hq, hag⟩
 | loop L W pa iha =>
  intro c e w Q hok h a cw hr hc
  cases c <;> simp only [vc] at h <;> try exact h.elim
  case loop x =>
   simp only [planOk, Bool.and_eq_true, beq_iff_eq] at hok
   obtain ⟨hW, hokx⟩ := hok
   obtain ⟨I, ⟨m, h0⟩, hI⟩ := h
   have hWm := NA hW
   refine wp_loop_ghost (fun m a' c' => ∃ e', Rep n a' e' ∧ Agree (wr x) e e' ∧ ap L.length (I m) (L.map e') (N c')) m ⟨e, hr, Agree.refl _ _, by rw [hc]; exact h0⟩ ?_
   rintro k a' c' ⟨e', hr', hag, hi⟩
   have hb := OO (hI k) (L.map e') (by simp) e' (N c') hi
   rw [RV (hag.mono hWm)] at hb
   refine wp_mono (iha x e' _ _ hokx hb a' c' hr' rfl) ?_
   rintro ex a'' c'' ⟨e'', hr'', hq, hag'⟩
   cases ex with
   | normal =>
    obtain ⟨m', hlt, hi'⟩ := hq
    exact ⟨m', hlt, e'', hr'', hag.trans hag', hi'⟩
   | _ => exact ⟨e'', hr'', hq, hag.trans hag'⟩
def oneOr : List Value → Value
 | [v] => v
 | vs => .tuple vs.toArray
def ldc (P : Program) (t : TypeId) (a : Value) (w : World) (K : Value → Prop) : Prop := dv P (do loadVar t (← asAddr a)) w K
def resP (P : Program) (e : Env) (w : World) : List ResultVar → (List Value → Prop) → Prop
 | [], K => K []
 | .tmp t :: r, K => resP P e w r (fun vs => K (e t :: vs))
 | .cell a t :: r, K => ldc P t (e a) w (fun v => resP P e w r (fun vs => K (v :: vs)))
def retX (P : Program) (rs : List ResultVar) (K : Value → World → Prop) : Exit → Env → World → Prop := fun ex e w => match ex with
 | .normal => resP P e w rs (fun vs => K (oneOr vs) w)
 | .ret => resP P e w rs (fun vs => K (oneOr vs) w)
 | _ => False
def env0 : List Value → Env
 | [], _ => undef
 | v :: _, 0 => v
 | _ :: l, k + 1 => env0 l k
theorem Ad7 : ∀ (l : List Value) (k : Nat), env0 l k = l.getD k undef
 | [], _ => by simp [env0]
 | _ :: _, 0 => by simp [env0]
 | _ :: l, k + 1 => by simp [env0, Ad7 l k]
def rvF (tmps : Array Value) : ResultVar → Sem Value
 | .tmp t => pure (tmps.getD t undef)
 | .cell a t => do loadVar t (← asAddr (tmps.getD a undef))
theorem RT {P : Program} {e : Env} {w : World} {tmps : Array Value} (hv : ∀ t, tmps.getD t undef = e t) : ∀ {rs : List ResultVar} {K : List Value → Prop}, resP P e w rs K →
  ∃ vs, rv P (rs.mapM (rvF tmps)) w = some vs ∧ K vs
 | [], K, h => ⟨[], rfl, h⟩
 | .tmp t :: r, K, h => by
  simp only [resP] at h
  obtain ⟨vs, h1, h2⟩ := RT hv h
  refine ⟨_, ?_, h2⟩
  simp only [List.mapM_cons, AR, rvF, HG, Option.bind_some]
  rw [h1, hv]; rfl
 | .cell a t :: r, K, h => by
  simp only [resP] at h
  obtain ⟨v, h0, h⟩ := h
  obtain ⟨vs, h1, h2⟩ := RT hv h
  refine ⟨_, ?_, h2⟩
  rw [← hv] at h0
  simp only [AR] at h0
  simp only [List.mapM_cons, rvF, AR]
  rw [h0]
  simp only [Option.bind_some]
  rw [h1]; rfl
theorem Ag6 (vs : List Value) : (if h : vs.toArray.size = 1 then vs.toArray[0] else .tuple vs.toArray) = oneOr vs := by
 cases vs with
 | nil => rfl
 | cons v r => cases r <;> simp [oneOr]
theorem AcF (fn : Func) (tmps : Array Value) : results fn tmps = (do
  let vs ← fn.results.mapM (rvF tmps)
  pure (if h : vs.size = 1 then vs[0] else .tuple vs)) := rfl
theorem AdY {P : Program} {fn : Func} {tmps : Array Value} {w : World} {vs : List Value}
  (h : rv P (fn.results.toList.mapM (rvF tmps)) w = some vs) : rv P (results fn tmps) w = some (oneOr vs) := by
 rw [AcF, Array.mapM_eq_mapM_toList, AR]
 have : rv P (List.toArray <$> (fn.results.toList.mapM (rvF tmps))) w = some vs.toArray := by
  rw [map_eq_pure_bind, AR, h]; rfl
 rw [this]
 simp only [Option.bind_some, HG, Ag6]
theorem Ajb {P : Program} {α : Type} {v : α} : ∀ (s : Sem α) (c : World), rv P s (N c) = some v → s.run P c = .ok v c := by
 intro s
 induction s <;> simp only [rv, Sem.run] <;> intro c hs
 case pure a => cases hs; rfl
 case load m a k ih =>
  rw [cell?_N] at hs
  split at hs
  ·rename_i v hv; rw [hv]; exact ih _ c hs
  ·cases hs
 case shape r k ih =>
  rw [shape?_N] at hs
  split at hs
  ·rename_i v hv; rw [hv]; exact ih _ c hs
  ·cases hs
 case choose q k ih =>
  split at hs
  ·rename_i hf; rw [if_pos hf]; exact ih _ c hs
  ·cases hs
 case program k ih => exact ih _ c hs
 case mark m k ih => exact ih c hs
 all_goals cases hs
theorem Aa {P : Program} (hm : P.follows .mixedOrders = true) {g : FuncId} {fn : Func} {c : Code} (hf : P.funcs[g]? = some fn) (hb : fn.body = some c) (hname : (fn.name == "runtime.NumGoroutine") = false)
  {p : Plan} (hok : planOk fn.ntmps p c = true) {args : List Value} (hargs : args.length ≤ fn.ntmps) {w : World} {K : Value → World → Prop}
  (H : vc P p c (env0 args) w (retX P fn.results.toList K)) : call P g args w K := by
 intro cw hcw
 refine ⟨.enter g args.toArray, cw, ?_, ?_⟩
 ·have hname' : ¬ fn.name = "runtime.NumGoroutine" := by simpa using hname
  simp [callFunc, program, Sem.run, hf, hname', hb]
 ·intro c2 hc2
  refine calls_of_wp hf hb ?_
  have hr : Rep fn.ntmps { tmps := args.toArray ++ Array.replicate (fn.ntmps - args.toArray.size) undef, defers := [] } (env0 args) := by
   refine ⟨by simp; omega, fun t => ?_, rfl⟩
   rw [Ad7]
   simp only [Array.getD_eq_getD_getElem?, Array.getElem?_append, List.getD_eq_getElem?_getD, List.size_toArray, List.getElem?_toArray]
   split
   ·rfl
   ·rename_i hlt
    rw [List.getElem?_eq_none (by omega)]
    simp only [Array.getElem?_replicate]
    split <;> rfl
  refine wp_mono (Ah1 hm p c _ _ _ hok H _ c2 hr (hc2.trans hcw)) ?_
  rintro ex a' c' ⟨e', hr', hq, _⟩
  have fin : resP P e' (N c') fn.results.toList (fun vs => K (oneOr vs) (N c')) → a'.defers = [] ∧ ∃ v, (results fn a'.tmps).run P c' = .ok v c' ∧ (∃ u, Ending.returned v = .returned u ∧ K u (N c')) := by
   intro hq
   obtain ⟨vs, h1, h2⟩ := RT hr'.val hq
   exact ⟨hr'.defers, _, Ajb _ c' (AdY h1), _, rfl, h2⟩
  cases ex <;> simp only [retX] at hq
  case normal => exact fin hq
  case ret => exact fin hq
  all_goals exact hq.elim
end Go.Vc
