import Derived.Test.YtjompmflommadaaGreatDoorQFnProgramTextsVVcC
set_option linter.unusedSimpArgs false
set_option linter.unusedVariables false
namespace Go.Vc
open Go
inductive Tr where
 | done
 | stop
 | op (x : It) (t : Tr)
 | fork (c : It) (t r : Tr)
def vcT (P : Program) (ops : List Oper) : Tr → Rc → Env → World → (Rc → Env → World → Prop) → Prop
 | .done, R, e, w, K => K R e w
 | .stop, _, _, _, _ => True
 | .op x t, R, e, w, K => stepO P ops x R e w (fun R' e' w' => vcT P ops t R' e' w' K)
 | .fork c t r, R, e, w, K => stepO P ops c R e w (fun R' e' w' => vcT P ops t R' e' w' K) ∧ vcT P ops r R e w K
def lin : Tr → List It
 | .op x t => x :: lin t
 | _ => []
def brs : Tr → Tr
 | .op _ t => brs t
 | t => t
theorem XW {P : Program} {ops : List Oper} {K : Rc → Env → World → Prop} : ∀ (t : Tr) {R : Rc} {e : Env} {w : World}, vcT P ops t R e w K → vcO P ops (lin t) R e w (fun R e w => vcT P ops (brs t) R e w K)
 | .done, _, _, _, h => h
 | .stop, _, _, _, h => h
 | .op x t, R, e, w, h => Et (fun _ _ _ q => XW t q) h
 | .fork c t r, _, _, _, h => h
def subD (ds D : List Nat) : Bool := ds.all (fun d => D.contains d)
def okOp (ops : List Oper) (D : List Nat) (x : It) : Bool := match nth ops x.1 with
 | some o => !D.contains x.1 && subD (depsOf o) D && o.guard.isNone
 | none => false
def pairB (ops : List Oper) (A : List Nat) (x y : It) : Bool := (A.getD y.1 0).testBit x.1 || okPair ops x y
def readyB (ops : List Oper) (D : List Nat) (i : Nat) : Bool := match nth ops i with
 | some o => !D.contains i && subD (depsOf o) D
 | none => false
def chk (ops : List Oper) (A : List Nat) : Tr → (D : List Nat) → (path : List It) → (H : List Nat) → Bool
 | .done, D, _, H => H.isEmpty && (List.range ops.length).all (fun i => D.contains i)
 | .stop, D, _, H => !H.isEmpty && (List.range ops.length).all (fun i => !readyB ops D i || H.contains i)
 | .op x t, D, path, H => H.isEmpty && okOp ops D x && path.all (fun y => pairB ops A y x) && chk ops A t (x.1 :: D) (x :: path) []
 | .fork c t r, D, path, H => okOp ops D c && path.all (fun y => pairB ops A y c) && chk ops A t (c.1 :: D) path [] && chk ops A r D path (c.1 :: H)
def treeOk (ops : List Oper) (t : Tr) : Bool :=
 let A := ancs ops []
 (List.range ops.length).all (fun i => match nth ops i with
  | some o => (depsOf o).all (· < i) && (A.getD i 0 == ancOf A o)
  | none => false) && chk ops A t [] [] []
section
variable {P : Program} {n : Nat} {K : Rc → Env → World → Prop} {Q : Exit → Act → World → Prop}
theorem Abj {ds D : List Nat} : subD ds D = true ↔ ∀ d ∈ ds, d ∈ D := by
 unfold subD
 simp [List.all_eq_true]
theorem Z7 {ops : List Oper} {A : List Nat} : ∀ (B : Tr) {D : List Nat} {path : List It} {H : List Nat} {i : Nat}, brs B = B → chk ops A B D path H = true → readyB ops D i = true → i ∉ H → B = .done ∨
  ∃ c t, c.1 = i ∧ okOp ops D c = true ∧ (∀ y ∈ path, pairB ops A y c = true) ∧ chk ops A t (c.1 :: D) path [] = true ∧ ∀ {P : Program} {R : Rc} {e : Env} {w : World} {K : Rc → Env → World → Prop}, vcT P ops B R e w K → stepO P ops c R e w (fun R' e' w' => vcT P ops t R' e' w' K)
 | .done, _, _, _, _, _, _, _, _ => .inl rfl
 | .stop, D, path, H, i, _, h, hr, hi => by
  simp only [chk, Bool.and_eq_true, List.all_eq_true, Bool.or_eq_true, Bool.not_eq_true'] at h
  have hn : i < ops.length := by
   unfold readyB at hr
   split at hr
   ·rename_i o ho
    rw [CY] at ho
    exact (List.getElem?_eq_some_iff.1 ho).1
   ·cases hr
  rcases h.2 i (by simpa using hn) with h1 | h1
  ·rw [hr] at h1; cases h1
  ·exact absurd (by simpa using h1) hi
 | .op x t, _, _, _, _, hb, _, _, _ => by
  exfalso
  have : ∀ t : Tr, ∀ x t', brs t ≠ .op x t' := by
   intro t
   induction t with
   | done => intro _ _ h; cases h
   | stop => intro _ _ h; cases h
   | op y s ih => intro x t' h; exact ih x t' h
   | fork c s r _ _ => intro _ _ h; cases h
  exact this _ _ _ hb
 | .fork c t r, D, path, H, i, _, h, hr, hi => by
  simp only [chk, Bool.and_eq_true, List.all_eq_true] at h
  obtain ⟨⟨⟨h1, h2⟩, h3⟩, h4⟩ := h
  by_cases hc : c.1 = i
  ·exact .inr ⟨c, t, hc, h1, h2, h3, fun q => q.1⟩
  ·right
   have hbr : brs r = r := by
    cases r with
    | op x s => simp [chk] at h4
    | _ => rfl
   rcases Z7 r hbr h4 hr (fun hm => by
    rcases List.mem_cons.1 hm with e | e
    ·exact hc e.symm
    ·exact hi e) with e | ⟨c', t', q1, q2, q3, q4, q5⟩
   ·subst e; simp [chk] at h4
   ·exact ⟨c', t', q1, q2, q3, q4, fun q => q5 q.2⟩
theorem YO {ops : List Oper} {A : List Nat} : ∀ (t : Tr) {D : List Nat} {path : List It}, chk ops A t D path [] = true →
  chk ops A (brs t) ((lin t).reverse.map (·.1) ++ D) ((lin t).reverse ++ path) [] = true ∧
  (∀ L1 x L2, lin t = L1 ++ x :: L2 → okOp ops (L1.reverse.map (·.1) ++ D) x = true ∧ (∀ y ∈ L1, pairB ops A y x = true) ∧ (∀ y ∈ path, pairB ops A y x = true))
 | .done, D, path, h => ⟨h, fun L1 x L2 e => by simp [lin] at e⟩
 | .stop, D, path, h => ⟨h, fun L1 x L2 e => by simp [lin] at e⟩
 | .fork c t r, D, path, h => ⟨h, fun L1 x L2 e => by simp [lin] at e⟩
 | .op x t, D, path, h => by
  simp only [chk, Bool.and_eq_true, List.all_eq_true] at h
  obtain ⟨⟨⟨_, h1⟩, h2⟩, h3⟩ := h
  obtain ⟨a, b⟩ := YO t h3
  refine ⟨by simpa [lin, brs] using a, fun L1 y L2 e => ?_⟩
  cases L1 with
  | nil =>
   simp only [lin, List.nil_append, List.cons.injEq] at e
   obtain ⟨rfl, _⟩ := e
   exact ⟨by simpa using h1, fun y hy => by simp at hy, h2⟩
  | cons z L1 =>
   simp only [lin, List.cons_append, List.cons.injEq] at e
   obtain ⟨rfl, e⟩ := e
   obtain ⟨b1, b2, b3⟩ := b L1 y L2 e
   refine ⟨by simpa using b1, fun u hu => ?_, fun u hu => b3 u (by simp [hu])⟩
   rcases List.mem_cons.1 hu with rfl | hu
   ·exact b3 _ (by simp)
   ·exact b2 u hu
theorem K8 {ops : List Oper} {D : List Nat} {x : It} : okOp ops D x = true ↔ ∃ o, nth ops x.1 = some o ∧ x.1 ∉ D ∧ (∀ d ∈ depsOf o, d ∈ D) ∧ o.guard.isNone = true := by
 unfold okOp
 cases h : nth ops x.1 with
 | none => simp
 | some o => simp [Abj, and_assoc]
theorem anyT {ops : Array Oper} (hdst : ∀ o ∈ ops.toList, ∀ d, o.dst = some d → d < n) {A : List Nat}
  (hA : ∀ i o, nth ops.toList i = some o → (∀ j ∈ depsOf o, j < i) ∧ A.getD i 0 = ancOf A o)
  (hK : ∀ R a e c, Rep n a e → K R e (N c) → Q .normal a c) :
  ∀ (fuel : Nat) (U : List Nat) (L path : List It) (B : Tr) (D : List Nat) (R : Rc) (listed : Array Bool) (a : Act) (e : Env) (c : World),
   (∀ i, i ∉ U → ∀ w, R i w) → U.Nodup → (∀ i ∈ U, i < ops.size) → U.length + fuel = ops.size → listed.size = ops.size →
   (∀ i, i < ops.size → (listed.getD i true = true ↔ i ∈ U)) →
   (∀ i o, nth ops.toList i = some o → i ∈ U → ∀ j ∈ depsOf o, j ∈ U) →
   (∀ i, i ∈ D ↔ i ∈ U ∨ i ∈ L.map (·.1)) → (∀ x ∈ L, x ∈ path) →
   (∀ L1 x L2, L = L1 ++ x :: L2 → ∃ o, nth ops.toList x.1 = some o ∧ x.1 ∉ U ∧ x.1 ∉ L1.map (·.1) ∧ (∀ j ∈ depsOf o, j ∈ U ∨ j ∈ L1.map (·.1)) ∧ ∀ y ∈ L1, pairB ops.toList A y x = true) →
   brs B = B → chk ops.toList A B D path [] = true →
   Rep n a e → vcO P ops.toList L R e (N c) (fun R e w => vcT P ops.toList B R e w K) → wpAny P .any ops Q fuel listed a c := by
 have getn : ∀ i, i < ops.size → nth ops.toList i = some (ops[i]!) ∧ ops[i]? = some ops[i]! := by
  intro i hi
  rw [CY, Array.getElem?_toList]
  simp [hi]
 intro fuel
 induction fuel with
 | zero =>
  intro U L path B D R listed a e c hR hUn hUl hf hsz hl hdown hD hLp hL hB hchk hr h
  have hall : ∀ i, i < ops.size → i ∈ U := by
   intro i hi
   refine Classical.byContradiction fun hno => ?_
   have h1 : (i :: U).Nodup := List.nodup_cons.2 ⟨hno, hUn⟩
   have h2 : (i :: U) ⊆ List.range ops.size := by
    intro j hj
    rcases List.mem_cons.1 hj with rfl | hj
    ·simpa using hi
    ·simpa using hUl j hj
   have := h1.length_le_of_subset h2
   simp at this
   omega
  have hLn : L = [] := by
   cases L with
   | nil => rfl
   | cons x r =>
    obtain ⟨o, ho, hno, _⟩ := hL [] x r rfl
    rw [CY] at ho
    have := (List.getElem?_eq_some_iff.1 ho).1
    exact absurd (hall x.1 (by simpa using this)) hno
  subst hLn
  have hready : Region.ready .any ops listed = [] := by
   refine List.eq_nil_iff_forall_not_mem.2 fun i hi => ?_
   obtain ⟨o, ho, h1, _⟩ := IN.1 hi
   have hi' : i < ops.size := by
    rcases Nat.lt_or_ge i ops.size with h | h
    ·exact h
    ·simp [Array.getElem?_eq_none h] at ho
   have := (hl i hi').2 (hall i hi')
   rw [h1] at this; cases this
  refine ⟨hready, ?_⟩
  cases B with
  | done => exact hK _ _ _ _ hr h
  | stop => simp [chk] at hchk
  | op x t => simp [chk] at hchk; exact absurd hB (by
    have : ∀ t : Tr, ∀ x t', brs t ≠ .op x t' := by
     intro t
     induction t with
     | done => intro _ _ h; cases h
     | stop => intro _ _ h; cases h
     | op y s ih => intro x t' h; exact ih x t' h
     | fork c s r _ _ => intro _ _ h; cases h
    exact this _ _ _)
  | fork c t r =>
   simp only [chk, Bool.and_eq_true] at hchk
   obtain ⟨o, ho, hno, _⟩ := K8.1 hchk.1.1.1
   rw [CY] at ho
   have := (List.getElem?_eq_some_iff.1 ho).1
   exact absurd ((hD c.1).2 (.inl (hall c.1 (by simpa using this)))) hno
 | succ fuel ih =>
  intro U L path B D R listed a e c hR hUn hUl hf hsz hl hdown hD hLp hL hB hchk hr h
  have hld : ∀ i, i < ops.size → ∀ d, listed.getD i d = listed.getD i true := by
   intro i hi d
   have : i < listed.size := by omega
   simp [Array.getD_eq_getD_getElem?, this]
  have isready : ∀ i o, nth ops.toList i = some o → i ∉ U → (∀ j ∈ depsOf o, j ∈ U) → i ∈ Region.ready .any ops listed := by
   intro i o ho hno hd
   have hi : i < ops.size := by
    rw [CY] at ho
    simpa using (List.getElem?_eq_some_iff.1 ho).1
   refine IN.2 ⟨o, by rw [CY, Array.getElem?_toList] at ho; exact ho, ?_, fun j hj => ?_⟩
   ·cases hb : listed.getD i true with
    | false => rfl
    | true => exact absurd ((hl i hi).1 hb) hno
   ·have hjU := hd j hj
    have hjs := hUl j hjU
    rw [hld j hjs]
    exact (hl j hjs).2 hjU
  constructor
  ·intro h0
   cases L with
   | cons x r =>
    exfalso
    obtain ⟨o, ho, hno, _, hd, _⟩ := hL [] x r rfl
    have := isready x.1 o ho hno fun j hj => by simpa using hd j hj
    rw [h0] at this; cases this
   | nil =>
    cases B with
    | done => exact hK _ _ _ _ hr h
    | stop => simp [chk] at hchk
    | op x t => exact absurd hB (by
      have : ∀ t : Tr, ∀ x t', brs t ≠ .op x t' := by
       intro t
       induction t with
       | done => intro _ _ h; cases h
       | stop => intro _ _ h; cases h
       | op y s ih => intro x t' h; exact ih x t' h
       | fork c s r _ _ => intro _ _ h; cases h
      exact this _ _ _)
    | fork c t r =>
     exfalso
     simp only [chk, Bool.and_eq_true] at hchk
     obtain ⟨o, ho, hno, hd, _⟩ := K8.1 hchk.1.1.1
     have := isready c.1 o ho (fun hm => hno ((hD _).2 (.inl hm))) fun j hj => by simpa using (hD j).1 (hd j hj)
     rw [h0] at this; cases this
  ·intro i hi
   obtain ⟨o, ho, h1, h2⟩ := IN.1 hi
   have hlt : i < ops.size := by
    rcases Nat.lt_or_ge i ops.size with h | h
    ·exact h
    ·simp [Array.getElem?_eq_none h] at ho
   have hn : nth ops.toList i = some o := by rw [CY, Array.getElem?_toList, ho]
   have hiU : i ∉ U := by
    intro hm
    have := (hl i hlt).2 hm
    rw [h1] at this; cases this
   have hdeps : ∀ j ∈ depsOf o, j ∈ U := by
    intro j hj
    have hji := (hA _ _ hn).1 j hj
    have hjs : j < ops.size := by omega
    have := h2 j hj
    rw [hld j hjs] at this
    exact (hl j hjs).1 this
   have noanc : ∀ k, (A.getD i 0).testBit k = true → k ∈ U := fun k hk => Adn hA (fun k => k ∈ U) (fun i o ho hi => hdown i o ho hi) i o hn hdeps k hk
   have hUn' : (i :: U).Nodup := List.nodup_cons.2 ⟨hiU, hUn⟩
   have hUl' : ∀ j ∈ i :: U, j < ops.size := fun j hj => by
    rcases List.mem_cons.1 hj with rfl | hj
    ·exact hlt
    ·exact hUl j hj
   have hdown' : ∀ k ok, nth ops.toList k = some ok → k ∈ i :: U → ∀ j ∈ depsOf ok, j ∈ i :: U := by
    intro k ok hk hkm j hj
    rcases List.mem_cons.1 hkm with rfl | hkm
    ·rw [hn] at hk; cases hk
     exact List.mem_cons_of_mem _ (hdeps j hj)
    ·exact List.mem_cons_of_mem _ (hdown k ok hk hkm j hj)
   have hl' : ∀ j, j < ops.size → ((listed.setIfInBounds i true).getD j true = true ↔ j ∈ i :: U) := by
    intro j hj
    rw [Xc _ _ _ (by omega)]
    by_cases hij : i = j
    ·subst hij; simp
    ·rw [if_neg hij, hl j hj]
     simp [Ne.symm hij]
   have nodupL : ∀ L1 x L2, L = L1 ++ x :: L2 → (L1.map (·.1)).Nodup := by
    suffices H : ∀ (k : Nat) L1 x L2, L1.length = k → L = L1 ++ x :: L2 → (L1.map (·.1)).Nodup from fun L1 x L2 e => H _ L1 x L2 rfl e
    intro k
    induction k with
    | zero => intro L1 x L2 hk _; rw [List.eq_nil_of_length_eq_zero hk]; simp
    | succ k ihl =>
     intro L1 x L2 hk e
     rcases L1.eq_nil_or_concat with e1 | ⟨l, y, e1⟩
     ·rw [e1]; simp
     ·rw [List.concat_eq_append] at e1
      subst e1
      have e' : L = l ++ y :: (x :: L2) := by rw [e]; simp
      have h1 := ihl l y (x :: L2) (by simpa using hk) e'
      obtain ⟨_, _, _, h2, _⟩ := hL l y (x :: L2) e'
      rw [List.map_append, List.map_cons, List.map_nil, List.nodup_append]
      refine ⟨h1, by simp, ?_⟩
      rintro a ha b hb rfl
      simp at hb
      subst hb
      exact h2 ha
   by_cases hiL : i ∈ L.map (·.1)
   ·obtain ⟨x, hx, rfl⟩ := List.mem_map.1 hiL
    obtain ⟨L1, L2, hLe⟩ := List.append_of_mem hx
    obtain ⟨o', ho', hxU, hxL1, _, hxp⟩ := hL L1 x L2 hLe
    have hpre : ∀ y ∈ L1, okPair ops.toList y x = true := by
     intro y hy
     have hp := hxp y hy
     simp only [pairB, Bool.or_eq_true] at hp
     rcases hp with hp | hp
     ·exfalso
      obtain ⟨M1, M2, hM⟩ := List.append_of_mem hy
      obtain ⟨_, _, hyU, _⟩ := hL M1 y (M2 ++ x :: L2) (by rw [hLe, hM]; simp)
      exact hyU (noanc _ hp)
     ·exact hp
    subst hLe
    have hf' := frontO hpre (nodupL L1 x L2 rfl) (fun y hy e => hxL1 (List.mem_map.2 ⟨y, hy, e⟩)) (fun y hy w => hR y.1 (fun hm => by
     obtain ⟨M1, M2, hM⟩ := List.append_of_mem hy
     obtain ⟨_, _, hyU, _⟩ := hL M1 y (M2 ++ x :: L2) (by rw [hM]; simp)
     exact hyU hm) w) h
    simp only [vcO] at hf'
    refine NI hdst hr hf' fun R' a' e' c' hR' hr' hk => ih (x.1 :: U) (L1 ++ L2) path B D R' _ a' e' c' ?_ hUn' hUl' (by simp only [List.length_cons]; omega) (by simp [hsz]) hl' hdown' ?_ ?_ ?_ hB hchk hr' hk
    ·intro j hj w
     simp only [List.mem_cons, not_or] at hj
     rw [hR' j hj.1]
     exact hR j hj.2 w
    ·intro j
     rw [hD j]
     simp only [List.map_append, List.map_cons, List.mem_append, List.mem_cons]
     constructor
     ·rintro (q | q | q | q)
      ·exact .inl (.inr q)
      ·exact .inr (.inl q)
      ·exact .inl (.inl q)
      ·exact .inr (.inr q)
     ·rintro ((q | q) | q | q)
      ·exact .inr (.inr (.inl q))
      ·exact .inl q
      ·exact .inr (.inl q)
      ·exact .inr (.inr (.inr q))
    ·intro y hy
     refine hLp y ?_
     rcases List.mem_append.1 hy with hy | hy <;> simp [hy]
    ·intro M1 y M2 e
     have hcase : (∃ M, L1 = M1 ++ y :: M) ∨ (∃ M, M1 = L1 ++ M ∧ L2 = M ++ y :: M2) := by
      rcases List.append_eq_append_iff.1 e with ⟨M, q1, q2⟩ | ⟨M, q1, q2⟩
      ·exact .inr ⟨M, q1, q2⟩
      ·cases M with
       | nil => exact .inr ⟨[], by simpa using q1.symm, by simpa using q2.symm⟩
       | cons z M =>
        simp only [List.cons_append, List.cons.injEq] at q2
        exact .inl ⟨M, by rw [q1, q2.1]⟩
     rcases hcase with ⟨M, rfl⟩ | ⟨M, rfl, rfl⟩
     ·obtain ⟨oy, q1, q2, q3, q4, q5⟩ := hL M1 y (M ++ x :: L2) (by simp)
      refine ⟨oy, q1, ?_, q3, fun j hj => (q4 j hj).imp (List.mem_cons_of_mem _) id, q5⟩
      simp only [List.mem_cons, not_or]
      refine ⟨fun e => ?_, q2⟩
      exact hxL1 (by rw [← e]; simp)
     ·obtain ⟨oy, q1, q2, q3, q4, q5⟩ := hL (L1 ++ x :: M) y M2 (by simp)
      refine ⟨oy, q1, ?_, ?_, fun j hj => ?_, fun z hz => q5 z ?_⟩
      ·simp only [List.mem_cons, not_or]
       refine ⟨fun e => ?_, q2⟩
       exact q3 (by rw [e]; simp)
      ·intro hm
       refine q3 ?_
       simp only [List.map_append, List.map_cons, List.mem_append, List.mem_cons] at hm ⊢
       rcases hm with hm | hm
       ·exact .inl hm
       ·exact .inr (.inr hm)
      ·have := q4 j hj
       simp only [List.map_append, List.map_cons, List.mem_append, List.mem_cons] at this ⊢
       rcases this with q | q | q | q
       ·exact .inl (.inr q)
       ·exact .inr (.inl q)
       ·exact .inl (.inl q)
       ·exact .inr (.inr q)
      ·rcases List.mem_append.1 hz with hz | hz <;> simp [hz]
   ·have hiD : i ∉ D := fun hm => by
     rcases (hD i).1 hm with q | q
     ·exact hiU q
     ·exact hiL q
    have hrB : readyB ops.toList D i = true := by
     unfold readyB
     rw [hn]
     simp only [Bool.and_eq_true, Bool.not_eq_true', Abj]
     exact ⟨by simpa using hiD, fun d hd => (hD d).2 (.inl (hdeps d hd))⟩
    rcases Z7 B hB hchk hrB (by simp) with e1 | ⟨cc, t, hci, hok, hpair, hct, hst⟩
    ·exfalso
     subst e1
     simp only [chk, Bool.and_eq_true, List.all_eq_true] at hchk
     exact hiD (by simpa using hchk.2 i (by simpa using hlt))
    ·subst hci
     have h' : vcO P ops.toList (L ++ cc :: []) R e (N c) (fun R e w => vcT P ops.toList t R e w K) :=
      RQ (O7 (fun R e w q => hst q) h)
     have hpre : ∀ y ∈ L, okPair ops.toList y cc = true := by
      intro y hy
      have hp := hpair y (hLp y hy)
      simp only [pairB, Bool.or_eq_true] at hp
      rcases hp with hp | hp
      ·exfalso
       obtain ⟨M1, M2, hM⟩ := List.append_of_mem hy
       obtain ⟨_, _, hyU, _⟩ := hL M1 y M2 hM
       exact hyU (noanc _ hp)
      ·exact hp
     have hnd : (L.map (·.1)).Nodup := by
      rcases L.eq_nil_or_concat with e1 | ⟨l, y, e1⟩
      ·rw [e1]; simp
      ·rw [List.concat_eq_append] at e1
       have h1 := nodupL l y [] (by rw [e1])
       obtain ⟨_, _, _, h2, _⟩ := hL l y [] (by rw [e1])
       rw [e1, List.map_append, List.map_cons, List.map_nil, List.nodup_append]
       refine ⟨h1, by simp, ?_⟩
       rintro a ha b hb rfl
       simp at hb
       subst hb
       exact h2 ha
     have hnU : ∀ y ∈ L, y.1 ∉ U := fun y hy => by
      obtain ⟨M1, M2, hM⟩ := List.append_of_mem hy
      obtain ⟨_, _, hyU, _⟩ := hL M1 y M2 hM
      exact hyU
     have hf' := frontO hpre hnd (fun y hy e => hiL (List.mem_map.2 ⟨y, hy, e⟩)) (fun y hy w => hR y.1 (hnU y hy) w) h'
     rw [List.append_nil] at hf'
     simp only [vcO] at hf'
     obtain ⟨hc1, hc2⟩ := YO t hct
     refine NI hdst hr hf' fun R' a' e' c' hR' hr' hk => ih (cc.1 :: U) (L ++ lin t) ((lin t).reverse ++ path) (brs t) ((lin t).reverse.map (·.1) ++ cc.1 :: D) R' _ a' e' c' ?_ hUn' hUl' (by simp only [List.length_cons]; omega) (by simp [hsz]) hl' hdown' ?_ ?_ ?_ ?_ hc1 hr' ?_
     ·intro j hj w
      simp only [List.mem_cons, not_or] at hj
      rw [hR' j hj.1]
      exact hR j hj.2 w
     ·intro j
      simp only [List.map_append, List.mem_append, List.map_reverse, List.mem_reverse, List.mem_cons, hD j]
      constructor
      ·rintro (q | q | q | q)
       ·exact .inr (.inr q)
       ·exact .inl (.inl q)
       ·exact .inl (.inr q)
       ·exact .inr (.inl q)
      ·rintro ((q | q) | q | q)
       ·exact .inr (.inl q)
       ·exact .inr (.inr (.inl q))
       ·exact .inr (.inr (.inr q))
       ·exact .inl q
     ·intro y hy
      rcases List.mem_append.1 hy with hy | hy
      ·exact List.mem_append_right _ (hLp y hy)
      ·exact List.mem_append_left _ (by simpa using hy)
     ·intro M1 y M2 e
      have hcase : (∃ M, L = M1 ++ y :: M) ∨ (∃ M, M1 = L ++ M ∧ lin t = M ++ y :: M2) := by
       rcases List.append_eq_append_iff.1 e with ⟨M, q1, q2⟩ | ⟨M, q1, q2⟩
       ·exact .inr ⟨M, q1, q2⟩
       ·cases M with
        | nil => exact .inr ⟨[], by simpa using q1.symm, by simpa using q2.symm⟩
        | cons z M =>
         simp only [List.cons_append, List.cons.injEq] at q2
         exact .inl ⟨M, by rw [q1, q2.1]⟩
      rcases hcase with ⟨M, hM⟩ | ⟨M, rfl, hM⟩
      ·obtain ⟨oy, q1, q2, q3, q4, q5⟩ := hL M1 y M hM
       refine ⟨oy, q1, ?_, q3, fun j hj => (q4 j hj).imp (List.mem_cons_of_mem _) id, q5⟩
       simp only [List.mem_cons, not_or]
       refine ⟨fun e => ?_, q2⟩
       exact hiL (List.mem_map.2 ⟨y, by rw [hM]; simp, e⟩)
      ·obtain ⟨p1, p2, p3⟩ := hc2 M y M2 hM
       obtain ⟨oy, q1, q2, q3, q4⟩ := K8.1 p1
       simp only [List.mem_append, List.map_reverse, List.mem_reverse, List.mem_cons, not_or, hD] at q2 q3
       refine ⟨oy, q1, ?_, ?_, fun j hj => ?_, fun z hz => ?_⟩
       ·simp only [List.mem_cons, not_or]
        exact ⟨q2.2.1, q2.2.2.1⟩
       ·simp only [List.map_append, List.mem_append, not_or]
        exact ⟨q2.2.2.2, q2.1⟩
       ·simp only [List.map_append, List.mem_append, List.mem_cons]
        rcases q3 j hj with q | q | q | q
        ·exact .inr (.inr q)
        ·exact .inl (.inl q)
        ·exact .inl (.inr q)
        ·exact .inr (.inl q)
       ·rcases List.mem_append.1 hz with hz | hz
        ·exact p3 z (hLp z hz)
        ·exact p2 z hz
     ·have : ∀ t : Tr, brs (brs t) = brs t := by
       intro t
       induction t with
       | op x s ih => exact ih
       | _ => rfl
      exact this t
     ·refine RQ (O7 (fun R e w q => XW t q) hk)
theorem Acl : ∀ t : Tr, brs (brs t) = brs t
 | .op _ t => Acl t
 | .done => rfl
 | .stop => rfl
 | .fork _ _ _ => rfl
theorem AcP (hm : P.follows .mixedOrders = true) {ops : Array Oper} {id : Nat} {t : Tr} {a : Act} {e : Env} {c : World} (hdst : ∀ o ∈ ops.toList, ∀ d, o.dst = some d → d < n)
  (hchk : treeOk ops.toList t = true) (hr : Rep n a e) (hK : ∀ R a e c, Rep n a e → K R e (N c) → Q .normal a c) (h : vcT P ops.toList t Rc0 e (N c) K) : (Code.region id ops true).wp P Q a c := by
 refine wp_region_any hm ?_
 simp only [treeOk, Bool.and_eq_true, List.all_eq_true, List.mem_range] at hchk
 obtain ⟨h4, h5⟩ := hchk
 have hA : ∀ i o, nth ops.toList i = some o → (∀ j ∈ depsOf o, j < i) ∧ (ancs ops.toList []).getD i 0 = ancOf (ancs ops.toList []) o := by
  intro i o ho
  have hi : i < ops.toList.length := by
   rw [CY] at ho
   exact (List.getElem?_eq_some_iff.1 ho).1
  have := h4 i hi
  rw [ho] at this
  simpa only [Bool.and_eq_true, List.all_eq_true, decide_eq_true_eq, beq_iff_eq] using this
 obtain ⟨hc1, hc2⟩ := YO t h5
 refine anyT (c := { c with drawn := c.drawn + 1 }) hdst hA hK ops.size [] (lin t) ((lin t).reverse ++ []) (brs t) ((lin t).reverse.map (·.1) ++ []) Rc0 (Array.replicate ops.size false) a e (fun _ _ _ => trivial) List.nodup_nil (fun i hi => by cases hi) (by simp) (by simp) ?_ (fun i o _ hi => by cases hi) ?_ ?_ ?_ (Acl t) hc1 hr (XW t h)
 ·intro i hi
  have : (Array.replicate ops.size false).getD i true = false := by simp [hi]
  rw [this]; simp
 ·intro i; simp
 ·intro x hx; simpa using hx
 ·intro L1 x L2 hL
  obtain ⟨p1, p2, _⟩ := hc2 L1 x L2 hL
  obtain ⟨o, q1, q2, q3, q4⟩ := K8.1 p1
  simp only [List.append_nil, List.map_reverse, List.mem_reverse] at q2 q3
  exact ⟨o, q1, by simp, q2, fun j hj => .inr (q3 j hj), p2⟩
theorem Ou {ops : List Oper} {K K' : Rc → Env → World → Prop} (h : ∀ R e w, K R e w → K' R e w) : ∀ (t : Tr) {R : Rc} {e : Env} {w : World}, vcT P ops t R e w K → vcT P ops t R e w K'
 | .done, _, _, _, q => h _ _ _ q
 | .stop, _, _, _, q => q
 | .op _ t, _, _, _, q => Et (fun _ _ _ q => Ou h t q) q
 | .fork _ t r, _, _, _, q => ⟨Et (fun _ _ _ q => Ou h t q) q.1, Ou h r q.2⟩
theorem Vl {ops : List Oper} {W : Nat} {x : It} {R : Rc} {e : Env} {w : World} {K : Rc → Env → World → Prop} (hW : ∀ i o, nth ops i = some o → ∀ d, o.dst = some d → W.testBit d = true) (h : stepO P ops x R e w K) :
  stepO P ops x R e w (fun R' e' w' => K R' e' w' ∧ Agree W e e') := by
 unfold stepO at h ⊢
 split at h
 ·exact h
 ·rename_i o ho
  have hd := hW x.1 o ho
  split at h
  ·rename_i hw; rw [if_pos hw]; exact FA (fun v w' q => IT (fun _ q => q) (fun q => ⟨q, Agree.upd v hd⟩) q) h
  ·rename_i hw; rw [if_neg hw]; exact ⟨h, Agree.upd _ hd⟩
theorem Po {ops : List Oper} {W : Nat} (hW : ∀ i o, nth ops i = some o → ∀ d, o.dst = some d → W.testBit d = true) {K : Rc → Env → World → Prop} : ∀ (t : Tr) {R : Rc} {e : Env} {w : World}, vcT P ops t R e w K → vcT P ops t R e w (fun R' e' w' => K R' e' w' ∧ Agree W e e')
 | .done, _, _, _, q => ⟨q, Agree.refl _ _⟩
 | .stop, _, _, _, q => q
 | .op _ t, _, _, _, q => Et (fun _ _ _ q => Ou (fun _ _ _ z => ⟨z.1, q.2.trans z.2⟩) t (Po hW t q.1)) (Vl hW q)
 | .fork _ t r, _, _, _, q => ⟨Et (fun _ _ _ q => Ou (fun _ _ _ z => ⟨z.1, q.2.trans z.2⟩) t (Po hW t q.1)) (Vl hW q.1), Po hW r q.2⟩
end
def vcTN (P : Program) (ops : List Oper) : Tr → Rc → Env → World → (Env → World → Prop) → Prop
 | .done, _, e, w, K => K e w
 | .stop, _, _, _, _ => True
 | .op x t, R, e, w, K => match nth ops x.1 with
  | none => False
  | some o => opN P (ev e) o x w (fun v w' => pend x.2.1 R w' (vcTN P ops t (rcN P R e o x v) (upd e o.dst v) w' K))
 | .fork x t r, R, e, w, K => match nth ops x.1 with
  | none => False
  | some o => match r with
   | .stop => opN P (ev e) o x w (fun v w' => pend x.2.1 R w' (vcTN P ops t (rcN P R e o x v) (upd e o.dst v) w' K))
   | r => opN P (ev e) o x w (fun v w' => pend x.2.1 R w' (vcTN P ops t (rcN P R e o x v) (upd e o.dst v) w' K)) ∧ vcTN P ops r R e w K
theorem Xj {P : Program} {ops : List Oper} {A : List Nat} {K : Env → World → Prop} : ∀ (t : Tr) {D : List Nat} {path : List It} {H : List Nat} {R R' : Rc} {e : Env} {w : World}, (∀ k w, R k w → R' k w) → chk ops A t D path H = true → vcTN P ops t R e w K → vcT P ops t R' e w (fun _ e w => K e w)
 | .done, _, _, _, _, _, _, _, _, _, h => h
 | .stop, _, _, _, _, _, _, _, _, _, h => h
 | .op x t, D, path, H, R, R', e, w, hR, hc, h => by
  simp only [chk, Bool.and_eq_true] at hc
  obtain ⟨o, q1, q2, q3, q4⟩ := K8.1 hc.1.1.2
  simp only [vcTN, q1] at h
  have hg : o.guard = none := by simpa using q4
  simp only [vcT, stepO, q1]
  rw [if_pos (by simp only [wantedE, hg])]
  exact FA (fun v w' q => IT (fun p => hR p w') (fun q => Xj t (XU hR) hc.2 q) q) (Pt (U5 e) h)
 | .fork x t r, D, path, H, R, R', e, w, hR, hc, h => by
  simp only [chk, Bool.and_eq_true] at hc
  obtain ⟨o, q1, q2, q3, q4⟩ := K8.1 hc.1.1.1
  have hg : o.guard = none := by simpa using q4
  have h' : opN P (ev e) o x w (fun v w' => pend x.2.1 R w' (vcTN P ops t (rcN P R e o x v) (upd e o.dst v) w' K)) ∧ vcTN P ops r R e w K := by
   cases r with
   | stop => simp only [vcTN, q1] at h; exact ⟨h, trivial⟩
   | _ => simp only [vcTN, q1] at h; simpa only [vcTN] using h
  refine ⟨?_, Xj r hR hc.2 h'.2⟩
  simp only [stepO, q1]
  rw [if_pos (by simp only [wantedE, hg])]
  exact FA (fun v w' q => IT (fun p => hR p w') (fun q => Xj t (XU hR) hc.1.2 q) q) (Pt (U5 e) h'.1)
end Go.Vc
