/- Elimination: an elimination's data in the heap, and what its steps do to them. -/
import Derived.Test.YtliagkijeigcaaaC10
set_option linter.unusedVariables false
namespace Go.Proofs.Ytliagkijeigcaaa
open Go Go.Vc

variable {w : World} {K : Value → World → Prop}

abbrev iv (n : Nat) : Value := .int .i64 (n : Int)
abbrev OI (w : World) (base : Nat) (v : Value) (l : List Nat) : Prop := w.ownsRow base t_int64 1 v l.length (l.map iv)
theorem oneCell_iv (n : Nat) : (iv n).oneCell' = true := rfl

section
variable {lo hi : Nat} {v : Value} {m : List (List Nat)} {vs : List Value}
theorem OM.keep {w' : World} {row : Option Nat} {e : TypeId} (h : OM w lo hi v m vs) (hg : w.grownBy w' row) (ht : Ty w row e) (h1 : t_s_float32 ≠ e) (h2 : t_float32 ≠ e) : OM w' lo hi v m vs :=
  ⟨keep_row h.outer hg ht h1, fun i hi => let ⟨x, hx, ho, hk⟩ := h.rows i hi; ⟨x, hx, keep_row ho hg ht h2, hk⟩, h.apart, h.top⟩
theorem OM.pushed {w' : World} {v' : Value} {hi2 : Nat} {r : Value} {l : List Nat} (h : OM w lo hi v m vs) (hr : OwnR w hi hi2 t_float32 1 r l.length (l.map fl)) (hlh : lo ≤ hi)
    (h1 : w'.ownsRow lo t_s_float32 1 v' (m.length + 1) (vs ++ [r])) (h2 : w.grownBy w' v.ownBlock) : OM w' lo w'.heap.size v' (m ++ [l]) (vs ++ [r]) := by
  refine ⟨by simpa using h1, fun i hi' => ?_, fun i j x y hij hx hy => ?_, fun k hk => (h1.lt k hk).2⟩
  · by_cases he : i < m.length
    · obtain ⟨x, hx, ho, hk⟩ := h.rows i he
      have hv : i < vs.length := (List.getElem?_eq_some_iff.1 hx).1
      refine ⟨x, by rw [List.getElem?_append_left hv]; exact hx, ?_, fun k hkk => ?_⟩
      · rw [List.getElem_append_left he]
        exact ho.kept h2 (owns_ne ho h.outer (by decide))
      · have := (ho.lt k hkk).2
        have := h2.size
        omega
    · have hi'' : i = m.length := by simp at hi'; omega
      subst hi''
      refine ⟨r, by rw [← h.vlen]; simp, ?_, fun k hkk => ?_⟩
      · rw [List.getElem_append_right (Nat.le_refl _)]
        simp only [Nat.sub_self, List.getElem_cons_zero]
        exact owns_base (hr.own.kept h2 (owns_ne hr.own h.outer (by decide))) hlh
      · have := (hr.own.lt k hkk).2
        have := h2.size
        omega
  · by_cases he : j < vs.length
    · rw [List.getElem?_append_left he] at hy
      rw [List.getElem?_append_left (by omega)] at hx
      exact h.apart i j x y hij hx hy
    · have hjl := (List.getElem?_eq_some_iff.1 hy).1
      have : j = vs.length := by simp at hjl; omega
      subst this
      simp at hy; subst hy
      rw [List.getElem?_append_left hij] at hx
      have hvl := h.vlen
      obtain ⟨x', hx', ho', hk'⟩ := h.rows i (by omega)
      rw [hx] at hx'; cases hx'
      cases hob : x.ownBlock with
      | none => exact .inl rfl
      | some k =>
        refine .inr fun hne => ?_
        have h1 := hk' k hob
        have h2 := (hr.own.lt k hne.symm).1
        omega
theorem OM.bound (h : OM w lo hi v m vs) : m.length ≤ maxLen := owns_bound h.outer
theorem sw_sw (i j p : Nat) : sw i j (sw i j p) = p := by
  unfold sw
  by_cases e1 : p = j
  · subst e1
    rw [if_pos rfl]
    by_cases e2 : i = p
    · rw [if_pos e2]; exact e2
    · rw [if_neg e2, if_pos rfl]
  · rw [if_neg e1]
    by_cases e2 : p = i
    · subst e2
      rw [if_pos rfl, if_pos rfl]
    · rw [if_neg e2, if_neg e1, if_neg e2]
/-- The outer row's cells change places. -/
theorem OM.perm {w' : World} {i j : Nat} {n : Nat} (h : OM w lo hi v m vs) (hi' : i < m.length) (hj' : j < m.length) (hn : n = m.length) (ho : w'.ownsRow lo t_s_float32 1 v n (swapL vs i j undef)) (hg : w.grownBy w' v.ownBlock) : OM w' lo hi v (swapL m i j []) (swapL vs i j undef) := by
  subst hn
  have hvl := h.vlen
  have hgv := fun p => swapL_get (l := vs) (d := undef) (i := i) (j := j) (by omega) (by omega) p
  have hgm := fun p => swapL_get (l := m) (d := []) (i := i) (j := j) hi' hj' p
  have hsw : ∀ p, p < m.length → sw i j p < m.length := by
    intro p hp
    unfold sw
    by_cases e1 : p = j
    · rw [if_pos e1]; exact hi'
    · rw [if_neg e1]
      by_cases e2 : p = i
      · rw [if_pos e2]; exact hj'
      · rw [if_neg e2]; exact hp
  have hinj : ∀ p q, p ≠ q → sw i j p ≠ sw i j q := fun p q hne he => hne (by rw [← sw_sw i j p, he, sw_sw])
  refine ⟨by rw [swapL_length]; exact ho, fun p hp => ?_, fun p q x y hpq hx hy => ?_, h.top⟩
  · have hp' : p < m.length := by simpa using hp
    obtain ⟨x, hx, hox, hk⟩ := h.rows (sw i j p) (hsw p hp')
    refine ⟨x, by rw [hgv]; exact hx, ?_, hk⟩
    have e : (swapL m i j [])[p] = m[sw i j p]'(hsw p hp') := by
      have := hgm p
      rw [List.getElem?_eq_getElem hp, List.getElem?_eq_getElem (hsw p hp')] at this
      exact Option.some.inj this
    rw [e]
    exact hox.kept hg (owns_ne hox h.outer (by decide))
  · rw [hgv] at hx hy
    rcases Nat.lt_or_ge (sw i j p) (sw i j q) with hlt | hge
    · exact h.apart _ _ x y hlt hx hy
    · have hne := hinj p q (by omega)
      rcases h.apart _ _ y x (by omega) hy hx with h1 | h1
      · cases hob : x.ownBlock with
        | none => exact .inl rfl
        | some k => exact .inr (by rw [h1]; simp)
      · exact .inr fun e => h1 e.symm
theorem OM.put' {i j : Nat} {r : Value} {x : Nat} {K : World → Prop} (h : OM w lo hi v m vs) (hr : vs[i]? = some r) (hi' : i < m.length) (hj : j < m[i].length)
    (H : ∀ w', OM w' lo hi v (m.set i (m[i].set j x)) vs → w.grownBy w' r.ownBlock → Ty w r.ownBlock t_float32 → (∀ k, r.ownBlock = some k → lo ≤ k) → K w') :
    ixa P t_s_float32 r (.int .i64 (j : Int)) w (fun a => sto P t_float32 a (fl x) w K) := by
  obtain ⟨r', hr', ho, hk⟩ := h.rows i hi'
  rw [hr] at hr'; cases hr'
  refine owns_set ho hj (oneCell_fl _) u_s_float32 i_float32 fun w' ho' hg => ?_
  have e : OS w' lo r (m[i].set j x) := by
    show w'.ownsRow lo t_float32 1 r (m[i].set j x).length ((m[i].set j x).map fl)
    rw [List.length_set, List.map_set]; exact ho'
  exact H w' (h.row hr hg e).1 hg (Ty.owns ho) fun k hk => (ho.lt k hk).1
theorem OM.atI (h : OM w lo hi v m vs) {i : Nat} (hi' : i < m.length) {K : Value → Prop} (H : ∀ r, vs[i]? = some r → K r) : ixa P t_s_s_float32 v (.int .i64 (i : Int)) w (fun a => ld P t_s_float32 a w K) :=
  h.at hi' fun r hr _ => H r hr
theorem OM.rowAt (h : OM w lo hi v m vs) {i j : Nat} {r : Value} (hr : vs[i]? = some r) (hi' : i < m.length) (hj : j < m[i].length) {K : Value → Prop} (H : K (fl m[i][j])) : ixa P t_s_float32 r (.int .i64 (j : Int)) w (fun a => ld P t_float32 a w K) := by
  obtain ⟨r', hr', ho, hk⟩ := h.rows i hi'
  rw [hr] at hr'; cases hr'
  exact (owns_Row ho).at1 (get_map hj) u_s_float32 i_float32 u_float32 rfl H
end

/-- The variables of an elimination at work: p holds its fields, q is the function's result. -/
structure EL (w : World) (B : Nat) (p q ov tv : Value) (o : List Nat) (m : List (List Nat)) (vs : List Value) : Prop where
  bx : Bx w B t_impl_Elimination p [ov, tv]
  res : Bx w B t_impl_Elimination q [.slice none 0 0, .slice none 0 0]
  ne : blk q ≠ blk p
  ord : OI w B ov o
  tab : OM w B w.heap.size tv m vs
section
variable {B : Nat} {p q ov tv : Value} {o : List Nat} {m : List (List Nat)} {vs : List Value}
theorem EL.ext {w' : World} (h : EL w B p q ov tv o m vs) (he : Ext w w') : EL w' B p q ov tv o m vs := ⟨h.bx.ext he, h.res.ext he, h.ne, owns_ext h.ord he, (h.tab.ext he).sized⟩
theorem EL.getO (h : EL w B p q ov tv o m vs) {K : Value → Prop} (H : K ov) : fda P t_impl_Elimination p 0 w (fun a => ld P t_s_int64 a w K) := Bx.fld h.bx (off := 0) rfl u_impl_Elimination rfl i_s_int64 u_s_int64 rfl H
theorem EL.getT (h : EL w B p q ov tv o m vs) {K : Value → Prop} (H : K tv) : fda P t_impl_Elimination p 1 w (fun a => ld P t_s_s_float32 a w K) := Bx.fld h.bx (off := 1) rfl u_impl_Elimination rfl i_s_s_float32 u_s_s_float32 rfl H
theorem EL.ordAt (h : EL w B p q ov tv o m vs) {i : Nat} (hi : i < o.length) {K : Value → Prop} (H : K (iv o[i])) : ixa P t_s_int64 ov (.int .i64 (i : Int)) w (fun a => ld P t_int64 a w K) :=
  (owns_Row h.ord).at1 (get_map hi) u_s_int64 i_int64 u_int64 rfl H
/-- 'm[i][j] = x'. -/
theorem EL.put {i j : Nat} {r : Value} {x : Nat} {K : World → Prop} (h : EL w B p q ov tv o m vs) (hr : vs[i]? = some r) (hi' : i < m.length) (hj : j < m[i].length)
    (H : ∀ w', EL w' B p q ov tv o (m.set i (m[i].set j x)) vs → (∀ {A w0}, A ≤ B → A ≤ w.heap.size → RowKit.Below A w0 w → RowKit.Below A w0 w') → K w') :
    ixa P t_s_float32 r (.int .i64 (j : Int)) w (fun a => sto P t_float32 a (fl x) w K) := by
  refine h.tab.put' hr hi' hj fun w' ho hg ht hlo => H w' ⟨keep_box h.bx hg ht (by decide), keep_box h.res hg ht (by decide), h.ne, keep_row h.ord hg ht (by decide), ho.sized⟩ fun hA hs hb => hb.grown hg hs fun k hk => Nat.le_trans hA (hlo k hk)
/-- A store of a row into the table. -/
theorem EL.setO {i x : Nat} {K : World → Prop} (h : EL w B p q ov tv o m vs) (hi : i < o.length) (H : ∀ w', EL w' B p q ov tv (o.set i x) m vs → (∀ {A w0}, A ≤ B → A ≤ w.heap.size → RowKit.Below A w0 w → RowKit.Below A w0 w') → K w') :
    ixa P t_s_int64 ov (.int .i64 (i : Int)) w (fun a => sto P t_int64 a (iv x) w K) := by
  refine owns_set h.ord hi (oneCell_iv x) u_s_int64 i_int64 fun w' ho hg => ?_
  have ht := Ty.owns h.ord
  refine H w' ⟨keep_box h.bx hg ht (by decide), keep_box h.res hg ht (by decide), h.ne, ?_, (h.tab.keep hg ht (by decide) (by decide)).sized⟩ fun hA hs hb => hb.grown hg hs fun k hk => Nat.le_trans hA (h.ord.lt k hk).1
  show w'.ownsRow B t_int64 1 ov (o.set i x).length ((o.set i x).map iv)
  rw [List.length_set, List.map_set]; exact ho
/-- Two rows of the table change places: 't[i] = row j', then 't[j] = row i'. -/
theorem EL.swap1 {i j : Nat} {ri rj : Value} {K : World → Prop} (h : EL w B p q ov tv o m vs) (hi : i < m.length) (hj : j < m.length) (hri : vs[i]? = some ri) (hrj : vs[j]? = some rj)
    (H : ∀ w1, Bx w1 B t_impl_Elimination p [ov, tv] → (∀ {K2 : World → Prop}, (∀ w2, EL w2 B p q ov tv o (swapL m i j []) (swapL vs i j undef) → (∀ {A w0}, A ≤ B → A ≤ w.heap.size → RowKit.Below A w0 w → RowKit.Below A w0 w2) → K2 w2) →
      ixa P t_s_s_float32 tv (.int .i64 (j : Int)) w1 (fun a => sto P t_s_float32 a ri w1 K2)) → K w1) :
    ixa P t_s_s_float32 tv (.int .i64 (i : Int)) w (fun a => sto P t_s_float32 a rj w K) := by
  obtain ⟨ri', hri', oi, _⟩ := h.tab.rows i hi
  obtain ⟨rj', hrj', oj, _⟩ := h.tab.rows j hj
  rw [hri] at hri'; cases hri'
  rw [hrj] at hrj'; cases hrj'
  refine owns_set h.tab.outer hi (oneCell_sl oj) u_s_s_float32 i_s_float32 fun w1 o1 g1 => ?_
  have t1 := Ty.owns h.tab.outer
  refine H w1 (keep_box h.bx g1 t1 (by decide)) fun {K2} H2 => ?_
  refine owns_set o1 hj (oneCell_sl oi) u_s_s_float32 i_s_float32 fun w2 o2 g2 => ?_
  have g := grown_trans g1 g2
  have hvl := h.tab.vlen
  have e : (vs.set i rj).set j ri = swapL vs i j undef := by
    unfold swapL
    rw [List.getD_eq_getElem?_getD, List.getD_eq_getElem?_getD, hri, hrj]; rfl
  rw [e] at o2
  refine H2 w2 ⟨keep_box h.bx g t1 (by decide), keep_box h.res g t1 (by decide), h.ne, keep_row h.ord g t1 (by decide), (h.tab.perm hi hj rfl o2 g).sized⟩ fun hA hs hb => hb.grown g hs fun k hk => Nat.le_trans hA (h.tab.outer.lt k hk).1
end
end Go.Proofs.Ytliagkijeigcaaa
