/- Contracts: matrices of one's own; marks. -/
import Derived.Test.YtliagkijeigcaaaC3
import Derived.Test.YtliagkijeigcaaaVcK
set_option linter.unusedVariables false
namespace Go.Proofs.Ytliagkijeigcaaa
open Go Go.Vc

variable {w : World} {K : Value → World → Prop}

/-- A row behind the range stays. -/
theorem chg_owns {lo hi base : Nat} {a b : World} {e : TypeId} {s n : Nat} {v : Value} {xs : List Value} (h : Chg lo hi a b) (ho : a.ownsRow base e s v n xs) (hb : hi ≤ base) : b.ownsRow base e s v n xs := by
  refine ⟨ho.1, ?_⟩
  rcases ho.2 with h0 | ⟨g, cap, cur, hv, hbb, hg, hr⟩
  · exact .inl h0
  · refine .inr ⟨g, cap, cur, hv, hbb, ?_, hr⟩
    have hlt : g < a.heap.size := by
      rcases Nat.lt_or_ge g a.heap.size with h | h
      · exact h
      · rw [Array.getElem?_eq_none h] at hg; cases hg
    rw [h.block g hlt (.inr (by omega))]; exact hg

theorem owns_ne {b1 b2 : Nat} {e1 e2 : TypeId} {s1 s2 n1 n2 : Nat} {v1 v2 : Value} {xs ys : List Value} (h1 : w.ownsRow b1 e1 s1 v1 n1 xs) (h2 : w.ownsRow b2 e2 s2 v2 n2 ys) (he : e1 ≠ e2) : v1.ownBlock = none ∨ v1.ownBlock ≠ v2.ownBlock := by
  rcases h1.2 with ⟨rfl, _⟩ | ⟨g, cap, cur, rfl, _, hg, _⟩
  · exact .inl rfl
  · rcases h2.2 with ⟨rfl, _⟩ | ⟨g', cap', cur', rfl, _, hg', _⟩
    · exact .inr (by simp [Value.ownBlock])
    · refine .inr ?_
      simp only [Value.ownBlock, ne_eq, Option.some.injEq]
      rintro rfl
      rw [hg] at hg'
      simp only [Option.some.injEq, Obj.cells.injEq] at hg'
      exact he hg'.2.1

/-- A matrix of one's own: its blocks lie from lo to below hi, no two rows share one. -/
structure OM (w : World) (lo hi : Nat) (v : Value) (m : List (List Nat)) (vs : List Value) : Prop where
  outer : w.ownsRow lo t_s_float32 1 v m.length vs
  rows : ∀ (i : Nat) (hl : i < m.length), ∃ x : Value, vs[i]? = some x ∧ OS w lo x m[i] ∧ ∀ k, x.ownBlock = some k → k < hi
  apart : ∀ (i j : Nat) (x y : Value), i < j → vs[i]? = some x → vs[j]? = some y → x.ownBlock = none ∨ x.ownBlock ≠ y.ownBlock
  top : ∀ k, v.ownBlock = some k → k < hi
def bits (m : List (List Nat)) : Prop := ∀ r ∈ m, ∀ b ∈ r, b < 4294967296
theorem OM.FSS {lo hi : Nat} {v : Value} {m : List (List Nat)} {vs : List Value} (h : OM w lo hi v m vs) (hb : bits m) : FSS w v m :=
  ⟨vs, owns_Row h.outer, fun i hi => let ⟨x, hx, ho, _⟩ := h.rows i hi; ⟨x, hx, ho.FS (hb _ (List.getElem_mem hi))⟩⟩
theorem OM.ext {lo hi : Nat} {v : Value} {m : List (List Nat)} {vs : List Value} {w' : World} (h : OM w lo hi v m vs) (he : Ext w w') : OM w' lo hi v m vs :=
  ⟨owns_ext h.outer he, fun i hi => let ⟨x, hx, ho, hk⟩ := h.rows i hi; ⟨x, hx, owns_ext ho he, hk⟩, h.apart, h.top⟩
theorem OM.chg {lo hi lo' hi' : Nat} {v : Value} {m : List (List Nat)} {vs : List Value} {w' : World} (h : OM w lo hi v m vs) (hc : Chg lo' hi' w w') (hb : hi ≤ lo' ∨ hi' ≤ lo) : OM w' lo hi v m vs :=
  ⟨(OwnR.chg ⟨h.outer, h.top⟩ hc hb).own, fun i hi => let ⟨x, hx, ho, hk⟩ := h.rows i hi; ⟨x, hx, (OwnR.chg ⟨ho, hk⟩ hc hb).own, hk⟩, h.apart, h.top⟩

theorem oneCell_sl {base : Nat} {e : TypeId} {s n : Nat} {v : Value} {xs : List Value} (h : w.ownsRow base e s v n xs) : v.oneCell' = true := by
  rcases h.2 with ⟨rfl, _⟩ | ⟨g, cap, cur, rfl, _⟩ <;> rfl

theorem c_toFloat32SS {v : Value} {m : List (List Nat)} (h : FSS w v m) (hl : m.length ≤ 1048576) (hr : ∀ r ∈ m, r.length ≤ 1048576) (H : ∀ v' w' vs, Ext w w' → OM w' w.heap.size w'.heap.size v' m vs → K v' w') : call P f_laws_toFloat32SS [v] w K := by
  refine I_laws_toFloat32SS ?_
  unfold D_laws_toFloat32SS
  rw [h.len]
  refine mks_intro u_s_s_float32 i_s_float32 rfl (by omega) (by simp only [maxLen]; omega) fun w1 v1 ho he => ?_
  refine ⟨fun k x w' => RowKit.Below w.heap.size w w' ∧ ∃ i : Nat, x = .int .i64 i ∧ k + i = m.length ∧ ∃ vs : List Value, vs.length = i ∧ w'.ownsRow w.heap.size t_s_float32 1 v1 m.length (vs ++ List.replicate (m.length - i) (.slice none 0 0)) ∧
      (∀ (j : Nat) (hj : j < m.length), j < i → ∃ x : Value, vs[j]? = some x ∧ OS w' w.heap.size x m[j]) ∧ (∀ (i j : Nat) (x y : Value), i < j → vs[i]? = some x → vs[j]? = some y → x.ownBlock = none ∨ x.ownBlock ≠ y.ownBlock),
    ⟨m.length, he, 0, rfl, by omega, [], rfl, by simpa using ho, fun j hj h0 => by omega, fun i j x y _ h1 => by simp at h1⟩, ?_⟩
  rintro k x junk w2 ⟨hbel, i, rfl, hm, vs, hvl, ho2, hrows, hap⟩
  have h2 : FSS w2 v m := h.ext hbel
  rw [h2.len, bin_lss]
  refine cnd_dec (fun hlt => ?_) (fun hge => ?_)
  · have hi : i < m.length := by omega
    refine h2.at hi fun x hx => ?_
    refine c_toFloat32S hx (hr _ (List.getElem_mem hi)) fun y w3 he3 hy => ?_
    have hb3 : RowKit.Below w.heap.size w w3 := hbel.trans (RowKit.Below.mono he3 hbel.size)
    have ho3 := owns_ext ho2 he3
    refine owns_set ho3 hi (oneCell_sl hy) u_s_s_float32 i_s_float32 fun w4 ho4 hg => ?_
    rw [bin_add]
    have hb4 : RowKit.Below w.heap.size w w4 := hb3.grown hg hb3.size fun k hk => (ho3.lt k hk).1
    refine ⟨k - 1, by omega, hb4, i + 1, ?_, by omega, vs ++ [y], by simp [hvl], ?_, ?_, ?_⟩
    · rw [wrap_i64 (by omega) (by omega)]; rfl
    · have e : (vs ++ List.replicate (m.length - i) (Value.slice none 0 0)).set i y = vs ++ [y] ++ List.replicate (m.length - (i + 1)) (Value.slice none 0 0) := by
        rw [List.set_append_right _ _ (by omega), hvl, Nat.sub_self]
        have : m.length - i = (m.length - (i + 1)) + 1 := by omega
        rw [this, List.replicate_succ, List.set_cons_zero]
        simp
      rw [e] at ho4; exact ho4
    · intro j hj hji
      by_cases he : j = i
      · subst he
        refine ⟨y, by simp [hvl], ?_⟩
        have := hy.kept hg (owns_ne hy ho3 (by decide))
        exact owns_base this hbel.size
      · obtain ⟨x', hx', ho'⟩ := hrows j hj (by omega)
        refine ⟨x', by rw [List.getElem?_append_left (by omega)]; exact hx', ?_⟩
        exact (owns_ext ho' he3).kept hg (owns_ne (owns_ext ho' he3) ho3 (by decide))
    · intro p q x' y' hpq hp hq
      by_cases hqi : q < vs.length
      · rw [List.getElem?_append_left (by omega)] at hp hq
        exact hap p q x' y' hpq hp hq
      · have hq' : y' = y := by
          have hlt := (List.getElem?_eq_some_iff.1 hq).1
          simp at hlt
          have : q = vs.length := by omega
          subst this
          simp at hq; exact hq.symm
        subst hq'
        have hpl : p < vs.length := by
          have hlt := (List.getElem?_eq_some_iff.1 hq).1
          simp at hlt
          omega
        rw [List.getElem?_append_left hpl] at hp
        obtain ⟨x'', hx'', ho''⟩ := hrows p (by omega) (by omega)
        rw [hp] at hx''; cases hx''
        cases hob : x'.ownBlock with
        | none => exact .inl rfl
        | some k =>
          refine .inr fun hne => ?_
          have h1 := (ho''.lt k hob).2
          have h2 := (hy.lt k hne.symm).1
          omega
  · have hi : i = m.length := by omega
    have e2 : m.length - i = 0 := by omega
    simp only [e2, List.replicate_zero, List.append_nil] at ho2
    refine H _ _ vs hbel ⟨ho2, fun j hj => ?_, hap, fun k hk => (ho2.lt k hk).2⟩
    obtain ⟨x, hx, ho⟩ := hrows j hj (by omega)
    exact ⟨x, hx, ho, fun k hk => (ho.lt k hk).2⟩

/-! ### marks -/
def mk (k : Int) (n : Nat) : List Nat := (List.range n).map (fun j => floatOfInt .f32 (k + (j : Nat)))
@[simp] theorem mk_length (k : Int) (n : Nat) : (mk k n).length = n := by simp [mk]
theorem mk_get (k : Int) (n i : Nat) (h : i < (mk k n).length) : (mk k n)[i] = floatOfInt .f32 (k + (i : Nat)) := by simp [mk]
theorem mk_bits (k : Int) (n : Nat) : ∀ b ∈ mk k n, b < 4294967296 := by
  intro b hb
  simp only [mk, List.mem_map] at hb
  obtain ⟨j, _, rfl⟩ := hb
  exact floatOfInt_lt .f32 _
def mkM (k : Int) (m : List (List Nat)) : List (List Nat) := (List.range m.length).map (fun i => mk (k + total (m.take i)) (m.getD i []).length)
@[simp] theorem mkM_length (k : Int) (m : List (List Nat)) : (mkM k m).length = m.length := by simp [mkM]
theorem mkM_get (k : Int) (m : List (List Nat)) (i : Nat) (h : i < (mkM k m).length) (h' : i < m.length) : (mkM k m)[i] = mk (k + total (m.take i)) m[i].length := by simp [mkM, h']
theorem mkM_bits (k : Int) (m : List (List Nat)) : bits (mkM k m) := by
  intro r hr
  simp only [mkM, List.mem_map] at hr
  obtain ⟨j, _, rfl⟩ := hr
  exact mk_bits _ _

theorem c_markFloat32S {base : Nat} {v : Value} {l : List Nat} {k : Int} (h : OS w base v l) (h0 : 0 ≤ k) (h1 : k + l.length ≤ 4611686018427387904) (H : ∀ w', OS w' base v (mk k l.length) → w.grownBy w' v.ownBlock → K (.int .i64 (k + l.length)) w') :
    call P f_laws_markFloat32S [v, .int .i64 k] w K := by
  refine I_laws_markFloat32S ?_
  unfold D_laws_markFloat32S
  refine ⟨fun g x y w' => w.grownBy w' v.ownBlock ∧ ∃ i : Nat, y = .int .i64 i ∧ x = .int .i64 (k + i) ∧ g + i = l.length ∧ w'.ownsRow base t_float32 1 v l.length ((mk k i).map fl ++ (l.map fl).drop i),
    ⟨l.length, World.grownBy.refl _ _, 0, rfl, by simp, by omega, by simpa [mk] using h⟩, ?_⟩
  rintro g x y junk w2 ⟨hg, i, rfl, rfl, hm, ho⟩
  rw [(owns_Row ho).len u_s_float32, bin_lss]
  refine cnd_dec (fun hlt => ?_) (fun hge => ?_)
  · have hi : i < l.length := by omega
    rw [cnv_int_float u_int u_float32]
    refine owns_set ho hi (oneCell_fl _) u_s_float32 i_float32 fun w3 ho3 hg3 => ?_
    rw [bin_add, bin_add, wrap_i64 (by omega) (by omega), wrap_i64 (by omega) (by omega)]
    refine ⟨g - 1, by omega, ⟨hg3.os.trans hg.os, hg3.tape.trans hg.tape, hg3.output.trans hg.output, Nat.le_trans hg.size hg3.size, fun k hk hn => (hg3.block k (Nat.lt_of_lt_of_le hk hg.size) hn).trans (hg.block k hk hn)⟩, i + 1, rfl, by congr 1; omega, by omega, ?_⟩
    have e : ((mk k i).map fl ++ (l.map fl).drop i).set i (fl (floatOfInt .f32 (k + i))) = (mk k (i + 1)).map fl ++ (l.map fl).drop (i + 1) := by
      rw [List.set_append_right _ _ (by simp)]
      simp only [List.length_map, mk_length, Nat.sub_self]
      have hd : (l.map fl).drop i = fl l[i] :: (l.map fl).drop (i + 1) := by
        rw [List.drop_eq_getElem_cons (by simpa using hi)]; simp
      rw [hd, List.set_cons_zero]
      have : mk k (i + 1) = mk k i ++ [floatOfInt .f32 (k + i)] := by simp [mk, List.range_succ]
      rw [this]; simp
    rw [e] at ho3; exact ho3
  · have hi : i = l.length := by omega
    subst hi
    have e : (l.map fl).drop l.length = [] := by simp
    rw [e, List.append_nil] at ho
    refine H _ ?_ hg
    show w2.ownsRow base t_float32 1 v (mk k l.length).length _
    rw [mk_length]; exact ho

theorem c_heldFloat32S {v : Value} {k : Int} {n : Nat} (h : FS w v (mk k n)) (h0 : 0 ≤ k) (h1 : k + n ≤ 4611686018427387904) (H : K (.int .i64 (k + n)) w) : call P f_laws_heldFloat32S [v, .int .i64 k] w K := by
  refine I_laws_heldFloat32S ?_
  unfold D_laws_heldFloat32S
  refine ⟨fun g x y w' => w' = w ∧ ∃ i : Nat, y = .int .i64 i ∧ x = .int .i64 (k + i) ∧ g + i = n, ⟨n, rfl, 0, rfl, by simp, by omega⟩, ?_⟩
  rintro g x y junk w2 ⟨rfl, i, rfl, rfl, hm⟩
  have hlen := h.row.len (K := fun x8 => bin P .lss 3 false false (.int .i64 i) x8 w2 fun _ => True) (ty := 3) u_s_float32
  rw [h.row.len u_s_float32, mk_length, bin_lss]
  refine cnd_dec (fun hlt => ?_) (fun hge => ?_)
  · have hi : i < (mk k n).length := by rw [mk_length]; omega
    refine h.row.at1 (get_map hi) u_s_float32 i_float32 u_float32 rfl ?_
    rw [cnv_int_float u_int u_float32, mk_get, bin_fneq, order_mark]
    rw [show ((some Ordering.eq != some Ordering.eq) = false) from rfl, cnd_false, bin_add, bin_add, wrap_i64 (by omega) (by omega), wrap_i64 (by omega) (by omega)]
    exact ⟨g - 1, by omega, rfl, i + 1, rfl, by congr 1; omega, by omega⟩
  · have hi : i = n := by omega
    subst hi; exact H

theorem c_heldFloat32SS {v : Value} {k : Int} {m : List (List Nat)} (h : FSS w v (mkM k m)) (h0 : 0 ≤ k) (h1 : k + total m ≤ 4611686018427387904) (H : K (.int .i64 (k + total m)) w) : call P f_laws_heldFloat32SS [v, .int .i64 k] w K := by
  have h2 := h.bound
  rw [mkM_length] at h2
  refine I_laws_heldFloat32SS ?_
  unfold D_laws_heldFloat32SS
  refine ⟨fun g x y w' => w' = w ∧ ∃ i : Nat, y = .int .i64 i ∧ x = .int .i64 (k + total (m.take i)) ∧ g + i = m.length, ⟨m.length, rfl, 0, rfl, by simp [total], by omega⟩, ?_⟩
  rintro g x y junk w2 ⟨rfl, i, rfl, rfl, hm⟩
  rw [h.len, mkM_length, bin_lss]
  have tot : ∀ i, total (m.take i) ≤ total m := by
    intro i
    have : total m = total (m.take i) + total (m.drop i) := by
      unfold total
      rw [← List.sum_append, ← List.map_append, List.take_append_drop]
    omega
  refine cnd_dec (fun hlt => ?_) (fun hge => ?_)
  · have hi : i < m.length := by omega
    have hi' : i < (mkM k m).length := by rw [mkM_length]; exact hi
    have e := total_take hi
    have t1 := tot (i + 1)
    refine h.at hi' fun x hx => ?_
    rw [mkM_get k m i hi' hi] at hx
    refine c_heldFloat32S hx (by omega) (by omega) ?_
    rw [bin_lss]
    refine cnd_dec (fun h3 => by omega) (fun h3 => ?_)
    rw [bin_add, wrap_i64 (by omega) (by omega)]
    exact ⟨g - 1, by omega, rfl, i + 1, rfl, by rw [e]; congr 1; omega, by omega⟩
  · have hi : i = m.length := by omega
    subst hi
    rw [List.take_length]; exact H

end Go.Proofs.Ytliagkijeigcaaa
