/- Contracts: marks on a matrix; the law of IsMatrix but for the row. -/
import Derived.Test.YtliagkijeigcaaaC4
set_option linter.unusedVariables false
namespace Go.Proofs.Ytliagkijeigcaaa
open Go Go.Vc

variable {w : World} {K : Value → World → Prop}

def mid (k : Int) (m : List (List Nat)) (i : Nat) : List (List Nat) := (List.range m.length).map (fun j => if j < i then mk (k + total (m.take j)) (m.getD j []).length else m.getD j [])
@[simp] theorem mid_length (k : Int) (m : List (List Nat)) (i : Nat) : (mid k m i).length = m.length := by simp [mid]
theorem mid_get (k : Int) (m : List (List Nat)) (i j : Nat) (h : j < (mid k m i).length) (h' : j < m.length) : (mid k m i)[j] = if j < i then mk (k + total (m.take j)) m[j].length else m[j] := by simp [mid, h']
theorem mid_zero (k : Int) (m : List (List Nat)) : mid k m 0 = m := by
  apply List.ext_getElem (by simp)
  intro i h1 h2
  rw [mid_get k m 0 i h1 h2, if_neg (by omega)]
theorem mid_full (k : Int) (m : List (List Nat)) : mid k m m.length = mkM k m := by
  apply List.ext_getElem (by simp)
  intro i h1 h2
  have h3 : i < m.length := by simpa using h1
  rw [mid_get k m _ i h1 h3, if_pos h3, mkM_get k m i h2 h3]

theorem total_take_le (m : List (List Nat)) (i : Nat) : total (m.take i) ≤ total m := by
  have : total m = total (m.take i) + total (m.drop i) := by
    unfold total
    rw [← List.sum_append, ← List.map_append, List.take_append_drop]
  omega

theorem c_markFloat32SSk {lo hi : Nat} {v : Value} {m : List (List Nat)} {vs : List Value} {k : Int} (h : OM w lo hi v m vs) (h0 : 0 ≤ k) (h1 : k + total m ≤ 4611686018427387904)
    (H : ∀ w', OM w' lo hi v (mkM k m) vs → Chg lo hi w w' → KT t_float32 w w' → K (.int .i64 (k + total m)) w') : call P f_laws_markFloat32SS [v, .int .i64 k] w K := by
  have h2 := owns_bound h.outer
  simp only [maxLen] at h2
  refine I_laws_markFloat32SS ?_
  unfold D_laws_markFloat32SS
  refine ⟨fun g x y w' => Chg lo hi w w' ∧ KT t_float32 w w' ∧ ∃ i : Nat, y = .int .i64 i ∧ x = .int .i64 (k + total (m.take i)) ∧ g + i = m.length ∧ OM w' lo hi v (mid k m i) vs,
    ⟨m.length, Chg.refl _ _ _, KT.refl _ _, 0, rfl, by simp [total], by omega, by rw [mid_zero]; exact h⟩, ?_⟩
  rintro g x y junk w2 ⟨hc, hkt, i, rfl, rfl, hm, ho⟩
  rw [(owns_Row ho.outer).len u_s_s_float32, mid_length, bin_lss]
  refine cnd_dec (fun hlt => ?_) (fun hge => ?_)
  · have hi' : i < m.length := by omega
    have hi2 : i < (mid k m i).length := by rw [mid_length]; exact hi'
    obtain ⟨r, hr, hor, hrk⟩ := ho.rows i hi2
    refine (owns_Row ho.outer).at1 hr u_s_s_float32 i_s_float32 u_s_float32 rfl ?_
    have e := total_take hi'
    have t1 := total_take_le m (i + 1)
    rw [mid_get k m i i hi2 hi', if_neg (by omega)] at hor
    refine c_markFloat32S hor (by omega) (by omega) fun w3 hor3 hg => ?_
    rw [bin_add, wrap_i64 (by omega) (by omega)]
    refine ⟨g - 1, by omega, hc.trans (Chg.grown hg fun q hq => ⟨(hor.lt q hq).1, hrk q hq⟩), hkt.trans (KT.grown hg (Ty.owns hor)), i + 1, rfl, by rw [e]; congr 1; omega, by omega, ?_⟩
    refine ⟨?_, fun j hj => ?_, ho.apart, ho.top⟩
    · have := ho.outer.kept hg (owns_ne ho.outer hor (by decide))
      rw [mid_length] at this ⊢; exact this
    · have hj' : j < m.length := by simpa using hj
      have hj2 : j < (mid k m i).length := by rw [mid_length]; exact hj'
      rw [mid_get k m (i + 1) j hj hj']
      by_cases hji : j = i
      · subst hji
        rw [if_pos (by omega)]
        exact ⟨r, hr, hor3, hrk⟩
      · obtain ⟨r', hr', hor', hrk'⟩ := ho.rows j hj2
        rw [mid_get k m i j hj2 hj'] at hor'
        refine ⟨r', hr', ?_, hrk'⟩
        have hne : r'.ownBlock = none ∨ r'.ownBlock ≠ r.ownBlock := by
          rcases Nat.lt_or_ge j i with hlt | hge
          · exact ho.apart j i r' r hlt hr' hr
          · rcases ho.apart i j r r' (by omega) hr hr' with h | h
            · cases hb : r'.ownBlock with
              | none => exact .inl rfl
              | some q => exact .inr (by rw [h]; simp)
            · exact .inr fun e => h e.symm
        have := hor'.kept hg hne
        by_cases hlt : j < i
        · rw [if_pos hlt] at this; rw [if_pos (by omega)]; exact this
        · rw [if_neg hlt] at this; rw [if_neg (by omega)]; exact this
  · have hi' : i = m.length := by omega
    subst hi'
    rw [List.take_length]
    rw [mid_full] at ho
    exact H _ ho hc hkt

theorem c_markFloat32SS {lo hi : Nat} {v : Value} {m : List (List Nat)} {vs : List Value} {k : Int} (h : OM w lo hi v m vs) (h0 : 0 ≤ k) (h1 : k + total m ≤ 4611686018427387904)
    (H : ∀ w', OM w' lo hi v (mkM k m) vs → Chg lo hi w w' → K (.int .i64 (k + total m)) w') : call P f_laws_markFloat32SS [v, .int .i64 k] w K :=
  c_markFloat32SSk h h0 h1 fun w' h1 h2 _ => H w' h1 h2
theorem len_le_total {m : List (List Nat)} {r : List Nat} (h : r ∈ m) : r.length ≤ total m := by
  unfold total
  induction m with
  | nil => cases h
  | cons a m ih =>
    simp only [List.map_cons, List.sum_cons]
    rcases List.mem_cons.1 h with rfl | h
    · omega
    · have := ih h; omega

theorem law_IsMatrix {v : Value} {m : List (List Nat)} (h : FSS w v m) (hb : bits m) (H : ∀ w', Ext w w' → K (.bool true) w') : call P f_laws_FnExactIsMatrix [v] w K := by
  refine I_laws_FnExactIsMatrix ?_
  unfold D_laws_FnExactIsMatrix
  refine c_szFloat32SS h (by decide) (by decide) fun r hr => ?_
  rw [bin_lss]
  refine cnd_dec (fun _ => H _ (Ext.refl _)) (fun hr0 => ?_)
  have hm : m.length + total m ≤ 1048576 := by omega
  have hrow : ∀ r ∈ m, r.length ≤ 1048576 := fun r hr => by have := len_le_total hr; omega
  refine c_toFloat32SS h (by omega) hrow fun v1 w1 vs1 e1 o1 => ?_
  refine c_spec_IsMatrix (o1.FSS hb) ?_
  refine c_toFloat32SS (h.ext e1) (by omega) hrow fun v2 w2 vs2 e2 o2 => ?_
  refine c_impl_IsMatrix (o2.FSS hb) ?_
  rw [bin_bneq _ _ _ _ _ _ u_bool]
  rw [beq_self_eq_true, Bool.not_true, cnd_false]
  refine c_toFloat32SS (h.ext (e1.trans e2)) (by omega) hrow fun v3 w3 vs3 e3 o3 => ?_
  refine c_eqFloat32SS (o2.ext e3 |>.FSS hb) (o3.FSS hb) (LLeq.refl _) ?_
  rw [una_not, Bool.not_true, cnd_false]
  exact H _ ((e1.trans e2).trans e3)

end Go.Proofs.Ytliagkijeigcaaa
