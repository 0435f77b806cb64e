/- Contracts: what is only read: vectors, matrices, sizes, sameness. -/
import Derived.Test.YtliagkijeigcaaaC1
set_option linter.unusedVariables false
namespace Go.Proofs.Ytliagkijeigcaaa
open Go Go.Vc

variable {w : World} {K : Value → World → Prop}

/-- '&&' and '||' joined again. -/
theorem jn1 {v : Value} {want : Bool} {R : Value → World → Prop} {A : (Value → World → Prop) → Prop} {w : World} (h : grd v want (A R) (R undef w)) :
    ∃ J : Value → World → Prop, (∀ (x : Value) (junk : Env) (w1 : World), J x w1 → R x w1) ∧ grd v want (A J) (J undef w) := ⟨R, fun _ _ _ h => h, h⟩

def vecB (l : List Nat) : Bool := l.all finB && decide (1 ≤ l.length ∧ l.length ≤ 8)

theorem c_l10Vector {v : Value} {l : List Nat} (h : FS w v l) (H : K (.bool (vecB l)) w) : call P f_spec_l10Vector [v] w K := by
  refine I_spec_l10Vector ?_
  unfold D_spec_l10Vector
  have hb := h.bound
  refine ⟨fun m x w' => w' = w ∧ ∃ i : Nat, x = .int .i64 i ∧ m + i = l.length ∧ (l.take i).all finB = true, ⟨l.length, rfl, 0, rfl, by omega, by simp⟩, ?_⟩
  rintro m x junk w' ⟨rfl, i, rfl, hm, hall⟩
  rw [h.row.len u_s_float32, bin_lss]
  refine cnd_dec (fun hlt => ?_) (fun hge => ?_)
  · have hi : i < l.length := by omega
    refine h.row.at1 (get_map hi) u_s_float32 i_float32 u_float32 rfl ?_
    refine c_l01Finite ?_
    rw [una_not]
    refine cnd_split (fun hf => ?_) (fun hf => ?_)
    · have : l.all finB = false := by
        refine Bool.eq_false_iff.2 fun hall' => ?_
        have := List.all_eq_true.1 hall' l[i] (List.getElem_mem hi)
        rw [this] at hf; cases hf
      unfold vecB at H
      rw [this] at H; exact H
    · rw [bin_add]
      refine ⟨m - 1, by omega, rfl, i + 1, ?_, by omega, ?_⟩
      · rw [wrap_i64 (by omega) (by omega)]; rfl
      · rw [List.take_succ_eq_append_getElem hi, List.all_append, hall]
        simpa using hf
  · have : l.take i = l := List.take_of_length_le (by omega)
    rw [this] at hall
    rw [h.row.len u_s_float32, bin_geq]
    refine ⟨_, fun _ _ _ h => h, ?_⟩
    refine grd_split (fun h1 => ?_) (fun h1 => ?_)
    · rw [h.row.len u_s_float32, bin_leq, pick_bool, h1]
      simp only [decide_eq_true_eq] at h1
      have e : vecB l = decide ((l.length : Int) ≤ 8) := by
        unfold vecB
        rw [hall, Bool.true_and, decide_eq_decide]; omega
      rw [e] at H; exact H
    · rw [h1]
      simp only [Bool.not_true, decide_eq_false_iff_not] at h1
      have e : vecB l = false := by
        unfold vecB
        rw [hall, Bool.true_and, decide_eq_false_iff_not]; omega
      rw [e] at H; exact H

theorem c_isVector {v : Value} {l : List Nat} (h : FS w v l) (H : K (.bool (vecB l)) w) : call P f_impl_isVector [v] w K := by
  refine I_impl_isVector ?_
  unfold D_impl_isVector
  have hb := h.bound
  rw [h.row.len u_s_float32, bin_geq]
  refine ⟨_, fun _ _ _ h => h, ?_⟩
  refine grd_split (fun h1 => ?_) (fun h1 => ?_)
  · rw [h.row.len u_s_float32, bin_leq]
    rw [pick_bool, h1]
    simp only [decide_eq_true_eq] at h1
    refine ⟨_, fun _ _ _ h => h, ?_⟩
    refine grd_split (fun h2 => ?_) (fun h2 => ?_)
    · refine c_areFinite h ?_
      simp only [cond_true] at h2 ⊢
      rw [pick_bool, h2]
      simp only [decide_eq_true_eq] at h2
      have e : vecB l = l.all finB := by
        unfold vecB
        have : decide (1 ≤ l.length ∧ l.length ≤ 8) = true := by rw [decide_eq_true_eq]; omega
        rw [this, Bool.and_true]
      rw [e] at H; exact H
    · simp only [cond_true] at h2 ⊢
      rw [h2]
      simp only [Bool.not_true, decide_eq_false_iff_not] at h2
      have e : vecB l = false := by
        unfold vecB
        have : decide (1 ≤ l.length ∧ l.length ≤ 8) = false := by rw [decide_eq_false_iff_not]; omega
        rw [this, Bool.and_false]
      rw [e] at H; exact H
  · rw [h1]
    simp only [Bool.not_true, decide_eq_false_iff_not] at h1
    have e : vecB l = false := by
      unfold vecB
      have : decide (1 ≤ l.length ∧ l.length ≤ 8) = false := by rw [decide_eq_false_iff_not]; omega
      rw [this, Bool.and_false]
    rw [e] at H
    exact ⟨_, fun _ _ _ h => h, H⟩

/-! ### matrices -/
structure FSS (w : World) (v : Value) (m : List (List Nat)) : Prop where
  ex : ∃ vs : List Value, Row 1 w v m.length vs ∧ ∀ i (hi : i < m.length), ∃ x, vs[i]? = some x ∧ FS w x m[i]
theorem FSS.ext {w w' : World} {v : Value} {m : List (List Nat)} (h : FSS w v m) (he : Ext w w') : FSS w' v m := by
  obtain ⟨vs, h1, h2⟩ := h.ex
  exact ⟨vs, h1.ext he, fun i hi => let ⟨x, hx, hf⟩ := h2 i hi; ⟨x, hx, hf.ext he⟩⟩
theorem FSS.bound {w : World} {v : Value} {m : List (List Nat)} (h : FSS w v m) : m.length ≤ 9223372036854775807 := by
  obtain ⟨vs, h1, _⟩ := h.ex
  have := h1.bound; simp only [maxLen] at this; omega
theorem FSS.len {v : Value} {m : List (List Nat)} (h : FSS w v m) {ty : TypeId} {K : Value → Prop} : bl0 P .len #[t_s_s_float32] ty [v] w K = K (.int .i64 m.length) := by
  obtain ⟨vs, h1, _⟩ := h.ex
  exact h1.len u_s_s_float32
theorem FSS.at {v : Value} {m : List (List Nat)} (h : FSS w v m) {i : Nat} (hi : i < m.length) {K : Value → Prop} (H : ∀ x, FS w x m[i] → K x) : ixa P t_s_s_float32 v (.int .i64 (i : Int)) w (fun a => ld P t_s_float32 a w K) := by
  obtain ⟨vs, h1, h2⟩ := h.ex
  obtain ⟨x, hx, hf⟩ := h2 i hi
  exact h1.at1 hx u_s_s_float32 i_s_float32 u_s_float32 rfl (H x hf)

def matB (m : List (List Nat)) : Bool := m.all (fun r => decide (r.length = m.length) && r.all finB) && decide (1 ≤ m.length ∧ m.length ≤ 8)

theorem c_impl_IsMatrix {v : Value} {m : List (List Nat)} (h : FSS w v m) (H : K (.bool (matB m)) w) : call P f_impl_IsMatrix [v] w K := by
  refine I_impl_IsMatrix ?_
  unfold D_impl_IsMatrix
  have hb := h.bound
  rw [h.len, bin_lss]
  refine ⟨_, fun _ _ _ h => h, ?_⟩
  have no : ¬ (1 ≤ m.length ∧ m.length ≤ 8) → K (.bool false) w := fun hn => by
    have e : matB m = false := by
      unfold matB
      have : decide (1 ≤ m.length ∧ m.length ≤ 8) = false := by rw [decide_eq_false_iff_not]; exact hn
      rw [this, Bool.and_false]
    rw [e] at H; exact H
  refine grd_split (fun h1 => ?_) (fun h1 => ?_)
  · rw [h.len, bin_gtr, pick_bool, h1]
    simp only [decide_eq_false_iff_not] at h1
    refine cnd_dec (fun h2 => no (by omega)) (fun h2 => ?_)
    rw [h.len]
    refine ⟨fun k x w' => w' = w ∧ ∃ i : Nat, x = .int .i64 i ∧ k + i = m.length ∧ (m.take i).all (fun r => decide (r.length = m.length) && r.all finB) = true, ⟨m.length, rfl, 0, rfl, by omega, by simp⟩, ?_⟩
    rintro k x junk w' ⟨rfl, i, rfl, hm, hall⟩
    have hd : decide (1 ≤ m.length ∧ m.length ≤ 8) = true := by rw [decide_eq_true_eq]; omega
    rw [bin_lss]
    refine cnd_dec (fun hlt => ?_) (fun hge => ?_)
    · have hi : i < m.length := by omega
      refine h.at hi fun x hx => ?_
      have bad : (decide (m[i].length = m.length) && m[i].all finB) = false → K (.bool false) w' := fun hf => by
        have : matB m = false := by
          unfold matB
          rw [hd, Bool.and_true]
          refine Bool.eq_false_iff.2 fun hall' => ?_
          have := List.all_eq_true.1 hall' m[i] (List.getElem_mem hi)
          rw [this] at hf; cases hf
        rw [this] at H; exact H
      rw [hx.row.len u_s_float32, h.len, bin_neq]
      refine ⟨_, fun _ _ _ h => h, ?_⟩
      refine grd_split (fun h3 => ?_) (fun h3 => ?_)
      · refine c_areFinite hx ?_
        rw [una_not, pick_bool, h3]
        simp only [decide_eq_false_iff_not, ne_eq, Decidable.not_not] at h3
        have h3' : m[i].length = m.length := by omega
        refine cnd_split (fun h4 => ?_) (fun h4 => ?_)
        · exact bad (by simp at h4; simp [h4])
        · simp only [cond_false, Bool.not_eq_eq_eq_not, Bool.not_false] at h4
          rw [bin_add]
          refine ⟨k - 1, by omega, rfl, i + 1, ?_, by omega, ?_⟩
          · rw [wrap_i64 (by omega) (by omega)]; rfl
          · rw [List.take_succ_eq_append_getElem hi, List.all_append, hall]
            simp [h3', h4]
      · rw [h3]
        simp only [Bool.not_false, decide_eq_true_eq, ne_eq] at h3
        exact bad (by
          have : decide (m[i].length = m.length) = false := by rw [decide_eq_false_iff_not]; omega
          rw [this, Bool.false_and])
    · have : m.take i = m := List.take_of_length_le (by omega)
      rw [this] at hall
      have e : matB m = true := by unfold matB; rw [hall, hd]; rfl
      rw [e] at H; exact H
  · rw [h1]
    simp only [Bool.not_false, decide_eq_true_eq] at h1
    exact no (by omega)

theorem c_spec_l10Is {v : Value} {m : List (List Nat)} (h : FSS w v m) (H : K (.bool (matB m)) w) : call P f_spec_l10Is [v] w K := by
  refine I_spec_l10Is ?_
  unfold D_spec_l10Is
  have hb := h.bound
  refine ⟨fun k x w' => w' = w ∧ ∃ i : Nat, x = .int .i64 i ∧ k + i = m.length ∧ (m.take i).all (fun r => decide (r.length = m.length) && r.all finB) = true ∧ (1 ≤ i → m.length ≤ 8), ⟨m.length, rfl, 0, rfl, by omega, by simp, by omega⟩, ?_⟩
  rintro k x junk w' ⟨rfl, i, rfl, hm, hall, h8⟩
  rw [h.len, bin_lss]
  refine cnd_dec (fun hlt => ?_) (fun hge => ?_)
  · have hi : i < m.length := by omega
    refine h.at hi fun x hx => ?_
    have bad : (decide (m[i].length = m.length) && m[i].all finB) = false ∨ ¬ (1 ≤ m.length ∧ m.length ≤ 8) → K (.bool false) w' := fun hf => by
      have : matB m = false := by
        unfold matB
        rcases hf with hf | hf
        · refine Bool.and_eq_false_imp.2 fun hall' => ?_
          have := List.all_eq_true.1 hall' m[i] (List.getElem_mem hi)
          rw [this] at hf; cases hf
        · have : decide (1 ≤ m.length ∧ m.length ≤ 8) = false := by rw [decide_eq_false_iff_not]; exact hf
          rw [this, Bool.and_false]
      rw [this] at H; exact H
    rw [hx.row.len u_s_float32, h.len, bin_neq]
    refine ⟨_, fun _ _ _ h => h, ?_⟩
    refine grd_split (fun h3 => ?_) (fun h3 => ?_)
    · refine h.at hi fun x' hx' => ?_
      refine c_l10Vector hx' ?_
      rw [una_not, pick_bool, h3]
      simp only [decide_eq_false_iff_not, ne_eq, Decidable.not_not] at h3
      have h3' : m[i].length = m.length := by omega
      refine cnd_split (fun h4 => ?_) (fun h4 => ?_)
      · simp only [cond_false, Bool.not_eq_eq_eq_not, Bool.not_true] at h4
        unfold vecB at h4
        refine bad ?_
        rcases Bool.and_eq_false_iff.1 h4 with h4 | h4
        · left; rw [h4, Bool.and_false]
        · right
          rw [decide_eq_false_iff_not] at h4
          omega
      · simp only [cond_false, Bool.not_eq_eq_eq_not, Bool.not_false] at h4
        unfold vecB at h4
        simp only [Bool.and_eq_true, decide_eq_true_eq] at h4
        rw [bin_add]
        refine ⟨k - 1, by omega, rfl, i + 1, ?_, by omega, ?_, by omega⟩
        · rw [wrap_i64 (by omega) (by omega)]; rfl
        · rw [List.take_succ_eq_append_getElem hi, List.all_append, hall]
          simp [h3', h4.1]
    · rw [h3]
      simp only [Bool.not_false, decide_eq_true_eq, ne_eq] at h3
      exact bad (by
        have : decide (m[i].length = m.length) = false := by rw [decide_eq_false_iff_not]; omega
        rw [this, Bool.false_and]; exact .inl rfl)
  · have : m.take i = m := List.take_of_length_le (by omega)
    rw [this] at hall
    rw [h.len, bin_geq]
    refine ⟨_, fun _ _ _ h => h, ?_⟩
    refine grd_split (fun h1 => ?_) (fun h1 => ?_)
    · rw [h.len, bin_leq, pick_bool, h1]
      simp only [decide_eq_true_eq] at h1
      have e : matB m = decide ((m.length : Int) ≤ 8) := by
        unfold matB
        rw [hall, Bool.true_and, decide_eq_decide]; omega
      rw [e] at H; exact H
    · rw [h1]
      simp only [Bool.not_true, decide_eq_false_iff_not] at h1
      have e : matB m = false := by
        unfold matB
        rw [hall, Bool.true_and, decide_eq_false_iff_not]; omega
      rw [e] at H; exact H

theorem c_spec_IsMatrix {v : Value} {m : List (List Nat)} (h : FSS w v m) (H : K (.bool (matB m)) w) : call P f_spec_IsMatrix [v] w K :=
  I_spec_IsMatrix (c_spec_l10Is h H)

/-! ### sizes -/
theorem c_szFloat32S {v : Value} {l : List Nat} {left : Int} (h : FS w v l) (h0 : 0 ≤ left) (h1 : left ≤ 1048576) (H : ∀ r : Int, (r = -1 ∨ (l.length : Int) ≤ left ∧ r = left - l.length) → K (.int .i64 r) w) : call P f_laws_szFloat32S [v, .int .i64 left] w K := by
  refine I_laws_szFloat32S ?_
  unfold D_laws_szFloat32S
  have hb := h.bound
  rw [h.row.len u_s_float32, bin_sub, wrap_i64 (by omega) (by omega), bin_lss]
  exact cnd_dec (fun h2 => H _ (.inl rfl)) (fun h2 => H _ (.inr ⟨by omega, rfl⟩))

def total (m : List (List Nat)) : Nat := (m.map List.length).sum
theorem total_take {m : List (List Nat)} {i : Nat} (hi : i < m.length) : total (m.take (i + 1)) = total (m.take i) + m[i].length := by
  unfold total
  rw [List.take_succ_eq_append_getElem hi, List.map_append, List.sum_append]
  rfl

theorem c_szFloat32SS {v : Value} {m : List (List Nat)} {left : Int} (h : FSS w v m) (h0 : 0 ≤ left) (h1 : left ≤ 1048576) (H : ∀ r : Int, (r = -1 ∨ ((m.length + total m : Nat) : Int) ≤ left ∧ r = left - (m.length + total m : Nat)) → K (.int .i64 r) w) : call P f_laws_szFloat32SS [v, .int .i64 left] w K := by
  refine I_laws_szFloat32SS ?_
  unfold D_laws_szFloat32SS
  have hb := h.bound
  rw [h.len, bin_sub, wrap_i64 (by omega) (by omega), bin_lss]
  refine cnd_dec (fun h2 => H _ (.inl rfl)) (fun h2 => ?_)
  refine ⟨fun k x y w' => w' = w ∧ ∃ i : Nat, y = .int .i64 i ∧ k + i = m.length ∧ x = .int .i64 (left - m.length - total (m.take i)) ∧ 0 ≤ left - m.length - total (m.take i), ⟨m.length, rfl, 0, rfl, by omega, by simp [total], by simp [total]; omega⟩, ?_⟩
  rintro k x y junk w' ⟨rfl, i, rfl, hm, rfl, hpos⟩
  rw [h.len, bin_lss]
  refine cnd_dec (fun hlt => ?_) (fun hge => ?_)
  · have hi : i < m.length := by omega
    refine h.at hi fun x hx => ?_
    refine c_szFloat32S hx hpos (by omega) fun r hr => ?_
    rw [bin_lss]
    refine cnd_dec (fun h3 => H _ (.inl rfl)) (fun h3 => ?_)
    rw [bin_add]
    have e := total_take hi
    refine ⟨k - 1, by omega, rfl, i + 1, ?_, by omega, ?_, ?_⟩
    · rw [wrap_i64 (by omega) (by omega)]; rfl
    · rcases hr with hr | hr
      · omega
      · rw [hr.2, e]; congr 1; omega
    · rcases hr with hr | hr
      · omega
      · omega
  · have : m.take i = m := List.take_of_length_le (by omega)
    rw [this] at hpos ⊢
    exact H _ (.inr ⟨by omega, by omega⟩)

end Go.Proofs.Ytliagkijeigcaaa
