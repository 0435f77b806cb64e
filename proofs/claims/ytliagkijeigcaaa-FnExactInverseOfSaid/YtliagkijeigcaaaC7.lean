/- Contracts: codes of systems; the product of a matrix and a vector, as the two packages hand it out; the law's own steps. -/
import Derived.Test.YtliagkijeigcaaaC6
set_option linter.unusedVariables false
namespace Go.Proofs.Ytliagkijeigcaaa
open Go Go.Vc

variable {w : World} {K : Value → World → Prop}

def codeF (m : List (List Nat)) (L : List (List Nat)) : Int := if matB m && L.all vecB then (if L.all (fun l => decide (l.length = m.length)) then 0 else 2) else 1

theorem c_spec_l10Code {a v : Value} {m L : List (List Nat)} (h : FSS w a m) (hL : FSS w v L) (H : K (.int .i64 (codeF m L)) w) : call P f_spec_l10Code [a, v] w K := by
  refine I_spec_l10Code ?_
  unfold D_spec_l10Code
  refine c_spec_l10Is h ?_
  rw [una_not]
  unfold codeF at H
  refine cnd_split (fun hf => ?_) (fun hf => ?_)
  · simp only [Bool.not_eq_eq_eq_not, Bool.not_true] at hf
    rw [hf] at H; exact H
  · simp only [Bool.not_eq_eq_eq_not, Bool.not_false] at hf
    rw [hf, Bool.true_and] at H
    have hb := hL.bound
    refine ⟨fun k x w' => w' = w ∧ ∃ i : Nat, x = .int .i64 i ∧ k + i = L.length ∧ (L.take i).all vecB = true, ⟨L.length, rfl, 0, rfl, by omega, by simp⟩, ?_⟩
    rintro k x junk w' ⟨rfl, i, rfl, hm, hall⟩
    rw [hL.len, bin_lss]
    refine cnd_dec (fun hlt => ?_) (fun hge => ?_)
    · have hi : i < L.length := by omega
      refine hL.at hi fun x hx => ?_
      refine c_l10Vector hx ?_
      rw [una_not]
      refine cnd_split (fun hf => ?_) (fun hf => ?_)
      · simp only [Bool.not_eq_eq_eq_not, Bool.not_true] at hf
        have : L.all vecB = false := by
          refine Bool.eq_false_iff.2 fun hall' => ?_
          have := List.all_eq_true.1 hall' L[i] (List.getElem_mem hi)
          rw [this] at hf; cases hf
        rw [this] at H; exact H
      · simp only [Bool.not_eq_eq_eq_not, Bool.not_false] at hf
        rw [bin_add, wrap_i64 (by omega) (by omega)]
        refine ⟨k - 1, by omega, rfl, i + 1, rfl, by omega, ?_⟩
        rw [List.take_succ_eq_append_getElem hi, List.all_append, hall]
        simpa using hf
    · have : L.take i = L := List.take_of_length_le (by omega)
      rw [this] at hall
      rw [hall] at H
      refine ⟨fun k x w2 => w2 = w' ∧ ∃ i : Nat, x = .int .i64 i ∧ k + i = L.length ∧ (L.take i).all (fun l => decide (l.length = m.length)) = true, ⟨L.length, rfl, 0, rfl, by omega, by simp⟩, ?_⟩
      rintro k x junk w2 ⟨rfl, i, rfl, hm, hall2⟩
      rw [hL.len, bin_lss]
      refine cnd_dec (fun hlt => ?_) (fun hge => ?_)
      · have hi : i < L.length := by omega
        refine hL.at hi fun x hx => ?_
        rw [hx.row.len u_s_float32, h.len, bin_neq]
        refine cnd_dec (fun hne => ?_) (fun heq => ?_)
        · have : L.all (fun l => decide (l.length = m.length)) = false := by
            refine Bool.eq_false_iff.2 fun hall' => ?_
            have := List.all_eq_true.1 hall' L[i] (List.getElem_mem hi)
            simp only [decide_eq_true_eq] at this
            omega
          rw [this] at H; exact H
        · rw [bin_add, wrap_i64 (by omega) (by omega)]
          refine ⟨k - 1, by omega, rfl, i + 1, rfl, by omega, ?_⟩
          rw [List.take_succ_eq_append_getElem hi, List.all_append, hall2]
          have : L[i].length = m.length := by omega
          simp [this]
      · have : L.take i = L := List.take_of_length_le (by omega)
        rw [this] at hall2
        rw [hall2] at H; exact H

/-- A literal of one row. -/
theorem FSS_lit1 {v : Value} {l : List Nat} (h : FS w v l) (ho : v.oneCell' = true) : FSS (w.alloc (.cells #[v] t_s_float32)) (.slice (some ⟨w.heap.size, 0, none⟩) 1 1) [l] :=
  ⟨[v], owns_Row (owns_lit w [v] t_s_float32 (by simp [maxLen])), fun i hi => by
    obtain rfl : i = 0 := by simpa using hi
    exact ⟨v, rfl, h.ext (Ext_alloc _ _)⟩⟩
theorem FS.one {v : Value} {l : List Nat} (h : FS w v l) : v.oneCell' = true := by
  obtain ⟨_, _, a, cap, rfl, _⟩ := h.row
  rfl

def tvF (m : List (List Nat)) (x : List Nat) : List Nat × Int :=
  if codeF m [x] = 0 then (match timesF x m [] with | none => ([], 3) | some q => (q, 0)) else ([], codeF m [x])

theorem code_zero {m : List (List Nat)} {L : List (List Nat)} (h : codeF m L = 0) : matB m = true ∧ (∀ l ∈ L, vecB l = true) ∧ ∀ l ∈ L, l.length = m.length := by
  unfold codeF at h
  split at h
  · rename_i h1
    split at h
    · rename_i h2
      simp only [Bool.and_eq_true] at h1
      refine ⟨h1.1, fun l hl => List.all_eq_true.1 h1.2 l hl, fun l hl => ?_⟩
      have := List.all_eq_true.1 h2 l hl
      simpa using this
    · omega
  · omega
theorem matB_parts {m : List (List Nat)} (h : matB m = true) : (∀ r ∈ m, r.length = m.length ∧ r.all finB = true) ∧ 1 ≤ m.length ∧ m.length ≤ 8 := by
  unfold matB at h
  simp only [Bool.and_eq_true, decide_eq_true_eq] at h
  refine ⟨fun r hr => ?_, h.2.1, h.2.2⟩
  have := List.all_eq_true.1 h.1 r hr
  simpa using this
theorem MV_of {a v : Value} {m : List (List Nat)} {x : List Nat} (ha : FSS w a m) (hv : FS w v x) (h : codeF m [x] = 0) : MV w a v m x := by
  obtain ⟨h1, h2, h3⟩ := code_zero h
  obtain ⟨h4, h5, h6⟩ := matB_parts h1
  have hx := h3 x (by simp)
  have hv' := h2 x (by simp)
  unfold vecB at hv'
  simp only [Bool.and_eq_true, decide_eq_true_eq] at hv'
  exact ⟨ha, hv, fun r hr => by rw [hx]; exact (h4 r hr).1, fun r hr => (h4 r hr).2, hv'.1, h6⟩

theorem c_spec_TimesVector {a v : Value} {m : List (List Nat)} {x : List Nat} (ha : FSS w a m) (hv : FS w v x)
    (H : ∀ u w', Ext w w' → OS w' w.heap.size u (tvF m x).1 → K (.tuple #[u, .int .i64 (tvF m x).2]) w') : call P f_spec_TimesVector [a, v] w K := by
  refine I_spec_TimesVector ?_
  unfold D_spec_TimesVector
  refine bsl_one u_s_s_float32 i_s_float32 hv.one rfl ?_
  have he := Ext_alloc w (.cells #[v] t_s_float32)
  refine c_spec_l10Code (ha.ext he) (FSS_lit1 hv hv.one) ?_
  rw [bin_neq]
  unfold tvF at H
  refine cnd_dec (fun hne => ?_) (fun heq => ?_)
  · rw [if_neg hne] at H
    exact H _ _ he (OS.nil _ _)
  · have heq' : codeF m [x] = 0 := by omega
    rw [if_pos heq'] at H
    refine c_spec_l10Times (MV_of (ha.ext he) (hv.ext he) heq') (fun hn w' he' => ?_) (fun q u w' hq he' ho => ?_)
    · rw [hn] at H
      rw [xtr_0, xtr_1, una_not]
      exact cnd_yes rfl (H _ _ (he.trans he') (OS.nil _ _))
    · rw [hq] at H
      rw [xtr_0, xtr_1, una_not]
      exact cnd_no rfl (H _ _ (he.trans he') (owns_base ho he.size))

theorem c_impl_TimesVector {a v : Value} {m : List (List Nat)} {x : List Nat} (ha : FSS w a m) (hv : FS w v x)
    (H : ∀ u w', Ext w w' → OS w' w.heap.size u (tvF m x).1 → K (.tuple #[u, .int .i64 (tvF m x).2]) w') : call P f_impl_TimesVector [a, v] w K := by
  refine I_impl_TimesVector ?_
  unfold D_impl_TimesVector
  refine c_impl_IsMatrix ha ?_
  rw [una_not]
  refine ⟨_, fun _ _ _ h => h, ?_⟩
  have bad : (matB m && vecB x) = false → K (.tuple #[.slice none 0 0, .int .i64 1]) w := fun hb => by
    have e : codeF m [x] = 1 := by unfold codeF; simp only [List.all_cons, List.all_nil, Bool.and_true]; rw [hb]; rfl
    unfold tvF at H
    rw [e] at H
    exact H _ _ (Ext.refl _) (OS.nil _ _)
  refine grd_split (fun h1 => ?_) (fun h1 => ?_)
  · simp only [Bool.not_eq_eq_eq_not, Bool.not_false] at h1
    refine c_isVector hv ?_
    rw [una_not, pick_bool, h1, Bool.not_true, cond_false]
    refine cnd_split (fun h2 => ?_) (fun h2 => ?_)
    · simp only [Bool.not_eq_eq_eq_not, Bool.not_true] at h2
      exact bad (by rw [h2, Bool.and_false])
    · simp only [Bool.not_eq_eq_eq_not, Bool.not_false] at h2
      rw [ha.len, hv.row.len u_s_float32, bin_neq]
      have e0 : codeF m [x] = if x.length = m.length then 0 else 2 := by
        unfold codeF
        simp only [List.all_cons, List.all_nil, Bool.and_true, h1, h2, if_true, decide_eq_true_eq]
      refine cnd_dec (fun h3 => ?_) (fun h3 => ?_)
      · have e : codeF m [x] = 2 := by rw [e0, if_neg (by omega)]
        unfold tvF at H
        rw [e] at H
        exact H _ _ (Ext.refl _) (OS.nil _ _)
      · have e : codeF m [x] = 0 := by rw [e0, if_pos (by omega)]
        unfold tvF at H
        rw [if_pos e] at H
        refine c_impl_timesVector (MV_of ha hv e) (fun hn w' he' => ?_) (fun q u w' hq he' ho => ?_)
        · rw [hn] at H
          rw [xtr_0, xtr_1, una_not]
          exact cnd_yes rfl (H _ _ he' (OS.nil _ _))
        · rw [hq] at H
          rw [xtr_0, xtr_1, una_not]
          exact cnd_no rfl (H _ _ he' ho)
  · have h2 : matB m = false := by cases h : matB m <;> simp_all
    rw [h2, Bool.not_false, pick_bool]
    exact cnd_yes rfl (bad (by rw [h2, Bool.false_and]))

theorem tvF_bits (m : List (List Nat)) (x : List Nat) : ∀ b ∈ (tvF m x).1, b < 4294967296 := by
  unfold tvF
  split
  · cases h : timesF x m [] with
    | none => intro b hb; simp at hb
    | some q => exact timesF_lt (by simp) h
  · intro b hb; simp at hb
theorem tvF_small (m : List (List Nat)) (x : List Nat) : (tvF m x).1.length ≤ 8 := by
  unfold tvF
  split
  · rename_i h
    cases h1 : timesF x m [] with
    | none => simp
    | some q =>
      have := timesF_length h1
      have h2 := (matB_parts (code_zero h).1).2.2
      simp at this ⊢; omega
  · simp

end Go.Proofs.Ytliagkijeigcaaa
