/- Contracts: the product of a matrix and a vector. -/
import Derived.Test.YtliagkijeigcaaaC5
import Derived.Test.YtliagkijeigcaaaVcI
set_option linter.unusedVariables false
namespace Go.Proofs.Ytliagkijeigcaaa
open Go Go.Vc

variable {w : World} {K : Value → World → Prop}

theorem finB_iff {b : Nat} : finB b = true ↔ Fin Ieee.single b := by unfold finB; exact decide_eq_true_iff
theorem finB_not {b : Nat} : finB b = false ↔ ¬ Fin Ieee.single b := by unfold finB; exact decide_eq_false_iff_not

theorem FS.at {v : Value} {l : List Nat} (h : FS w v l) {i : Nat} (hi : i < l.length) {K : Value → Prop} (H : K (fl l[i])) : ixa P t_s_float32 v (.int .i64 (i : Int)) w (fun a => ld P t_float32 a w K) :=
  h.row.at1 (get_map hi) u_s_float32 i_float32 u_float32 rfl H

theorem oneCell_cells {v : Value} (h : v.oneCell' = true) : v.cells = #[v] := by cases v <;> first | rfl | (simp [Value.oneCell'] at h; done)

/-- 'append(xs, x)'. -/
theorem app1 {base : Nat} {t e : TypeId} {z : Value} {b n : Nat} {v x : Value} {xs : List Value} {KW : Value → World → Prop} (h : w.ownsRow base e 1 v n xs) (hx : x.oneCell' = true)
    (hu : P.underlying t = some (.slice e)) (ht : TI P e z 1 b) (hz : z.oneCell' = true) (hn : n + 1 ≤ maxLen) (hby : (n + 1) * b ≤ 140737488355328) (hbase : base ≤ w.heap.size)
    (H : ∀ v' w', w'.ownsRow base e 1 v' (n + 1) (xs ++ [x]) → w.grownBy w' v.ownBlock → KW v' w') : bsl P t 1 [(0, x)] w fun y w2 => bl2 P .append #[t, t] t [v, y] w2 KW := by
  refine bsl_one hu ht hx hz ?_
  have ho := owns_lit w [x] e (by simp [maxLen])
  have he := Ext_alloc w (.cells #[x] e)
  refine append_intro (owns_ext h he) (owns_Row ho) (by simpa using hx) hu ht (by rw [oneCell_cells hz]; rfl) (by decide) hn hby (Nat.le_trans hbase he.size) fun v' w' h1 h2 => ?_
  refine H v' w' h1 ⟨?_, ?_, ?_, ?_, fun k hk hne => ?_⟩
  · exact h2.os.trans (RowKit.Below.os he)
  · exact h2.tape.trans (RowKit.Below.tape he)
  · exact h2.output.trans (RowKit.Below.output he)
  · exact Nat.le_trans he.size h2.size
  · exact (h2.block k (Nat.lt_of_lt_of_le hk he.size) hne).trans (he.block k hk)

theorem appF {base : Nat} {v : Value} {b : Nat} {l : List Nat} {KW : Value → World → Prop} (h : OS w base v l) (hn : l.length < 1000000) (hbase : base ≤ w.heap.size)
    (H : ∀ v' w', OS w' base v' (l ++ [b]) → w.grownBy w' v.ownBlock → KW v' w') : bsl P t_s_float32 1 [(0, fl b)] w fun y w2 => bl2 P .append #[t_s_float32, t_s_float32] t_s_float32 [v, y] w2 KW := by
  refine app1 h (oneCell_fl b) u_s_float32 i_float32 rfl (by simp only [maxLen]; omega) (by omega) hbase fun v' w' h1 h2 => H v' w' ?_ h2
  show w'.ownsRow base t_float32 1 v' (l ++ [b]).length ((l ++ [b]).map fl)
  simpa using h1

theorem OS.below {B base : Nat} {v : Value} {l : List Nat} {w0 w' : World} (h : OS w base v l) (hb : RowKit.Below B w0 w) (hg : w.grownBy w' v.ownBlock) (hB : B ≤ w0.heap.size) (hbase : B ≤ base) : RowKit.Below B w0 w' :=
  hb.grown hg (Nat.le_trans hB hb.size) fun k hk => Nat.le_trans hbase (h.lt k hk).1

theorem OS.nil (w : World) (base : Nat) : OS w base (.slice none 0 0) [] := ⟨rfl, .inl ⟨rfl, rfl⟩⟩
theorem OS_lit0 (w : World) : OS (w.alloc (.cells #[] t_float32)) w.heap.size (.slice (some ⟨w.heap.size, 0, none⟩) 0 0) [] := owns_lit w [] t_float32

/-! ### what is computed -/
def dotF : List Nat → List Nat → Nat → Option Nat
  | n :: ns, x :: xs, s => if finB (opF .add s (opF .mul n x)) then dotF ns xs (opF .add s (opF .mul n x)) else none
  | _, _, s => some s
theorem dotF_step {r x : List Nat} {j s : Nat} (h1 : j < r.length) (h2 : j < x.length) : dotF (r.drop j) (x.drop j) s = if finB (opF .add s (opF .mul r[j] x[j])) then dotF (r.drop (j + 1)) (x.drop (j + 1)) (opF .add s (opF .mul r[j] x[j])) else none := by
  rw [List.drop_eq_getElem_cons h1, List.drop_eq_getElem_cons h2, dotF]
theorem dotF_end {r x : List Nat} {j s : Nat} (h1 : r.length ≤ j) : dotF (r.drop j) (x.drop j) s = some s := by
  rw [List.drop_eq_nil_of_le h1]; simp [dotF]
def timesF (x : List Nat) : List (List Nat) → List Nat → Option (List Nat)
  | [], out => some out
  | r :: rs, out => match dotF r x 0 with
    | none => none
    | some s => timesF x rs (out ++ [s])
theorem timesF_step {x : List Nat} {m : List (List Nat)} {i : Nat} {out : List Nat} (h : i < m.length) : timesF x (m.drop i) out = match dotF m[i] x 0 with
    | none => none
    | some s => timesF x (m.drop (i + 1)) (out ++ [s]) := by
  rw [List.drop_eq_getElem_cons h, timesF]
theorem dotF_fin : ∀ {r x : List Nat} {s q : Nat}, finB s = true → dotF r x s = some q → finB q = true
  | [], x, s, q, hs, h => by simp [dotF] at h; subst h; exact hs
  | n :: ns, [], s, q, hs, h => by simp [dotF] at h; subst h; exact hs
  | n :: ns, x :: xs, s, q, hs, h => by
    rw [dotF] at h
    split at h
    · rename_i hf; exact dotF_fin hf h
    · cases h
theorem dotF_lt : ∀ {r x : List Nat} {s q : Nat}, s < 4294967296 → dotF r x s = some q → q < 4294967296
  | [], x, s, q, hs, h => by simp [dotF] at h; subst h; exact hs
  | n :: ns, [], s, q, hs, h => by simp [dotF] at h; subst h; exact hs
  | n :: ns, x :: xs, s, q, hs, h => by
    rw [dotF] at h
    split at h
    · exact dotF_lt opF_lt h
    · cases h
theorem timesF_lt {x : List Nat} : ∀ {m : List (List Nat)} {out q : List Nat}, (∀ b ∈ out, b < 4294967296) → timesF x m out = some q → ∀ b ∈ q, b < 4294967296
  | [], out, q, ho, h => by simp [timesF] at h; subst h; exact ho
  | r :: rs, out, q, ho, h => by
    rw [timesF] at h
    cases hd : dotF r x 0 with
    | none => rw [hd] at h; cases h
    | some s =>
      rw [hd] at h
      refine timesF_lt (fun b hb => ?_) h
      rcases List.mem_append.1 hb with hb | hb
      · exact ho b hb
      · simp at hb; subst hb; exact dotF_lt (by decide) hd
theorem timesF_fin {x : List Nat} : ∀ {m : List (List Nat)} {out q : List Nat}, (out.all finB = true) → timesF x m out = some q → q.all finB = true
  | [], out, q, ho, h => by simp [timesF] at h; subst h; exact ho
  | r :: rs, out, q, ho, h => by
    rw [timesF] at h
    cases hd : dotF r x 0 with
    | none => rw [hd] at h; cases h
    | some s =>
      rw [hd] at h
      refine timesF_fin ?_ h
      rw [List.all_append, ho]
      simpa using dotF_fin (by decide) hd
theorem timesF_length {x : List Nat} : ∀ {m : List (List Nat)} {out q : List Nat}, timesF x m out = some q → q.length = out.length + m.length
  | [], out, q, h => by simp [timesF] at h; subst h; rfl
  | r :: rs, out, q, h => by
    rw [timesF] at h
    cases hd : dotF r x 0 with
    | none => rw [hd] at h; cases h
    | some s =>
      rw [hd] at h
      have := timesF_length h
      simp at this ⊢; omega

/-- One step of a sum of products: finite floats have a product that is no NaN; if it is infinite, the sum is not finite. -/
theorem step_prod {a b s p q : Nat} (ha : finB a = true) (hb : finB b = true) (hs : finB s = true) (hp : FR .mul .f32 a b p) (hq : FR .add .f32 s p q) : p = opF .mul a b ∧ ((finB p = true ∧ q = opF .add s (opF .mul a b)) ∨ (finB p = false ∧ finB q = false ∧ finB (opF .add s (opF .mul a b)) = false)) := by
  rw [finB_iff] at ha hb hs
  have hm := mul_fin (k := .f32) ha hb
  have e := FR_opF hp hm
  refine ⟨e, ?_⟩
  by_cases hf : Fin Ieee.single p
  · refine .inl ⟨finB_iff.2 hf, ?_⟩
    rw [← e]
    exact FR_opF hq (add_fin (k := .f32) hs hf)
  · refine .inr ⟨finB_not.2 hf, finB_not.2 (add_bad (k := .f32) hs hf hq), finB_not.2 ?_⟩
    rw [← e]
    have hn : ¬ NaN Ieee.single p := by rw [e]; exact opF_nan hm
    rcases fin_inf_nan Ieee.single p with h | h | h
    · exact absurd h hf
    · have hread := read_inf hs1 h
      obtain ⟨m, e', h1⟩ := read_fin hs
      have : floatBits .add .f32 s p = some (Ieee.single.write (.infinity (p / Ieee.single.signWeight % 2 == 1))) := by
        show Ieee.single.add s p = _
        unfold Ieee.Format.add; rw [h1, hread]; rfl
      unfold opF
      rw [this]
      exact not_fin_of_inf (write_inf _ _)
    · exact absurd h hn

/-! ### the program's and the reference's -/
structure MV (w : World) (a v : Value) (m : List (List Nat)) (x : List Nat) : Prop where
  fa : FSS w a m
  fv : FS w v x
  len : ∀ r ∈ m, r.length = x.length
  fm : ∀ r ∈ m, r.all finB = true
  fx : x.all finB = true
  small : m.length ≤ 8
theorem MV.ext {w' : World} {a v : Value} {m : List (List Nat)} {x : List Nat} (h : MV w a v m x) (he : Ext w w') : MV w' a v m x := ⟨h.fa.ext he, h.fv.ext he, h.len, h.fm, h.fx, h.small⟩

theorem all_get {l : List Nat} (h : l.all finB = true) {i : Nat} (hi : i < l.length) : finB l[i] = true := List.all_eq_true.1 h _ (List.getElem_mem hi)
theorem nat_succ (i : Nat) (h : i < 1000000) : IntKind.i64.wrap ((i : Int) + 1) = ((i + 1 : Nat) : Int) := by rw [wrap_i64 (by omega) (by omega)]; rfl

theorem c_spec_l10Times {a v : Value} {m : List (List Nat)} {x : List Nat} (h : MV w a v m x) (h0 : timesF x m [] = none → ∀ w', Ext w w' → K (.tuple #[.slice none 0 0, .bool false]) w')
    (h1 : ∀ q u w', timesF x m [] = some q → Ext w w' → OS w' w.heap.size u q → K (.tuple #[u, .bool true]) w') : call P f_spec_l10Times [a, v] w K := by
  refine I_spec_l10Times ?_
  unfold D_spec_l10Times
  refine bsl_nil u_s_float32 i_float32 ?_
  have hm := h.small
  refine ⟨fun g u y w' => RowKit.Below w.heap.size w w' ∧ ∃ (i : Nat) (out : List Nat), y = .int .i64 i ∧ g + i = m.length ∧ out.length = i ∧ OS w' w.heap.size u out ∧ timesF x (m.drop i) out = timesF x m [],
    ⟨m.length, Ext_alloc _ _, 0, [], rfl, by omega, rfl, OS_lit0 w, rfl⟩, ?_⟩
  rintro g u y junk w2 ⟨hb, i, out, rfl, hg, hl, ho, ht⟩
  have h2 := h.ext hb
  rw [h2.fa.len, bin_lss]
  refine cnd_dec (fun hlt => ?_) (fun hge => ?_)
  · have hi : i < m.length := by omega
    have hr := h.len _ (List.getElem_mem hi)
    have hrf := h.fm _ (List.getElem_mem hi)
    refine ⟨fun g s y w' => w' = w2 ∧ ∃ (j b : Nat), y = .int .i64 j ∧ s = fl b ∧ finB b = true ∧ g + j = x.length ∧ dotF (m[i].drop j) (x.drop j) b = dotF m[i] x 0, ⟨x.length, rfl, 0, 0, rfl, rfl, by decide, by omega, rfl⟩, ?_⟩
    rintro g' s y junk' w' ⟨rfl, j, b, rfl, rfl, hbf, hg', hd⟩
    have hxb := h2.fv.bound
    rw [h2.fv.row.len u_s_float32, bin_lss]
    refine cnd_dec (fun hlt' => ?_) (fun hge' => ?_)
    · have hj : j < x.length := by omega
      have hj' : j < m[i].length := by omega
      refine h2.fa.at hi fun rv hrv => ?_
      refine hrv.at hj' ?_
      refine h2.fv.at hj ?_
      refine rbin_float (by simp) fun p hp => ?_
      refine rbin_float (by simp) fun q hq => ?_
      refine c_l01Finite ?_
      rw [una_not]
      rw [dotF_step hj' hj] at hd
      obtain ⟨e1, e2⟩ := step_prod (all_get hrf hj') (all_get h.fx hj) hbf hp hq
      rcases e2 with ⟨e2, e3⟩ | ⟨e2, e3, e4⟩
      · rw [← e3] at hd
        refine cnd_split (fun hf => ?_) (fun hf => ?_)
        · simp only [Bool.not_eq_eq_eq_not, Bool.not_true] at hf
          rw [hf] at hd
          refine h0 ?_ _ hb
          rw [← ht, timesF_step hi, ← hd]; rfl
        · simp only [Bool.not_eq_eq_eq_not, Bool.not_false] at hf
          rw [hf] at hd
          rw [bin_add, wrap_i64 (by omega) (by omega)]
          exact ⟨g' - 1, by omega, rfl, j + 1, q, rfl, rfl, hf, by omega, hd⟩
      · rw [e3]
        rw [e4] at hd
        refine cnd_yes rfl (h0 ?_ _ hb)
        rw [← ht, timesF_step hi, ← hd]; rfl
    · have hj : j = x.length := by omega
      rw [dotF_end (by omega)] at hd
      refine appF ho (by omega) hb.size fun v3 w3 ho3 hg3 => ?_
      rw [bin_add, wrap_i64 (by omega) (by omega)]
      refine ⟨g - 1, by omega, OS.below ho hb hg3 (Nat.le_refl _) (Nat.le_refl _), i + 1, out ++ [b], rfl, by omega, by simp [hl], ho3, ?_⟩
      rw [← ht, timesF_step hi, ← hd]
  · have : i = m.length := by omega
    subst this
    rw [List.drop_length] at ht
    exact h1 out u w2 ht.symm hb ho

theorem FS_two {b1 b2 : Nat} (h1 : b1 < 4294967296) (h2 : b2 < 4294967296) (w : World) : FS (w.alloc (.cells #[fl b1, fl b2] t_float32)) (.slice (some ⟨w.heap.size, 0, none⟩) 2 2) [b1, b2] :=
  ⟨owns_Row (owns_lit w [fl b1, fl b2] t_float32 (by simp [maxLen])), by intro b hb; simp at hb; rcases hb with rfl | rfl <;> assumption⟩

theorem bslF2 {b1 b2 : Nat} {KW : Value → World → Prop} (h1 : b1 < 4294967296) (h2 : b2 < 4294967296) (H : ∀ v w', Ext w w' → FS w' v [b1, b2] → KW v w') : bsl P t_s_float32 2 [(0, fl b1), (1, fl b2)] w KW :=
  bsl_two u_s_float32 i_float32 rfl rfl rfl (H _ _ (Ext_alloc _ _) (FS_two h1 h2 w))

theorem c_impl_timesVector {a v : Value} {m : List (List Nat)} {x : List Nat} (h : MV w a v m x) (h0 : timesF x m [] = none → ∀ w', Ext w w' → K (.tuple #[.slice none 0 0, .bool false]) w')
    (h1 : ∀ q u w', timesF x m [] = some q → Ext w w' → OS w' w.heap.size u q → K (.tuple #[u, .bool true]) w') : call P f_impl_timesVector [a, v] w K := by
  refine I_impl_timesVector ?_
  unfold D_impl_timesVector
  refine bsl_nil u_s_float32 i_float32 ?_
  have hm := h.small
  rw [(h.fa.ext (Ext_alloc w _)).len]
  refine ⟨fun g u y w' => RowKit.Below w.heap.size w w' ∧ ∃ (i : Nat) (out : List Nat), y = .int .i64 i ∧ g + i = m.length ∧ out.length = i ∧ OS w' w.heap.size u out ∧ timesF x (m.drop i) out = timesF x m [],
    ⟨m.length, Ext_alloc _ _, 0, [], rfl, by omega, rfl, OS_lit0 w, rfl⟩, ?_⟩
  rintro g u y junk w2 ⟨hb, i, out, rfl, hg, hl, ho, ht⟩
  have h2 := h.ext hb
  rw [bin_lss]
  refine cnd_dec (fun hlt => ?_) (fun hge => ?_)
  · have hi : i < m.length := by omega
    have hr := h.len _ (List.getElem_mem hi)
    have hrf := h.fm _ (List.getElem_mem hi)
    refine h2.fa.at hi fun rv hrv => ?_
    rw [hrv.row.len u_s_float32]
    refine ⟨fun g s y w' => Ext w2 w' ∧ ∃ (j b : Nat), y = .int .i64 j ∧ s = fl b ∧ finB b = true ∧ g + j = x.length ∧ dotF (m[i].drop j) (x.drop j) b = dotF m[i] x 0, ⟨x.length, Ext.refl _, 0, 0, rfl, rfl, by decide, by omega, rfl⟩, ?_⟩
    rintro g' s y junk' w' ⟨he, j, b, rfl, rfl, hbf, hg', hd⟩
    have h3 := h2.ext he
    have hrv := hrv.ext he
    have ho := owns_ext ho he
    have hb3 : RowKit.Below w.heap.size w w' := hb.trans (RowKit.Below.mono he hb.size)
    have hxb := h2.fv.bound
    rw [bin_lss]
    refine cnd_dec (fun hlt' => ?_) (fun hge' => ?_)
    · have hj : j < x.length := by omega
      have hj' : j < m[i].length := by omega
      refine hrv.at hj' ?_
      refine h3.fv.at hj ?_
      refine rbin_float (by simp) fun p hp => ?_
      refine rbin_float (by simp) fun q hq => ?_
      refine bslF2 (FR_lt hp) (FR_lt hq) fun v4 w4 he4 hf4 => ?_
      refine c_areFinite hf4 ?_
      rw [una_not]
      rw [dotF_step hj' hj] at hd
      have hb4 : RowKit.Below w.heap.size w w4 := hb3.trans (RowKit.Below.mono he4 hb3.size)
      obtain ⟨e1, e2⟩ := step_prod (all_get hrf hj') (all_get h.fx hj) hbf hp hq
      have eall : [p, q].all finB = (finB p && finB q) := by simp
      rw [eall]
      rcases e2 with ⟨e2, e3⟩ | ⟨e2, e3, e4⟩
      · rw [← e3] at hd
        rw [e2, Bool.true_and]
        refine cnd_split (fun hf => ?_) (fun hf => ?_)
        · simp only [Bool.not_eq_eq_eq_not, Bool.not_true] at hf
          rw [hf] at hd
          refine h0 ?_ _ hb4
          rw [← ht, timesF_step hi, ← hd]; rfl
        · simp only [Bool.not_eq_eq_eq_not, Bool.not_false] at hf
          rw [hf] at hd
          rw [bin_add, wrap_i64 (by omega) (by omega)]
          exact ⟨g' - 1, by omega, he.trans he4, j + 1, q, rfl, rfl, hf, by omega, hd⟩
      · rw [e2, Bool.false_and]
        rw [e4] at hd
        refine cnd_yes rfl (h0 ?_ _ hb4)
        rw [← ht, timesF_step hi, ← hd]; rfl
    · have hj : j = x.length := by omega
      rw [dotF_end (by omega)] at hd
      refine appF ho (by omega) hb3.size fun v4 w4 ho4 hg4 => ?_
      rw [bin_add, wrap_i64 (by omega) (by omega)]
      refine ⟨g - 1, by omega, OS.below ho hb3 hg4 (Nat.le_refl _) (Nat.le_refl _), i + 1, out ++ [b], rfl, by omega, by simp [hl], ho4, ?_⟩
      rw [← ht, timesF_step hi, ← hd]
  · have : i = m.length := by omega
    subst this
    rw [List.drop_length] at ht
    exact h1 out u w2 ht.symm hb ho

end Go.Proofs.Ytliagkijeigcaaa
