/- Contracts: sameness of floats and lists of floats. -/
import Derived.Test.YtliagkijeigcaaaC2
set_option linter.unusedVariables false
namespace Go.Proofs.Ytliagkijeigcaaa
open Go Go.Vc

variable {w : World} {K : Value → World → Prop}

theorem div_one_some {a : Nat} (h : ¬ NaN Ieee.double a) : ∃ r, floatBits .quo .f64 4607182418800017408 a = some r := by
  show ∃ r, Ieee.double.div 4607182418800017408 a = some r
  have h1 : Ieee.double.read 4607182418800017408 = .number false 4503599627370496 (-52) := by decide +kernel
  unfold Ieee.Format.div
  rw [h1]
  rcases fin_inf_nan Ieee.double a with h2 | h2 | h2
  · obtain ⟨m, e, hr⟩ := read_fin h2
    rw [hr]
    simp only [Ieee.Datum.quotient]
    by_cases hm : m = 0
    · rw [if_pos hm, if_neg (by decide)]; exact ⟨_, rfl⟩
    · rw [if_neg hm]; exact ⟨_, rfl⟩
  · rw [read_inf hd1 h2]; exact ⟨_, rfl⟩
  · exact absurd h2 h

/-- Two floats of the wide kind that are the same. -/
def Deq (a b : Nat) : Prop := (a = b ∧ ¬ NaN Ieee.double a) ∨ (NaN Ieee.double a ∧ NaN Ieee.double b)

theorem neq_self_nan {a : Nat} (h : NaN Ieee.double a) : (FloatKind.f64.format.order a a != some .eq) = true := by
  rw [show FloatKind.f64.format.order a a = none from order_nan_left hd1 a h]; rfl
theorem neq_self_not {a : Nat} (h : ¬ NaN Ieee.double a) : (FloatKind.f64.format.order a a != some .eq) = false := by
  rw [show FloatKind.f64.format.order a a = some .eq from order_self h hd1]; rfl

theorem c_sameFloat {a b : Nat} (h : Deq a b) (H : K (.bool true) w) : call P f_laws_sameFloat [.float .f64 a, .float .f64 b] w K := by
  refine I_laws_sameFloat ?_
  unfold D_laws_sameFloat
  rw [bin_fneq]
  rcases h with ⟨rfl, ha⟩ | ⟨ha, hb⟩
  · rw [neq_self_not ha]
    refine ⟨_, fun _ _ _ h => h, ?_⟩
    rw [grd_false_false, bin_fneq, neq_self_not ha, pick_bool, cond_false, cnd_false, bin_feql]
    refine ⟨_, fun _ _ _ h => h, ?_⟩
    refine grd_split (fun h1 => ?_) (fun h1 => ?_)
    · rw [bin_feql, pick_bool, h1, cond_true, cnd_true]
      obtain ⟨r, hr⟩ := div_one_some ha
      refine rbin_float (by simp) fun r1 h2 => ?_
      rw [bin_fgtr]
      refine rbin_float (by simp) fun r2 h3 => ?_
      rw [bin_fgtr, bin_beql _ _ _ _ _ _ u_bool, FR_some h2 hr, FR_some h3 hr]
      simpa using H
    · rw [h1, pick_bool]
      simp only [Bool.not_true, cond_false, cnd_false]
      rw [bin_feql, show FloatKind.f64.format.order a a = some .eq from order_self ha hd1]
      exact H
  · rw [neq_self_nan ha]
    refine ⟨_, fun _ _ _ h => h, ?_⟩
    rw [grd_true_false, pick_bool, cond_true, cnd_true, bin_fneq, neq_self_nan ha]
    refine ⟨_, fun _ _ _ h => h, ?_⟩
    rw [grd_true_true, bin_fneq, neq_self_nan hb, pick_bool, cond_true]
    exact H

theorem wid_deq {a b r q : Nat} (h : Feq a b) (h1 : Wid a r) (h2 : Wid b q) : Deq r q := by
  rcases h with rfl | ⟨ha, hb⟩
  · rcases h1 with ⟨n1, rfl⟩ | ⟨n1, m1⟩
    · rcases h2 with ⟨n2, rfl⟩ | ⟨n2, m2⟩
      · exact .inl ⟨rfl, wid_not_nan n1⟩
      · exact absurd n2 n1
    · rcases h2 with ⟨n2, rfl⟩ | ⟨n2, m2⟩
      · exact absurd n1 n2
      · exact .inr ⟨m1, m2⟩
  · rcases h1 with ⟨n1, rfl⟩ | ⟨n1, m1⟩
    · exact absurd ha n1
    · rcases h2 with ⟨n2, rfl⟩ | ⟨n2, m2⟩
      · exact absurd hb n2
      · exact .inr ⟨m1, m2⟩

/-- The same floats, one by one. -/
def Leq (a b : List Nat) : Prop := a.length = b.length ∧ ∀ i (h1 : i < a.length) (h2 : i < b.length), Feq a[i] b[i]
theorem Leq.refl (a : List Nat) : Leq a a := ⟨rfl, fun i h1 h2 => .inl rfl⟩

theorem c_eqFloat32S {u v : Value} {a b : List Nat} (hu : FS w u a) (hv : FS w v b) (h : Leq a b) (H : K (.bool true) w) : call P f_laws_eqFloat32S [u, v] w K := by
  refine I_laws_eqFloat32S ?_
  unfold D_laws_eqFloat32S
  have hb := hu.bound
  have hlen := h.1
  rw [hu.row.len u_s_float32, hv.row.len u_s_float32, bin_neq]
  refine cnd_dec (fun h1 => by omega) (fun h1 => ?_)
  refine ⟨fun m x w' => w' = w ∧ ∃ i : Nat, x = .int .i64 i ∧ m + i = a.length, ⟨a.length, rfl, 0, rfl, by omega⟩, ?_⟩
  rintro m x junk w' ⟨rfl, i, rfl, hm⟩
  rw [hu.row.len u_s_float32, bin_lss]
  refine cnd_dec (fun hlt => ?_) (fun hge => H)
  have hi : i < a.length := by omega
  have hi' : i < b.length := by omega
  refine hu.row.at1 (get_map hi) u_s_float32 i_float32 u_float32 rfl ?_
  refine hv.row.at1 (get_map hi') u_s_float32 i_float32 u_float32 rfl ?_
  refine rcnv_widen u_float32 u_float64 fun r hr => ?_
  refine rcnv_widen u_float32 u_float64 fun q hq => ?_
  refine c_sameFloat (wid_deq (h.2 i hi hi') hr hq) ?_
  rw [una_not, Bool.not_true, cnd_false, bin_add]
  refine ⟨m - 1, by omega, rfl, i + 1, ?_, by omega⟩
  rw [wrap_i64 (by omega) (by omega)]; rfl

def LLeq (a b : List (List Nat)) : Prop := a.length = b.length ∧ ∀ i (h1 : i < a.length) (h2 : i < b.length), Leq a[i] b[i]
theorem LLeq.refl (a : List (List Nat)) : LLeq a a := ⟨rfl, fun i h1 h2 => Leq.refl _⟩

theorem c_eqFloat32SS {u v : Value} {a b : List (List Nat)} (hu : FSS w u a) (hv : FSS w v b) (h : LLeq a b) (H : K (.bool true) w) : call P f_laws_eqFloat32SS [u, v] w K := by
  refine I_laws_eqFloat32SS ?_
  unfold D_laws_eqFloat32SS
  have hb := hu.bound
  have hlen := h.1
  rw [hu.len, hv.len, bin_neq]
  refine cnd_dec (fun h1 => by omega) (fun h1 => ?_)
  refine ⟨fun m x w' => w' = w ∧ ∃ i : Nat, x = .int .i64 i ∧ m + i = a.length, ⟨a.length, rfl, 0, rfl, by omega⟩, ?_⟩
  rintro m x junk w' ⟨rfl, i, rfl, hm⟩
  rw [hu.len, bin_lss]
  refine cnd_dec (fun hlt => ?_) (fun hge => H)
  have hi : i < a.length := by omega
  have hi' : i < b.length := by omega
  refine hu.at hi fun x hx => ?_
  refine hv.at hi' fun y hy => ?_
  refine c_eqFloat32S hx hy (h.2 i hi hi') ?_
  rw [una_not, Bool.not_true, cnd_false, bin_add]
  refine ⟨m - 1, by omega, rfl, i + 1, ?_, by omega⟩
  rw [wrap_i64 (by omega) (by omega)]; rfl

/-! ### copies of one's own -/
abbrev OS (w : World) (base : Nat) (v : Value) (l : List Nat) : Prop := w.ownsRow base t_float32 1 v l.length (l.map fl)
theorem OS.FS {base : Nat} {v : Value} {l : List Nat} (h : OS w base v l) (hb : ∀ b ∈ l, b < 4294967296) : FS w v l := ⟨owns_Row h, hb⟩

theorem replicate_set_take {α : Type} (l : List α) (z : α) (i : Nat) (hi : i < l.length) : (l.take i ++ List.replicate (l.length - i) z).set i l[i] = l.take (i + 1) ++ List.replicate (l.length - (i + 1)) z := by
  apply List.ext_getElem?
  intro j
  rw [List.getElem?_set]
  simp only [List.getElem?_append, List.length_take, List.getElem?_take, List.getElem?_replicate, List.length_append, List.length_replicate]
  by_cases h1 : i = j
  · subst h1
    simp [Nat.min_eq_left (Nat.le_of_lt hi), hi, show min (i + 1) l.length = i + 1 by omega]
    omega
  · rw [if_neg h1]
    by_cases h2 : j < i
    · simp [show j < min i l.length by omega, show j < min (i + 1) l.length by omega, h2, show j < i + 1 by omega]
    · simp [show ¬ j < min i l.length by omega, show ¬ j < min (i + 1) l.length by omega, show min i l.length = i by omega, show min (i + 1) l.length = i + 1 by omega]
      by_cases h3 : j - i < l.length - i
      · simp [h2, h3, show ¬ j < i + 1 by omega, show j - (i + 1) < l.length - (i + 1) by omega]
      · simp [h2, h3, show ¬ j < i + 1 by omega, show ¬ j - (i + 1) < l.length - (i + 1) by omega]

theorem oneCell_fl (b : Nat) : (fl b).oneCell' = true := rfl

theorem c_toFloat32S {v : Value} {l : List Nat} (h : FS w v l) (hl : l.length ≤ 1048576) (H : ∀ v' w', Ext w w' → OS w' w.heap.size v' l → K v' w') : call P f_laws_toFloat32S [v] w K := by
  refine I_laws_toFloat32S ?_
  unfold D_laws_toFloat32S
  rw [h.row.len u_s_float32]
  refine mks_intro u_s_float32 i_float32 rfl (by omega) (by simp only [maxLen]; omega) fun w1 v1 ho he => ?_
  refine ⟨fun m x w' => RowKit.Below w.heap.size w w' ∧ ∃ i : Nat, x = .int .i64 i ∧ m + i = l.length ∧ w'.ownsRow w.heap.size t_float32 1 v1 l.length (l.map fl |>.take i |> (· ++ List.replicate (l.length - i) (fl 0))),
    ⟨l.length, he, 0, rfl, by omega, by simpa using ho⟩, ?_⟩
  rintro m x junk w2 ⟨hbel, i, rfl, hm, ho2⟩
  have h2 : FS w2 v l := h.ext hbel
  rw [h2.row.len u_s_float32, bin_lss]
  refine cnd_dec (fun hlt => ?_) (fun hge => ?_)
  · have hi : i < l.length := by omega
    refine h2.row.at1 (get_map hi) u_s_float32 i_float32 u_float32 rfl ?_
    refine owns_set ho2 hi (oneCell_fl _) u_s_float32 i_float32 fun w3 ho3 hg => ?_
    rw [bin_add]
    refine ⟨m - 1, by omega, ?_, i + 1, ?_, by omega, ?_⟩
    · exact hbel.grown hg hbel.size fun k hk => (ho2.lt k hk).1
    · rw [wrap_i64 (by omega) (by omega)]; rfl
    · have := replicate_set_take (l.map fl) (fl 0) i (by simpa using hi)
      simp only [List.length_map, List.getElem_map] at this
      rw [this] at ho3; exact ho3
  · have e : (l.map fl).take i = l.map fl := List.take_of_length_le (by simp; omega)
    have e2 : l.length - i = 0 := by omega
    simp only [e, e2, List.replicate_zero, List.append_nil] at ho2
    exact H _ _ hbel ho2

end Go.Proofs.Ytliagkijeigcaaa
