import Derived.Test.YtjompmflommadaaGreatDoorQIsServerVVcK
import Derived.Test.YtjompmflommadaaGreatDoorQIsServerVVcP
import Derived.Test.YtjompmflommadaaGreatDoorQIsServerVVcO
import Derived.LaidMore
import Derived.LaidOnce
import Derived.LaidHandle
import Derived.Test.YtjompmflommadaaGreatDoorRows
import Derived.Deep.SlicePairs
import Derived.ProofKit
import Derived.Test.YtjompmflommadaaGreatDoorQIsServer3
set_option linter.unusedSimpArgs false
set_option linter.unusedVariables false

set_option linter.unusedVariables false
set_option linter.unusedSimpArgs false
namespace Go.Proofs.YtjompmflommadaaGreatDoor
open Go Go.Vc
variable {w : World} {K : Value → World → Prop}
structure SS (w : World) (v : Value) (l : List (List UInt8)) : Prop where
  row : Row 1 w v l.length (l.map str)
  lt : ∀ s ∈ l, s.length ≤ 1048576
  cap : CapOk v
theorem SS.ext {w' : World} {v : Value} {l : List (List UInt8)} (h : SS w v l) (he : Ext w w') : SS w' v l := ⟨h.row.ext he, h.lt, h.cap⟩
theorem SS.bound {v : Value} {l : List (List UInt8)} (h : SS w v l) : l.length ≤ 9223372036854775807 := by have := h.row.bound; simp only [maxLen] at this; omega
theorem SS.len {v : Value} {l : List (List UInt8)} {ty : TypeId} {K : Value → Prop} (h : SS w v l) : bl0 P .len #[t_s_string] ty [v] w K = K (.int .i64 l.length) := h.row.len u_s_string
theorem SS.at {v : Value} {l : List (List UInt8)} {k : IntKind} {i : Nat} {K : Value → Prop} (h : SS w v l) (hi : i < l.length) (H : K (str l[i])) : ixa P t_s_string v (.int k (i : Int)) w (fun a => ld P t_string a w K) :=
  h.row.at1 (by rw [List.getElem?_map, List.getElem?_eq_getElem hi]; rfl) u_s_string i_string u_string rfl H
theorem SS.le {v : Value} {l : List (List UInt8)} {i : Nat} (h : SS w v l) (hi : i < l.length) : l[i].length ≤ 4611686018427387904 := by
  have := h.lt _ (List.getElem_mem hi); omega
def I_Program (w : World) (v : Value) (l : List (List UInt8)) : Prop := ∃ s, v = .agg #[s] ∧ SS w s l
theorem I_Program.ext {w' : World} {v : Value} {l : List (List UInt8)} (h : I_Program w v l) (he : Ext w w') : I_Program w' v l := let ⟨s, h1, h2⟩ := h; ⟨s, h1, h2.ext he⟩
theorem bx_pr {t : TypeId} {s : Value} {KW : Value → World → Prop} (H : ∀ x w', Bx w' w.heap.size t x [s] → Ext w w' → KW x w') : bx P t (.agg #[s]) w KW :=
  bx_bx fun x w' b e _ => H x w' b e
theorem pr_w {base : Nat} {x s : Value} {K : Value → Prop} (h : Bx w base t_impl_Program x [s]) (H : K s) : fda P t_impl_Program x 0 w (fun y => ld P t_s_string y w K) :=
  h.fld (off := 0) rfl u_impl_Program rfl i_s_string u_s_string rfl H
theorem pr_all {base : Nat} {x s : Value} {K : Value → Prop} (h : Bx w base t_impl_Program x [s]) (H : K (.agg #[s])) : ld P t_impl_Program x w K :=
  h.get u_impl_Program rfl i_impl_Program rfl H
noncomputable def form3 (l : List UInt8) : Int := if (pF l).isSome then 0 else -1
noncomputable def form2 (l : List UInt8) : Int :=
  if l = [43] then 2 else if l = [45] then 2 else if l = [42] then 2 else if l = [47] then 2 else if l = [109, 105, 110] then 2 else if l = [109, 97, 120] then 2 else form3 l
noncomputable def form1 (l : List UInt8) : Int :=
  if l = [110, 101, 103] then 1 else if l = [115, 113, 114] then 1 else if l = [97, 98, 115] then 1 else if l = [114, 111, 111, 116] then 1 else if l = [101, 120, 112] then 1 else
  if l = [108, 111, 103] then 1 else if l = [97, 116, 97, 110] then 1 else if l = [115, 105, 110] then 1 else form2 l
noncomputable def form0 (l : List UInt8) : Int := if l = [120] then 0 else if l = [121] then 0 else if l = [122] then 0 else form1 l
set_option maxRecDepth 20000 in
theorem c_form {l : List UInt8} (hl : l.length ≤ 4611686018427387904) (H : ∀ w', Ext w w' → K (.int .i64 (form0 l)) w') : call P f_impl_form [str l] w K := by
  refine I_impl_form ?_
  unfold D_impl_form
  have H0 := H w (Ext.refl _)
  refine ⟨fun w' => w' = w ∧ form0 l = form3 l, ?_, ?_⟩
  · rintro junk w3 ⟨rfl, hf⟩
    rw [hf] at H
    unfold form3 at H
    refine c_parseFloat hl fun b w4 e4 _ => ?_
    rw [xtr_0, xtr_1]
    refine cnd_split (fun h => ?_) (fun h => ?_)
    · have := H w4 e4
      rw [h] at this; exact this
    · have := H w4 e4
      rw [h] at this; exact this
  refine ⟨fun x w' => w' = w ∧ ∃ b, x = .bool b ∧ (b = true → form0 l = 0) ∧ (b = false → form0 l = form1 l), ?_, ?_⟩
  rotate_left
  · have T : form0 l = 0 → (w = w ∧ ∃ b, Value.bool true = .bool b ∧ (b = true → form0 l = 0) ∧ (b = false → form0 l = form1 l)) := fun h => ⟨rfl, true, rfl, fun _ => h, fun h => by cases h⟩
    rw [eql_str]
    refine cnd_dec (fun h => ?_) (fun n1 => ?_)
    · rw [decide_eq_true h]; exact T (by unfold form0; rw [if_pos h])
    rw [eql_str]
    refine cnd_dec (fun h => ?_) (fun n2 => ?_)
    · rw [decide_eq_true h]; exact T (by unfold form0; rw [if_neg n1, if_pos h])
    rw [eql_str]
    refine ⟨rfl, _, rfl, fun h => ?_, fun h => ?_⟩
    · unfold form0; rw [if_neg n1, if_neg n2, if_pos (by simpa using h)]
    · unfold form0; rw [if_neg n1, if_neg n2, if_neg (by simpa using h)]
  rintro x junk w1 ⟨rfl, b, rfl, hb1, hb2⟩
  refine cnd_split (fun h => ?_) (fun h => ?_)
  · rw [hb1 h] at H0; exact H0
  have hf := hb2 h
  refine ⟨fun x w' => w' = w1 ∧ ∃ b, x = .bool b ∧ (b = true → form0 l = 1) ∧ (b = false → form0 l = form2 l), ?_, ?_⟩
  rotate_left
  · have T : form1 l = 1 → ∀ b : Bool, b = true → (w1 = w1 ∧ ∃ c, Value.bool b = .bool c ∧ (c = true → form0 l = 1) ∧ (c = false → form0 l = form2 l)) := fun h b hb => ⟨rfl, b, rfl, fun _ => by rw [hf, h], fun h => by rw [hb] at h; cases h⟩
    rw [eql_str]
    refine cnd_dec (fun h => T (by unfold form1; rw [if_pos h]) _ (decide_eq_true h)) (fun n1 => ?_)
    rw [eql_str]
    refine cnd_dec (fun h => T (by unfold form1; rw [if_neg n1, if_pos h]) _ (decide_eq_true h)) (fun n2 => ?_)
    rw [eql_str]
    refine cnd_dec (fun h => T (by unfold form1; rw [if_neg n1, if_neg n2, if_pos h]) _ (decide_eq_true h)) (fun n3 => ?_)
    rw [eql_str]
    refine cnd_dec (fun h => T (by unfold form1; rw [if_neg n1, if_neg n2, if_neg n3, if_pos h]) _ (decide_eq_true h)) (fun n4 => ?_)
    rw [eql_str]
    refine cnd_dec (fun h => T (by unfold form1; rw [if_neg n1, if_neg n2, if_neg n3, if_neg n4, if_pos h]) _ (decide_eq_true h)) (fun n5 => ?_)
    rw [eql_str]
    refine cnd_dec (fun h => T (by unfold form1; rw [if_neg n1, if_neg n2, if_neg n3, if_neg n4, if_neg n5, if_pos h]) _ (decide_eq_true h)) (fun n6 => ?_)
    rw [eql_str]
    refine cnd_dec (fun h => T (by unfold form1; rw [if_neg n1, if_neg n2, if_neg n3, if_neg n4, if_neg n5, if_neg n6, if_pos h]) _ (decide_eq_true h)) (fun n7 => ?_)
    rw [eql_str]
    refine ⟨rfl, _, rfl, fun h => ?_, fun h => ?_⟩
    · rw [hf]; unfold form1; rw [if_neg n1, if_neg n2, if_neg n3, if_neg n4, if_neg n5, if_neg n6, if_neg n7, if_pos (by simpa using h)]
    · rw [hf]; unfold form1; rw [if_neg n1, if_neg n2, if_neg n3, if_neg n4, if_neg n5, if_neg n6, if_neg n7, if_neg (by simpa using h)]
  rintro x junk w2 ⟨rfl, b2, rfl, hc1, hc2⟩
  refine cnd_split (fun h => ?_) (fun h => ?_)
  · rw [hc1 h] at H0; exact H0
  have hf2 := hc2 h
  have T : form2 l = 2 → K (.int .i64 2) w2 := fun h => by rw [hf2, h] at H0; exact H0
  rw [eql_str]
  refine cnd_dec (fun h => cnd_yes (decide_eq_true h) (T (by unfold form2; rw [if_pos h]))) (fun n1 => ?_)
  rw [eql_str]
  refine cnd_dec (fun h => cnd_yes (decide_eq_true h) (T (by unfold form2; rw [if_neg n1, if_pos h]))) (fun n2 => ?_)
  rw [eql_str]
  refine cnd_dec (fun h => cnd_yes (decide_eq_true h) (T (by unfold form2; rw [if_neg n1, if_neg n2, if_pos h]))) (fun n3 => ?_)
  rw [eql_str]
  refine cnd_dec (fun h => cnd_yes (decide_eq_true h) (T (by unfold form2; rw [if_neg n1, if_neg n2, if_neg n3, if_pos h]))) (fun n4 => ?_)
  rw [eql_str]
  refine cnd_dec (fun h => cnd_yes (decide_eq_true h) (T (by unfold form2; rw [if_neg n1, if_neg n2, if_neg n3, if_neg n4, if_pos h]))) (fun n5 => ?_)
  rw [eql_str]
  refine cnd_dec (fun h => (T (by unfold form2; rw [if_neg n1, if_neg n2, if_neg n3, if_neg n4, if_neg n5, if_pos h]))) (fun n6 => ?_)
  exact ⟨rfl, by rw [hf2]; unfold form2; rw [if_neg n1, if_neg n2, if_neg n3, if_neg n4, if_neg n5, if_neg n6]⟩
theorem form_range (l : List UInt8) : -1 ≤ form0 l ∧ form0 l ≤ 2 := by
  unfold form0 form1 form2 form3
  constructor <;> repeat (first | omega | split)
noncomputable def dpS (ws : List (List UInt8)) : Nat → Option (Int × Int)
  | 0 => some (0, 0)
  | i + 1 => match dpS ws i with
    | none => none
    | some (h, m) => if form0 (ws.getD i []) < 0 ∨ h < form0 (ws.getD i []) then none else some (h + 1 - form0 (ws.getD i []), max m (h + 1 - form0 (ws.getD i [])))
theorem dpS_range (ws : List (List UInt8)) : ∀ (i : Nat) (h m : Int), dpS ws i = some (h, m) → 0 ≤ h ∧ h ≤ m ∧ m ≤ i
  | 0, h, m, e => by
    simp only [dpS, Option.some.injEq, Prod.mk.injEq] at e
    omega
  | i + 1, h, m, e => by
    unfold dpS at e
    split at e
    · cases e
    · rename_i h0 m0 e0
      have := dpS_range ws i h0 m0 e0
      split at e
      · cases e
      · simp only [Option.some.injEq, Prod.mk.injEq] at e
        obtain ⟨rfl, rfl⟩ := e
        omega
theorem dpS_none (ws : List (List UInt8)) : ∀ (i j : Nat), dpS ws i = none → dpS ws (i + j) = none
  | i, 0, h => h
  | i, j + 1, h => by
    rw [show i + (j + 1) = (i + j) + 1 by omega]
    unfold dpS
    rw [dpS_none ws i j h]
noncomputable def depF (ws : List (List UInt8)) : Option Int :=
  if 1 ≤ ws.length ∧ ws.length ≤ 60 then (match dpS ws ws.length with
    | none => none
    | some (h, m) => if h = 1 ∧ m ≤ 16 then some m else none) else none
theorem depF_pos {ws : List (List UInt8)} {m : Int} (h : depF ws = some m) : 0 < m ∧ m ≤ 16 ∧ 1 ≤ ws.length ∧ ws.length ≤ 60 := by
  unfold depF at h
  split at h
  · rename_i h1
    split at h
    · cases h
    · rename_i a b e
      have := dpS_range ws _ _ _ e
      split at h
      · rename_i h2
        simp only [Option.some.injEq] at h
        omega
      · cases h
  · cases h
theorem getD_w {l : List (List UInt8)} {i : Nat} (h : i < l.length) : l.getD i [] = l[i] := by simp [h]
theorem dp_bad {ws : List (List UInt8)} {i : Nat} (hi : i < ws.length) {h m : Int} (e : dpS ws i = some (h, m)) (hb : form0 ws[i] < 0 ∨ h < form0 ws[i]) : depF ws = none := by
  have h1 : dpS ws (i + 1) = none := by
    unfold dpS
    rw [e]
    simp only [getD_w hi]
    rw [if_pos hb]
  have h2 := dpS_none ws (i + 1) (ws.length - (i + 1)) h1
  rw [show i + 1 + (ws.length - (i + 1)) = ws.length by omega] at h2
  unfold depF
  rw [h2]
  split <;> rfl
theorem dp_step {ws : List (List UInt8)} {i : Nat} (hi : i < ws.length) {h m : Int} (e : dpS ws i = some (h, m)) (hb : ¬ (form0 ws[i] < 0 ∨ h < form0 ws[i])) : dpS ws (i + 1) = some (h + 1 - form0 ws[i], max m (h + 1 - form0 ws[i])) := by
  conv => lhs; unfold dpS
  rw [e]
  simp only [getD_w hi]
  rw [if_neg hb]
theorem c_depthOf {v : Value} {ws : List (List UInt8)} (h : SS w v ws) (H : ∀ n w', Ext w w' → (∀ m, depF ws = some m → n = m) → K (.tuple #[.int .i64 n, .bool (depF ws).isSome]) w') : call P f_impl_depthOf [v] w K := by
  refine I_impl_depthOf ?_
  unfold D_impl_depthOf
  have none0 : depF ws = none → ∀ w', Ext w w' → K (.tuple #[.int .i64 0, .bool false]) w' := fun h0 w' he => by
    have := H 0 w' he (fun m hm => by rw [h0] at hm; cases hm)
    rw [h0] at this; exact this
  rw [h.len, bin_lss]
  have hb := h.bound
  refine orJ (fun h1 => ?_) (fun h1 => ?_)
  · rw [cnd_true]
    exact none0 (by unfold depF; rw [if_neg (by simp only [decide_eq_true_eq] at h1; omega)]) _ (Ext.refl _)
  rw [h.len, bin_gtr]
  refine cnd_dec (fun h2 => ?_) (fun h2 => ?_)
  · exact none0 (by unfold depF; rw [if_neg (by omega)]) _ (Ext.refl _)
  have hlen : 1 ≤ ws.length ∧ ws.length ≤ 60 := by simp only [decide_eq_false_iff_not] at h1; omega
  rw [h.len]
  refine ⟨fun g x4 x5 x w' => ∃ (i : Nat) (a b : Int), x = .int .i64 i ∧ g + i = ws.length ∧ x4 = .int .i64 a ∧ x5 = .int .i64 b ∧ dpS ws i = some (a, b) ∧ Ext w w', ⟨ws.length, 0, 0, 0, rfl, by omega, rfl, rfl, rfl, Ext.refl _⟩, ?_⟩
  rintro g x4 x5 x junk w1 ⟨i, a, b, rfl, hg, rfl, rfl, hdp, e1⟩
  have hr := dpS_range ws i a b hdp
  rw [bin_lss]
  refine cnd_dec (fun hlt => ?_) (fun hge => ?_)
  · have hi : i < ws.length := by omega
    refine (h.ext e1).at hi ?_
    refine c_form (h.le hi) fun w2 e2 => ?_
    have E := e1.trans e2
    have hf := form_range ws[i]
    rw [bin_lss]
    refine orJ (fun h3 => ?_) (fun h3 => ?_)
    · rw [cnd_true]
      exact none0 (dp_bad hi hdp (.inl (by simpa using h3))) _ E
    rw [bin_lss]
    refine cnd_dec (fun h4 => none0 (dp_bad hi hdp (.inr h4)) _ E) (fun h4 => ?_)
    have hs := dp_step hi hdp (by simp only [decide_eq_false_iff_not] at h3; omega)
    rw [bin_sub, wrap_i64 (by omega) (by omega), bin_add, wrap_i64 (by omega) (by omega), bl0_max_i64, bin_add, wrap_i64 (by omega) (by omega)]
    refine ⟨g - 1, by omega, i + 1, _, _, rfl, by omega, rfl, rfl, ?_, E⟩
    rw [hs, show a + (1 - form0 ws[i]) = a + 1 - form0 ws[i] by omega]
  · have hi : i = ws.length := by omega
    subst hi
    have hdF : depF ws = if a = 1 ∧ b ≤ 16 then some b else none := by unfold depF; rw [if_pos hlen, hdp]
    have HH := H b w1 e1 (fun m hm => by
      rw [hdF] at hm
      split at hm
      · exact Option.some.inj hm
      · cases hm)
    rw [bin_eql]
    refine andJ (fun h3 => ?_) (fun h3 => ?_)
    · rw [bin_leq]
      simp only [decide_eq_true_eq] at h3
      have : (depF ws).isSome = decide (b ≤ 16) := by
        rw [hdF]
        by_cases h4 : b ≤ 16
        · rw [if_pos ⟨h3, h4⟩, decide_eq_true h4]; rfl
        · rw [if_neg (fun h => h4 h.2), decide_eq_false h4]; rfl
      rw [this] at HH; exact HH
    · simp only [decide_eq_false_iff_not] at h3
      have : (depF ws).isSome = false := by rw [hdF, if_neg (fun h => h3 h.1)]; rfl
      rw [this] at HH; exact HH
theorem c_impl_IsProgram {v : Value} {ws : List (List UInt8)} (h : I_Program w v ws) (H : ∀ w', Ext w w' → K (.bool (depF ws).isSome) w') : call P f_impl_IsProgram [v] w K := by
  obtain ⟨s, rfl, hs⟩ := h
  refine I_impl_IsProgram ?_
  unfold D_impl_IsProgram
  refine bx_pr fun x w1 b1 e1 => ?_
  refine pr_w b1 ?_
  refine c_depthOf (hs.ext e1) fun n w2 e2 _ => ?_
  rw [xtr_0, xtr_1]
  exact H _ (e1.trans e2)
end Go.Proofs.YtjompmflommadaaGreatDoor


set_option linter.unusedVariables false
set_option linter.unusedSimpArgs false
namespace Go.Proofs.YtjompmflommadaaGreatDoor
open Go Go.Vc
variable {w : World} {K : Value → World → Prop}
set_option maxRecDepth 20000 in
theorem c_l08Needs {l : List UInt8} (hl : l.length ≤ 4611686018427387904) (H : ∀ w', Ext w w' → K (.int .i64 (form0 l)) w') : call P f_spec_l08Needs [str l] w K := by
  refine I_spec_l08Needs ?_
  unfold D_spec_l08Needs
  have H0 := H w (Ext.refl _)
  refine ⟨fun w' => w' = w ∧ form0 l = form3 l, ?_, ?_⟩
  · rintro junk w3 ⟨rfl, hf⟩
    rw [hf] at H
    unfold form3 at H
    refine c_l06Float hl fun b w4 e4 _ => ?_
    rw [xtr_0, xtr_1]
    refine cnd_split (fun h => ?_) (fun h => ?_)
    · have := H w4 e4
      rw [h] at this; exact this
    · have := H w4 e4
      rw [h] at this; exact this
  refine ⟨fun x w' => w' = w ∧ ∃ b, x = .bool b ∧ (b = true → form0 l = 0) ∧ (b = false → form0 l = form1 l), ?_, ?_⟩
  rotate_left
  · have T : form0 l = 0 → (w = w ∧ ∃ b, Value.bool true = .bool b ∧ (b = true → form0 l = 0) ∧ (b = false → form0 l = form1 l)) := fun h => ⟨rfl, true, rfl, fun _ => h, fun h => by cases h⟩
    rw [eql_str]
    refine cnd_dec (fun h => ?_) (fun n1 => ?_)
    · rw [decide_eq_true h]; exact T (by unfold form0; rw [if_pos h])
    rw [eql_str]
    refine cnd_dec (fun h => ?_) (fun n2 => ?_)
    · rw [decide_eq_true h]; exact T (by unfold form0; rw [if_neg n1, if_pos h])
    rw [eql_str]
    refine ⟨rfl, _, rfl, fun h => ?_, fun h => ?_⟩
    · unfold form0; rw [if_neg n1, if_neg n2, if_pos (by simpa using h)]
    · unfold form0; rw [if_neg n1, if_neg n2, if_neg (by simpa using h)]
  rintro x junk w1 ⟨rfl, b, rfl, hb1, hb2⟩
  refine cnd_split (fun h => ?_) (fun h => ?_)
  · rw [hb1 h] at H0; exact H0
  have hf := hb2 h
  refine ⟨fun x w' => w' = w1 ∧ ∃ b, x = .bool b ∧ (b = true → form0 l = 1) ∧ (b = false → form0 l = form2 l), ?_, ?_⟩
  rotate_left
  · have T : form1 l = 1 → ∀ b : Bool, b = true → (w1 = w1 ∧ ∃ c, Value.bool b = .bool c ∧ (c = true → form0 l = 1) ∧ (c = false → form0 l = form2 l)) := fun h b hb => ⟨rfl, b, rfl, fun _ => by rw [hf, h], fun h => by rw [hb] at h; cases h⟩
    rw [eql_str]
    refine cnd_dec (fun h => T (by unfold form1; rw [if_pos h]) _ (decide_eq_true h)) (fun n1 => ?_)
    rw [eql_str]
    refine cnd_dec (fun h => T (by unfold form1; rw [if_neg n1, if_pos h]) _ (decide_eq_true h)) (fun n2 => ?_)
    rw [eql_str]
    refine cnd_dec (fun h => T (by unfold form1; rw [if_neg n1, if_neg n2, if_pos h]) _ (decide_eq_true h)) (fun n3 => ?_)
    rw [eql_str]
    refine cnd_dec (fun h => T (by unfold form1; rw [if_neg n1, if_neg n2, if_neg n3, if_pos h]) _ (decide_eq_true h)) (fun n4 => ?_)
    rw [eql_str]
    refine cnd_dec (fun h => T (by unfold form1; rw [if_neg n1, if_neg n2, if_neg n3, if_neg n4, if_pos h]) _ (decide_eq_true h)) (fun n5 => ?_)
    rw [eql_str]
    refine cnd_dec (fun h => T (by unfold form1; rw [if_neg n1, if_neg n2, if_neg n3, if_neg n4, if_neg n5, if_pos h]) _ (decide_eq_true h)) (fun n6 => ?_)
    rw [eql_str]
    refine cnd_dec (fun h => T (by unfold form1; rw [if_neg n1, if_neg n2, if_neg n3, if_neg n4, if_neg n5, if_neg n6, if_pos h]) _ (decide_eq_true h)) (fun n7 => ?_)
    rw [eql_str]
    refine ⟨rfl, _, rfl, fun h => ?_, fun h => ?_⟩
    · rw [hf]; unfold form1; rw [if_neg n1, if_neg n2, if_neg n3, if_neg n4, if_neg n5, if_neg n6, if_neg n7, if_pos (by simpa using h)]
    · rw [hf]; unfold form1; rw [if_neg n1, if_neg n2, if_neg n3, if_neg n4, if_neg n5, if_neg n6, if_neg n7, if_neg (by simpa using h)]
  rintro x junk w2 ⟨rfl, b2, rfl, hc1, hc2⟩
  refine cnd_split (fun h => ?_) (fun h => ?_)
  · rw [hc1 h] at H0; exact H0
  have hf2 := hc2 h
  have T : form2 l = 2 → K (.int .i64 2) w2 := fun h => by rw [hf2, h] at H0; exact H0
  rw [eql_str]
  refine cnd_dec (fun h => cnd_yes (decide_eq_true h) (T (by unfold form2; rw [if_pos h]))) (fun n1 => ?_)
  rw [eql_str]
  refine cnd_dec (fun h => cnd_yes (decide_eq_true h) (T (by unfold form2; rw [if_neg n1, if_pos h]))) (fun n2 => ?_)
  rw [eql_str]
  refine cnd_dec (fun h => cnd_yes (decide_eq_true h) (T (by unfold form2; rw [if_neg n1, if_neg n2, if_pos h]))) (fun n3 => ?_)
  rw [eql_str]
  refine cnd_dec (fun h => cnd_yes (decide_eq_true h) (T (by unfold form2; rw [if_neg n1, if_neg n2, if_neg n3, if_pos h]))) (fun n4 => ?_)
  rw [eql_str]
  refine cnd_dec (fun h => cnd_yes (decide_eq_true h) (T (by unfold form2; rw [if_neg n1, if_neg n2, if_neg n3, if_neg n4, if_pos h]))) (fun n5 => ?_)
  rw [eql_str]
  refine cnd_dec (fun h => (T (by unfold form2; rw [if_neg n1, if_neg n2, if_neg n3, if_neg n4, if_neg n5, if_pos h]))) (fun n6 => ?_)
  exact ⟨rfl, by rw [hf2]; unfold form2; rw [if_neg n1, if_neg n2, if_neg n3, if_neg n4, if_neg n5, if_neg n6]⟩
theorem c_l08Depth {v : Value} {ws : List (List UInt8)} (h : I_Program w v ws) (H : ∀ w', Ext w w' → K (.int .i64 ((depF ws).getD 0)) w') : call P f_spec_l08Depth [v] w K := by
  obtain ⟨s, rfl, hs⟩ := h
  refine I_spec_l08Depth ?_
  unfold D_spec_l08Depth
  refine bx_pr fun x w1 b1 e1 => ?_
  have h1 := hs.ext e1
  have hb := h1.bound
  have none0 : depF ws = none → ∀ w', Ext w1 w' → K (.int .i64 0) w' := fun h0 w' he => by
    have := H w' (e1.trans he)
    rw [h0] at this; exact this
  refine pr_w b1 ?_
  rw [h1.len, bin_lss]
  refine orJ (fun h2 => ?_) (fun h2 => ?_)
  · rw [cnd_true]
    exact none0 (by unfold depF; rw [if_neg (by simp only [decide_eq_true_eq] at h2; omega)]) _ (Ext.refl _)
  refine pr_w b1 ?_
  rw [h1.len, bin_gtr]
  refine cnd_dec (fun h3 => ?_) (fun h3 => ?_)
  · exact none0 (by unfold depF; rw [if_neg (by omega)]) _ (Ext.refl _)
  have hlen : 1 ≤ ws.length ∧ ws.length ≤ 60 := by simp only [decide_eq_false_iff_not] at h2; omega
  refine ⟨fun g x4 x5 x w' => ∃ (i : Nat) (a b : Int), x = .int .i64 i ∧ g + i = ws.length ∧ x4 = .int .i64 a ∧ x5 = .int .i64 b ∧ dpS ws i = some (a, b) ∧ Ext w1 w', ⟨ws.length, 0, 0, 0, rfl, by omega, rfl, rfl, rfl, Ext.refl _⟩, ?_⟩
  rintro g x4 x5 y junk w2 ⟨i, a, b, rfl, hg, rfl, rfl, hdp, e2⟩
  have hr := dpS_range ws i a b hdp
  refine pr_w (b1.ext e2) ?_
  rw [(h1.ext e2).len, bin_lss]
  refine cnd_dec (fun hlt => ?_) (fun hge => ?_)
  · have hi : i < ws.length := by omega
    refine pr_w (b1.ext e2) ?_
    refine (h1.ext e2).at hi ?_
    refine c_l08Needs (h1.le hi) fun w3 e3 => ?_
    have E := e2.trans e3
    have hf := form_range ws[i]
    rw [bin_lss]
    refine orJ (fun h3 => ?_) (fun h3 => ?_)
    · rw [cnd_true]
      exact none0 (dp_bad hi hdp (.inl (by simpa using h3))) _ E
    rw [bin_lss]
    refine cnd_dec (fun h4 => none0 (dp_bad hi hdp (.inr h4)) _ E) (fun h4 => ?_)
    have hs := dp_step hi hdp (by simp only [decide_eq_false_iff_not] at h3; omega)
    rw [bin_sub, wrap_i64 (by omega) (by omega), bin_add, wrap_i64 (by omega) (by omega), bl0_max_i64, bin_add, wrap_i64 (by omega) (by omega)]
    refine ⟨g - 1, by omega, i + 1, _, _, rfl, by omega, rfl, rfl, ?_, E⟩
    rw [hs, show a - form0 ws[i] + 1 = a + 1 - form0 ws[i] by omega]
  · have hi : i = ws.length := by omega
    subst hi
    have hdF : depF ws = if a = 1 ∧ b ≤ 16 then some b else none := by unfold depF; rw [if_pos hlen, hdp]
    have HH := H w2 (e1.trans e2)
    rw [bin_neq]
    refine orJ (fun h3 => ?_) (fun h3 => ?_)
    · simp only [decide_eq_true_eq] at h3
      rw [hdF, if_neg (fun h => h3 h.1)] at HH
      rw [cnd_true]; exact HH
    · simp only [decide_eq_false_iff_not, Decidable.not_not] at h3
      rw [bin_gtr]
      refine cnd_dec (fun h4 => ?_) (fun h4 => ?_)
      · rw [hdF, if_neg (fun h => by omega)] at HH; exact HH
      · rw [hdF, if_pos (by omega)] at HH; exact HH
theorem c_l08Is {v : Value} {ws : List (List UInt8)} (h : I_Program w v ws) (H : ∀ w', Ext w w' → K (.bool (depF ws).isSome) w') : call P f_spec_l08Is [v] w K := by
  obtain ⟨s, rfl, hs⟩ := h
  refine I_spec_l08Is ?_
  unfold D_spec_l08Is
  refine bx_pr fun x w1 b1 e1 => ?_
  refine pr_all b1 ?_
  refine c_l08Depth ⟨s, rfl, hs.ext e1⟩ fun w2 e2 => ?_
  rw [bin_gtr]
  have HH := H w2 (e1.trans e2)
  cases hd : depF ws with
  | none => rw [hd] at HH; exact HH
  | some m =>
    rw [hd] at HH
    have := (depF_pos hd).1
    rw [show decide ((some m).getD 0 > 0) = true from decide_eq_true (by simpa using this)]
    exact HH
noncomputable def isPF (ws : List (List UInt8)) : Bool := (depF ws).isSome
end Go.Proofs.YtjompmflommadaaGreatDoor


set_option linter.unusedVariables false
set_option linter.unusedSimpArgs false
namespace Go.Proofs.YtjompmflommadaaGreatDoor
open Go Go.Vc
variable {w : World} {K : Value → World → Prop} {lo hi : Nat} {v : Value}
structure A_StringS (w : World) (v : Value) (l : List (List UInt8)) : Prop where
  row : Row 1 w v l.length (l.map str)
  lt : ∀ s ∈ l, s.length ≤ 9223372036854775807
  cap : CapOk v
theorem A_StringS.ext {w' : World} {l : List (List UInt8)} (h : A_StringS w v l) (he : Ext w w') : A_StringS w' v l := ⟨h.row.ext he, h.lt, h.cap⟩
theorem A_StringS.N {l : List (List UInt8)} (h : A_StringS w v l) : A_StringS (Vc.N w) v l := ⟨h.row, h.lt, h.cap⟩
theorem A_StringS.bound {l : List (List UInt8)} (h : A_StringS w v l) : l.length ≤ 9223372036854775807 := by have := h.row.bound; simp only [maxLen] at this; omega
theorem A_StringS.at {l : List (List UInt8)} {k : IntKind} {i : Nat} {K : Value → Prop} (h : A_StringS w v l) (hi : i < l.length) (H : K (str l[i])) : ixa P t_s_string v (.int k (i : Int)) w (fun a => ld P t_string a w K) :=
  h.row.at1 (by rw [List.getElem?_map, List.getElem?_eq_getElem hi]; rfl) u_s_string i_string u_string rfl H
abbrev I_StringS := SS
def O_StringS (w : World) (lo hi : Nat) (v : Value) (l : List (List UInt8)) : Prop := OwnR w lo hi t_string 1 v l.length (l.map str) ∧ ∀ s ∈ l, s.length ≤ 1048576
theorem O_StringS.ext {l : List (List UInt8)} {w' : World} (h : O_StringS w lo hi v l) (he : Ext w w') : O_StringS w' lo hi v l := ⟨h.1.ext he, h.2⟩
theorem O_StringS.chg {l : List (List UInt8)} {w' : World} {lo' hi' : Nat} (h : O_StringS w lo hi v l) (hc : Chg lo' hi' w w') (hd : hi ≤ lo' ∨ hi' ≤ lo) : O_StringS w' lo hi v l := ⟨h.1.chg hc hd, h.2⟩
theorem O_StringS.I {l : List (List UInt8)} (h : O_StringS w lo hi v l) : I_StringS w v l := ⟨owns_Row h.1.own, h.2, owns_cap h.1.own⟩
def totS (l : List (List UInt8)) : Nat := (l.map List.length).sum
def sz_StringS (l : List (List UInt8)) : Nat := l.length + totS l
theorem totS_take {l : List (List UInt8)} {i : Nat} (hi : i < l.length) : totS (l.take (i + 1)) = totS (l.take i) + l[i].length := by
  unfold totS
  rw [List.take_succ_eq_append_getElem hi, List.map_append, List.sum_append]
  simp
theorem totS_ge {l : List (List UInt8)} {s : List UInt8} (h : s ∈ l) : s.length ≤ totS l := by
  unfold totS
  induction l with
  | nil => cases h
  | cons a l ih =>
    rw [List.map_cons, List.sum_cons]
    rcases List.mem_cons.1 h with rfl | h
    · omega
    · have := ih h; omega
theorem len_StringS {l : List (List UInt8)} (h : A_StringS w v l) {ty : TypeId} {K : Value → Prop} : bl0 P .len #[t_s_string] ty [v] w K = K (.int .i64 (l.length : Nat)) := h.row.len u_s_string
theorem c_sz_StringS {l : List (List UInt8)} {left : Int} (h : A_StringS w v l) (h0 : 0 ≤ left) (h1 : left ≤ 1048576) (H : ∀ (r : Int) w', Ext w w' → (r = -1 ∨ ((sz_StringS l : Nat) : Int) ≤ left ∧ r = left - (sz_StringS l : Nat)) → K (.int .i64 r) w') : call P f_laws_szStringS [v, .int .i64 left] w K := by
  have H := fun r hr => H r w (Ext.refl _) hr
  refine I_laws_szStringS ?_
  unfold D_laws_szStringS
  have hb := h.bound
  have hs : sz_StringS l = l.length + totS l := rfl
  rw [len_StringS h, bin_sub, wrap_i64 (by omega) (by omega), bin_lss]
  refine cnd_dec (fun h2 => H _ (.inl rfl)) (fun h2 => ?_)
  refine ⟨fun k x y w' => w' = w ∧ ∃ i : Nat, y = .int .i64 i ∧ k + i = l.length ∧ x = .int .i64 (left - l.length - totS (l.take i)) ∧ 0 ≤ left - l.length - totS (l.take i), ⟨l.length, rfl, 0, rfl, by omega, by simp [totS], by simp [totS]; omega⟩, ?_⟩
  rintro k x y junk w' ⟨rfl, i, rfl, hm, rfl, hpos⟩
  rw [len_StringS h, bin_lss]
  refine cnd_dec (fun hlt => ?_) (fun hge => ?_)
  · have hi : i < l.length := by omega
    have e := totS_take hi
    have hl := h.lt _ (List.getElem_mem hi)
    refine h.at hi ?_
    rw [len_str u_string, bin_sub, wrap_i64 (by omega) (by omega), bin_lss]
    refine cnd_dec (fun h3 => H _ (.inl rfl)) (fun h3 => ?_)
    rw [bin_add, wrap_i64 (by omega) (by omega)]
    exact ⟨k - 1, by omega, rfl, i + 1, rfl, by omega, by congr 1; omega, by omega⟩
  · have ht : l.take i = l := List.take_of_length_le (by omega)
    rw [ht] at hpos ⊢
    exact H _ (.inr ⟨by omega, by omega⟩)
theorem c_to_StringS {l : List (List UInt8)} (h : A_StringS w v l) (hs : sz_StringS l ≤ 1048576) (H : ∀ v' w', Ext w w' → O_StringS w' w.heap.size w'.heap.size v' l → K v' w') : call P f_laws_toStringS [v] w K := by
  unfold sz_StringS at hs
  have hbits : ∀ s ∈ l, s.length ≤ 1048576 := fun s hm => by have := totS_ge hm; omega
  refine I_laws_toStringS ?_
  unfold D_laws_toStringS
  rw [len_StringS h]
  refine mks_intro u_s_string i_string rfl (by omega) (by simp only [maxLen]; omega) fun w1 v1 ho he => ?_
  refine ⟨fun m x w' => Ext w w' ∧ ∃ i : Nat, x = .int .i64 i ∧ m + i = l.length ∧ w'.ownsRow w.heap.size t_string 1 v1 l.length ((l.map str).take i ++ List.replicate (l.length - i) (str [])),
    ⟨l.length, he, 0, rfl, by omega, by simpa using ho⟩, ?_⟩
  rintro m x junk w2 ⟨e2, i, rfl, hm, ho2⟩
  have h2 := h.ext e2
  rw [len_StringS h2, bin_lss]
  refine cnd_dec (fun hlt => ?_) (fun hge => ?_)
  · have hi : i < l.length := by omega
    refine h2.at hi ?_
    refine owns_set ho2 hi rfl u_s_string i_string fun w4 ho4 g4 => ?_
    rw [bin_add, wrap_i64 (by omega) (by omega)]
    refine ⟨m - 1, by omega, ext_of_grown e2 (fun g hg => (ho2.lt g hg).1) g4, i + 1, rfl, by omega, ?_⟩
    have := replicate_set_take (l.map str) (str []) i (by simpa using hi)
    simp only [List.length_map, List.getElem_map] at this
    rw [this] at ho4
    exact ho4
  · have hi : i = l.length := by omega
    subst hi
    have e : (l.map str).take l.length = l.map str := List.take_of_length_le (by simp)
    simp only [Nat.sub_self, List.replicate_zero, List.append_nil, e] at ho2
    exact H _ _ e2 ⟨OwnR.of ho2, hbits⟩
set_option maxRecDepth 20000 in
theorem c_eq_StringS {u : Value} {l : List (List UInt8)} (h1 : I_StringS w u l) (h2 : I_StringS w v l) (H : ∀ w', Ext w w' → K (.bool true) w') : call P f_laws_eqStringS [u, v] w K := by
  refine I_laws_eqStringS ?_
  unfold D_laws_eqStringS
  have hb := h1.bound
  rw [h1.len, h2.len, bin_neq]
  refine cnd_dec (fun h1 => by omega) (fun _ => ?_)
  refine ⟨fun m x w' => w' = w ∧ ∃ i : Nat, x = .int .i64 i ∧ m + i = l.length, ⟨l.length, rfl, 0, rfl, by omega⟩, ?_⟩
  rintro m x junk w' ⟨rfl, i, rfl, hm⟩
  rw [h1.len, bin_lss]
  refine cnd_dec (fun hlt => ?_) (fun hge => H _ (Ext.refl _))
  have hi : i < l.length := by omega
  refine h1.at hi ?_
  refine h2.at hi ?_
  rw [neq_str]
  refine cnd_no (by simp) ?_
  rw [bin_add, wrap_i64 (by omega) (by omega)]
  exact ⟨m - 1, by omega, rfl, i + 1, rfl, by omega⟩
def A_Program (w : World) (v : Value) (l : List (List UInt8)) : Prop := ∃ s, v = .agg #[s] ∧ A_StringS w s l
theorem A_Program.ext {w' : World} {l : List (List UInt8)} (h : A_Program w v l) (he : Ext w w') : A_Program w' v l := let ⟨s, h1, h2⟩ := h; ⟨s, h1, h2.ext he⟩
theorem A_Program.N {l : List (List UInt8)} (h : A_Program w v l) : A_Program (Vc.N w) v l := let ⟨s, h1, h2⟩ := h; ⟨s, h1, h2.N⟩
def O_Program (w : World) (lo hi : Nat) (v : Value) (l : List (List UInt8)) : Prop := ∃ s, v = .agg #[s] ∧ O_StringS w lo hi s l
theorem O_Program.ext {l : List (List UInt8)} {w' : World} (h : O_Program w lo hi v l) (he : Ext w w') : O_Program w' lo hi v l := let ⟨s, h1, h2⟩ := h; ⟨s, h1, h2.ext he⟩
theorem O_Program.chg {l : List (List UInt8)} {w' : World} {lo' hi' : Nat} (h : O_Program w lo hi v l) (hc : Chg lo' hi' w w') (hd : hi ≤ lo' ∨ hi' ≤ lo) : O_Program w' lo hi v l := let ⟨s, h1, h2⟩ := h; ⟨s, h1, h2.chg hc hd⟩
theorem O_Program.I {l : List (List UInt8)} (h : O_Program w lo hi v l) : I_Program w v l := let ⟨s, h1, h2⟩ := h; ⟨s, h1, h2.I⟩
def sz_Program (l : List (List UInt8)) : Nat := sz_StringS l
theorem one_sl1 {s : Value} (h : ∃ a n c, s = .slice a n c) : ∀ x ∈ [s], x.oneCell' = true := by
  intro x hx
  simp only [List.mem_cons, List.not_mem_nil, or_false] at hx
  rw [hx]; exact sl_one h
theorem A_StringS.sl {l : List (List UInt8)} (h : A_StringS w v l) : ∃ a n c, v = .slice a n c := by obtain ⟨_, _, a, c, rfl, _⟩ := h.row; exact ⟨_, _, _, rfl⟩
theorem SS.sl {l : List (List UInt8)} (h : SS w v l) : ∃ a n c, v = .slice a n c := by obtain ⟨_, _, a, c, rfl, _⟩ := h.row; exact ⟨_, _, _, rfl⟩
theorem bx_agg {t : TypeId} {cs : List Value} {KW : Value → World → Prop} (H : ∀ p w', Bx w' w.heap.size t p cs → Ext w w' → KW p w') : bx P t (.agg cs.toArray) w KW :=
  bx_bx fun p w' b e _ => H p w' b e
theorem c_sz_Program {l : List (List UInt8)} {left : Int} (h : A_Program w v l) (h0 : 0 ≤ left) (h1 : left ≤ 1048576) (H : ∀ (r : Int) w', Ext w w' → (r = -1 ∨ ((sz_Program l : Nat) : Int) ≤ left ∧ r = left - (sz_Program l : Nat)) → K (.int .i64 r) w') : call P f_laws_szProgram [v, .int .i64 left] w K := by
  obtain ⟨s, rfl, hs⟩ := h
  refine I_laws_szProgram ?_
  unfold D_laws_szProgram
  refine bx_pr fun x w1 b1 e1 => ?_
  refine b1.fld (off := 0) rfl u_laws_Program rfl i_s_string u_s_string rfl ?_
  refine c_sz_StringS (hs.ext e1) h0 h1 fun r w2 e2 hr => ?_
  rw [bin_lss]
  refine cnd_dec (fun h2 => H _ _ (e1.trans e2) (.inl rfl)) (fun h2 => ?_)
  exact H _ _ (e1.trans e2) hr
theorem c_to_Program {l : List (List UInt8)} (h : A_Program w v l) (hs : sz_Program l ≤ 1048576) (H : ∀ v' w', Ext w w' → O_Program w' w.heap.size w'.heap.size v' l → K v' w') : call P f_laws_toProgram [v] w K := by
  obtain ⟨s, rfl, hss⟩ := h
  refine I_laws_toProgram ?_
  unfold D_laws_toProgram
  refine bx_pr fun x w1 b1 e1 => ?_
  refine alc_bx i_impl_Program fun y w2 b2 e2 _ => ?_
  refine alc_bx i_impl_Program fun z w3 b3 e3 _ => ?_
  have b1 := (b1.ext e2).ext e3
  have b2 := b2.ext e3
  have E3 := e1.trans (e2.trans e3)
  refine b1.fld (off := 0) rfl u_laws_Program rfl i_s_string u_s_string rfl ?_
  refine c_to_StringS (hss.ext E3) hs fun s' w4 e4 o4 => ?_
  have b2 := b2.ext e4
  have b3 := b3.ext e4
  have E4 := E3.trans e4
  have hsl := o4.I.sl
  refine b3.fput (off := 0) (show 0 < 1 by decide) u_impl_Program rfl i_s_string (sl_one hsl) fun w5 b5 g5 => ?_
  have s23 : w.heap.size ≤ w2.heap.size := (e1.trans e2).size
  have E5 : Ext w w5 := ext_of_grown E4 (fun g hg => Nat.le_trans s23 (b3.blk_lt hg).1) g5
  have n23 : blk z ≠ blk y := by
    obtain ⟨g, rfl, h1, h2⟩ := b3
    obtain ⟨g', rfl, h1', h2'⟩ := ‹Bx w2 w1.heap.size t_impl_Program y _›
    have := heap_lt h2'
    simp only [blk, ne_eq, Option.some.injEq]
    omega
  have o5 : O_StringS w5 w3.heap.size w4.heap.size s' l := ⟨⟨keep_row o4.1.own g5 (Ty.box b3) (by decide), o4.1.top⟩, o4.2⟩
  have b2' := b2.kept g5 (.inr n23)
  have b5 : Bx w5 w2.heap.size t_impl_Program z [s'] := b5
  refine b5.get u_impl_Program rfl i_impl_Program rfl ?_
  refine b2'.put i_impl_Program (ds := [s']) rfl rfl (one_sl1 hsl) fun w6 b6 g6 => ?_
  have o6 : O_StringS w6 w3.heap.size w4.heap.size s' l := ⟨⟨keep_row o5.1.own g6 (Ty.box b2') (by decide), o5.1.top⟩, o5.2⟩
  refine b6.getc u_impl_Program rfl i_impl_Program rfl ?_
  have E6 : Ext w w6 := ext_of_grown E5 (fun g hg => Nat.le_trans e1.size (b2'.blk_lt hg).1) g6
  refine H _ w6 E6 ⟨s', rfl, o6.1.mono E3.size ?_, o6.2⟩
  exact Nat.le_trans g5.size g6.size
theorem c_eq_Program {u : Value} {l : List (List UInt8)} (h1 : I_Program w u l) (h2 : I_Program w v l) (H : ∀ w', Ext w w' → K (.bool true) w') : call P f_laws_eqProgram [u, v] w K := by
  obtain ⟨s, rfl, a1⟩ := h1
  obtain ⟨t, rfl, a2⟩ := h2
  refine I_laws_eqProgram ?_
  unfold D_laws_eqProgram
  refine bx_pr fun x w1 b1 e1 => ?_
  refine bx_pr fun y w2 b2 e2 => ?_
  refine pr_w (b1.ext e2) ?_
  refine pr_w b2 ?_
  have E := e1.trans e2
  refine c_eq_StringS (a1.ext E) (a2.ext E) fun w3 e3 => ?_
  rw [una_not, Bool.not_true, cnd_false]
  exact H _ (E.trans e3)
end Go.Proofs.YtjompmflommadaaGreatDoor


set_option linter.unusedVariables false
namespace Go.Proofs.YtjompmflommadaaGreatDoor
open Go Go.Vc
variable {w : World} {K : Value → World → Prop}
theorem heap_new {o : Obj} : (w.alloc o).heap[w.heap.size]? = some o := by
  show (w.heap.push o)[w.heap.size]? = some o
  simp
def SL {α : Type} (R : World → List Value → α → Prop) (s : Nat) (e : TypeId) (w : World) (base : Nat) (v : Value) (ls : List α) : Prop :=
  ∃ cs : List (List Value), cs.length = ls.length ∧ (∀ c ∈ cs, c.length = s) ∧ w.ownsRow base e s v ls.length cs.flatten ∧ ∀ i (h : i < cs.length) (h' : i < ls.length), R w cs[i] ls[i]
theorem flatten_get {s : Nat} : ∀ {cs : List (List Value)}, (∀ c ∈ cs, c.length = s) → ∀ {i j : Nat} (hi : i < cs.length) {u : Value}, cs[i][j]? = some u → cs.flatten[i * s + j]? = some u
  | [], _, i, j, hi, _, _ => absurd hi (Nat.not_lt_zero _)
  | c :: cs, h, 0, j, hi, u, hu => by
    rw [Nat.zero_mul, Nat.zero_add, List.flatten_cons]
    simp only [List.getElem_cons_zero] at hu
    have hj := (List.getElem?_eq_some_iff.1 hu).1
    rw [List.getElem?_append_left hj]; exact hu
  | c :: cs, h, i + 1, j, hi, u, hu => by
    have hc := h c List.mem_cons_self
    simp only [List.getElem_cons_succ] at hu
    have := flatten_get (s := s) (fun c' hc' => h c' (List.mem_cons_of_mem _ hc')) (i := i) (j := j) (by simpa using hi) hu
    rw [List.flatten_cons, List.getElem?_append_right (by rw [hc, Nat.succ_mul]; omega), hc]
    rw [show (i + 1) * s + j - s = i * s + j by rw [Nat.succ_mul]; omega]
    exact this
theorem Row.atA {s n : Nat} {v : Value} {xs cs : List Value} {t e : TypeId} {z : Value} {b : Nat} {d : TypeDesc} {K : Value → Prop} {k : IntKind} {i : Nat} (h : Row s w v n xs) (hi : i < n) (hl : cs.length = s) (hx : ∀ j u, cs[j]? = some u → xs[i * s + j]? = some u)
    (hu : P.underlying t = some (.slice e)) (ht : TI P e z s b) (hue : P.underlying e = some d) (hd : aggB d = true) (H : K (.agg cs.toArray)) :
    ixa P t v (.int k (i : Int)) w (fun a => ld P e a w K) := by
  obtain ⟨h1, h2, a, cap, rfl, h3⟩ := h
  obtain ⟨bl, o, rfl, hc⟩ := h3 (by omega)
  rw [ixa_slice hu ht (by omega) (by omega)]
  rw [ld_agg hue hd ht hl (fun j u hj => ?_)]
  · exact H
  · rw [Addr.add_lit, Int.toNat_natCast, Nat.add_assoc]
    exact hc _ u (hx j u hj)
set_option maxRecDepth 20000 in
theorem bsl_num {KW : Value → World → Prop} {a b : Value} (ha : a.oneCell' = true) (hb : b.oneCell' = true) (h : KW (.slice (some ⟨w.heap.size, 0, none⟩) 1 1) (w.alloc (.cells #[a, b] t_impl_num))) : bsl P t_s_impl_num 1 [(0, .agg #[a, b])] w KW := by
  unfold bsl Instr.buildSlice
  refine SemA_rv (rv_underlying u_s_impl_num) ?_
  refine SemA_rv (sm := sizeOf t_impl_num) (rv_sizeOf i_impl_num) ?_
  simp only [Nat.one_mul]
  rw [if_neg (by omega), if_neg (by omega)]
  refine SemA_bind (s := zeroValue t_impl_num) ?_
  refine SemA_of_rd (rd_of_rv _ (rv_zeroValue i_impl_num) ?_)
  refine SemA_bind (SemA_pure ?_)
  have : Instr.fill (fun i => some (i * 2, 2)) ((Array.range 2).map (fun i => ((Value.agg #[(.pointer none), (.int .i64 0)]).cells)[i % ((Value.agg #[(.pointer none), (.int .i64 0)]).cells).size]!)) [(0, .agg #[a, b])].toArray.toList = some #[a, b] := by
    have hr : Array.range 2 = #[0, 1] := rfl
    simp [Instr.fill, hr, Value.cells]
  simp only [this]
  exact SemA_bind (SemA_bind (SemA_new (SemA_pure (SemA_pure h))))
set_option maxRecDepth 20000 in
theorem bsl_Dy {KW : Value → World → Prop} {a b c : Value} (h : KW (.slice (some ⟨w.heap.size, 0, none⟩) 1 1) (w.alloc (.cells #[a, b, c] t_impl_Dyadic))) : bsl P t_s_impl_Dyadic 1 [(0, .agg #[a, b, c])] w KW := by
  unfold bsl Instr.buildSlice
  refine SemA_rv (rv_underlying u_s_impl_Dyadic) ?_
  refine SemA_rv (sm := sizeOf t_impl_Dyadic) (rv_sizeOf i_impl_Dyadic) ?_
  simp only [Nat.one_mul]
  rw [if_neg (by omega), if_neg (by omega)]
  refine SemA_bind (s := zeroValue t_impl_Dyadic) ?_
  refine SemA_of_rd (rd_of_rv _ (rv_zeroValue i_impl_Dyadic) ?_)
  refine SemA_bind (SemA_pure ?_)
  have : Instr.fill (fun i => some (i * 3, 3)) ((Array.range 3).map (fun i => ((Value.agg #[(.int .i64 0), (.slice none 0 0), (.int .i64 0)]).cells)[i % ((Value.agg #[(.int .i64 0), (.slice none 0 0), (.int .i64 0)]).cells).size]!)) [(0, .agg #[a, b, c])].toArray.toList = some #[a, b, c] := by
    have hr : Array.range 3 = #[0, 1, 2] := rfl
    simp [Instr.fill, hr, Value.cells]
  simp only [this]
  exact SemA_bind (SemA_bind (SemA_new (SemA_pure (SemA_pure h))))
section
variable {α : Type} {R : World → List Value → α → Prop} {s : Nat} {e t : TypeId} {base : Nat} {v : Value} {ls : List α} {z : Value} {b : Nat} {d : TypeDesc}
theorem SL.ext {w' : World} (hR : ∀ c a, R w c a → R w' c a) (h : SL R s e w base v ls) (he : Ext w w') : SL R s e w' base v ls := by
  obtain ⟨cs, h1, h2, h3, h4⟩ := h
  exact ⟨cs, h1, h2, owns_ext h3 he, fun i hi hi' => hR _ _ (h4 i hi hi')⟩
theorem SL.len {ty : TypeId} {K : Value → Prop} (h : SL R s e w base v ls) (hu : P.underlying t = some (.slice e)) : bl0 P .len #[t] ty [v] w K = K (.int .i64 ls.length) := by
  obtain ⟨cs, h1, h2, h3, h4⟩ := h
  exact (owns_Row h3).len hu
theorem SL.at {K : Value → Prop} {k : IntKind} {i : Nat} (h : SL R s e w base v ls) (hi : i < ls.length) (hu : P.underlying t = some (.slice e)) (ht : TI P e z s b) (hue : P.underlying e = some d) (hd : aggB d = true)
    (H : ∀ c, R w c ls[i] → K (.agg c.toArray)) : ixa P t v (.int k (i : Int)) w (fun a => ld P e a w K) := by
  obtain ⟨cs, h1, h2, h3, h4⟩ := h
  have hi' : i < cs.length := by omega
  exact Row.atA (owns_Row h3) hi (h2 _ (List.getElem_mem hi')) (fun j u hj => flatten_get h2 hi' hj) hu ht hue hd (H _ (h4 i hi' hi))
theorem SL.nil {KW : Value → World → Prop} (hu : P.underlying t = some (.slice e)) (ht : TI P e z s b) (H : ∀ v w', Ext w w' → SL R s e w' w.heap.size v ([] : List α) → KW v w') : bsl P t 0 [] w KW := by
  refine bsl_nil hu ht (H _ _ (Ext_alloc w _) ⟨[], rfl, (fun c hc => by cases hc), ?_, fun i hi => by cases hi⟩)
  have := World.ownsRow_lit (w := w) (base := w.heap.size) (e := e) (size := s) #[] 0 (Nat.le_refl _) (by decide) (by simp)
  simpa using this
theorem SL.push {KW : Value → World → Prop} {ty : TypeId} {c : List Value} {a : α} {w0 : World} {x : Value} (h : SL R s e w0 base v ls) (hx : Row s w x 1 c) (hc : c.length = s) (h1 : ∀ u ∈ c, u.oneCell' = true) (he : Ext w0 w) (hbase : base ≤ w0.heap.size)
    (hR : ∀ w' c a row, R w0 c a → (∀ k, row = some k → base ≤ k) → w.grownBy w' row → Ty w row e → R w' c a) (ha : R w0 c a)
    (hu : P.underlying t = some (.slice e)) (ht : TI P e z s b) (hzs : z.cells.size = s) (hs : 0 < s) (hn : ls.length ≤ 1048576) (hb : b ≤ 1024)
    (H : ∀ v' w', SL R s e w' base v' (ls ++ [a]) → w.grownBy w' v.ownBlock → (∀ k, v.ownBlock = some k → base ≤ k) → KW v' w') : bl2 P .append #[t, t] ty [v, x] w KW := by
  obtain ⟨cs, g1, g2, g3, g4⟩ := h
  have g3' := owns_ext g3 he
  have hby : (ls.length + 1) * b ≤ 140737488355328 := by
    have : (ls.length + 1) * b ≤ 1048577 * 1024 := Nat.mul_le_mul (by omega) hb
    omega
  refine append_intro g3' hx h1 hu ht hzs hs (by simp only [maxLen]; omega) hby (Nat.le_trans hbase he.size) fun v' w' ho hg => ?_
  have hk : ∀ k, v.ownBlock = some k → base ≤ k := fun k hk => (g3'.lt k hk).1
  refine H v' w' ⟨cs ++ [c], by simp [g1], fun c' hc' => ?_, ?_, fun i hi hi' => ?_⟩ hg hk
  · rcases List.mem_append.1 hc' with hc' | hc'
    · exact g2 c' hc'
    · rw [List.mem_singleton] at hc'; rw [hc']; exact hc
  · rw [List.flatten_append, List.length_append]
    simpa using ho
  · have ty' := Ty.owns g3'
    by_cases hlt : i < cs.length
    · have hlt' : i < ls.length := by omega
      rw [List.getElem_append_left hlt, List.getElem_append_left hlt']
      exact hR w' _ _ _ (g4 i hlt hlt') hk hg ty'
    · have hi0 : i = cs.length := by simp at hi; omega
      subst hi0
      rw [List.getElem_append_right (Nat.le_refl _), List.getElem_append_right (by omega)]
      simp only [Nat.sub_self, g1, List.getElem_cons_zero]
      exact hR w' _ _ _ ha hk hg ty'
end
def RN (lo hi : Nat) (w : World) (c : List Value) (q : Rat) : Prop := NQ w (.agg c.toArray) lo hi q
def RD (lo hi : Nat) (w : World) (c : List Value) (q : Rat) : Prop := DQ w (.agg c.toArray) lo hi q
abbrev NL (w : World) (base : Nat) (v : Value) (lo hi : Nat) (qs : List Rat) : Prop := SL (RN lo hi) 2 t_impl_num w base v qs
abbrev DL (w : World) (base : Nat) (v : Value) (lo hi : Nat) (qs : List Rat) : Prop := SL (RD lo hi) 3 t_impl_Dyadic w base v qs
section
variable {base : Nat} {v : Value} {lo hi : Nat} {qs : List Rat}
theorem NL.ext {w' : World} (h : NL w base v lo hi qs) (he : Ext w w') : NL w' base v lo hi qs := SL.ext (fun c a (h : NQ _ _ _ _ _) => (h.ext he : NQ _ _ _ _ _)) h he
theorem DL.ext {w' : World} (h : DL w base v lo hi qs) (he : Ext w w') : DL w' base v lo hi qs := SL.ext (fun c a (h : DQ _ _ _ _ _) => (h.ext he : DQ _ _ _ _ _)) h he
theorem NL.push {KW : Value → World → Prop} {ty : TypeId} {u : Value} {q : Rat} (h : NL w base v lo hi qs) (hu : NQ w u lo hi q) (hbase : base ≤ w.heap.size) (hn : qs.length ≤ 1048576)
    (H : ∀ v' w', NL w' base v' lo hi (qs ++ [q]) → (∀ {w0}, Ext w0 w → w0.heap.size ≤ base → Ext w0 w') → KW v' w') : bsl P t_s_impl_num 1 [(0, u)] w fun x w1 => bl2 P .append #[t_s_impl_num, t_s_impl_num] ty [v, x] w1 KW := by
  have hu0 := hu
  obtain ⟨m, e, ⟨p, rfl, ip⟩, hb, hq⟩ := hu
  refine bsl_num ip.one rfl ?_
  have he := Ext_alloc w (.cells #[p, .int .i64 e] t_impl_num)
  have hrow : Row 2 (w.alloc (.cells #[p, .int .i64 e] t_impl_num)) (.slice (some ⟨w.heap.size, 0, none⟩) 1 1) 1 [p, .int .i64 e] := by
    refine ⟨rfl, by decide, _, _, rfl, fun _ => ⟨w.heap.size, 0, rfl, fun j u hj => ?_⟩⟩
    match j, hj with
    | 0, hj => cases hj; simp only [World.cell?, heap_new]; rfl
    | 1, hj => cases hj; simp only [World.cell?, heap_new]; rfl
    | _ + 2, hj => simp at hj
  refine SL.push (a := q) h hrow rfl (one_2 ip.one rfl) he hbase (fun w' c a row hr hk hg ht => ?_) hu0 u_s_impl_num i_impl_num rfl (by decide) hn (by decide) fun v' w' h' hg hk => ?_
  · exact NQ.kt (NQ.ext hr he) hg ht (by decide) (by decide)
  · exact H v' w' h' fun he0 hs => ext_of_grown (he0.trans he) (fun k hk' => Nat.le_trans hs (hk k hk')) hg
theorem DL.push {KW : Value → World → Prop} {ty : TypeId} {u : Value} {q : Rat} (h : DL w base v lo hi qs) (hu : DQ w u lo hi q) (hbase : base ≤ w.heap.size) (hn : qs.length ≤ 1048576)
    (H : ∀ v' w', DL w' base v' lo hi (qs ++ [q]) → (∀ {w0}, Ext w0 w → w0.heap.size ≤ base → Ext w0 w') → KW v' w') : bsl P t_s_impl_Dyadic 1 [(0, u)] w fun x w1 => bl2 P .append #[t_s_impl_Dyadic, t_s_impl_Dyadic] ty [v, x] w1 KW := by
  have hu0 := hu
  obtain ⟨m, e, ⟨s, l, rfl, hl, hw⟩, hc⟩ := hu
  refine bsl_Dy ?_
  have he := Ext_alloc w (.cells #[.int .i64 m.sign, s, .int .i64 e] t_impl_Dyadic)
  have hrow : Row 3 (w.alloc (.cells #[.int .i64 m.sign, s, .int .i64 e] t_impl_Dyadic)) (.slice (some ⟨w.heap.size, 0, none⟩) 1 1) 1 [.int .i64 m.sign, s, .int .i64 e] := by
    refine ⟨rfl, by decide, _, _, rfl, fun _ => ⟨w.heap.size, 0, rfl, fun j u hj => ?_⟩⟩
    match j, hj with
    | 0, hj => cases hj; simp only [World.cell?, heap_new]; rfl
    | 1, hj => cases hj; simp only [World.cell?, heap_new]; rfl
    | 2, hj => cases hj; simp only [World.cell?, heap_new]; rfl
    | _ + 3, hj => simp at hj
  refine SL.push (a := q) h hrow rfl (one_3 rfl (sl_one (IR.sl hl.toIR)) rfl) he hbase (fun w' c a row hr hk hg ht => ?_) hu0 u_s_impl_Dyadic i_impl_Dyadic rfl (by decide) hn (by decide) fun v' w' h' hg hk => ?_
  · exact DQ.kt (DQ.ext hr he) hg ht (by decide)
  · exact H v' w' h' fun he0 hs => ext_of_grown (he0.trans he) (fun k hk' => Nat.le_trans hs (hk k hk')) hg
end
end Go.Proofs.YtjompmflommadaaGreatDoor


set_option linter.unusedVariables false
set_option linter.unusedSimpArgs false
namespace Go.Proofs.YtjompmflommadaaGreatDoor
open Go Go.Vc
variable {w : World} {K : Value → World → Prop} {lo hi : Nat} {v : Value}
theorem made_one (x : Value) (n : Nat) : (madeCells #[x] (n * 1)).toList = List.replicate n x := by
  unfold madeCells
  apply List.ext_getElem?
  intro i
  by_cases h : i < n
  · simp [h, Nat.mod_one]
  · simp [h]
theorem mks_agg {KW : Value → World → Prop} {t e : TypeId} {k k' : IntKind} {n s b : Nat} {xs : Array Value} (hu : P.underlying t = some (.slice e)) (ht : TI P e (.agg xs) s b) (hb : b * n ≤ 281474976710656) (hn : n ≤ maxLen)
    (H : ∀ w' v, w'.ownsRow w.heap.size e s v n (madeCells xs (n * s)).toList → Ext w w' → KW v w') : mks P t (.int k (n : Int)) (.int k' (n : Int)) w KW := by
  intro c hc
  subst hc
  obtain ⟨i, h1, h2, h3, h4⟩ := ht
  obtain ⟨w', hr, ho, hg⟩ := run_make_full (P := P) c c.heap.size t e i _ s hu h1 h2 h3 k k' n (by rw [h4]; exact hb) hn (Nat.le_refl _)
  refine ⟨_, w', hr, H (N w') _ ?_ ?_⟩
  · exact ho
  · exact ⟨hg.os, hg.tape, hg.output, hg.size, fun k hk => hg.block k hk (fun e => by cases e)⟩
theorem owns_set1 {t e : TypeId} {z : Value} {b base n : Nat} {xs : List Value} {KW : World → Prop} {k : IntKind} {i : Nat} {x : Value} (h : w.ownsRow base e 1 v n xs) (hi : i < n) (hx : x.oneCell' = true) (hu : P.underlying t = some (.slice e)) (ht : TI P e z 1 b)
    (H : ∀ w', w'.ownsRow base e 1 v n (xs.set i x) → w.grownBy w' v.ownBlock → KW w') : ixa P t v (.int k (i : Int)) w (fun a => sto P e a (.agg #[x]) w KW) := by
  have h0 := h
  rcases h.2 with ⟨rfl, rfl⟩ | ⟨g, cap, cur, rfl, hb, hg, hnc, hcm, hcs, htake⟩
  · omega
  · rw [ixa_slice hu ht (by omega) (by omega)]
    simp only [Int.toNat_natCast, Nat.zero_add, Nat.mul_one]
    obtain ⟨q1, q2⟩ := owns_fold [x] i 0 xs w h0
    refine sto_agg (cs := [x]) ht rfl (fun u hu => ?_) (fun j hj => ?_) (H _ q1 q2)
    · simp only [List.mem_cons, List.not_mem_nil, or_false] at hu
      rw [hu]; exact hx
    · have hlt : i + j < xs.length := by rw [h.1]; omega
      refine ⟨xs[i + j], ?_, ?_⟩
      · rw [Addr.add_lit, h0.cellAt _ (by omega), List.getElem?_eq_getElem hlt]
      · rw [Addr.add_lit]; exact h0.frozenAt _
theorem bx_apart {w1 w2 : World} {b1 b2 : Nat} {t1 t2 : TypeId} {p q : Value} {c1 c2 : List Value} (h1 : Bx w1 b1 t1 p c1) (h2 : Bx w2 b2 t2 q c2) (h : w1.heap.size ≤ b2) : blk q ≠ blk p := by
  obtain ⟨g, rfl, _, hg⟩ := h1
  obtain ⟨g', rfl, hb, _⟩ := h2
  have := heap_lt hg
  simp only [blk, ne_eq, Option.some.injEq]
  omega
theorem sum_take {α : Type} (f : α → Nat) {l : List α} {i : Nat} (hi : i < l.length) : ((l.take (i + 1)).map f).sum = ((l.take i).map f).sum + f l[i] := by
  rw [List.take_succ_eq_append_getElem hi, List.map_append, List.sum_append]
  simp
theorem sum_ge {α : Type} (f : α → Nat) {l : List α} {a : α} (h : a ∈ l) : f a ≤ (l.map f).sum := by
  induction l with
  | nil => cases h
  | cons b l ih =>
    rw [List.map_cons, List.sum_cons]
    rcases List.mem_cons.1 h with rfl | h
    · omega
    · have := ih h; omega
abbrev PG := List (List UInt8)
structure RP1 (R : World → Value → PG → Prop) (w : World) (v : Value) (ps : List PG) : Prop where
  ex : ∃ ss : List Value, ss.length = ps.length ∧ Row 1 w v ps.length ss ∧ ∀ i (h : i < ss.length) (h' : i < ps.length), R w ss[i] ps[i]
theorem RP1.ext {R : World → Value → PG → Prop} {w' : World} {ps : List PG} (hR : ∀ s p, R w s p → R w' s p) (h : RP1 R w v ps) (he : Ext w w') : RP1 R w' v ps := by
  obtain ⟨ss, h1, h2, h3⟩ := h.ex
  exact ⟨ss, h1, h2.ext he, fun i a b => hR _ _ (h3 i a b)⟩
theorem RP1.bound {R : World → Value → PG → Prop} {ps : List PG} (h : RP1 R w v ps) : ps.length ≤ 9223372036854775807 := by
  obtain ⟨ss, h1, h2, h3⟩ := h.ex
  have := h2.bound; simp only [maxLen] at this; omega
theorem RP1.len {R : World → Value → PG → Prop} {ps : List PG} {t e ty : TypeId} {K : Value → Prop} (h : RP1 R w v ps) (hu : P.underlying t = some (.slice e)) : bl0 P .len #[t] ty [v] w K = K (.int .i64 (ps.length : Nat)) := by
  obtain ⟨ss, h1, h2, h3⟩ := h.ex
  exact h2.len hu
theorem RP1.at {R : World → Value → PG → Prop} {ps : List PG} {t e : TypeId} {z : Value} {b : Nat} {d : TypeDesc} {k : IntKind} {i : Nat} {K : Value → Prop} (h : RP1 R w v ps) (hi : i < ps.length) (hu : P.underlying t = some (.slice e)) (ht : TI P e z 1 b) (hue : P.underlying e = some d) (hd : aggB d = true)
    (H : ∀ s, R w s ps[i] → K (.agg #[s])) : ixa P t v (.int k (i : Int)) w (fun a => ld P e a w K) := by
  obtain ⟨ss, h1, h2, h3⟩ := h.ex
  have hi' : i < ss.length := by omega
  refine Row.atA (cs := [ss[i]]) h2 hi rfl (fun j u hj => ?_) hu ht hue hd (H _ (h3 i hi' hi))
  match j, hj with
  | 0, hj => cases hj; simp [hi']
  | _ + 1, hj => simp at hj
abbrev A_ProgramS := RP1 A_StringS
abbrev I_ProgramS := RP1 SS
theorem A_ProgramS.ext {w' : World} {ps : List PG} (h : A_ProgramS w v ps) (he : Ext w w') : A_ProgramS w' v ps := RP1.ext (fun _ _ h => h.ext he) h he
theorem A_ProgramS.N {ps : List PG} (h : A_ProgramS w v ps) : A_ProgramS (Vc.N w) v ps := by
  obtain ⟨ss, h1, h2, h3⟩ := h.ex
  exact ⟨ss, h1, h2, fun i a b => (h3 i a b).N⟩
theorem I_ProgramS.ext {w' : World} {ps : List PG} (h : I_ProgramS w v ps) (he : Ext w w') : I_ProgramS w' v ps := RP1.ext (fun _ _ h => h.ext he) h he
def O_ProgramS (w : World) (lo hi : Nat) (v : Value) (ps : List PG) : Prop := ∃ ss : List Value, ss.length = ps.length ∧ OwnR w lo hi t_impl_Program 1 v ps.length ss ∧ ∀ i (h : i < ss.length) (h' : i < ps.length), O_StringS w lo hi ss[i] ps[i]
theorem O_ProgramS.ext {ps : List PG} {w' : World} (h : O_ProgramS w lo hi v ps) (he : Ext w w') : O_ProgramS w' lo hi v ps := by
  obtain ⟨ss, h1, h2, h3⟩ := h
  exact ⟨ss, h1, h2.ext he, fun i a b => (h3 i a b).ext he⟩
theorem O_ProgramS.chg {ps : List PG} {w' : World} {lo' hi' : Nat} (h : O_ProgramS w lo hi v ps) (hc : Chg lo' hi' w w') (hd : hi ≤ lo' ∨ hi' ≤ lo) : O_ProgramS w' lo hi v ps := by
  obtain ⟨ss, h1, h2, h3⟩ := h
  exact ⟨ss, h1, h2.chg hc hd, fun i a b => (h3 i a b).chg hc hd⟩
theorem O_ProgramS.I {ps : List PG} (h : O_ProgramS w lo hi v ps) : I_ProgramS w v ps := by
  obtain ⟨ss, h1, h2, h3⟩ := h
  exact ⟨ss, h1, owns_Row h2.own, fun i a b => (h3 i a b).I⟩
def sz_ProgramS (ps : List PG) : Nat := ps.length + (ps.map sz_Program).sum
theorem c_sz_ProgramS {ps : List PG} {left : Int} (h : A_ProgramS w v ps) (h0 : 0 ≤ left) (h1 : left ≤ 1048576) (H : ∀ (r : Int) w', Ext w w' → (r = -1 ∨ ((sz_ProgramS ps : Nat) : Int) ≤ left ∧ r = left - (sz_ProgramS ps : Nat)) → K (.int .i64 r) w') : call P f_laws_szProgramS [v, .int .i64 left] w K := by
  refine I_laws_szProgramS ?_
  unfold D_laws_szProgramS
  have hb := h.bound
  have hs : sz_ProgramS ps = ps.length + (ps.map sz_Program).sum := rfl
  rw [RP1.len h u_s_laws_Program, bin_sub, wrap_i64 (by omega) (by omega), bin_lss]
  refine cnd_dec (fun h2 => H _ _ (Ext.refl _) (.inl rfl)) (fun h2 => ?_)
  refine ⟨fun k x y w' => Ext w w' ∧ ∃ i : Nat, y = .int .i64 i ∧ k + i = ps.length ∧ x = .int .i64 (left - ps.length - ((ps.take i).map sz_Program).sum) ∧ 0 ≤ left - ps.length - ((ps.take i).map sz_Program).sum, ⟨ps.length, Ext.refl _, 0, rfl, by omega, by simp, by simp; omega⟩, ?_⟩
  rintro k x y junk w' ⟨e, i, rfl, hm, rfl, hpos⟩
  have h := h.ext e
  rw [RP1.len h u_s_laws_Program, bin_lss]
  refine cnd_dec (fun hlt => ?_) (fun hge => ?_)
  · have hi : i < ps.length := by omega
    have es := sum_take sz_Program hi
    refine RP1.at h hi u_s_laws_Program i_laws_Program u_laws_Program rfl fun s hs => ?_
    refine c_sz_Program ⟨s, rfl, hs⟩ hpos (by omega) fun r w2 e2 hr => ?_
    rw [bin_lss]
    refine cnd_dec (fun h3 => H _ _ (e.trans e2) (.inl rfl)) (fun h3 => ?_)
    obtain ⟨hr1, hr2⟩ : ((sz_Program ps[i] : Nat) : Int) ≤ left - ps.length - ((ps.take i).map sz_Program).sum ∧ r = left - ps.length - ((ps.take i).map sz_Program).sum - (sz_Program ps[i] : Nat) := by
      rcases hr with rfl | hr
      · exact absurd (show (-1 : Int) < 0 by decide) h3
      · exact hr
    rw [bin_add, wrap_i64 (by omega) (by omega)]
    exact ⟨k - 1, by omega, e.trans e2, i + 1, rfl, by omega, by congr 1; omega, by omega⟩
  · have ht : ps.take i = ps := List.take_of_length_le (by omega)
    rw [ht] at hpos ⊢
    exact H _ _ e (.inr ⟨by omega, by omega⟩)
theorem c_to_ProgramS {ps : List PG} (h : A_ProgramS w v ps) (hs : sz_ProgramS ps ≤ 1048576) (H : ∀ v' w', Ext w w' → O_ProgramS w' w.heap.size w'.heap.size v' ps → K v' w') : call P f_laws_toProgramS [v] w K := by
  unfold sz_ProgramS at hs
  refine I_laws_toProgramS ?_
  unfold D_laws_toProgramS
  rw [RP1.len h u_s_laws_Program]
  refine mks_agg u_s_impl_Program i_impl_Program (by omega) (by simp only [maxLen]; omega) fun w1 v1 ho he => ?_
  rw [made_one] at ho
  refine ⟨fun m x w' => Ext w w' ∧ ∃ (i : Nat) (ss : List Value), x = .int .i64 i ∧ m + i = ps.length ∧ ss.length = i ∧ w'.ownsRow w.heap.size t_impl_Program 1 v1 ps.length (ss ++ List.replicate (ps.length - i) (.slice none 0 0)) ∧ ∀ j (h : j < ss.length) (h' : j < ps.length), O_StringS w' w.heap.size w'.heap.size ss[j] ps[j],
    ⟨ps.length, he, 0, [], rfl, by omega, rfl, by simpa using ho, fun j h => absurd h (Nat.not_lt_zero _)⟩, ?_⟩
  rintro m x junk w2 ⟨e2, i, ss, rfl, hm, hsl, ho2, hin⟩
  have h2 := h.ext e2
  rw [RP1.len h2 u_s_laws_Program, bin_lss]
  refine cnd_dec (fun hlt => ?_) (fun hge => ?_)
  · have hi : i < ps.length := by omega
    have hg := sum_ge sz_Program (List.getElem_mem hi)
    refine RP1.at h2 hi u_s_laws_Program i_laws_Program u_laws_Program rfl fun s hs2 => ?_
    refine c_to_Program ⟨s, rfl, hs2⟩ (by omega) fun v' w3 e3 ho3 => ?_
    obtain ⟨s', rfl, o3⟩ := ho3
    refine owns_set1 (owns_ext ho2 e3) hi (sl_one o3.I.sl) u_s_impl_Program i_impl_Program fun w4 ho4 g4 => ?_
    rw [bin_add, wrap_i64 (by omega) (by omega)]
    have e4 : Ext w w4 := ext_of_grown (e2.trans e3) (fun g hg => (ho2.lt g hg).1) g4
    refine ⟨m - 1, by omega, e4, i + 1, ss ++ [s'], rfl, by omega, by simp [hsl], ?_, fun j hj hj' => ?_⟩
    · have es : (ss ++ List.replicate (ps.length - i) (Value.slice none 0 0)).set i s' = (ss ++ [s']) ++ List.replicate (ps.length - (i + 1)) (.slice none 0 0) := by
        rw [List.set_append_right _ _ (by omega), hsl, Nat.sub_self, show ps.length - i = ps.length - (i + 1) + 1 by omega, List.replicate_succ, List.set_cons_zero, List.append_assoc]
        rfl
      rw [es] at ho4; exact ho4
    · have keep : ∀ {lo hi : Nat} {u : Value} {l : PG}, O_StringS w3 lo hi u l → w.heap.size ≤ lo → hi ≤ w3.heap.size → O_StringS w4 w.heap.size w4.heap.size u l := fun o hl hh =>
        ⟨OwnR.mono ⟨keep_row o.1.own g4 (Ty.owns (owns_ext ho2 e3)) (by decide), o.1.top⟩ hl (Nat.le_trans hh g4.size), o.2⟩
      by_cases hji : j < ss.length
      · rw [List.getElem_append_left hji]
        exact keep ((hin j hji hj').ext e3) (Nat.le_refl _) e3.size
      · have : j = i := by simp at hj; omega
        subst this
        rw [List.getElem_append_right (by omega)]
        simp only [hsl, Nat.sub_self, List.getElem_cons_zero]
        exact keep o3 e2.size (Nat.le_refl _)
  · have hi : i = ps.length := by omega
    subst hi
    simp only [Nat.sub_self, List.replicate_zero, List.append_nil] at ho2
    exact H _ _ e2 ⟨ss, hsl, OwnR.of ho2, hin⟩
set_option maxRecDepth 20000 in
theorem c_eq_ProgramS {u : Value} {ps : List PG} (h1 : I_ProgramS w u ps) (h2 : I_ProgramS w v ps) (H : ∀ w', Ext w w' → K (.bool true) w') : call P f_laws_eqProgramS [u, v] w K := by
  refine I_laws_eqProgramS ?_
  unfold D_laws_eqProgramS
  have hb := h1.bound
  rw [RP1.len h1 u_s_impl_Program, RP1.len h2 u_s_impl_Program, bin_neq]
  refine cnd_dec (fun h => absurd rfl h) (fun _ => ?_)
  refine ⟨fun m x w' => Ext w w' ∧ ∃ i : Nat, x = .int .i64 i ∧ m + i = ps.length, ⟨ps.length, Ext.refl _, 0, rfl, by omega⟩, ?_⟩
  rintro m x junk w' ⟨e, i, rfl, hm⟩
  have h1 := h1.ext e
  have h2 := h2.ext e
  rw [RP1.len h1 u_s_impl_Program, bin_lss]
  refine cnd_dec (fun hlt => ?_) (fun hge => H _ e)
  have hi : i < ps.length := by omega
  refine RP1.at h1 hi u_s_impl_Program i_impl_Program u_impl_Program rfl fun s hs => ?_
  refine RP1.at h2 hi u_s_impl_Program i_impl_Program u_impl_Program rfl fun s2 hs2 => ?_
  refine c_eq_Program ⟨s, rfl, hs⟩ ⟨s2, rfl, hs2⟩ fun w3 e3 => ?_
  rw [una_not, Bool.not_true, cnd_false, bin_add, wrap_i64 (by omega) (by omega)]
  exact ⟨m - 1, by omega, e.trans e3, i + 1, rfl, by omega⟩
end Go.Proofs.YtjompmflommadaaGreatDoor


set_option linter.unusedVariables false
set_option linter.unusedSimpArgs false
namespace Go.Proofs.YtjompmflommadaaGreatDoor
open Go Go.Vc
variable {w : World} {K : Value → World → Prop} {lo hi : Nat} {v : Value}
abbrev KP := List UInt8 × List UInt8
abbrev kc (k : KP) : List Value := [str k.1, str k.2]
def kcs (l : List KP) : List Value := l.flatMap kc
theorem kcs_cons (p : KP) (l : List KP) : kcs (p :: l) = str p.1 :: str p.2 :: kcs l := rfl
theorem kcs_len : ∀ l : List KP, (kcs l).length = l.length * 2
  | [] => rfl
  | p :: l => by rw [kcs_cons]; simp only [List.length_cons, kcs_len l]; omega
theorem kcs_get0 : ∀ {l : List KP} {i : Nat} (h : i < l.length), (kcs l)[i * 2]? = some (str l[i].1)
  | [], i, h => absurd h (Nat.not_lt_zero _)
  | p :: l, 0, h => rfl
  | p :: l, i + 1, h => by
    rw [kcs_cons, show (i + 1) * 2 = i * 2 + 1 + 1 by omega, List.getElem?_cons_succ, List.getElem?_cons_succ]
    exact kcs_get0 (l := l) (by simpa using h)
theorem kcs_get1 : ∀ {l : List KP} {i : Nat} (h : i < l.length), (kcs l)[i * 2 + 1]? = some (str l[i].2)
  | [], i, h => absurd h (Nat.not_lt_zero _)
  | p :: l, 0, h => rfl
  | p :: l, i + 1, h => by
    rw [kcs_cons, show (i + 1) * 2 + 1 = i * 2 + 1 + 1 + 1 by omega, List.getElem?_cons_succ, List.getElem?_cons_succ]
    exact kcs_get1 (l := l) (by simpa using h)
theorem kcs_set {a c : List UInt8} : ∀ {l : List KP} {i : Nat} (h : i < l.length), ((kcs l).set (i * 2) (str a)).set (i * 2 + 1) (str c) = kcs (l.set i (a, c))
  | [], i, h => absurd h (Nat.not_lt_zero _)
  | p :: l, 0, h => rfl
  | p :: l, i + 1, h => by
    rw [kcs_cons, show (i + 1) * 2 = i * 2 + 1 + 1 by omega, List.set_cons_succ, List.set_cons_succ, List.set_cons_succ, List.set_cons_succ, kcs_set (l := l) (by simpa using h)]
    rfl
theorem kcs_take : ∀ (l : List KP) (i : Nat), (kcs l).take (i * 2) = kcs (l.take i)
  | l, 0 => by simp [kcs]
  | [], i + 1 => by simp [kcs]
  | p :: l, i + 1 => by
    rw [kcs_cons, show (i + 1) * 2 = i * 2 + 1 + 1 by omega, List.take_succ_cons, List.take_succ_cons, kcs_take l i, List.take_succ_cons, kcs_cons]
structure KR (B : Nat) (w : World) (v : Value) (ks : List KP) : Prop where
  row : Row 2 w v ks.length (kcs ks)
  lt : ∀ k ∈ ks, k.1.length ≤ B ∧ k.2.length ≤ B
  cap : CapOk v
theorem KR.ext {B : Nat} {w' : World} {ks : List KP} (h : KR B w v ks) (he : Ext w w') : KR B w' v ks := ⟨h.row.ext he, h.lt, h.cap⟩
theorem KR.bound {B : Nat} {ks : List KP} (h : KR B w v ks) : ks.length ≤ 9223372036854775807 := by have := h.row.bound; simp only [maxLen] at this; omega
theorem KR.at {B : Nat} {ks : List KP} {t e : TypeId} {z : Value} {b : Nat} {d : TypeDesc} {k : IntKind} {i : Nat} {K : Value → Prop} (h : KR B w v ks) (hi : i < ks.length) (hu : P.underlying t = some (.slice e)) (ht : TI P e z 2 b) (hue : P.underlying e = some d) (hd : aggB d = true)
    (H : K (.agg #[str ks[i].1, str ks[i].2])) : ixa P t v (.int k (i : Int)) w (fun a => ld P e a w K) := by
  refine Row.atA (cs := kc ks[i]) h.row hi rfl (fun j u hj => ?_) hu ht hue hd H
  match j, hj with
  | 0, hj => cases hj; exact kcs_get0 hi
  | 1, hj => cases hj; exact kcs_get1 hi
  | _ + 2, hj => simp at hj
abbrev A_KeptS := KR 9223372036854775807
abbrev I_KeptS := KR 1048576
theorem A_KeptS.N {ks : List KP} (h : A_KeptS w v ks) : A_KeptS (Vc.N w) v ks := ⟨h.row, h.lt, h.cap⟩
def O_KeptS (w : World) (lo hi : Nat) (v : Value) (ks : List KP) : Prop := OwnR w lo hi t_impl_Kept 2 v ks.length (kcs ks) ∧ ∀ k ∈ ks, k.1.length ≤ 1048576 ∧ k.2.length ≤ 1048576
theorem O_KeptS.ext {ks : List KP} {w' : World} (h : O_KeptS w lo hi v ks) (he : Ext w w') : O_KeptS w' lo hi v ks := ⟨h.1.ext he, h.2⟩
theorem O_KeptS.chg {ks : List KP} {w' : World} {lo' hi' : Nat} (h : O_KeptS w lo hi v ks) (hc : Chg lo' hi' w w') (hd : hi ≤ lo' ∨ hi' ≤ lo) : O_KeptS w' lo hi v ks := ⟨h.1.chg hc hd, h.2⟩
theorem O_KeptS.I {ks : List KP} (h : O_KeptS w lo hi v ks) : I_KeptS w v ks := ⟨owns_Row h.1.own, h.2, owns_cap h.1.own⟩
def sz_Kept (k : KP) : Nat := k.1.length + k.2.length
def sz_KeptS (ks : List KP) : Nat := ks.length + (ks.map sz_Kept).sum
theorem bx_kp {t : TypeId} {a b : List UInt8} {KW : Value → World → Prop} (H : ∀ x w', Bx w' w.heap.size t x [str a, str b] → Ext w w' → KW x w') : bx P t (.agg #[str a, str b]) w KW :=
  bx_bx fun x w' b e _ => H x w' b e
theorem c_szKept {k : KP} {left : Int} (hk : k.1.length ≤ 9223372036854775807 ∧ k.2.length ≤ 9223372036854775807) (h0 : 0 ≤ left) (h1 : left ≤ 1048576) (H : ∀ (r : Int) w', Ext w w' → (r = -1 ∨ ((sz_Kept k : Nat) : Int) ≤ left ∧ r = left - (sz_Kept k : Nat)) → K (.int .i64 r) w') : call P f_laws_szKept [.agg #[str k.1, str k.2], .int .i64 left] w K := by
  refine I_laws_szKept ?_
  unfold D_laws_szKept
  obtain ⟨k1, k2⟩ := hk
  have hs : sz_Kept k = k.1.length + k.2.length := rfl
  refine bx_kp fun x w1 b1 e1 => ?_
  refine b1.fld (off := 0) rfl u_laws_Kept rfl i_string u_string rfl ?_
  rw [len_str u_string, bin_sub, wrap_i64 (by omega) (by omega), bin_lss]
  refine cnd_dec (fun h2 => H _ _ e1 (.inl rfl)) (fun h2 => ?_)
  refine b1.fld (off := 1) rfl u_laws_Kept rfl i_string u_string rfl ?_
  rw [len_str u_string, bin_sub, wrap_i64 (by omega) (by omega), bin_lss]
  refine cnd_dec (fun h3 => H _ _ e1 (.inl rfl)) (fun h3 => ?_)
  exact H _ _ e1 (.inr ⟨by omega, by omega⟩)
theorem c_sz_KeptS {ks : List KP} {left : Int} (h : A_KeptS w v ks) (h0 : 0 ≤ left) (h1 : left ≤ 1048576) (H : ∀ (r : Int) w', Ext w w' → (r = -1 ∨ ((sz_KeptS ks : Nat) : Int) ≤ left ∧ r = left - (sz_KeptS ks : Nat)) → K (.int .i64 r) w') : call P f_laws_szKeptS [v, .int .i64 left] w K := by
  refine I_laws_szKeptS ?_
  unfold D_laws_szKeptS
  have hb := h.bound
  have hs : sz_KeptS ks = ks.length + (ks.map sz_Kept).sum := rfl
  rw [h.row.len u_s_laws_Kept, bin_sub, wrap_i64 (by omega) (by omega), bin_lss]
  refine cnd_dec (fun h2 => H _ _ (Ext.refl _) (.inl rfl)) (fun h2 => ?_)
  refine ⟨fun k x y w' => Ext w w' ∧ ∃ i : Nat, y = .int .i64 i ∧ k + i = ks.length ∧ x = .int .i64 (left - ks.length - ((ks.take i).map sz_Kept).sum) ∧ 0 ≤ left - ks.length - ((ks.take i).map sz_Kept).sum, ⟨ks.length, Ext.refl _, 0, rfl, by omega, by simp, by simp; omega⟩, ?_⟩
  rintro k x y junk w' ⟨e, i, rfl, hm, rfl, hpos⟩
  have h := KR.ext h e
  rw [h.row.len u_s_laws_Kept, bin_lss]
  refine cnd_dec (fun hlt => ?_) (fun hge => ?_)
  · have hi : i < ks.length := by omega
    have es := sum_take sz_Kept hi
    refine KR.at h hi u_s_laws_Kept i_laws_Kept u_laws_Kept rfl ?_
    refine c_szKept (h.lt _ (List.getElem_mem hi)) hpos (by omega) fun r w2 e2 hr => ?_
    rw [bin_lss]
    refine cnd_dec (fun h3 => H _ _ (e.trans e2) (.inl rfl)) (fun h3 => ?_)
    obtain ⟨hr1, hr2⟩ : ((sz_Kept ks[i] : Nat) : Int) ≤ left - ks.length - ((ks.take i).map sz_Kept).sum ∧ r = left - ks.length - ((ks.take i).map sz_Kept).sum - (sz_Kept ks[i] : Nat) := by
      rcases hr with rfl | hr
      · exact absurd (show (-1 : Int) < 0 by decide) h3
      · exact hr
    rw [bin_add, wrap_i64 (by omega) (by omega)]
    exact ⟨k - 1, by omega, e.trans e2, i + 1, rfl, by omega, by congr 1; omega, by omega⟩
  · have ht : ks.take i = ks := List.take_of_length_le (by omega)
    rw [ht] at hpos ⊢
    exact H _ _ e (.inr ⟨by omega, by omega⟩)
theorem c_toKept {k : KP} (H : ∀ w', Ext w w' → K (.agg #[str k.1, str k.2]) w') : call P f_laws_toKept [.agg #[str k.1, str k.2]] w K := by
  refine I_laws_toKept ?_
  unfold D_laws_toKept
  refine bx_kp fun x w1 b1 e1 => ?_
  refine alc_bx i_impl_Kept fun y w2 b2 e2 _ => ?_
  refine alc_bx i_impl_Kept fun z w3 b3 e3 _ => ?_
  have b1 := (b1.ext e2).ext e3
  have n2 := bx_apart b2 b3 (Nat.le_refl _)
  have b2 := b2.ext e3
  have E := e1.trans (e2.trans e3)
  have s3 : w.heap.size ≤ w2.heap.size := (e1.trans e2).size
  refine b1.fld (off := 0) rfl u_laws_Kept rfl i_string u_string rfl ?_
  refine b3.fput (off := 0) (show 0 < 2 by decide) u_impl_Kept rfl i_string rfl fun w4 b3' g4 => ?_
  have E4 : Ext w w4 := ext_of_grown E (fun g hg => Nat.le_trans s3 (b3.blk_lt hg).1) g4
  have b1 := keep_box b1 g4 (Ty.box b3) (by decide)
  have b2 := b2.kept g4 (.inr n2)
  refine b1.fld (off := 1) rfl u_laws_Kept rfl i_string u_string rfl ?_
  refine b3'.fput (off := 1) (show 1 < 2 by decide) u_impl_Kept rfl i_string rfl fun w5 b3'' g5 => ?_
  have E5 : Ext w w5 := ext_of_grown E4 (fun g hg => Nat.le_trans s3 (b3'.blk_lt hg).1) g5
  have b2 := b2.kept g5 (.inr n2)
  have b3'' : Bx w5 w2.heap.size t_impl_Kept z (kc k) := b3''
  refine b3''.get u_impl_Kept rfl i_impl_Kept rfl ?_
  refine b2.put i_impl_Kept (ds := kc k) rfl rfl (by intro u hu; simp only [List.mem_cons, List.not_mem_nil, or_false] at hu; rcases hu with rfl | rfl <;> rfl) fun w6 b6 g6 => ?_
  refine b6.getc u_impl_Kept rfl i_impl_Kept rfl ?_
  exact H _ (ext_of_grown E5 (fun g hg => Nat.le_trans e1.size (b2.blk_lt hg).1) g6)
theorem c_to_KeptS {ks : List KP} (h : A_KeptS w v ks) (hs : sz_KeptS ks ≤ 1048576) (H : ∀ v' w', Ext w w' → O_KeptS w' w.heap.size w'.heap.size v' ks → K v' w') : call P f_laws_toKeptS [v] w K := by
  unfold sz_KeptS at hs
  have hlt : ∀ k ∈ ks, k.1.length ≤ 1048576 ∧ k.2.length ≤ 1048576 := fun k hk => by
    have := sum_ge sz_Kept hk
    have e : sz_Kept k = k.1.length + k.2.length := rfl
    omega
  refine I_laws_toKeptS ?_
  unfold D_laws_toKeptS
  rw [h.row.len u_s_laws_Kept]
  refine mks_agg u_s_impl_Kept i_impl_Kept (by omega) (by simp only [maxLen]; omega) fun w1 v1 ho he => ?_
  rw [made_two] at ho
  refine ⟨fun m x w' => Ext w w' ∧ ∃ i : Nat, x = .int .i64 i ∧ m + i = ks.length ∧ w'.ownsRow w.heap.size t_impl_Kept 2 v1 ks.length (kcs (ks.take i ++ List.replicate (ks.length - i) ([], []))),
    ⟨ks.length, he, 0, rfl, by omega, ?_⟩, ?_⟩
  · have : kcs (ks.take 0 ++ List.replicate (ks.length - 0) ([], [])) = (List.replicate ks.length [Value.string ⟨#[]⟩, Value.string ⟨#[]⟩]).flatten := by
      unfold kcs
      rw [List.take_zero, List.nil_append, Nat.sub_zero, List.flatMap_def, List.map_replicate]
      all_goals rfl
    rw [this]; exact ho
  rintro m x junk w2 ⟨e2, i, rfl, hm, ho2⟩
  have h2 := KR.ext h e2
  rw [h2.row.len u_s_laws_Kept, bin_lss]
  refine cnd_dec (fun hlt => ?_) (fun hge => ?_)
  · have hi : i < ks.length := by omega
    refine KR.at h2 hi u_s_laws_Kept i_laws_Kept u_laws_Kept rfl ?_
    refine c_toKept fun w3 e3 => ?_
    refine owns_set2 (owns_ext ho2 e3) hi rfl rfl u_s_impl_Kept i_impl_Kept fun w4 ho4 g4 => ?_
    rw [bin_add, wrap_i64 (by omega) (by omega)]
    refine ⟨m - 1, by omega, ?_, i + 1, rfl, by omega, ?_⟩
    · exact ext_of_grown (e2.trans e3) (fun g hg => (ho2.lt g hg).1) g4
    · rw [kcs_set (by simp; omega)] at ho4
      rw [replicate_set_take ks ([], []) i hi] at ho4
      exact ho4
  · have hi : i = ks.length := by omega
    subst hi
    simp only [List.take_length, Nat.sub_self, List.replicate_zero, List.append_nil] at ho2
    exact H _ _ e2 ⟨OwnR.of ho2, hlt⟩
set_option maxRecDepth 20000 in
theorem c_eq_KeptS {u : Value} {ks : List KP} (h1 : I_KeptS w u ks) (h2 : I_KeptS w v ks) (H : ∀ w', Ext w w' → K (.bool true) w') : call P f_laws_eqKeptS [u, v] w K := by
  refine I_laws_eqKeptS ?_
  unfold D_laws_eqKeptS
  have hb := h1.bound
  rw [h1.row.len u_s_impl_Kept, h2.row.len u_s_impl_Kept, bin_neq]
  refine cnd_dec (fun h => absurd rfl h) (fun _ => ?_)
  refine ⟨fun m x w' => Ext w w' ∧ ∃ i : Nat, x = .int .i64 i ∧ m + i = ks.length, ⟨ks.length, Ext.refl _, 0, rfl, by omega⟩, ?_⟩
  rintro m x junk w' ⟨e, i, rfl, hm⟩
  have h1 := KR.ext h1 e
  have h2 := KR.ext h2 e
  rw [h1.row.len u_s_impl_Kept, bin_lss]
  refine cnd_dec (fun hlt => ?_) (fun hge => H _ e)
  have hi : i < ks.length := by omega
  refine KR.at h1 hi u_s_impl_Kept i_impl_Kept u_impl_Kept rfl ?_
  refine KR.at h2 hi u_s_impl_Kept i_impl_Kept u_impl_Kept rfl ?_
  refine I_laws_eqKept ?_
  unfold D_laws_eqKept
  refine bx_kp fun y1 w1 c1 e1 => ?_
  refine bx_kp fun y2 w2 c2 e2 => ?_
  have c1 := c1.ext e2
  refine c1.fld (off := 0) rfl u_impl_Kept rfl i_string u_string rfl ?_
  refine c2.fld (off := 0) rfl u_impl_Kept rfl i_string u_string rfl ?_
  rw [neq_str]
  refine cnd_no (by simp) ?_
  refine c1.fld (off := 1) rfl u_impl_Kept rfl i_string u_string rfl ?_
  refine c2.fld (off := 1) rfl u_impl_Kept rfl i_string u_string rfl ?_
  rw [neq_str]
  refine cnd_no (by simp) ?_
  show una P .not (.bool true) w2 _
  rw [una_not, Bool.not_true, cnd_false, bin_add, wrap_i64 (by omega) (by omega)]
  exact ⟨m - 1, by omega, e.trans (e1.trans e2), i + 1, rfl, by omega⟩
abbrev SV := PG × List PG × List KP
def A_Server (w : World) (v : Value) (s : SV) : Prop := ∃ a b c, v = .agg #[a, b, c] ∧ A_StringS w a s.1 ∧ A_ProgramS w b s.2.1 ∧ A_KeptS w c s.2.2
def I_Server (w : World) (v : Value) (s : SV) : Prop := ∃ a b c, v = .agg #[a, b, c] ∧ SS w a s.1 ∧ I_ProgramS w b s.2.1 ∧ I_KeptS w c s.2.2
def O_Server (w : World) (lo hi : Nat) (v : Value) (s : SV) : Prop := ∃ a b c, v = .agg #[a, b, c] ∧ O_StringS w lo hi a s.1 ∧ O_ProgramS w lo hi b s.2.1 ∧ O_KeptS w lo hi c s.2.2
theorem A_Server.ext {w' : World} {s : SV} (h : A_Server w v s) (he : Ext w w') : A_Server w' v s := let ⟨a, b, c, h0, h1, h2, h3⟩ := h; ⟨a, b, c, h0, h1.ext he, A_ProgramS.ext h2 he, KR.ext h3 he⟩
theorem A_Server.N {s : SV} (h : A_Server w v s) : A_Server (Vc.N w) v s := let ⟨a, b, c, h0, h1, h2, h3⟩ := h; ⟨a, b, c, h0, h1.N, A_ProgramS.N h2, A_KeptS.N h3⟩
theorem I_Server.ext {w' : World} {s : SV} (h : I_Server w v s) (he : Ext w w') : I_Server w' v s := let ⟨a, b, c, h0, h1, h2, h3⟩ := h; ⟨a, b, c, h0, h1.ext he, I_ProgramS.ext h2 he, KR.ext h3 he⟩
theorem O_Server.ext {w' : World} {s : SV} (h : O_Server w lo hi v s) (he : Ext w w') : O_Server w' lo hi v s := let ⟨a, b, c, h0, h1, h2, h3⟩ := h; ⟨a, b, c, h0, h1.ext he, h2.ext he, h3.ext he⟩
theorem O_Server.chg {w' : World} {s : SV} {lo' hi' : Nat} (h : O_Server w lo hi v s) (hc : Chg lo' hi' w w') (hd : hi ≤ lo' ∨ hi' ≤ lo) : O_Server w' lo hi v s := let ⟨a, b, c, h0, h1, h2, h3⟩ := h; ⟨a, b, c, h0, h1.chg hc hd, h2.chg hc hd, h3.chg hc hd⟩
theorem O_Server.I {s : SV} (h : O_Server w lo hi v s) : I_Server w v s := let ⟨a, b, c, h0, h1, h2, h3⟩ := h; ⟨a, b, c, h0, h1.I, h2.I, h3.I⟩
def sz_Server (s : SV) : Nat := sz_StringS s.1 + sz_ProgramS s.2.1 + sz_KeptS s.2.2
def cnt_Server (s : SV) : Nat := 0
theorem cnt_sz_Server (s : SV) : cnt_Server s ≤ sz_Server s := Nat.zero_le _
theorem RP1.sl {R : World → Value → PG → Prop} {ps : List PG} (h : RP1 R w v ps) : ∃ a n c, v = .slice a n c := by obtain ⟨ss, _, h2, _⟩ := h.ex; obtain ⟨_, _, a, c, rfl, _⟩ := h2; exact ⟨_, _, _, rfl⟩
theorem KR.sl {B : Nat} {ks : List KP} (h : KR B w v ks) : ∃ a n c, v = .slice a n c := by obtain ⟨_, _, a, c, rfl, _⟩ := h.row; exact ⟨_, _, _, rfl⟩
theorem one_sl3 {a b c : Value} (h1 : ∃ x n y, a = .slice x n y) (h2 : ∃ x n y, b = .slice x n y) (h3 : ∃ x n y, c = .slice x n y) : ∀ x ∈ [a, b, c], x.oneCell' = true := by
  intro x hx
  simp only [List.mem_cons, List.not_mem_nil, or_false] at hx
  rcases hx with rfl | rfl | rfl
  · exact sl_one h1
  · exact sl_one h2
  · exact sl_one h3
theorem Server_agg {s : SV} (h : I_Server w v s) : ∃ cs : List Value, v = .agg cs.toArray ∧ cs.length = 3 ∧ ∀ x ∈ cs, x.oneCell' = true := by
  obtain ⟨a, b, c, rfl, h1, h2, h3⟩ := h
  exact ⟨[a, b, c], rfl, rfl, one_sl3 h1.sl (RP1.sl h2) (KR.sl h3)⟩
theorem Server_aggA {s : SV} (h : A_Server w v s) : ∃ cs : List Value, v = .agg cs.toArray ∧ cs.length = 3 ∧ ∀ x ∈ cs, x.oneCell' = true := by
  obtain ⟨a, b, c, rfl, h1, h2, h3⟩ := h
  exact ⟨[a, b, c], rfl, rfl, one_sl3 h1.sl (RP1.sl h2) (KR.sl h3)⟩
theorem bx_sv {t : TypeId} {a b c : Value} {KW : Value → World → Prop} (H : ∀ x w', Bx w' w.heap.size t x [a, b, c] → Ext w w' → KW x w') : bx P t (.agg #[a, b, c]) w KW :=
  bx_bx fun x w' b e _ => H x w' b e
theorem c_sz_Server {s : SV} {left : Int} (h : A_Server w v s) (h0 : 0 ≤ left) (h1 : left ≤ 1048576) (H : ∀ (r : Int) w', Ext w w' → (r = -1 ∨ ((sz_Server s : Nat) : Int) ≤ left ∧ r = left - (sz_Server s : Nat)) → K (.int .i64 r) w') : call P f_laws_szServer [v, .int .i64 left] w K := by
  obtain ⟨a, b, c, rfl, ha, hb, hc⟩ := h
  have hs : sz_Server s = sz_StringS s.1 + sz_ProgramS s.2.1 + sz_KeptS s.2.2 := rfl
  refine I_laws_szServer ?_
  unfold D_laws_szServer
  refine bx_sv fun x w1 b1 e1 => ?_
  refine b1.fld (off := 0) rfl u_laws_Server rfl i_s_string u_s_string rfl ?_
  refine c_sz_StringS (ha.ext e1) h0 h1 fun r w2 e2 hr => ?_
  rw [bin_lss]
  refine cnd_dec (fun h2 => H _ _ (e1.trans e2) (.inl rfl)) (fun h2 => ?_)
  obtain ⟨hr1, rfl⟩ : ((sz_StringS s.1 : Nat) : Int) ≤ left ∧ r = left - (sz_StringS s.1 : Nat) := by
    rcases hr with rfl | hr
    · exact absurd (show (-1 : Int) < 0 by decide) h2
    · exact hr
  refine (b1.ext e2).fld (off := 1) rfl u_laws_Server rfl i_s_laws_Program u_s_laws_Program rfl ?_
  refine c_sz_ProgramS (A_ProgramS.ext hb (e1.trans e2)) (by omega) (by omega) fun r w3 e3 hr => ?_
  have E3 := e1.trans (e2.trans e3)
  rw [bin_lss]
  refine cnd_dec (fun h2 => H _ _ E3 (.inl rfl)) (fun h2 => ?_)
  obtain ⟨hr3, rfl⟩ : ((sz_ProgramS s.2.1 : Nat) : Int) ≤ left - (sz_StringS s.1 : Nat) ∧ r = left - (sz_StringS s.1 : Nat) - (sz_ProgramS s.2.1 : Nat) := by
    rcases hr with rfl | hr
    · exact absurd (show (-1 : Int) < 0 by decide) h2
    · exact hr
  refine ((b1.ext e2).ext e3).fld (off := 2) rfl u_laws_Server rfl i_s_laws_Kept u_s_laws_Kept rfl ?_
  refine c_sz_KeptS (KR.ext hc E3) (by omega) (by omega) fun r w4 e4 hr => ?_
  have E4 := E3.trans e4
  rw [bin_lss]
  refine cnd_dec (fun h2 => H _ _ E4 (.inl rfl)) (fun h2 => ?_)
  obtain ⟨hr5, rfl⟩ : ((sz_KeptS s.2.2 : Nat) : Int) ≤ left - (sz_StringS s.1 : Nat) - (sz_ProgramS s.2.1 : Nat) ∧ r = left - (sz_StringS s.1 : Nat) - (sz_ProgramS s.2.1 : Nat) - (sz_KeptS s.2.2 : Nat) := by
    rcases hr with rfl | hr
    · exact absurd (show (-1 : Int) < 0 by decide) h2
    · exact hr
  exact H _ _ E4 (.inr ⟨by omega, by omega⟩)
theorem O_StringS.kt {l : PG} {w' : World} {row : Option Nat} (h : O_StringS w lo hi v l) (g : w.grownBy w' row) (ht : Ty w row t_impl_Server) : O_StringS w' lo hi v l := ⟨⟨keep_row h.1.own g ht (by decide), h.1.top⟩, h.2⟩
theorem O_ProgramS.kt {l : List PG} {w' : World} {row : Option Nat} (h : O_ProgramS w lo hi v l) (g : w.grownBy w' row) (ht : Ty w row t_impl_Server) : O_ProgramS w' lo hi v l := by
  obtain ⟨ss, h1, h2, h3⟩ := h
  exact ⟨ss, h1, ⟨keep_row h2.own g ht (by decide), h2.top⟩, fun i a b => (h3 i a b).kt g ht⟩
theorem O_KeptS.kt {l : List KP} {w' : World} {row : Option Nat} (h : O_KeptS w lo hi v l) (g : w.grownBy w' row) (ht : Ty w row t_impl_Server) : O_KeptS w' lo hi v l := ⟨⟨keep_row h.1.own g ht (by decide), h.1.top⟩, h.2⟩
theorem O_StringS.mono {l : PG} {lo' hi' : Nat} (h : O_StringS w lo hi v l) (h1 : lo' ≤ lo) (h2 : hi ≤ hi') : O_StringS w lo' hi' v l := ⟨h.1.mono h1 h2, h.2⟩
theorem O_ProgramS.mono {l : List PG} {lo' hi' : Nat} (h : O_ProgramS w lo hi v l) (h1 : lo' ≤ lo) (h2 : hi ≤ hi') : O_ProgramS w lo' hi' v l := by
  obtain ⟨ss, h3, h4, h5⟩ := h
  exact ⟨ss, h3, h4.mono h1 h2, fun i a b => (h5 i a b).mono h1 h2⟩
theorem O_KeptS.mono {l : List KP} {lo' hi' : Nat} (h : O_KeptS w lo hi v l) (h1 : lo' ≤ lo) (h2 : hi ≤ hi') : O_KeptS w lo' hi' v l := ⟨h.1.mono h1 h2, h.2⟩
set_option maxRecDepth 20000 in
set_option maxHeartbeats 1000000 in
theorem c_to_Server {s : SV} (h : A_Server w v s) (hs : sz_Server s ≤ 1048576) (H : ∀ v' w', Ext w w' → O_Server w' w.heap.size w'.heap.size v' s → K v' w') : call P f_laws_toServer [v] w K := by
  obtain ⟨a, b, c, rfl, ha, hb, hc⟩ := h
  have hs' : sz_Server s = sz_StringS s.1 + sz_ProgramS s.2.1 + sz_KeptS s.2.2 := rfl
  refine I_laws_toServer ?_
  unfold D_laws_toServer
  refine bx_sv fun x w1 b1 e1 => ?_
  refine alc_bx i_impl_Server fun y w2 b2 e2 _ => ?_
  refine alc_bx i_impl_Server fun z w3 b3 e3 _ => ?_
  have n23 := bx_apart b2 b3 (Nat.le_refl _)
  have b1 := (b1.ext e2).ext e3
  have b2 := b2.ext e3
  have E3 := e1.trans (e2.trans e3)
  have s23 : w.heap.size ≤ w2.heap.size := (e1.trans e2).size
  refine b1.fld (off := 0) rfl u_laws_Server rfl i_s_string u_s_string rfl ?_
  refine c_to_StringS (ha.ext E3) (by omega) fun a' w4 e4 o4 => ?_
  have b1 := b1.ext e4
  have b2 := b2.ext e4
  have b3 := b3.ext e4
  have E4 := E3.trans e4
  refine b3.fput (off := 0) (show 0 < 3 by decide) u_impl_Server rfl i_s_string (sl_one o4.I.sl) fun w5 b5 g5 => ?_
  have E5 : Ext w w5 := ext_of_grown E4 (fun g hg => Nat.le_trans s23 (b3.blk_lt hg).1) g5
  have o5 := o4.kt g5 (Ty.box b3)
  have b1 := keep_box b1 g5 (Ty.box b3) (by decide)
  have b2 := b2.kept g5 (.inr n23)
  refine b1.fld (off := 1) rfl u_laws_Server rfl i_s_laws_Program u_s_laws_Program rfl ?_
  refine c_to_ProgramS (A_ProgramS.ext hb E5) (by omega) fun b' w6 e6 o6 => ?_
  have b1 := b1.ext e6
  have b2 := b2.ext e6
  have b5 := b5.ext e6
  have o5 := o5.ext e6
  have E6 := E5.trans e6
  refine b5.fput (off := 1) (show 1 < 3 by decide) u_impl_Server rfl i_s_impl_Program (sl_one (RP1.sl o6.I)) fun w7 b7 g7 => ?_
  have E7 : Ext w w7 := ext_of_grown E6 (fun g hg => Nat.le_trans s23 (b5.blk_lt hg).1) g7
  have o5 := o5.kt g7 (Ty.box b5)
  have o7 := o6.kt g7 (Ty.box b5)
  have b1 := keep_box b1 g7 (Ty.box b5) (by decide)
  have b2 := b2.kept g7 (.inr n23)
  refine b1.fld (off := 2) rfl u_laws_Server rfl i_s_laws_Kept u_s_laws_Kept rfl ?_
  refine c_to_KeptS (KR.ext hc E7) (by omega) fun c' w8 e8 o8 => ?_
  have b2 := b2.ext e8
  have b7 := b7.ext e8
  have o5 := o5.ext e8
  have o7 := o7.ext e8
  have E8 := E7.trans e8
  refine b7.fput (off := 2) (show 2 < 3 by decide) u_impl_Server rfl i_s_impl_Kept (sl_one (KR.sl o8.I)) fun w9 b9 g9 => ?_
  have E9 : Ext w w9 := ext_of_grown E8 (fun g hg => Nat.le_trans s23 (b7.blk_lt hg).1) g9
  have o5 := o5.kt g9 (Ty.box b7)
  have o7 := o7.kt g9 (Ty.box b7)
  have o9 := o8.kt g9 (Ty.box b7)
  have b2 := b2.kept g9 (.inr n23)
  have b9 : Bx w9 w2.heap.size t_impl_Server z [a', b', c'] := b9
  refine b9.get u_impl_Server rfl i_impl_Server rfl ?_
  refine b2.put i_impl_Server (ds := [a', b', c']) rfl rfl (one_sl3 o4.I.sl (RP1.sl o6.I) (KR.sl o8.I)) fun w10 b10 g10 => ?_
  refine b10.getc u_impl_Server rfl i_impl_Server rfl ?_
  have E10 : Ext w w10 := ext_of_grown E9 (fun g hg => Nat.le_trans e1.size (b2.blk_lt hg).1) g10
  have t2 := Ty.box b2
  refine H _ w10 E10 ⟨a', b', c', rfl, (o5.kt g10 t2).mono E3.size ?_, (o7.kt g10 t2).mono E5.size ?_, (o9.kt g10 t2).mono E7.size ?_⟩
  · exact Nat.le_trans g5.size (Nat.le_trans e6.size (Nat.le_trans g7.size (Nat.le_trans e8.size (Nat.le_trans g9.size g10.size))))
  · exact Nat.le_trans g7.size (Nat.le_trans e8.size (Nat.le_trans g9.size g10.size))
  · exact Nat.le_trans g9.size g10.size
theorem sv_0 {base : Nat} {x a b c : Value} {K : Value → Prop} (h : Bx w base t_impl_Server x [a, b, c]) (H : K a) : fda P t_impl_Server x 0 w (fun y => ld P t_s_string y w K) := h.fld (off := 0) rfl u_impl_Server rfl i_s_string u_s_string rfl H
theorem sv_1 {base : Nat} {x a b c : Value} {K : Value → Prop} (h : Bx w base t_impl_Server x [a, b, c]) (H : K b) : fda P t_impl_Server x 1 w (fun y => ld P t_s_impl_Program y w K) := h.fld (off := 1) rfl u_impl_Server rfl i_s_impl_Program u_s_impl_Program rfl H
theorem sv_2 {base : Nat} {x a b c : Value} {K : Value → Prop} (h : Bx w base t_impl_Server x [a, b, c]) (H : K c) : fda P t_impl_Server x 2 w (fun y => ld P t_s_impl_Kept y w K) := h.fld (off := 2) rfl u_impl_Server rfl i_s_impl_Kept u_s_impl_Kept rfl H
theorem c_eq_Server {u : Value} {s : SV} (h1 : I_Server w u s) (h2 : I_Server w v s) (H : ∀ w', Ext w w' → K (.bool true) w') : call P f_laws_eqServer [u, v] w K := by
  obtain ⟨a, b, c, rfl, ha, hb, hc⟩ := h1
  obtain ⟨a', b', c', rfl, ha', hb', hc'⟩ := h2
  refine I_laws_eqServer ?_
  unfold D_laws_eqServer
  refine bx_sv fun x w1 b1 e1 => ?_
  refine bx_sv fun y w2 b2 e2 => ?_
  have b1 := b1.ext e2
  have E := e1.trans e2
  refine sv_0 b1 ?_
  refine sv_0 b2 ?_
  refine c_eq_StringS (ha.ext E) (ha'.ext E) fun w3 e3 => ?_
  rw [una_not, Bool.not_true, cnd_false]
  have b1 := b1.ext e3
  have b2 := b2.ext e3
  have E := E.trans e3
  refine sv_1 b1 ?_
  refine sv_1 b2 ?_
  refine c_eq_ProgramS (I_ProgramS.ext hb E) (I_ProgramS.ext hb' E) fun w4 e4 => ?_
  rw [una_not, Bool.not_true, cnd_false]
  have b1 := b1.ext e4
  have b2 := b2.ext e4
  have E := E.trans e4
  refine sv_2 b1 ?_
  refine sv_2 b2 ?_
  refine c_eq_KeptS (KR.ext hc E) (KR.ext hc' E) fun w5 e5 => ?_
  rw [una_not, Bool.not_true, cnd_false]
  exact H _ (E.trans e5)
end Go.Proofs.YtjompmflommadaaGreatDoor


set_option linter.unusedVariables false
set_option linter.unusedSimpArgs false
namespace Go.Proofs.YtjompmflommadaaGreatDoor
open Go Go.Vc
variable {w : World} {K : Value → World → Prop}
def letB (b : UInt8) : Bool := decide (97 ≤ b.toNat ∧ b.toNat ≤ 122)
def nameB (s : List UInt8) : Bool := decide (1 ≤ s.length ∧ s.length ≤ 8) && s.all letB
theorem nameB_bad {s : List UInt8} {i : Nat} (hi : i < s.length) (h : ¬ (97 ≤ s[i].toNat ∧ s[i].toNat ≤ 122)) : nameB s = false := by
  unfold nameB
  have : s.all letB = false := by
    rw [← Bool.not_eq_true, List.all_eq_true]
    intro ha
    have := ha _ (List.getElem_mem hi)
    unfold letB at this
    exact h (of_decide_eq_true this)
  rw [this, Bool.and_false]
theorem nameB_end {s : List UInt8} (h : ∀ i (hi : i < s.length), 97 ≤ s[i].toNat ∧ s[i].toNat ≤ 122) : nameB s = decide (1 ≤ s.length ∧ s.length ≤ 8) := by
  unfold nameB
  have : s.all letB = true := by
    rw [List.all_eq_true]
    intro b hb
    obtain ⟨i, hi, rfl⟩ := List.getElem_of_mem hb
    exact decide_eq_true (h i hi)
  rw [this, Bool.and_true]
theorem c_isName {s : List UInt8} (hs : s.length ≤ 4611686018427387904) (H : K (.bool (nameB s)) w) : call P f_impl_isName [str s] w K := by
  refine I_impl_isName ?_
  unfold D_impl_isName
  rw [show (Value.string ⟨#[]⟩) = str [] from rfl, eql_str]
  by_cases h0 : s = []
  · have hn : nameB s = false := by rw [h0]; rfl
    rw [hn] at H
    refine orJ (fun _ => cnd_yes rfl H) (fun h => absurd h0 (of_decide_eq_false h))
  refine orJ (fun h => absurd (of_decide_eq_true h) h0) (fun _ => ?_)
  rw [len_str u_string, bin_gtr]
  have hpos : 1 ≤ s.length := by cases s; exact absurd rfl h0; simp
  refine cnd_dec (fun h1 => ?_) (fun h1 => ?_)
  · have hn : nameB s = false := by unfold nameB; rw [decide_eq_false (by omega), Bool.false_and]
    rw [hn] at H; exact H
  rw [len_str u_string]
  refine ⟨fun g x w' => w' = w ∧ ∃ i : Nat, x = .int .i64 i ∧ g + i = s.length ∧ ∀ j (hj : j < s.length), j < i → 97 ≤ s[j].toNat ∧ s[j].toNat ≤ 122, ⟨s.length, rfl, 0, rfl, by omega, fun j _ h => absurd h (Nat.not_lt_zero _)⟩, ?_⟩
  rintro g x junk w1 ⟨rfl, i, rfl, hg, hall⟩
  rw [bin_lss]
  refine cnd_dec (fun hlt => ?_) (fun hge => ?_)
  · have hi : i < s.length := by omega
    rw [idx_str u_string hi, bin_lss]
    by_cases hlo : s[i].toNat < 97
    · have hn := nameB_bad hi (by omega)
      rw [hn] at H
      rw [decide_eq_true (by omega)]
      exact orJ (fun _ => cnd_yes rfl H) (fun h => by cases h)
    · rw [decide_eq_false (by omega)]
      refine orJ (fun h => by cases h) (fun _ => ?_)
      rw [idx_str u_string hi, bin_gtr]
      refine cnd_dec (fun hh => ?_) (fun hh => ?_)
      · have hn := nameB_bad hi (by omega)
        rw [hn] at H; exact H
      · rw [bin_add, wrap_i64 (by omega) (by omega)]
        refine ⟨g - 1, by omega, rfl, i + 1, rfl, by omega, fun j hj hji => ?_⟩
        by_cases h : j < i
        · exact hall j hj h
        · obtain rfl : j = i := by omega
          omega
  · have := nameB_end fun j hj => hall j hj (by omega)
    rw [this, decide_eq_true (by omega)] at H
    exact H
theorem c_l12Name {s : List UInt8} (hs : s.length ≤ 4611686018427387904) (H : K (.bool (nameB s)) w) : call P f_spec_l12Name [str s] w K := by
  refine I_spec_l12Name ?_
  unfold D_spec_l12Name
  refine ⟨fun g x w' => w' = w ∧ ∃ i : Nat, x = .int .i64 i ∧ g + i = s.length ∧ ∀ j (hj : j < s.length), j < i → 97 ≤ s[j].toNat ∧ s[j].toNat ≤ 122, ⟨s.length, rfl, 0, rfl, by omega, fun j _ h => absurd h (Nat.not_lt_zero _)⟩, ?_⟩
  rintro g x junk w1 ⟨rfl, i, rfl, hg, hall⟩
  rw [len_str u_string, bin_lss]
  refine cnd_dec (fun hlt => ?_) (fun hge => ?_)
  · have hi : i < s.length := by omega
    rw [idx_str u_string hi, bin_lss]
    by_cases hlo : s[i].toNat < 97
    · have hn := nameB_bad hi (by omega)
      rw [hn] at H
      rw [decide_eq_true (by omega)]
      exact orJ (fun _ => cnd_yes rfl H) (fun h => by cases h)
    · rw [decide_eq_false (by omega)]
      refine orJ (fun h => by cases h) (fun _ => ?_)
      rw [idx_str u_string hi, bin_gtr]
      refine cnd_dec (fun hh => ?_) (fun hh => ?_)
      · have hn := nameB_bad hi (by omega)
        rw [hn] at H; exact H
      · rw [bin_add, wrap_i64 (by omega) (by omega)]
        refine ⟨g - 1, by omega, rfl, i + 1, rfl, by omega, fun j hj hji => ?_⟩
        by_cases h : j < i
        · exact hall j hj h
        · obtain rfl : j = i := by omega
          omega
  · have hn := nameB_end fun j hj => hall j hj (by omega)
    rw [hn] at H
    rw [len_str u_string, bin_geq]
    refine andJ (fun h => ?_) (fun h => ?_)
    · have h' := of_decide_eq_true h
      rw [len_str u_string, bin_leq]
      rw [show decide (1 ≤ s.length ∧ s.length ≤ 8) = decide ((s.length : Int) ≤ 8) by by_cases h8 : s.length ≤ 8 <;> simp [h8] <;> omega] at H
      exact H
    · have h' := of_decide_eq_false h
      rw [decide_eq_false (by omega)] at H
      exact H
theorem place_done {α : Type} {l : List α} {i j : Nat} (hi : i < l.length) (hj : j ≤ i) (he : l[j] = l[i]) (hn : l[i] ∉ l.take j) : (j = i ↔ l[i] ∉ l.take i) := by
  constructor
  · rintro rfl; exact hn
  · intro h
    refine Classical.byContradiction fun hne => h ?_
    rw [← he]
    have : j < (l.take i).length := by simp; omega
    have e : l[j] = (l.take i)[j] := by simp
    rw [e]; exact List.getElem_mem this
theorem place_next {α : Type} {l : List α} {x : α} {j : Nat} (hj : j < l.length) (he : l[j] ≠ x) (hn : x ∉ l.take j) : x ∉ l.take (j + 1) := by
  rw [List.take_succ_eq_append_getElem hj]
  intro h
  rcases List.mem_append.1 h with h | h
  · exact hn h
  · exact he (List.mem_singleton.1 h).symm
def keys (ks : List KP) : PG := ks.map (·.1)
def svP (s : SV) : Prop := s.1.length ≤ 8 ∧ s.1.length = s.2.1.length ∧ s.2.2.length ≤ 16 ∧ (∀ i (h : i < s.1.length) (h' : i < s.2.1.length), nameB s.1[i] = true ∧ isPF s.2.1[i] = true ∧ s.1[i] ∉ s.1.take i) ∧ ∀ i (h : i < (keys s.2.2).length), (keys s.2.2)[i] ∉ (keys s.2.2).take i
open Classical in
noncomputable def svB (s : SV) : Bool := decide (svP s)
theorem c_l12Place {v : Value} {s : SV} {i : Nat} (h : I_Server w v s) (hi : i < s.1.length) (H : ∀ (r : Nat) w', Ext w w' → (r = i ↔ s.1[i] ∉ s.1.take i) → K (.int .i64 r) w') : call P f_spec_l12Place [v, str s.1[i]] w K := by
  obtain ⟨a, b, c, rfl, ha, hb, hc⟩ := h
  refine I_spec_l12Place ?_
  unfold D_spec_l12Place
  refine bx_sv fun x w1 b1 e1 => ?_
  have ha := ha.ext e1
  have hbd := ha.bound
  refine ⟨fun g x w' => w' = w1 ∧ ∃ j : Nat, x = .int .i64 j ∧ g + j = s.1.length ∧ j ≤ i ∧ s.1[i] ∉ s.1.take j, ⟨s.1.length, rfl, 0, rfl, by omega, Nat.zero_le _, by simp⟩, ?_⟩
  rintro g y junk w2 ⟨rfl, j, rfl, hg, hji, hn⟩
  refine sv_0 b1 ?_
  rw [ha.len, bin_lss]
  refine cnd_dec (fun hlt => ?_) (fun hge => by omega)
  have hj : j < s.1.length := by omega
  refine sv_0 b1 ?_
  refine ha.at hj ?_
  rw [eql_str]
  refine cnd_dec (fun he => ?_) (fun he => ?_)
  · exact H j _ e1 (place_done hi hji he hn)
  · rw [bin_add, wrap_i64 (by omega) (by omega)]
    have : j ≠ i := fun e => he (by subst e; rfl)
    exact ⟨g - 1, by omega, rfl, j + 1, rfl, by omega, by omega, place_next hj he hn⟩
theorem keys_get {ks : List KP} {i : Nat} (h : i < ks.length) : (keys ks)[i]'(by simpa [keys] using h) = ks[i].1 := by simp [keys]
theorem c_l12Key {v : Value} {s : SV} {i : Nat} (h : I_Server w v s) (hi : i < (keys s.2.2).length) (H : ∀ (r : Nat) w', Ext w w' → (r = i ↔ (keys s.2.2)[i] ∉ (keys s.2.2).take i) → K (.int .i64 r) w') : call P f_spec_l12Key [v, str (keys s.2.2)[i]] w K := by
  obtain ⟨a, b, c, rfl, ha, hb, hc⟩ := h
  refine I_spec_l12Key ?_
  unfold D_spec_l12Key
  refine bx_sv fun x w1 b1 e1 => ?_
  have hc := KR.ext hc e1
  have hbd := hc.bound
  have hl : (keys s.2.2).length = s.2.2.length := by simp [keys]
  refine ⟨fun g x w' => w' = w1 ∧ ∃ j : Nat, x = .int .i64 j ∧ g + j = s.2.2.length ∧ j ≤ i ∧ (keys s.2.2)[i] ∉ (keys s.2.2).take j, ⟨s.2.2.length, rfl, 0, rfl, by omega, Nat.zero_le _, by simp⟩, ?_⟩
  rintro g y junk w2 ⟨rfl, j, rfl, hg, hji, hn⟩
  refine sv_2 b1 ?_
  rw [hc.row.len u_s_impl_Kept, bin_lss]
  refine cnd_dec (fun hlt => ?_) (fun hge => by omega)
  have hj : j < s.2.2.length := by omega
  refine sv_2 b1 ?_
  refine hc.row.fld hj (kcs_get0 hj) u_s_impl_Kept i_impl_Kept u_impl_Kept (off := 0) rfl i_string u_string rfl ?_
  rw [eql_str]
  have hk := keys_get hj
  refine cnd_dec (fun he => ?_) (fun he => ?_)
  · exact H j _ e1 (place_done hi hji (hk.trans he) hn)
  · rw [bin_add, wrap_i64 (by omega) (by omega)]
    have : j ≠ i := fun e => he (by subst e; exact hk.symm)
    exact ⟨g - 1, by omega, rfl, j + 1, rfl, by omega, by omega, place_next (by omega) (by rw [hk]; exact he) hn⟩
theorem c_Index {v : Value} {l : PG} {x : List UInt8} (h : SS w v l) (H : ∀ r : Int, (0 ≤ r ↔ x ∈ l) → K (.int .i64 r) w) : call P f_slices_Index_string_string [v, str x] w K := by
  refine I_slices_Index_string_string ?_
  unfold D_slices_Index_string_string
  have hbd := h.bound
  rw [h.len]
  refine ⟨fun g y w' => w' = w ∧ ∃ j : Nat, y = .int .i64 j ∧ g + j = l.length ∧ x ∉ l.take j, ⟨l.length, rfl, 0, rfl, by omega, by simp⟩, ?_⟩
  rintro g y junk w2 ⟨rfl, j, rfl, hg, hn⟩
  rw [bin_lss]
  refine cnd_dec (fun hlt => ?_) (fun hge => ?_)
  · have hj : j < l.length := by omega
    refine h.at hj ?_
    rw [eql_str]
    refine cnd_dec (fun he => ?_) (fun he => ?_)
    · exact H j ⟨fun _ => by rw [he]; exact List.getElem_mem hj, fun _ => by omega⟩
    · rw [bin_add, wrap_i64 (by omega) (by omega)]
      exact ⟨g - 1, by omega, rfl, j + 1, rfl, by omega, place_next hj (fun e => he e.symm) hn⟩
  · rw [List.take_of_length_le (by omega)] at hn
    exact H (-1) ⟨fun h => by omega, fun h => absurd h hn⟩
theorem c_Contains {v : Value} {l : PG} {x : List UInt8} (h : SS w v l) (H : ∀ b : Bool, (b = true ↔ x ∈ l) → K (.bool b) w) : call P f_slices_Contains_string_string [v, str x] w K := by
  refine I_slices_Contains_string_string ?_
  unfold D_slices_Contains_string_string
  refine c_Index h fun r hr => ?_
  rw [bin_geq]
  exact H _ (by rw [decide_eq_true_iff]; exact hr)
theorem SS.take {v : Value} {l : PG} {ik : IntKind} {k : Nat} {K : Value → Prop} (h : SS w v l) (hk : k ≤ l.length) (H : ∀ v', SS w v' (l.take k) → K v') : sli P t_s_string v none (some (.int ik (k : Int))) none w K :=
  h.row.sli_h h.cap u_s_string i_string hk fun v' hr hc _ _ => H v' ⟨by rw [List.length_take, Nat.min_eq_left hk, List.map_take]; exact hr, fun s hs => h.lt s (List.mem_of_mem_take hs), hc⟩
theorem KR.take {B : Nat} {v : Value} {l : List KP} {ik : IntKind} {k : Nat} {K : Value → Prop} (h : KR B w v l) (hk : k ≤ l.length) (H : ∀ v', KR B w v' (l.take k) → K v') : sli P t_s_impl_Kept v none (some (.int ik (k : Int))) none w K := by
  obtain ⟨⟨r1, r2, a, cap, rfl, r3⟩, lt, hc⟩ := h
  have hc' : l.length ≤ cap := hc
  rw [sli_h u_s_impl_Kept i_impl_Kept (by omega)]
  refine H _ ⟨⟨kcs_len _, by rw [List.length_take]; omega, a, cap, by rw [List.length_take, Nat.min_eq_left hk], fun hn => ?_⟩, fun s hs => lt s (List.mem_of_mem_take hs), show k ≤ cap by omega⟩
  rw [List.length_take, Nat.min_eq_left hk] at hn
  obtain ⟨bb, o, rfl, q⟩ := r3 (by omega)
  refine ⟨bb, o, rfl, fun j u hu => q j u ?_⟩
  rw [← kcs_take, List.getElem?_take] at hu
  split at hu
  · exact hu
  · cases hu
end Go.Proofs.YtjompmflommadaaGreatDoor


set_option linter.unusedVariables false
set_option linter.unusedSimpArgs false
namespace Go.Proofs.YtjompmflommadaaGreatDoor
open Go Go.Vc
variable {w : World} {K : Value → World → Prop}
theorem svB_no {s : SV} (h : ¬ svP s) : svB s = false := by unfold svB; exact @decide_eq_false _ (Classical.propDecidable _) h
theorem svB_yes {s : SV} (h : svP s) : svB s = true := by unfold svB; exact @decide_eq_true _ (Classical.propDecidable _) h
def nmP (s : SV) (i : Nat) : Prop := ∀ j (h : j < s.1.length) (h' : j < s.2.1.length), j < i → nameB s.1[j] = true ∧ isPF s.2.1[j] = true ∧ s.1[j] ∉ s.1.take j
def kpP (s : SV) (i : Nat) : Prop := ∀ j (h : j < (keys s.2.2).length), j < i → (keys s.2.2)[j] ∉ (keys s.2.2).take j
theorem svP_name {s : SV} {i : Nat} (hs : svP s) (h : i < s.1.length) (h' : i < s.2.1.length) : nameB s.1[i] = true ∧ isPF s.2.1[i] = true ∧ s.1[i] ∉ s.1.take i := hs.2.2.2.1 i h h'
theorem nmP_step {s : SV} {i : Nat} (hp : nmP s i) (h : i < s.1.length) (h' : i < s.2.1.length) (h1 : nameB s.1[i] = true) (h2 : isPF s.2.1[i] = true) (h3 : s.1[i] ∉ s.1.take i) : nmP s (i + 1) := by
  intro j hj hj' hji
  by_cases hlt : j < i
  · exact hp j hj hj' hlt
  · obtain rfl : j = i := by omega
    exact ⟨h1, h2, h3⟩
theorem kpP_step {s : SV} {i : Nat} (hp : kpP s i) (h : i < (keys s.2.2).length) (h3 : (keys s.2.2)[i] ∉ (keys s.2.2).take i) : kpP s (i + 1) := by
  intro j hj hji
  by_cases hlt : j < i
  · exact hp j hj hlt
  · obtain rfl : j = i := by omega
    exact h3
theorem I_ProgramS.at {v : Value} {ps : List PG} {k : IntKind} {i : Nat} {K : Value → Prop} (h : I_ProgramS w v ps) (hi : i < ps.length) (H : ∀ s, SS w s ps[i] → K (.agg #[s])) : ixa P t_s_impl_Program v (.int k (i : Int)) w (fun a => ld P t_impl_Program a w K) :=
  RP1.at h hi u_s_impl_Program i_impl_Program u_impl_Program rfl H
theorem sv_all {base : Nat} {x a b c : Value} {K : Value → Prop} (h : Bx w base t_impl_Server x [a, b, c]) (H : K (.agg #[a, b, c])) : ld P t_impl_Server x w K := h.get u_impl_Server rfl i_impl_Server rfl H
set_option maxRecDepth 20000 in
theorem c_l12Is {v : Value} {s : SV} (h : I_Server w v s) (H : ∀ w', Ext w w' → K (.bool (svB s)) w') : call P f_spec_l12Is [v] w K := by
  obtain ⟨a, b, c, rfl, ha, hb, hc⟩ := h
  have bad : ¬ svP s → ∀ {w'}, Ext w w' → K (.bool false) w' := fun hn w' e => by have := H w' e; rw [svB_no hn] at this; exact this
  have hba := ha.bound
  have hbb := hb.bound
  have hbc := hc.bound
  refine I_spec_l12Is ?_
  unfold D_spec_l12Is
  refine bx_sv fun x w1 b1 e1 => ?_
  have ha := ha.ext e1
  have hb := I_ProgramS.ext hb e1
  have hc := KR.ext hc e1
  refine sv_0 b1 ?_
  rw [ha.len, bin_gtr]
  refine orJ (fun h1 => ?_) (fun h1 => ?_)
  · refine orJ (fun _ => cnd_yes rfl (bad (fun hs => by have := of_decide_eq_true h1; have := hs.1; omega) e1)) (fun h => by cases h)
  refine sv_1 b1 ?_
  rw [RP1.len hb u_s_impl_Program]
  refine sv_0 b1 ?_
  rw [ha.len, bin_neq]
  refine orJ (fun h2 => cnd_yes rfl (bad (fun hs => by have := of_decide_eq_true h2; have := hs.2.1; omega) e1)) (fun h2 => ?_)
  refine sv_2 b1 ?_
  rw [hc.row.len u_s_impl_Kept, bin_gtr]
  refine cnd_dec (fun h3 => bad (fun hs => by have := hs.2.2.1; omega) e1) (fun h3 => ?_)
  have k1 := of_decide_eq_false h1
  have k2 : s.1.length = s.2.1.length := by have := of_decide_eq_false h2; omega
  refine ⟨fun g y w' => Ext w1 w' ∧ ∃ i : Nat, y = .int .i64 i ∧ g + i = s.1.length ∧ nmP s i, ⟨s.1.length, Ext.refl _, 0, rfl, by omega, fun j _ _ h => absurd h (Nat.not_lt_zero _)⟩, ?_⟩
  rintro g y junk w2 ⟨e2, i, rfl, hg, hp⟩
  have E2 := e1.trans e2
  have b2 := b1.ext e2
  have ha2 := ha.ext e2
  have hb2 := I_ProgramS.ext hb e2
  have hc2 := KR.ext hc e2
  refine sv_0 b2 ?_
  rw [ha2.len, bin_lss]
  refine cnd_dec (fun hlt => ?_) (fun hge => ?_)
  · have hi : i < s.1.length := by omega
    have hi' : i < s.2.1.length := by omega
    refine sv_0 b2 ?_
    refine ha2.at hi ?_
    refine c_l12Name (ha2.le hi) ?_
    rw [una_not]
    have out : ∀ {w3 : World}, Ext w2 w3 → nameB s.1[i] = true → isPF s.2.1[i] = true → s.1[i] ∉ s.1.take i → bin P .add t_int false true (.int .i64 i) (.int .i64 1) w3 fun x30 => ∃ m44, m44 < g ∧ Ext w1 w3 ∧ ∃ i : Nat, x30 = .int .i64 i ∧ m44 + i = s.1.length ∧ nmP s i := fun e3 q1 q2 q3 => by
      rw [bin_add, wrap_i64 (by omega) (by omega)]
      exact ⟨g - 1, by omega, e2.trans e3, i + 1, rfl, by omega, nmP_step hp hi hi' q1 q2 q3⟩
    refine orJ (fun q1 => ?_) (fun q1 => ?_)
    · refine orJ (fun _ => cnd_yes rfl (bad (fun hs => by have := (svP_name hs hi hi').1; rw [this] at q1; cases q1) E2)) (fun h => by cases h)
    refine sv_1 b2 ?_
    refine I_ProgramS.at hb2 hi' fun p hp' => ?_
    refine c_l08Is ⟨p, rfl, hp'⟩ fun w3 e3 => ?_
    rw [una_not]
    refine orJ (fun q2 => ?_) (fun q2 => ?_)
    · exact cnd_yes rfl (bad (fun hs => by have := (svP_name hs hi hi').2.1; unfold isPF at this; rw [this] at q2; cases q2) (E2.trans e3))
    have b3 := b2.ext e3
    have ha3 := ha2.ext e3
    refine sv_all b3 ?_
    refine sv_0 b3 ?_
    refine ha3.at hi ?_
    refine c_l12Place ⟨a, b, c, rfl, ha3, I_ProgramS.ext hb2 e3, KR.ext hc2 e3⟩ hi fun r w4 e4 hr => ?_
    rw [bin_neq]
    refine cnd_dec (fun q3 => ?_) (fun q3 => ?_)
    · exact bad (fun hs => by have := hr.2 (svP_name hs hi hi').2.2; omega) (E2.trans (e3.trans e4))
    · exact out (e3.trans e4) (by simpa using q1) (by unfold isPF; simpa using q2) (hr.1 (by omega))
  · have hi : s.1.length ≤ i := by omega
    refine ⟨fun g y w' => Ext w1 w' ∧ ∃ i : Nat, y = .int .i64 i ∧ g + i = s.2.2.length ∧ kpP s i, ⟨s.2.2.length, e2, 0, rfl, by omega, fun j _ h => absurd h (Nat.not_lt_zero _)⟩, ?_⟩
    rintro g' y junk w3 ⟨e3, n, rfl, hg', hkp⟩
    have E3 := e1.trans e3
    have b3 := b1.ext e3
    have hc3 := KR.ext hc e3
    have hl : (keys s.2.2).length = s.2.2.length := by simp [keys]
    refine sv_2 b3 ?_
    rw [hc3.row.len u_s_impl_Kept, bin_lss]
    refine cnd_dec (fun hlt => ?_) (fun hge' => ?_)
    · have hn : n < s.2.2.length := by omega
      refine sv_all b3 ?_
      refine sv_2 b3 ?_
      refine hc3.row.fld hn (kcs_get0 hn) u_s_impl_Kept i_impl_Kept u_impl_Kept (off := 0) rfl i_string u_string rfl ?_
      rw [← keys_get hn]
      refine c_l12Key ⟨a, b, c, rfl, ha.ext e3, I_ProgramS.ext hb e3, hc3⟩ (by omega) fun r w4 e4 hr => ?_
      rw [bin_neq]
      refine cnd_dec (fun q3 => ?_) (fun q3 => ?_)
      · exact bad (fun hs => by have := hr.2 (hs.2.2.2.2 n (by omega)); omega) (E3.trans e4)
      · rw [bin_add, wrap_i64 (by omega) (by omega)]
        exact ⟨g' - 1, by omega, e3.trans e4, n + 1, rfl, by omega, kpP_step hkp (by omega) (hr.1 (by omega))⟩
    · have hs : svP s := ⟨by omega, k2, by omega, fun j hj hj' => hp j hj hj' (by omega), fun j hj => hkp j hj (by omega)⟩
      have := H w3 E3
      rw [svB_yes hs] at this
      exact this
theorem s_IsServer {v : Value} {s : SV} (h : I_Server w v s) (H : ∀ w', Ext w w' → K (.bool (svB s)) w') : call P f_spec_IsServer [v] w K := by
  obtain ⟨a, b, c, rfl, ha, hb, hc⟩ := h
  refine I_spec_IsServer ?_
  unfold D_spec_IsServer
  refine bx_sv fun x w1 b1 e1 => ?_
  refine sv_all b1 ?_
  exact c_l12Is ⟨a, b, c, rfl, ha.ext e1, I_ProgramS.ext hb e1, KR.ext hc e1⟩ fun w2 e2 => H w2 (e1.trans e2)
set_option maxRecDepth 20000 in
theorem p_IsServer {v : Value} {s : SV} (h : I_Server w v s) (H : ∀ w', Ext w w' → K (.bool (svB s)) w') : call P f_impl_IsServer [v] w K := by
  obtain ⟨a, b, c, rfl, ha, hb, hc⟩ := h
  have bad : ¬ svP s → ∀ {w'}, Ext w w' → K (.bool false) w' := fun hn w' e => by have := H w' e; rw [svB_no hn] at this; exact this
  have hba := ha.bound
  have hbb := hb.bound
  have hbc := hc.bound
  refine I_impl_IsServer ?_
  unfold D_impl_IsServer
  refine bx_sv fun x w1 b1 e1 => ?_
  have ha := ha.ext e1
  have hb := I_ProgramS.ext hb e1
  have hc := KR.ext hc e1
  refine sv_0 b1 ?_
  rw [ha.len, bin_gtr]
  refine orJ (fun h1 => ?_) (fun h1 => ?_)
  · refine orJ (fun _ => cnd_yes rfl (bad (fun hs => by have := of_decide_eq_true h1; have := hs.1; omega) e1)) (fun h => by cases h)
  refine sv_0 b1 ?_
  rw [ha.len]
  refine sv_1 b1 ?_
  rw [RP1.len hb u_s_impl_Program, bin_neq]
  refine orJ (fun h2 => cnd_yes rfl (bad (fun hs => by have := of_decide_eq_true h2; have := hs.2.1; omega) e1)) (fun h2 => ?_)
  refine sv_2 b1 ?_
  rw [hc.row.len u_s_impl_Kept, bin_gtr]
  refine cnd_dec (fun h3 => bad (fun hs => by have := hs.2.2.1; omega) e1) (fun h3 => ?_)
  have k1 := of_decide_eq_false h1
  have k2 : s.1.length = s.2.1.length := by have := of_decide_eq_false h2; omega
  refine sv_0 b1 ?_
  rw [ha.len]
  refine ⟨fun g y w' => Ext w1 w' ∧ ∃ i : Nat, y = .int .i64 i ∧ g + i = s.1.length ∧ nmP s i, ⟨s.1.length, Ext.refl _, 0, rfl, by omega, fun j _ _ h => absurd h (Nat.not_lt_zero _)⟩, ?_⟩
  rintro g y junk w2 ⟨e2, i, rfl, hg, hp⟩
  have E2 := e1.trans e2
  have b2 := b1.ext e2
  have ha2 := ha.ext e2
  have hb2 := I_ProgramS.ext hb e2
  rw [bin_lss]
  refine cnd_dec (fun hlt => ?_) (fun hge => ?_)
  · have hi : i < s.1.length := by omega
    have hi' : i < s.2.1.length := by omega
    refine ha2.at hi ?_
    refine c_isName (ha2.le hi) ?_
    rw [una_not]
    refine orJ (fun q1 => ?_) (fun q1 => ?_)
    · refine orJ (fun _ => cnd_yes rfl (bad (fun hs => by have := (svP_name hs hi hi').1; rw [this] at q1; cases q1) E2)) (fun h => by cases h)
    refine sv_0 b2 ?_
    refine ha2.take (by omega) fun v' hv' => ?_
    refine c_Contains hv' fun q hq => ?_
    refine orJ (fun q2 => cnd_yes rfl (bad (fun hs => (svP_name hs hi hi').2.2 (hq.1 q2)) E2)) (fun q2 => ?_)
    refine sv_1 b2 ?_
    refine I_ProgramS.at hb2 hi' fun p hp' => ?_
    refine c_impl_IsProgram ⟨p, rfl, hp'⟩ fun w3 e3 => ?_
    rw [una_not]
    refine cnd_split (fun q3 => ?_) (fun q3 => ?_)
    · exact bad (fun hs => by have := (svP_name hs hi hi').2.1; unfold isPF at this; rw [this] at q3; cases q3) (E2.trans e3)
    · rw [bin_add, wrap_i64 (by omega) (by omega)]
      exact ⟨g - 1, by omega, e2.trans e3, i + 1, rfl, by omega, nmP_step hp hi hi' (by simpa using q1) (by unfold isPF; simpa using q3) (fun hm => by rw [hq.2 hm] at q2; cases q2)⟩
  · have hl : (keys s.2.2).length = s.2.2.length := by simp [keys]
    refine sv_2 b2 ?_
    rw [(KR.ext hc e2).row.len u_s_impl_Kept]
    refine ⟨fun g y w' => Ext w1 w' ∧ ∃ i : Nat, y = .int .i64 i ∧ g + i = s.2.2.length ∧ kpP s i, ⟨s.2.2.length, e2, 0, rfl, by omega, fun j _ h => absurd h (Nat.not_lt_zero _)⟩, ?_⟩
    rintro g' y junk w3 ⟨e3, n, rfl, hg', hkp⟩
    have hc3 := KR.ext hc e3
    rw [bin_lss]
    refine cnd_dec (fun hlt => ?_) (fun hge' => ?_)
    · have hn : n < s.2.2.length := by omega
      refine KR.at hc3 hn u_s_impl_Kept i_impl_Kept u_impl_Kept rfl ?_
      refine alc_bx i_impl_Kept fun y w4 b4 e4 _ => ?_
      refine b4.put i_impl_Kept (ds := kc s.2.2[n]) rfl rfl (by intro u hu; simp only [List.mem_cons, List.not_mem_nil, or_false] at hu; rcases hu with rfl | rfl <;> rfl) fun w5 b5 g5 => ?_
      have e5 : Ext w3 w5 := ext_of_grown e4 (fun g hg => (b4.blk_lt hg).1) g5
      have E5 := e3.trans e5
      refine sv_2 (b1.ext E5) ?_
      refine KR.take (KR.ext hc E5) (by omega) fun v' hv' => ?_
      rw [hv'.row.len u_s_impl_Kept]
      have hlt' : (s.2.2.take n).length = n := by rw [List.length_take]; omega
      refine ⟨fun g y w' => Ext w5 w' ∧ ∃ i : Nat, y = .int .i64 i ∧ g + i = n ∧ s.2.2[n].1 ∉ (keys s.2.2).take i, ⟨n, Ext.refl _, 0, rfl, by omega, by simp⟩, ?_⟩
      rintro g'' y2 junk w6 ⟨e6, m, rfl, hg'', hni⟩
      have E6 := E5.trans e6
      rw [bin_lss, hlt']
      refine cnd_dec (fun hm => ?_) (fun hm => ?_)
      · have hm' : m < n := by omega
        refine KR.at (KR.ext hv' e6) (i := m) (by omega) u_s_impl_Kept i_impl_Kept u_impl_Kept rfl ?_
        refine alc_bx i_impl_Kept fun z w7 b7 e7 _ => ?_
        refine b7.put i_impl_Kept (ds := kc (s.2.2.take n)[m]) rfl rfl (by intro u hu; simp only [List.mem_cons, List.not_mem_nil, or_false] at hu; rcases hu with rfl | rfl <;> rfl) fun w8 b8 g8 => ?_
        have e8 : Ext w6 w8 := ext_of_grown e7 (fun g hg => (b7.blk_lt hg).1) g8
        have b5 := b5.ext (e6.trans e8)
        refine b8.fld (off := 0) rfl u_impl_Kept rfl i_string u_string rfl ?_
        refine b5.fld (off := 0) rfl u_impl_Kept rfl i_string u_string rfl ?_
        have hgm : (s.2.2.take n)[m] = s.2.2[m] := by simp
        rw [hgm, eql_str]
        have hmk : m < (keys s.2.2).length := by omega
        have hkm := keys_get (show m < s.2.2.length by omega)
        have hkn := keys_get hn
        refine cnd_dec (fun he => ?_) (fun he => ?_)
        · refine bad (fun hs => ?_) (e1.trans (E6.trans e8))
          have h5 := hs.2.2.2.2 n (by omega)
          rw [hkn, ← he, ← hkm] at h5
          refine h5 ?_
          have hmt : m < ((keys s.2.2).take n).length := by rw [List.length_take]; omega
          have : (keys s.2.2)[m] = ((keys s.2.2).take n)[m] := by simp
          rw [this]; exact List.getElem_mem hmt
        · rw [bin_add, wrap_i64 (by omega) (by omega)]
          exact ⟨g'' - 1, by omega, e6.trans e8, m + 1, rfl, by omega, place_next hmk (by rw [hkm]; exact he) hni⟩
      · have hmn : m = n := by omega
        subst hmn
        rw [bin_add, wrap_i64 (by omega) (by omega)]
        exact ⟨g' - 1, by omega, E6, m + 1, rfl, by omega, kpP_step hkp (by omega) (by rw [keys_get hn]; exact hni)⟩
    · have hs : svP s := ⟨by omega, k2, by omega, fun j hj hj' => hp j hj hj' (by omega), fun j hj => hkp j hj (by omega)⟩
      have := H w3 (e1.trans e3)
      rw [svB_yes hs] at this
      exact this
end Go.Proofs.YtjompmflommadaaGreatDoor


set_option linter.unusedVariables false
namespace Go.Proofs.YtjompmflommadaaGreatDoor
open Go Go.Vc
open Go.ChangeShapes Go.WideShapes Go.ChangeAt
section
variable {H : Type} {enc : TypeId × Value → H} {w : World} {base : Nat} {spare : Nat → Bool} {held : Bool} {fuel : Nat}
theorem open_rowc {t e : TypeId} {v : Value} {x : DataW H × List MemPlace} (hu : P.underlying t = some (.slice e)) (hc : P.cellsOf e = 1) (h : DataW.trod enc P w base (fun _ => true) held fuel t [v] = some x) :
    CapOk v ∧ ∃ (n : Nat) (vs : List Value), Row 1 w v n vs ∧ ∀ (i : Nat) (u : Value), vs[i]? = some u → ∃ m y, DataW.trod enc P w base (fun _ => true) held m e [u] = some y := by
  refine ⟨?_, open_row hu hc h⟩
  rcases Deep.open_slice1 hu hc h with ⟨hcs, _⟩ | ⟨a, len, cap, m, k, V, D, Pl, hcs, hb, hl, hm, hmm, _, hx⟩
  · obtain rfl : v = .slice none 0 0 := by simpa using hcs
    exact Nat.le_refl _
  · obtain rfl : v = .slice (some a) len cap := by simpa using hcs
    exact hl
theorem cells_string : P.cellsOf t_string = 1 := by kernel_rfl
theorem cells_s_string : P.cellsOf t_s_string = 1 := by kernel_rfl
set_option maxRecDepth 20000 in
theorem open_StringS {v : Value} {x : DataW H × List MemPlace} (h : DataW.trod enc P w base (fun _ => true) held fuel t_s_string [v] = some x) : ∃ l, A_StringS w v l := by
  obtain ⟨hcap, n, vs, hrow, hel⟩ := open_rowc u_s_string cells_string h
  obtain ⟨bs, h1, h2⟩ := list_of (p := fun u (b : List UInt8) => u = str b ∧ b.length ≤ 9223372036854775807) (l := vs) (fun i u hu => by
    obtain ⟨m, y, hy⟩ := hel i u hu
    obtain ⟨s, hs, _, hw⟩ := DataW.trod_string u_string hy
    refine ⟨s.data.toList, ?_, ?_⟩
    · simp only [List.cons.injEq, and_true] at hs
      rw [hs]
    · simp only [maxLen] at hw
      have : s.data.toList.length = s.size := Array.length_toList
      omega)
  have hn : bs.length = n := by have := hrow.1; omega
  have hmap : vs = bs.map str := by
    apply List.ext_getElem?
    intro i
    cases hi : vs[i]? with
    | none =>
      rw [List.getElem?_eq_none_iff] at hi
      exact (List.getElem?_eq_none_iff.2 (by simp; omega)).symm
    | some u =>
      obtain ⟨b, hb, rfl, _⟩ := h2 i u hi
      simp [hb]
  refine ⟨bs, ?_, fun b hb => ?_, hcap⟩
  · rw [hn, ← hmap]; exact hrow
  · obtain ⟨i, hi, rfl⟩ := List.getElem_of_mem hb
    have hi' : i < vs.length := by omega
    obtain ⟨b', hb', _, hlt⟩ := h2 i vs[i] (by simp [hi'])
    rw [List.getElem?_eq_getElem hi] at hb'
    cases hb'; exact hlt
theorem cells_laws_Program : P.cellsOf t_laws_Program = 1 := by kernel_rfl
set_option maxRecDepth 20000 in
theorem open_Program {cs : Array Value} {x : DataW H × List MemPlace} (h : DataW.trod enc P w base (fun _ => true) held fuel t_laws_Program cs.toList = some x) : ∃ l, A_Program w (.agg cs) l := by
  obtain ⟨xs, n, _, _, hl, hxs, hf⟩ := DataW.trod_struct u_laws_Program h
  rw [cells_laws_Program] at hl
  obtain ⟨s, hs⟩ : ∃ s, cs = #[s] := by
    match cs, hl with
    | ⟨[s]⟩, _ => exact ⟨s, rfl⟩
  subst hs
  have h0 := hf 0 _ rfl
  have hx : 0 < xs.length := by rw [hxs]; decide
  rw [List.getElem?_eq_getElem hx] at h0
  have h1 : DataW.trod enc P w base (fun _ => true) held n t_s_string [s] = some xs[0] := by
    have e : (([s] : List Value).drop 0).take (P.cellsOf t_s_string) = [s] := by rw [cells_s_string]; rfl
    rw [← e]; exact h0
  obtain ⟨l, hA⟩ := open_StringS h1
  exact ⟨l, s, rfl, hA⟩
end
theorem door_met5 (os : Os) (args : Array Value) : laidMetH Tryz.prog Rows.fnExactIsProgramRow.laid ((World.doorLaid Tryz.prog 72 os).forCall (fun _ _ => 0) ⟨#[], args, []⟩).memory :=
  laidMetH_of_parts3 (fuel := 8) (laidMet_of_run' 8 (by kernel_rfl) (by kernel_rfl)) (by kernel_rfl) (by kernel_rfl)
end Go.Proofs.YtjompmflommadaaGreatDoor


set_option linter.unusedVariables false
namespace Go.Proofs.YtjompmflommadaaGreatDoor
open Go Go.Vc
open Go.ChangeShapes Go.WideShapes Go.ChangeAt
section
variable {H : Type} {enc : TypeId × Value → H} {w : World} {base : Nat} {held : Bool} {fuel : Nat}
set_option maxRecDepth 20000 in
theorem open_ProgramS {v : Value} {x : DataW H × List MemPlace} (h : DataW.trod enc P w base (fun _ => true) held fuel t_s_laws_Program [v] = some x) : ∃ l, A_ProgramS w v l := by
  obtain ⟨n, vs, hrow, hel⟩ := open_row u_s_laws_Program cells_laws_Program h
  obtain ⟨ps, h1, h2⟩ := list_of (p := fun u (l : PG) => A_StringS w u l) (l := vs) (fun i u hu => by
    obtain ⟨m, y, hy⟩ := hel i u hu
    obtain ⟨l, s, hs, hA⟩ := open_Program (cs := #[u]) hy
    simp only [Value.agg.injEq, Array.mk.injEq, List.cons.injEq, and_true] at hs
    subst hs
    exact ⟨l, hA⟩)
  have hn : ps.length = n := by have := hrow.1; omega
  refine ⟨ps, vs, h1.symm, by rw [hn]; exact hrow, fun i hi hi' => ?_⟩
  obtain ⟨b, hb, hA⟩ := h2 i vs[i] (by simp [hi])
  rw [List.getElem?_eq_getElem hi'] at hb
  cases hb; exact hA
theorem cells_laws_Kept : P.cellsOf t_laws_Kept = 2 := by kernel_rfl
set_option maxRecDepth 20000 in
theorem open_KeptS {v : Value} {x : DataW H × List MemPlace} (h : DataW.trod enc P w base (fun _ => true) held fuel t_s_laws_Kept [v] = some x) : ∃ l, A_KeptS w v l := by
  rcases Deep.open_slice_pairs u_s_laws_Kept u_laws_Kept cells_laws_Kept rfl rfl cells_string cells_string h with ⟨hcs, _⟩ | ⟨a, len, cap, m, n, V0, V1, D0, D1, P0, P1, hcs, hb, hl, hm, hmm, _, hx⟩
  · obtain rfl : v = .slice none 0 0 := by simpa using hcs
    exact ⟨[], Row.nil 2 w, (fun p hp => by cases hp), Nat.le_refl _⟩
  · obtain rfl : v = .slice (some a) len cap := by simpa using hcs
    simp only [if_true] at hmm
    subst hmm
    have txt : ∀ {u : Value} {y}, DataW.trod enc P w base (fun _ => true) held n t_string [u] = some y → ∃ b : List UInt8, u = str b ∧ b.length ≤ 9223372036854775807 := fun hy => by
      obtain ⟨s, hs, _, hw⟩ := DataW.trod_string u_string hy
      refine ⟨s.data.toList, ?_, ?_⟩
      · simp only [List.cons.injEq, and_true] at hs
        rw [hs]
      · simp only [maxLen] at hw
        have : s.data.toList.length = s.size := Array.length_toList
        omega
    have each : ∀ i, i < m → ∃ p : KP, V0 i = str p.1 ∧ V1 i = str p.2 ∧ p.1.length ≤ 9223372036854775807 ∧ p.2.length ≤ 9223372036854775807 := fun i hi => by
      obtain ⟨_, _, q0, q1⟩ := hx i hi
      obtain ⟨b0, c0, l0⟩ := txt q0
      obtain ⟨b1, c1, l1⟩ := txt q1
      exact ⟨(b0, b1), c0, c1, l0, l1⟩
    obtain ⟨q, hq⟩ := Deep.choose_lt each
    refine ⟨(List.range len).map q, ?_, fun p hp => ?_, hl⟩
    · have hlen : ((List.range len).map q).length = len := by simp
      refine ⟨by rw [kcs_len], by rw [hlen]; omega, some a, m, by rw [hlen], fun hn => ?_⟩
      rw [hlen] at hn
      have h0 := (hx 0 (by omega)).1
      obtain ⟨b, o, sp⟩ := a
      have hsp : sp = none := by
        have := World.cell?_spot h0
        simpa [Addr.add] using this
      subst hsp
      refine ⟨b, o, rfl, fun j u hu => ?_⟩
      have hj : j < len * 2 := by
        have := (List.getElem?_eq_some_iff.1 hu).1
        rw [kcs_len, hlen] at this; exact this
      have hi : j / 2 < ((List.range len).map q).length := by rw [hlen]; omega
      have g0 := kcs_get0 hi
      have g1 := kcs_get1 hi
      simp only [List.getElem_map, List.getElem_range] at g0 g1
      obtain ⟨c0, c1, _, _⟩ := hx (j / 2) (by omega)
      obtain ⟨r0, r1, _⟩ := hq (j / 2) (by omega)
      rw [Addr.add_lit] at c0 c1
      rcases Nat.mod_two_eq_zero_or_one j with h2 | h2
      · rw [show j = j / 2 * 2 by omega] at hu ⊢
        rw [g0] at hu; cases hu
        rw [c0, r0]
      · rw [show j = j / 2 * 2 + 1 by omega] at hu ⊢
        rw [g1] at hu; cases hu
        rw [← Nat.add_assoc] at *
        rw [c1, r1]
    · simp only [List.mem_map, List.mem_range] at hp
      obtain ⟨i, hi, rfl⟩ := hp
      exact (hq i (by omega)).2.2
theorem cells_laws_Server : P.cellsOf t_laws_Server = 3 := by kernel_rfl
theorem cells_s_laws_Program : P.cellsOf t_s_laws_Program = 1 := by kernel_rfl
theorem cells_s_laws_Kept : P.cellsOf t_s_laws_Kept = 1 := by kernel_rfl
set_option maxRecDepth 20000 in
theorem open_Server {cs : Array Value} {x : DataW H × List MemPlace} (h : DataW.trod enc P w base (fun _ => true) held fuel t_laws_Server cs.toList = some x) : ∃ l, A_Server w (.agg cs) l := by
  obtain ⟨xs, n, _, _, hl, hxs, hf⟩ := DataW.trod_struct u_laws_Server h
  rw [cells_laws_Server] at hl
  obtain ⟨a, b, c, hs⟩ : ∃ a b c, cs = #[a, b, c] := by
    match cs, hl with
    | ⟨[a, b, c]⟩, _ => exact ⟨a, b, c, rfl⟩
  subst hs
  have h0 := hf 0 _ rfl
  have h1 := hf 1 _ rfl
  have h2 := hf 2 _ rfl
  have hx : xs.length = 3 := hxs
  rw [List.getElem?_eq_getElem (by omega)] at h0 h1 h2
  have g0 : DataW.trod enc P w base (fun _ => true) held n t_s_string [a] = some xs[0] := by
    have e : (([a, b, c] : List Value).drop 0).take (P.cellsOf t_s_string) = [a] := by rw [cells_s_string]; rfl
    rw [← e]; exact h0
  have g1 : DataW.trod enc P w base (fun _ => true) held n t_s_laws_Program [b] = some xs[1] := by
    have e : (([a, b, c] : List Value).drop 1).take (P.cellsOf t_s_laws_Program) = [b] := by rw [cells_s_laws_Program]; rfl
    rw [← e]; exact h1
  have g2 : DataW.trod enc P w base (fun _ => true) held n t_s_laws_Kept [c] = some xs[2] := by
    have e : (([a, b, c] : List Value).drop 2).take (P.cellsOf t_s_laws_Kept) = [c] := by rw [cells_s_laws_Kept]; rfl
    rw [← e]; exact h2
  obtain ⟨l0, A0⟩ := open_StringS g0
  obtain ⟨l1, A1⟩ := open_ProgramS g1
  obtain ⟨l2, A2⟩ := open_KeptS g2
  exact ⟨(l0, l1, l2), a, b, c, rfl, A0, A1, A2⟩
end
end Go.Proofs.YtjompmflommadaaGreatDoor


set_option linter.unusedVariables false
namespace Go.Proofs.YtjompmflommadaaGreatDoor
open Go
end Go.Proofs.YtjompmflommadaaGreatDoor


set_option linter.unusedVariables false
namespace Go.Proofs.YtjompmflommadaaGreatDoor
open Go Go.Vc
theorem reach_FnExactIsServer : Tryz.pinned.checked.prog.closure 8 = [8, 27, 51, 65, 12, 66, 109, 29, 53, 68, 14, 69, 113, 28, 67, 110, 52, 56, 89, 141, 191, 235, 214, 251, 170, 117, 120, 192, 236, 167, 237, 218, 172, 219, 164, 217, 252, 253, 254, 238, 270, 242, 212, 193, 111, 112, 30, 70, 71, 114, 15, 54, 103, 129, 182, 222, 255, 211, 247, 273, 248, 249, 250, 274, 223, 224, 256, 231, 221, 181, 178, 257, 137, 176, 220, 175, 186, 230, 124, 174, 189, 190, 234, 128, 179, 180, 225, 258, 275, 287, 288, 259, 276, 289, 277, 278, 291, 300, 302, 303, 304, 308, 307, 309, 305, 306, 310, 311, 312, 313, 290, 279, 226, 260, 183, 227, 228, 261, 233, 269, 280, 184, 229, 125, 262, 263, 281, 264, 282, 292, 265, 232, 268, 285, 298, 286, 299, 266, 177, 187, 267, 283, 284, 293, 301, 296, 294, 295, 297, 31, 55, 72, 16, 73, 115] := by kernel_rfl
theorem joined_FnExactIsServer : joinedFacts Tryz.pinned.checked.prog 8 Tryz.f8 Rows.fnExactIsServerSpec Rows.fnExactIsServerRow = true := by
  unfold joinedFacts Program.recurses Program.inPlace Program.varsNamed Program.unfollowed
  rw [reach_FnExactIsServer]
  kernel_rfl
end Go.Proofs.YtjompmflommadaaGreatDoor
