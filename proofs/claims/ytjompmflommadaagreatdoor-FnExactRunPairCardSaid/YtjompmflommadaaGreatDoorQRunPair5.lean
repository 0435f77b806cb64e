import Derived.Deep.SlicePairs
import Derived.Test.YtjompmflommadaaGreatDoorQRunPairVVcP
import Derived.Test.YtjompmflommadaaGreatDoorQRunPairVVcO
import Derived.LaidMore
import Derived.LaidOnce
import Derived.LaidHandle
import Derived.Test.YtjompmflommadaaGreatDoorRows
import Derived.Lay
import Derived.SevenTiedAt
import Derived.Laws.IdiomStrings
import Derived.ProofKit
import Derived.Test.YtjompmflommadaaGreatDoorQRunPair4
set_option linter.unusedSimpArgs false
set_option linter.unusedVariables false

set_option linter.unusedVariables false
set_option linter.unusedSimpArgs false
namespace Go.Proofs.YtjompmflommadaaGreatDoor
open Go Go.Vc
variable {w : World} {K : Value → World → Prop}
theorem fin_W {t : Nat} {q : Int} {s : Bool} (h : Cut t q) : Vc.Fin Ieee.single (W Ieee.single s t q) := by
  obtain ⟨k, l, r, _⟩ := read_any (s := s) hss h.has
  rcases fin_inf_nan Ieee.single (W Ieee.single s t q) with h1 | h1 | h1
  · exact h1
  · rw [read_inf (by decide) h1] at r; cases r
  · obtain ⟨x, hx⟩ := read_nan (f := Ieee.single) (by decide) h1
    rw [hx] at r; cases r
theorem roundF_fin {md m e : Int} (h : (roundF md m e).2 ≠ 5) : Vc.Fin Ieee.single (roundF md m e).1 := by
  unfold roundF at *
  split
  · decide
  · rename_i h0
    rw [if_neg h0] at h
    simp only at h ⊢
    split
    · rename_i h1
      rw [if_pos h1] at h
      exact absurd rfl h
    · rename_i h1
      have hq : -149 ≤ qOf m.natAbs e := by unfold qOf; omega
      exact fin_W ⟨cutT_le _ _ _ _, hq, by omega⟩
theorem pF_fin {l : List UInt8} {b : Nat} (h : pF l = some b) : b < 4294967296 ∧ Vc.Fin Ieee.single b := by
  unfold pF at h
  split at h
  · cases h
  · rename_i p hp
    split at h
    · rename_i h0
      simp only [Option.some.injEq] at h
      subst h
      refine ⟨rndQ_lt _ _, ?_⟩
      rw [rndQ_dy] at h0 ⊢
      exact roundF_fin (by rw [h0]; decide)
    · cases h
structure Mach (α : Type) where
  leaf : List UInt8 → α
  one : List UInt8 → α → α × Int
  two : List UInt8 → α → α → α × Int
  z : α
section
variable {α : Type} (M : Mach α) (ws : List (List UInt8))
noncomputable def Mach.step (l : List UInt8) (st : List α) : List α × Int :=
  if form0 l = 0 then (st ++ [M.leaf l], 0)
  else if form0 l = 1 then (st.take (st.length - 1) ++ [(M.one l (st.getD (st.length - 1) M.z)).1], (M.one l (st.getD (st.length - 1) M.z)).2)
  else (st.take (st.length - 2) ++ [(M.two l (st.getD (st.length - 2) M.z) (st.getD (st.length - 1) M.z)).1], (M.two l (st.getD (st.length - 2) M.z) (st.getD (st.length - 1) M.z)).2)
noncomputable def Mach.run : Nat → List α × Int
  | 0 => ([], 0)
  | i + 1 => if (Mach.run i).2 = 0 then M.step (ws.getD i []) (Mach.run i).1 else Mach.run i
noncomputable def Mach.res : α × Int := if (M.run ws ws.length).2 = 0 then ((M.run ws ws.length).1.getD 0 M.z, 0) else (M.z, (M.run ws ws.length).2)
theorem Mach.stop {i : Nat} (h : (M.run ws i).2 ≠ 0) : ∀ j, M.run ws (i + j) = M.run ws i
  | 0 => rfl
  | j + 1 => by
    rw [← Nat.add_assoc, Mach.run, Mach.stop h j, if_neg h]
theorem Mach.bad {i : Nat} (hi : i ≤ ws.length) (h : (M.run ws i).2 ≠ 0) : M.res ws = (M.z, (M.run ws i).2) := by
  have := M.stop ws h (ws.length - i)
  rw [Nat.add_sub_cancel' hi] at this
  unfold Mach.res
  rw [this, if_neg h]
theorem Mach.succ {i : Nat} {st : List α} (h : M.run ws i = (st, 0)) : M.run ws (i + 1) = M.step (ws.getD i []) st := by
  rw [Mach.run, h, if_pos rfl]
theorem depF_dpS {ws : List (List UInt8)} {m : Int} (h : depF ws = some m) : ∃ m', dpS ws ws.length = some (1, m') ∧ m' = m ∧ ws.length ≤ 60 ∧ 1 ≤ ws.length := by
  unfold depF at h
  split at h
  · rename_i h1
    split at h
    · cases h
    · rename_i a b e
      split at h
      · rename_i h2
        obtain ⟨rfl, _⟩ := h2
        exact ⟨b, e, by simpa using h, h1.2, h1.1⟩
      · cases h
  · cases h
theorem dep_step {ws : List (List UInt8)} {m : Int} (h : depF ws = some m) {i : Nat} (hi : i < ws.length) {a b : Int} (e : dpS ws i = some (a, b)) : 0 ≤ form0 ws[i] ∧ form0 ws[i] ≤ a ∧ dpS ws (i + 1) = some (a + 1 - form0 ws[i], max b (a + 1 - form0 ws[i])) := by
  have : ¬ (form0 ws[i] < 0 ∨ a < form0 ws[i]) := fun hb => by
    rw [dp_bad hi e hb] at h; cases h
  exact ⟨by omega, by omega, dp_step hi e this⟩
end
theorem getA_lt {α : Type} {l : List α} {i : Nat} (h : i < l.length) (d : α) : l.getD i d = l[i] := by
  rw [List.getD_eq_getElem?_getD, List.getElem?_eq_getElem h]; rfl
theorem flatten_take {s : Nat} : ∀ (k : Nat) {cs : List (List Value)}, (∀ c ∈ cs, c.length = s) → cs.flatten.take (k * s) = (cs.take k).flatten
  | 0, cs, _ => by simp
  | k + 1, [], _ => by simp
  | k + 1, c :: cs, h => by
    have hc := h c List.mem_cons_self
    rw [List.flatten_cons, List.take_succ_cons, List.flatten_cons, ← flatten_take k (fun c' h' => h c' (List.mem_cons_of_mem _ h')), List.take_append, hc,
      List.take_of_length_le (show c.length ≤ (k + 1) * s by rw [hc, Nat.succ_mul]; omega), show (k + 1) * s - s = k * s by rw [Nat.succ_mul]; omega]
section
variable {α : Type} {R : World → List Value → α → Prop} {s : Nat} {e t : TypeId} {base : Nat} {v : Value} {ls : List α} {z : Value} {b : Nat} {d : TypeDesc}
theorem owns_take {n k : Nat} {a : Option Addr} {cap : Nat} {xs : List Value} (h : w.ownsRow base e s (.slice a n cap) n xs) (hk : k ≤ n) : w.ownsRow base e s (.slice a k cap) k (xs.take (k * s)) := by
  obtain ⟨h1, h2⟩ := h
  refine ⟨by rw [List.length_take, h1]; exact Nat.min_eq_left (Nat.mul_le_mul_right _ hk), ?_⟩
  rcases h2 with ⟨h3, h4⟩ | ⟨g, cap', cur, h3, h4, h5, h6, h7, h8, h9⟩
  · simp only [Value.slice.injEq] at h3
    obtain ⟨rfl, _, rfl⟩ := h3
    exact .inl ⟨by rw [show k = 0 by omega], by omega⟩
  · simp only [Value.slice.injEq, true_and] at h3
    obtain ⟨rfl, rfl⟩ := h3
    refine .inr ⟨g, cap, cur, rfl, h4, h5, by omega, h7, h8, ?_⟩
    rw [← h9, List.take_take, Nat.min_eq_left (Nat.mul_le_mul_right _ hk)]
theorem SL.take {K : Value → Prop} {ik : IntKind} {k : Nat} (h : SL R s e w base v ls) (hk : k ≤ ls.length) (hu : P.underlying t = some (.slice e)) (ht : TI P e z s b) (H : ∀ v', SL R s e w base v' (ls.take k) → K v') :
    sli P t v none (some (.int ik (k : Int))) none w K := by
  obtain ⟨cs, h1, h2, h3, h4⟩ := h
  have hv : ∃ a cap, v = .slice a ls.length cap ∧ ls.length ≤ cap := by
    rcases h3.2 with ⟨h5, h6⟩ | ⟨g, cap, cur, h5, _, _, h6, _⟩
    · exact ⟨none, 0, by rw [h5, h6], by omega⟩
    · exact ⟨_, cap, h5, h6⟩
  obtain ⟨a, cap, rfl, hcap⟩ := hv
  rw [sli_h hu ht (by omega)]
  refine H _ ⟨cs.take k, by simp [h1], fun c hc => h2 c (List.mem_of_mem_take hc), ?_, fun i hi hi' => ?_⟩
  · have := owns_take h3 hk
    rw [flatten_take k h2] at this
    rw [List.length_take, Nat.min_eq_left hk]
    exact this
  · have := h4 i (by simp at hi; omega) (by simp at hi'; omega)
    simpa using this
end
noncomputable def askF (ws : List (List UInt8)) (fine : Bool) (n : Nat) : Int := if isPF ws = false ∨ fine = false then 1 else if (n : Int) < ndS ws ws.length ∨ 3 < n then 2 else 0
set_option maxRecDepth 20000 in
theorem c_asked {v : Value} {ws : List (List UInt8)} {fine : Bool} {n : Nat} (h : I_Program w v ws) (H : ∀ w', Ext w w' → K (.int .i64 (askF ws fine n)) w') : call P f_impl_asked [v, .bool fine, .int .i64 (n : Nat)] w K := by
  obtain ⟨s, rfl, hs⟩ := h
  refine I_impl_asked ?_
  unfold D_impl_asked
  refine bx_pr fun x w1 b1 e1 => ?_
  refine pr_all b1 ?_
  refine c_impl_IsProgram ⟨s, rfl, hs.ext e1⟩ fun w2 e2 => ?_
  rw [una_not]
  have E2 := e1.trans e2
  have b1 := b1.ext e2
  have hs := hs.ext E2
  refine orJ (fun h1 => ?_) (fun h1 => ?_)
  · rw [cnd_true]
    have : askF ws fine n = 1 := by unfold askF isPF; rw [if_pos (.inl (by simpa using h1))]
    rw [this] at H; exact H _ E2
  rw [una_not]
  refine cnd_split (fun h2 => ?_) (fun h2 => ?_)
  · have : askF ws fine n = 1 := by unfold askF; rw [if_pos (.inr (by simpa using h2))]
    rw [this] at H; exact H _ E2
  refine pr_all b1 ?_
  refine c_needs ⟨s, rfl, hs⟩ fun w3 e3 => ?_
  have E3 := E2.trans e3
  have h0 : ¬ (isPF ws = false ∨ fine = false) := by unfold isPF; simp at h1 h2; simp [h1, h2]
  rw [bin_lss]
  refine orJ (fun h3 => ?_) (fun h3 => ?_)
  · rw [cnd_true]
    have : askF ws fine n = 2 := by unfold askF; rw [if_neg h0, if_pos (.inl (by simpa using h3))]
    rw [this] at H; exact H _ E3
  rw [bin_gtr]
  refine cnd_dec (fun h4 => ?_) (fun h4 => ?_)
  · have : askF ws fine n = 2 := by unfold askF; rw [if_neg h0, if_pos (.inr (by omega))]
    rw [this] at H; exact H _ E3
  · have : askF ws fine n = 0 := by unfold askF; rw [if_neg h0, if_neg (by simp at h3; omega)]
    rw [this] at H; exact H _ E3
set_option maxRecDepth 20000 in
theorem c_l08Code {v u : Value} {ws : List (List UInt8)} {vs : List Nat} (h : I_Program w v ws) (hu : FS w u vs) (H : ∀ w', Ext w w' → K (.int .i64 (askF ws (vs.all finB) vs.length)) w') : call P f_spec_l08Code [v, u] w K := by
  obtain ⟨s, rfl, hs⟩ := h
  refine I_spec_l08Code ?_
  unfold D_spec_l08Code
  refine bx_pr fun x w1 b1 e1 => ?_
  refine pr_all b1 ?_
  refine c_l08Is ⟨s, rfl, hs.ext e1⟩ fun w2 e2 => ?_
  rw [una_not]
  have E2 := e1.trans e2
  have b1 := b1.ext e2
  have hs := hs.ext E2
  have hu := hu.ext E2
  have hb := hu.bound
  refine cnd_split (fun h1 => ?_) (fun h1 => ?_)
  · have : askF ws (vs.all finB) vs.length = 1 := by unfold askF isPF; rw [if_pos (.inl (by simpa using h1))]
    rw [this] at H; exact H _ E2
  refine ⟨fun m x w' => w' = w2 ∧ ∃ i : Nat, x = .int .i64 i ∧ m + i = vs.length ∧ (vs.take i).all finB = true, ⟨vs.length, rfl, 0, rfl, by omega, by simp⟩, ?_⟩
  rintro m x junk w' ⟨rfl, i, rfl, hm, hall⟩
  rw [hu.row.len u_s_float32, bin_lss]
  refine cnd_dec (fun hlt => ?_) (fun hge => ?_)
  · have hi : i < vs.length := by omega
    refine hu.at hi ?_
    refine c_l01Finite ?_
    rw [una_not]
    refine cnd_split (fun hf => ?_) (fun hf => ?_)
    · have : vs.all finB = false := by
        refine Bool.eq_false_iff.2 fun hall' => ?_
        have := List.all_eq_true.1 hall' vs[i] (List.getElem_mem hi)
        rw [this] at hf; cases hf
      have : askF ws (vs.all finB) vs.length = 1 := by unfold askF; rw [if_pos (.inr this)]
      rw [this] at H; exact H _ E2
    · rw [bin_add, wrap_i64 (by omega) (by omega)]
      refine ⟨m - 1, by omega, rfl, i + 1, rfl, by omega, ?_⟩
      rw [List.take_succ_eq_append_getElem hi, List.all_append, hall]
      simpa using hf
  · have ht : vs.take i = vs := List.take_of_length_le (by omega)
    rw [ht] at hall
    rw [hall] at H
    have h0 : ¬ (isPF ws = false ∨ true = false) := by unfold isPF; simp at h1; simp [h1]
    rw [hu.row.len u_s_float32]
    refine pr_all b1 ?_
    refine c_l08Variables ⟨s, rfl, hs⟩ fun w3 e3 => ?_
    have E3 := E2.trans e3
    refine c_l01In ?_
    rw [una_not]
    by_cases hr : ndS ws ws.length ≤ (vs.length : Int) ∧ (vs.length : Int) ≤ 3
    · rw [decide_eq_true hr, Bool.not_true, cnd_false]
      have : askF ws true vs.length = 0 := by unfold askF; rw [if_neg h0, if_neg (by omega)]
      rw [this] at H; exact H _ E3
    · rw [decide_eq_false hr, Bool.not_false, cnd_true]
      have : askF ws true vs.length = 2 := by unfold askF; rw [if_neg h0, if_pos (by omega)]
      rw [this] at H; exact H _ E3
noncomputable def leafB (vs : List Nat) (l : List UInt8) : Nat := if 0 ≤ varF l then vs.getD (varF l).toNat 0 else (pF l).getD 0
theorem ndS_mono (ws : List (List UInt8)) : ∀ i j, ndS ws i ≤ ndS ws (i + j)
  | i, 0 => Int.le_refl _
  | i, j + 1 => by
    rw [← Nat.add_assoc]
    have := ndS_mono ws i j
    simp only [ndS]
    omega
theorem var_lt {ws : List (List UInt8)} {n i : Nat} (hn : ndS ws ws.length ≤ n) (hi : i < ws.length) : varF ws[i] < n := by
  have h1 := ndS_mono ws (i + 1) (ws.length - (i + 1))
  rw [Nat.add_sub_cancel' (by omega)] at h1
  simp only [ndS, getD_w hi] at h1
  omega
theorem pF_of {l : List UInt8} (h : form0 l = 0) (hv : varF l < 0) : ∃ b, pF l = some b := by
  have : ¬ (l = [120]) := fun h => by rw [varF, if_pos h] at hv; omega
  have h2 : ¬ (l = [121]) := fun h => by rw [varF, if_neg (by rw [h]; decide), if_pos h] at hv; omega
  have h3 : ¬ (l = [122]) := fun h => by rw [varF, if_neg (by rw [h]; decide), if_neg (by rw [h]; decide), if_pos h] at hv; omega
  rw [form0, if_neg this, if_neg h2, if_neg h3] at h
  have : form3 l = 0 := by
    unfold form1 form2 at h
    repeat (first | omega | split at h)
  unfold form3 at this
  split at this
  · rename_i hp; exact Option.isSome_iff_exists.1 hp
  · omega
theorem leafB_fin {vs : List Nat} {l : List UInt8} (hv : ∀ b ∈ vs, b < 4294967296 ∧ Vc.Fin Ieee.single b) : leafB vs l < 4294967296 ∧ Vc.Fin Ieee.single (leafB vs l) := by
  unfold leafB
  split
  · by_cases hi : (varF l).toNat < vs.length
    · rw [getA_lt hi]; exact hv _ (List.getElem_mem hi)
    · rw [List.getD_eq_getElem?_getD, List.getElem?_eq_none (by omega)]; exact ⟨by decide, by decide⟩
  · cases hp : pF l with
    | none => exact ⟨by decide, by decide⟩
    | some b =>
      exact pF_fin hp
theorem c_l08Leaf {u : Value} {vs : List Nat} {l : List UInt8} (hu : FS w u vs) (hl : l.length ≤ 4611686018427387904) (hv : varF l < vs.length) (hf : form0 l = 0) (H : ∀ w', Ext w w' → K (fl (leafB vs l)) w') : call P f_spec_l08Leaf [str l, u] w K := by
  refine I_spec_l08Leaf ?_
  unfold D_spec_l08Leaf
  refine c_l08Variable ?_
  have hr := var_range l
  rw [bin_geq]
  unfold leafB at H
  refine cnd_dec (fun h => ?_) (fun h => ?_)
  · rw [if_pos (by omega)] at H
    have hi : (varF l).toNat < vs.length := by omega
    rw [show varF l = (((varF l).toNat : Nat) : Int) by omega]
    refine hu.at hi ?_
    rw [getA_lt hi] at H
    exact H _ (Ext.refl _)
  · rw [if_neg (by omega)] at H
    obtain ⟨b, hb⟩ := pF_of hf (by omega)
    refine c_l06Float hl fun b' w1 e1 hx => ?_
    rw [xtr_0, xtr_1, hx b hb]
    rw [hb] at H
    exact H _ e1
end Go.Proofs.YtjompmflommadaaGreatDoor


set_option linter.unusedVariables false
namespace Go.Proofs.YtjompmflommadaaGreatDoor
open Go Go.Vc
variable {w : World} {K : Value → World → Prop} {lo hi : Nat} {v : Value}
abbrev IV := Nat × Nat
abbrev ivv (p : IV) : Value := .agg #[fl p.1, fl p.2]
def ivB (p : IV) : Prop := p.1 < 4294967296 ∧ p.2 < 4294967296
section
variable {base : Nat} {x : Value} {a b : Nat} {K : Value → Prop} {t : TypeId}
end
def I_Interval (w : World) (v : Value) (p : IV) : Prop := v = ivv p ∧ ivB p
theorem I_Interval.ext {w' : World} {p : IV} (h : I_Interval w v p) (he : Ext w w') : I_Interval w' v p := h
def O_Interval (w : World) (lo hi : Nat) (v : Value) (p : IV) : Prop := v = ivv p ∧ ivB p
theorem O_Interval.ext {w' : World} {p : IV} (h : O_Interval w lo hi v p) (he : Ext w w') : O_Interval w' lo hi v p := h
theorem O_Interval.chg {w' : World} {p : IV} {lo' hi' : Nat} (h : O_Interval w lo hi v p) (hc : Chg lo' hi' w w') (hd : hi ≤ lo' ∨ hi' ≤ lo) : O_Interval w' lo hi v p := h
theorem O_Interval.I {p : IV} (h : O_Interval w lo hi v p) : I_Interval w v p := h
structure A_IntervalS (w : World) (v : Value) (l : List IV) : Prop where
  row : Row 2 w v l.length (pfs l)
  lt : ∀ p ∈ l, ivB p
  cap : CapOk v
theorem A_IntervalS.ext {w' : World} {l : List IV} (h : A_IntervalS w v l) (he : Ext w w') : A_IntervalS w' v l := ⟨h.row.ext he, h.lt, h.cap⟩
theorem A_IntervalS.N {l : List IV} (h : A_IntervalS w v l) : A_IntervalS (Vc.N w) v l := ⟨h.row, h.lt, h.cap⟩
theorem A_IntervalS.bound {l : List IV} (h : A_IntervalS w v l) : l.length ≤ 9223372036854775807 := by have := h.row.bound; simp only [maxLen] at this; omega
end Go.Proofs.YtjompmflommadaaGreatDoor


set_option linter.unusedVariables false
set_option linter.unusedSimpArgs false
namespace Go.Proofs.YtjompmflommadaaGreatDoor
open Go Go.Vc Ieee
variable {w : World} {K : Value → World → Prop}
def zF (b : Nat) : Nat := if isZ b then 0 else b
theorem c_plain {b : Nat} (H : K (fl (zF b)) w) : call P f_impl_plain [fl b] w K := by
  refine I_impl_plain ?_
  unfold D_impl_plain
  rw [bin_feql]
  unfold zF at H
  refine cnd_split (fun h => ?_) (fun h => ?_)
  · rw [show isZ b = true from h, if_pos rfl] at H; exact H
  · rw [show isZ b = false from h, if_neg (by decide)] at H; exact H
end Go.Proofs.YtjompmflommadaaGreatDoor


set_option linter.unusedVariables false
set_option linter.unusedSimpArgs false
namespace Go.Proofs.YtjompmflommadaaGreatDoor
open Go Go.Vc Ieee
variable {w : World} {K : Value → World → Prop}
theorem W_self {b : Nat} (h : Vc.Fin single b) (hb : b < 4294967296) : W single (b / 2147483648 % 2 == 1) (fM b).natAbs (fE b) = b := by
  have hlt : b % 2147483648 < 2139095040 := by have := h; unfold Vc.Fin at this; rw [s_sw, s_inf] at this; exact this
  have hM : (fM b).natAbs = b % 8388608 + (if 0 < b / 8388608 % 256 then 8388608 else 0) := by
    unfold fM; simp only
    generalize (if 0 < b / 8388608 % 256 then 8388608 else 0) = x
    split <;> omega
  have hE : fE b = (if 0 < b / 8388608 % 256 then ((b / 8388608 % 256 : Nat) : Int) - 150 else -149) := by
    unfold fE
    by_cases hx : 0 < b / 8388608 % 256
    · rw [if_pos hx, if_pos hx]
    · rw [if_neg hx, if_neg hx]; rfl
  have word : ∀ r, r < 2147483648 → r = b % 2147483648 → single.word (b / 2147483648 % 2 == 1) r = b := fun r hr he => by
    have t1 : single.word true r = 2147483648 + r := rfl
    have t2 : single.word false r = r := rfl
    by_cases h1 : b / 2147483648 % 2 = 1
    · rw [show (b / 2147483648 % 2 == 1) = true by simpa using h1, t1]; omega
    · rw [show (b / 2147483648 % 2 == 1) = false by simpa using h1, t2]; omega
  unfold W Format.write Format.nearest
  simp only
  by_cases h0 : (fM b).natAbs = 0
  · rw [if_pos h0]
    refine word 0 (by decide) ?_
    rw [hM] at h0
    split at h0 <;> omega
  · rw [if_neg h0, log2_eq h0]
    rw [show single.leastPlace = -149 from by decide, show (single.fractionBits : Int) = 23 from rfl, s_bin, s_inf]
    by_cases h1 : 0 < b / 8388608 % 256
    · rw [if_pos h1] at hM hE
      have hbl : bl (fM b).natAbs = 24 := by
        have h2 : bl (fM b).natAbs ≤ 24 := bl_le.2 (by rw [hM]; show _ < 16777216; omega)
        have h3 : ¬ bl (fM b).natAbs ≤ 23 := fun h => by have := bl_le.1 h; rw [hM] at this; have : (2 : Nat) ^ 23 = 8388608 := by decide
                                                         omega
        omega
      rw [hbl, hE, hM]
      have e1 : max (((b / 8388608 % 256 : Nat) : Int) - 150 + ((24 - 1 : Nat) : Int) - 23) (-149) = ((b / 8388608 % 256 : Nat) : Int) - 150 := by omega
      simp only [e1]
      rw [show (((b / 8388608 % 256 : Nat) : Int) - 150 - (((b / 8388608 % 256 : Nat) : Int) - 150)).toNat = 0 by omega, cut_zero, Nat.shiftLeft_eq, Nat.pow_zero, Nat.mul_one]
      rw [show (((b / 8388608 % 256 : Nat) : Int) - 150 - -149).toNat = b / 8388608 % 256 - 1 by omega]
      refine word _ ?_ ?_
      · omega
      · omega
    · rw [if_neg h1] at hM hE
      have hbl : bl (fM b).natAbs ≤ 23 := bl_le.2 (by rw [hM]; show _ < 8388608; omega)
      rw [hE, hM]
      rw [hM] at hbl h0
      have hb0 := bl_pos h0
      have e1 : max (-149 + ((bl (b % 8388608 + 0) - 1 : Nat) : Int) - 23) (-149) = -149 := by omega
      simp only [e1]
      rw [show ((-149 : Int) - -149).toNat = 0 by omega, cut_zero, Nat.shiftLeft_eq, Nat.pow_zero, Nat.mul_one]
      refine word _ ?_ ?_
      · omega
      · omega
def turnB (b : Nat) : Nat := if b < 2147483648 then b + 2147483648 else b - 2147483648
theorem turnB_lt {b : Nat} (h : b < 4294967296) : turnB b < 4294967296 := by unfold turnB; split <;> omega
theorem turnB_fin {b : Nat} (hb : b < 4294967296) (h : Vc.Fin single b) : Vc.Fin single (turnB b) := by
  unfold Vc.Fin at *
  rw [s_sw, s_inf] at *
  unfold turnB
  split <;> omega
theorem c_l01TurnedB {b : Nat} (h : Vc.Fin single b) (hb : b < 4294967296) (H : K (fl (turnB b)) w) : call P f_spec_l01Turned [fl b] w K := by
  refine I_spec_l01Turned ?_
  unfold D_spec_l01Turned
  refine rbin_float (by simp) fun r hr => ?_
  have hself := W_self h hb
  have e1 : (3212836864 : Nat) = W single true 1 0 := by decide
  have hm : floatBits .mul .f32 b 3212836864 = some (W single (!(b / 2147483648 % 2 == 1)) (fM b).natAbs (fE b)) := by
    show single.mul b 3212836864 = _
    unfold Format.mul
    rw [read_f h hb, show single.read 3212836864 = .number true 8388608 (-23) from by decide]
    simp only [Datum.product, Option.map_some, Bool.xor_true]
    congr 1
    exact write_same single _ (.of_dy (by
      rw [show (((fM b).natAbs * 8388608 : Nat) : Int) = ((fM b).natAbs : Int) * 2 ^ 23 by rw [Int.natCast_mul]; rfl]
      exact dy_shift' (m := ((fM b).natAbs : Int)) (e := fE b) (by omega)))
  have hs := FR_some hr hm
  subst hs
  obtain ⟨q, hq⟩ := W_sign single (fM b).natAbs (fE b)
  rw [hq] at hself ⊢
  have : single.word (!(b / 2147483648 % 2 == 1)) q = turnB b := by
    have hq2 : q < 2147483648 := by
      have hf := W32_lt true (fM b).natAbs (fE b)
      rw [hq] at hf
      have e : single.word true q = 2147483648 + q := rfl
      omega
    unfold turnB
    have t1 : single.word true q = 2147483648 + q := rfl
    have t2 : single.word false q = q := rfl
    cases hc : (b / 2147483648 % 2 == 1)
    · rw [hc] at hself
      rw [Bool.not_false, t1]; rw [t2] at hself; rw [if_pos (by omega)]; omega
    · rw [hc] at hself
      rw [Bool.not_true, t2]; rw [t1] at hself; rw [if_neg (by omega)]; omega
  rw [this]; exact H
theorem fin_of_number {f : Format} (hf : 1 ≤ f.exponentBits) {b : Nat} {s : Bool} {m : Nat} {e : Int} (h : f.read b = .number s m e) : Vc.Fin f b := by
  rcases fin_inf_nan f b with h1 | h1 | h1
  · exact h1
  · rw [read_inf hf h1] at h; cases h
  · obtain ⟨t, ht⟩ := read_nan hf h1; rw [ht] at h; cases h
theorem inf_not_fin {f : Format} {b : Nat} (h : Inf f b) : ¬ Vc.Fin f b := by unfold Inf at h; unfold Vc.Fin; omega
theorem nan_not_fin {f : Format} {b : Nat} (h : NaN f b) : ¬ Vc.Fin f b := by unfold NaN at h; unfold Vc.Fin; omega
def isN : Datum → Bool
  | .number _ _ _ => true
  | _ => false
theorem isN_fin {f : Format} (hf : 1 ≤ f.exponentBits) {b : Nat} (h : isN (f.read b) = true) : Vc.Fin f b := by
  cases hr : f.read b with
  | number s m e => exact fin_of_number hf hr
  | infinity s => rw [hr] at h; cases h
  | nan s t => rw [hr] at h; cases h
theorem sum_nf (x y : Datum) (h : (isN x && isN y) = false) : x.sum y = none ∨ ∃ s, x.sum y = some (.infinity s) := by
  cases x with
  | nan s t => left; rfl
  | infinity s =>
    cases y with
    | nan s t => left; rfl
    | infinity t =>
      by_cases hs : s = t
      · right; exact ⟨s, by simp [Datum.sum, hs]⟩
      · left; simp [Datum.sum, hs]
    | number t n j => right; exact ⟨s, rfl⟩
  | number s m i =>
    cases y with
    | nan s t => left; rfl
    | infinity t => right; exact ⟨t, rfl⟩
    | number t n j => cases h
theorem nf_of {o : Option Datum} {r : Nat} (h : o = none ∨ ∃ s, o = some (.infinity s)) (hr : (o.map single.write = some r) ∨ (o.map single.write = none ∧ NaN single r)) : ¬ Vc.Fin single r := by
  rcases h with h | ⟨s, h⟩
  · rw [h] at hr
    rcases hr with hr | hr
    · cases hr
    · exact nan_not_fin hr.2
  · rw [h] at hr
    rcases hr with hr | hr
    · simp only [Option.map_some, Option.some.injEq] at hr
      rw [← hr]; exact inf_not_fin (write_inf single _)
    · cases hr.1
theorem isN_of {a b : Nat} (hn : (finB a && finB b) = false) : (isN (single.read a) && isN (single.read b)) = false := by
  refine Bool.eq_false_iff.2 fun h => ?_
  rw [Bool.and_eq_true] at h
  rw [finB_iff.2 (isN_fin (by decide) h.1), finB_iff.2 (isN_fin (by decide) h.2)] at hn
  cases hn
theorem isN_opp (d : Datum) : isN d.opposite = isN d := by cases d <;> rfl
theorem nf_add {a b r : Nat} (h : FR .add .f32 a b r) (hn : (finB a && finB b) = false) : finB r = false := by
  rw [finB_not]
  exact nf_of (sum_nf _ _ (isN_of hn)) (h.imp (fun h => h) (fun h => ⟨h.1, h.2.1⟩))
theorem nf_sub {a b r : Nat} (h : FR .sub .f32 a b r) (hn : (finB a && finB b) = false) : finB r = false := by
  rw [finB_not]
  exact nf_of (sum_nf _ _ (by rw [isN_opp]; exact isN_of hn)) (h.imp (fun h => h) (fun h => ⟨h.1, h.2.1⟩))
end Go.Proofs.YtjompmflommadaaGreatDoor


set_option linter.unusedVariables false
namespace Go.Proofs.YtjompmflommadaaGreatDoor
open Go Go.Vc
variable {w : World} {K : Value → World → Prop} {lo hi : Nat} {v : Value}
abbrev PV := Nat × Nat
abbrev pvv (p : PV) : Value := .agg #[fl p.1, fl p.2]
def pvB (p : PV) : Prop := p.1 < 4294967296 ∧ p.2 < 4294967296
section
variable {base : Nat} {x : Value} {a b : Nat} {K : Value → Prop} {t : TypeId}
abbrev pv2 (a b : Nat) : List Value := [fl a, fl b]
theorem bx_pv {KW : Value → World → Prop} (H : ∀ x w', Bx w' w.heap.size t x (pv2 a b) → Ext w w' → KW x w') : bx P t (.agg #[fl a, fl b]) w KW :=
  bx_bx fun x w' b e _ => H x w' b e
theorem alc_pv {KW : Value → World → Prop} (H : ∀ x w', (∃ a b, Bx w' w.heap.size t_impl_Pair x (pv2 a b)) → Ext w w' → KW x w') : alc P t_impl_Pair w KW :=
  alc_bx i_impl_Pair fun x w' b e _ => H x w' ⟨0, 0, b⟩ e
theorem pv_H (h : Bx w base t_impl_Pair x (pv2 a b)) (H : K (fl a)) : fda P t_impl_Pair x 0 w (fun y => ld P t_float32 y w K) :=
  h.fld (off := 0) rfl u_impl_Pair rfl i_float32 u_float32 rfl H
theorem pv_L (h : Bx w base t_impl_Pair x (pv2 a b)) (H : K (fl b)) : fda P t_impl_Pair x 1 w (fun y => ld P t_float32 y w K) :=
  h.fld (off := 1) rfl u_impl_Pair rfl i_float32 u_float32 rfl H
theorem pv_all (h : Bx w base t_impl_Pair x (pv2 a b)) (H : K (.agg #[fl a, fl b])) : ld P t_impl_Pair x w K :=
  h.get u_impl_Pair rfl i_impl_Pair rfl H
theorem pv_allc (h : Bx w base t_impl_Pair x (pv2 a b)) (H : K (.agg #[fl a, fl b])) : ldc P t_impl_Pair x w K :=
  h.getc u_impl_Pair rfl i_impl_Pair rfl H
theorem one_pv (a b : Nat) : ∀ u ∈ pv2 a b, u.oneCell' = true := by
  intro u hu
  simp only [List.mem_cons, List.not_mem_nil, or_false] at hu
  rcases hu with rfl | rfl <;> rfl
theorem pv_put {a' b' : Nat} {KW : World → Prop} (h : Bx w base t_impl_Pair x (pv2 a b)) (H : ∀ w', Bx w' base t_impl_Pair x (pv2 a' b') → w.grownBy w' (blk x) → KW w') : sto P t_impl_Pair x (.agg #[fl a', fl b']) w KW :=
  h.put i_impl_Pair (ds := pv2 a' b') rfl rfl (one_pv _ _) H
theorem pv_ret {a' b' : Nat} {KW : Value → World → Prop} (h : Bx w base t_impl_Pair x (pv2 a b)) (H : ∀ w', w.grownBy w' (blk x) → KW (.agg #[fl a', fl b']) w') :
    sto P t_impl_Pair x (.agg #[fl a', fl b']) w fun w' => ldc P t_impl_Pair x w' fun r => KW r w' :=
  pv_put h fun w' b' g' => pv_allc b' (H w' g')
theorem bld_pv (a b : Nat) : bld P t_impl_Pair [(0, fl a), (1, fl b)] w K = K (.agg #[fl a, fl b]) := bld_of (by kernel_rfl)
theorem bld_pv0 : bld P t_impl_Pair [] w K = K (.agg #[fl 0, fl 0]) := bld_of (by kernel_rfl)
end
def I_Pair (w : World) (v : Value) (p : PV) : Prop := v = pvv p ∧ pvB p
theorem I_Pair.ext {w' : World} {p : PV} (h : I_Pair w v p) (he : Ext w w') : I_Pair w' v p := h
def O_Pair (w : World) (lo hi : Nat) (v : Value) (p : PV) : Prop := v = pvv p ∧ pvB p
theorem O_Pair.ext {w' : World} {p : PV} (h : O_Pair w lo hi v p) (he : Ext w w') : O_Pair w' lo hi v p := h
theorem O_Pair.chg {w' : World} {p : PV} {lo' hi' : Nat} (h : O_Pair w lo hi v p) (hc : Chg lo' hi' w w') (hd : hi ≤ lo' ∨ hi' ≤ lo) : O_Pair w' lo hi v p := h
theorem O_Pair.I {p : PV} (h : O_Pair w lo hi v p) : I_Pair w v p := h
def cnt_Pair (p : PV) : Nat := 0
theorem Pair_agg {p : PV} (h : I_Pair w v p) : ∃ cs : List Value, v = .agg cs.toArray ∧ cs.length = 2 ∧ ∀ x ∈ cs, x.oneCell' = true := ⟨pv2 p.1 p.2, h.1, rfl, one_pv _ _⟩
set_option maxRecDepth 20000 in
theorem c_eqPair {p q : PV} (h1 : Feq p.1 q.1) (h2 : Feq p.2 q.2) (H : ∀ w', Ext w w' → K (.bool true) w') : call P f_laws_eqPair [pvv p, pvv q] w K := by
  refine I_laws_eqPair ?_
  unfold D_laws_eqPair
  refine bx_pv fun x w1 b1 e1 => ?_
  refine bx_pv fun y w2 b2 e2 => ?_
  have b1 := b1.ext e2
  refine pv_H b1 ?_
  refine rcnv_widen u_float32 u_float64 fun r hr => ?_
  refine pv_H b2 ?_
  refine rcnv_widen u_float32 u_float64 fun q hq => ?_
  refine c_sameFloat (wid_deq h1 hr hq) ?_
  rw [una_not, Bool.not_true, cnd_false]
  refine pv_L b1 ?_
  refine rcnv_widen u_float32 u_float64 fun r hr => ?_
  refine pv_L b2 ?_
  refine rcnv_widen u_float32 u_float64 fun q hq => ?_
  refine c_sameFloat (wid_deq h2 hr hq) ?_
  rw [una_not, Bool.not_true, cnd_false]
  exact H _ (e1.trans e2)
theorem c_eq_Pair {u : Value} {p : PV} (h1 : I_Pair w u p) (h2 : I_Pair w v p) (H : ∀ w', Ext w w' → K (.bool true) w') : call P f_laws_eqPair [u, v] w K := by
  obtain ⟨rfl, _⟩ := h1
  obtain ⟨rfl, _⟩ := h2
  exact c_eqPair (Feq.refl _) (Feq.refl _) H
theorem bld_pvH (a : Nat) {K : Value → Prop} : bld P t_impl_Pair [(0, fl a)] w K = K (.agg #[fl a, fl 0]) := bld_of (by kernel_rfl)
end Go.Proofs.YtjompmflommadaaGreatDoor


set_option linter.unusedVariables false
namespace Go.Proofs.YtjompmflommadaaGreatDoor
open Go Go.Vc
variable {w : World} {K : Value → World → Prop} {lo hi : Nat} {v : Value}
abbrev DY := Int × List Int × Int
def I_Dyadic (w : World) (v : Value) (d : DY) : Prop := ∃ s, v = .agg #[.int .i64 d.1, s, .int .i64 d.2.2] ∧ FI w s d.2.1
theorem I_Dyadic.ext {w' : World} {d : DY} (h : I_Dyadic w v d) (he : Ext w w') : I_Dyadic w' v d := let ⟨s, h1, h2⟩ := h; ⟨s, h1, h2.ext he⟩
def O_Dyadic (w : World) (lo hi : Nat) (v : Value) (d : DY) : Prop := ∃ s, v = .agg #[.int .i64 d.1, s, .int .i64 d.2.2] ∧ OIR w lo hi s d.2.1
theorem O_Dyadic.ext {w' : World} {d : DY} (h : O_Dyadic w lo hi v d) (he : Ext w w') : O_Dyadic w' lo hi v d := let ⟨s, h1, h2⟩ := h; ⟨s, h1, h2.ext he⟩
theorem O_Dyadic.chg {w' : World} {d : DY} {lo' hi' : Nat} (h : O_Dyadic w lo hi v d) (hc : Chg lo' hi' w w') (hd : hi ≤ lo' ∨ hi' ≤ lo) : O_Dyadic w' lo hi v d := let ⟨s, h1, h2⟩ := h; ⟨s, h1, h2.chg hc hd⟩
theorem O_Dyadic.I {d : DY} (h : O_Dyadic w lo hi v d) : I_Dyadic w v d := let ⟨s, h1, h2⟩ := h; ⟨s, h1, OIR.FI h2⟩
open Classical in
noncomputable def lmb (m : Int) : List Nat := if h : ∃ l, Wl l m then Classical.choose h else []
theorem Wl.lmb {l : List Nat} {m : Int} (h : Wl l m) : lmb m = l := by
  have hx : ∃ l, Wl l m := ⟨l, h⟩
  unfold Go.Proofs.YtjompmflommadaaGreatDoor.lmb
  rw [dif_pos hx]
  have h1 := Classical.choose_spec hx
  exact Vc.val_inj h1.1 h.1 (h1.2.trans h.2.symm)
noncomputable def dyV (m e : Int) : DY := (m.sign, (lmb m).map (fun (n : Nat) => (n : Int)), e)
theorem Dr.I {m e : Int} (h : Dr w v m e) : I_Dyadic w v (dyV m e) := by
  obtain ⟨s, l, h1, h2, h3⟩ := h
  refine ⟨s, h1, ?_⟩
  unfold dyV
  rw [h3.lmb]
  have := h2.row
  unfold FI
  rw [List.map_map, List.length_map]
  exact this
end Go.Proofs.YtjompmflommadaaGreatDoor


set_option linter.unusedVariables false
namespace Go.Proofs.YtjompmflommadaaGreatDoor
open Go Go.Vc
variable {w : World} {K : Value → World → Prop}
end Go.Proofs.YtjompmflommadaaGreatDoor


namespace Go.Proofs.YtjompmflommadaaGreatDoor
open Go Go.Vc
abbrev t_kind_impl_Pair : TypeId := 127
theorem u_kind_impl_Pair : P.underlying 127 = some (.struct #[{ name := "made", type := 125, offset := 0, embedded := false, tag := "", pkgPath := "loop.example/g01172/impl", byteOffset := 0 }, { name := "one", type := 122, offset := 1, embedded := false, tag := "", pkgPath := "loop.example/g01172/impl", byteOffset := 8 }, { name := "two", type := 123, offset := 2, embedded := false, tag := "", pkgPath := "loop.example/g01172/impl", byteOffset := 16 }]) := Tryz.underlying127
abbrev t_kind_impl_Pair_0 : TypeId := 125
theorem u_kind_impl_Pair_0 : ∃ d, P.underlying 125 = some d ∧ aggB d = false := ⟨_, Tryz.underlying125, rfl⟩
theorem i_kind_impl_Pair_0 : TI P 125 .nilFunc 1 8 := TI_of (by kernel_rfl)
abbrev t_kind_impl_Pair_1 : TypeId := 122
theorem u_kind_impl_Pair_1 : ∃ d, P.underlying 122 = some d ∧ aggB d = false := ⟨_, Tryz.underlying122, rfl⟩
theorem i_kind_impl_Pair_1 : TI P 122 .nilFunc 1 8 := TI_of (by kernel_rfl)
abbrev t_kind_impl_Pair_2 : TypeId := 123
theorem u_kind_impl_Pair_2 : ∃ d, P.underlying 123 = some d ∧ aggB d = false := ⟨_, Tryz.underlying123, rfl⟩
theorem i_kind_impl_Pair_2 : TI P 123 .nilFunc 1 8 := TI_of (by kernel_rfl)
end Go.Proofs.YtjompmflommadaaGreatDoor


set_option linter.unusedVariables false
set_option linter.unusedSimpArgs false
namespace Go.Proofs.YtjompmflommadaaGreatDoor
open Go Go.Vc
variable {w : World} {K : Value → World → Prop}
theorem nm_ret {g : Nat} {x v : Value} {lo hi : Nat} {q : Rat} {KW : Value → World → Prop} (h : NC w g x) (hv : NQ w v lo hi q) (H : ∀ v' w', w.grownBy w' (some g) → NQ w' v' lo hi q → KW v' w') :
    sto P t_impl_num x v w fun w' => ldc P t_impl_num x w' fun r => KW r w' :=
  h.put hv fun w' v' g' _ => v'.getc fun v2 h2 => H v2 w' g' h2
theorem bx_NV {v : Value} {lo hi : Nat} {q : Rat} {KW : Value → World → Prop} (h : NQ w v lo hi q) (H : ∀ x w', NV w' w.heap.size x lo hi q → Ext w w' → KW x w') : bx P t_impl_num v w KW := by
  obtain ⟨m, e, ⟨p, rfl, ip⟩, hb, hq⟩ := h
  exact bx_bx fun x w' b e hp => H x w' ⟨hp, p, _, b, m, _, ⟨p, rfl, ip.ext e⟩, hb, hq⟩ e
theorem NC.kept {w' : World} {g g' : Nat} {x : Value} (h : NC w g x) (hg : w.grownBy w' (some g')) (hne : g ≠ g') : NC w' g x := by
  obtain ⟨a, cs, b, c⟩ := h
  exact ⟨a, cs, b, c.kept hg (.inr (by rw [a]; intro e; exact hne (Option.some.inj e).symm))⟩
theorem NV.kept {w' : World} {g g' : Nat} {x : Value} {lo hi : Nat} {q : Rat} (h : NV w g x lo hi q) (hg : w.grownBy w' (some g')) (hne : g ≠ g') (ht : Ty w (some g') t_impl_num) : NV w' g x lo hi q := by
  obtain ⟨a, p, e, b, c⟩ := h
  exact ⟨a, p, e, b.kept hg (.inr (by rw [a]; intro e; exact hne (Option.some.inj e).symm)), c.kt hg ht (by decide) (by decide)⟩
abbrev fnv (f : FuncId) : Value := .func (.func f) #[] #[]
end Go.Proofs.YtjompmflommadaaGreatDoor


set_option linter.unusedVariables false
set_option linter.unusedSimpArgs false
namespace Go.Proofs.YtjompmflommadaaGreatDoor
open Go Go.Vc
variable {w : World} {K : Value → World → Prop}
theorem NL.push2 {base : Nat} {v : Value} {lo hi : Nat} {qs : List Rat} {KW : Value → World → Prop} {ty : TypeId} {u : Value} {q : Rat} (h : NL w base v lo hi qs) (hu : NQ w u lo hi q) (hbase : base ≤ w.heap.size) (hn : qs.length ≤ 1048576)
    (H : ∀ v' w', NL w' base v' lo hi (qs ++ [q]) → (∀ {w0}, Ext w0 w → w0.heap.size ≤ base → Ext w0 w') → KW v' w') : bsl P t_s_impl_num 1 [(0, u)] w fun x w1 => Ext w w1 ∧ bl2 P .append #[t_s_impl_num, t_s_impl_num] ty [v, x] w1 KW := by
  have hu0 := hu
  obtain ⟨m, e, ⟨p, rfl, ip⟩, hb, hq⟩ := hu
  refine bsl_num ip.one rfl ?_
  have he := Ext_alloc w (.cells #[p, .int .i64 e] t_impl_num)
  refine ⟨he, ?_⟩
  have hrow : Row 2 (w.alloc (.cells #[p, .int .i64 e] t_impl_num)) (.slice (some ⟨w.heap.size, 0, none⟩) 1 1) 1 [p, .int .i64 e] := by
    refine ⟨rfl, by decide, _, _, rfl, fun _ => ⟨w.heap.size, 0, rfl, fun j u hj => ?_⟩⟩
    match j, hj with
    | 0, hj => cases hj; simp only [World.cell?, heap_new]; rfl
    | 1, hj => cases hj; simp only [World.cell?, heap_new]; rfl
    | _ + 2, hj => simp at hj
  refine SL.push (a := q) h hrow rfl (one_2 ip.one rfl) he hbase (fun w' c a row hr hk hg ht => ?_) hu0 u_s_impl_num i_impl_num rfl (by decide) hn (by decide) fun v' w' h' hg hk => ?_
  · exact NQ.kt (NQ.ext hr he) hg ht (by decide) (by decide)
  · exact H v' w' h' fun he0 hs => ext_of_grown (he0.trans he) (fun k hk' => Nat.le_trans hs (hk k hk')) hg
theorem NL.at {base : Nat} {v : Value} {lo hi : Nat} {qs : List Rat} {K : Value → Prop} {k : IntKind} {i : Nat} (h : NL w base v lo hi qs) (hi' : i < qs.length) (H : ∀ u, NQ w u lo hi qs[i] → K u) :
    ixa P t_s_impl_num v (.int k (i : Int)) w (fun a => ld P t_impl_num a w K) :=
  SL.at h hi' u_s_impl_num i_impl_num u_impl_num rfl fun c hc => H _ hc
theorem NL.len {base : Nat} {v : Value} {lo hi : Nat} {qs : List Rat} {ty : TypeId} {K : Value → Prop} (h : NL w base v lo hi qs) : bl0 P .len #[t_s_impl_num] ty [v] w K = K (.int .i64 qs.length) := SL.len h u_s_impl_num
theorem NL.nil0 {lo hi : Nat} {KW : Value → World → Prop} (H : ∀ v w', Ext w w' → NL w' w.heap.size v lo hi [] → KW v w') : bsl P t_s_impl_num 0 [] w KW := SL.nil u_s_impl_num i_impl_num H
theorem NL.take {base : Nat} {v : Value} {lo hi : Nat} {qs : List Rat} {K : Value → Prop} {ik : IntKind} {k : Nat} (h : NL w base v lo hi qs) (hk : k ≤ qs.length) (H : ∀ v', NL w base v' lo hi (qs.take k) → K v') :
    sli P t_s_impl_num v none (some (.int ik (k : Int))) none w K := SL.take h hk u_s_impl_num i_impl_num H
theorem NL.kept {base : Nat} {v : Value} {lo hi : Nat} {qs : List Rat} {w' : World} {g : Nat} (h : NL w base v lo hi qs) (hg : w.grownBy w' (some g)) (hb : ∀ k, v.ownBlock = some k → k ≠ g) (ht : Ty w (some g) t_impl_num) : NL w' base v lo hi qs := by
  obtain ⟨cs, h1, h2, h3, h4⟩ := h
  refine ⟨cs, h1, h2, h3.kept hg ?_, fun i hi hi' => NQ.kt (h4 i hi hi') hg ht (by decide) (by decide)⟩
  cases hv : v.ownBlock with
  | none => exact .inl rfl
  | some k => exact .inr fun e => hb k hv (Option.some.inj e)
theorem NL.block {base : Nat} {v : Value} {lo hi : Nat} {qs : List Rat} (h : NL w base v lo hi qs) : ∀ k, v.ownBlock = some k → base ≤ k ∧ k < w.heap.size := by
  obtain ⟨cs, h1, h2, h3, h4⟩ := h
  exact h3.lt
theorem var_form {l : List UInt8} (h : 0 ≤ varF l) : form0 l = 0 := by
  unfold varF at h
  unfold form0
  split at h
  · rename_i h1; rw [if_pos h1]
  · rename_i h1
    rw [if_neg h1]
    split at h
    · rename_i h2; rw [if_pos h2]
    · rename_i h2
      rw [if_neg h2]
      split at h
      · rename_i h3; rw [if_pos h3]
      · omega
def ZV (w : World) (g : Nat) (x : Value) : Prop := blk x = some g ∧ Bx w g t_impl_num x [.pointer none, .int .i64 0]
theorem ZV.ext {w' : World} {g : Nat} {x : Value} (h : ZV w g x) (he : Ext w w') : ZV w' g x := ⟨h.1, h.2.ext he⟩
theorem ZV.NC {g : Nat} {x : Value} (h : ZV w g x) : NC w g x := ⟨h.1, _, rfl, h.2⟩
theorem ZV.get {g : Nat} {x : Value} {K : Value → Prop} (h : ZV w g x) (H : K (.agg #[.pointer none, .int .i64 0])) : ld P t_impl_num x w K := h.2.get u_impl_num rfl i_impl_num rfl H
theorem ZV.getc {g : Nat} {x : Value} {K : Value → Prop} (h : ZV w g x) (H : K (.agg #[.pointer none, .int .i64 0])) : ldc P t_impl_num x w K := h.2.getc u_impl_num rfl i_impl_num rfl H
theorem NQ.shape {v : Value} {lo hi : Nat} {q : Rat} (h : NQ w v lo hi q) : ∃ p e, v = .agg #[p, .int .i64 e] ∧ p.oneCell' = true := by
  obtain ⟨m, e, ⟨p, rfl, ip⟩, _⟩ := h
  exact ⟨p, e, rfl, ip.one⟩
end Go.Proofs.YtjompmflommadaaGreatDoor


set_option linter.unusedVariables false
set_option linter.unusedSimpArgs false
namespace Go.Proofs.YtjompmflommadaaGreatDoor
open Go Go.Vc
variable {w : World} {K : Value → World → Prop}
theorem bx_DV {v : Value} {lo hi : Nat} {q : Rat} {KW : Value → World → Prop} (h : DQ w v lo hi q) (H : ∀ x w', DV w' w.heap.size x lo hi q → Ext w w' → KW x w') : bx P t_impl_Dyadic v w KW := by
  obtain ⟨m, e, ⟨s, l, rfl, h1, wl⟩, hc⟩ := h
  exact bx_bx fun x w' b e' hp => H x w' ⟨hp, _, s, e, b, m, e, ⟨s, l, rfl, h1.ext e', wl⟩, hc⟩ e'
theorem DV.kept {w' : World} {g g' : Nat} {x : Value} {lo hi : Nat} {q : Rat} {t' : TypeId} (h : DV w g x lo hi q) (hg : w.grownBy w' (some g')) (hne : g ≠ g') (ht : Ty w (some g') t') (htt : t_int64 ≠ t') : DV w' g x lo hi q := by
  obtain ⟨a, n, s, e, b, c⟩ := h
  exact ⟨a, n, s, e, b.kept hg (.inr (by rw [a]; intro e; exact hne (Option.some.inj e).symm)), c.kt hg ht htt⟩
theorem dv_ret {g : Nat} {x v : Value} {lo hi : Nat} {q : Rat} {KW : Value → World → Prop} (h : DC w g x) (hv : DQ w v lo hi q) (H : ∀ v' w', w.grownBy w' (some g) → DQ w' v' lo hi q → KW v' w') :
    sto P t_impl_Dyadic x v w fun w' => ldc P t_impl_Dyadic x w' fun r => KW r w' :=
  h.put hv fun w' v' g' _ => v'.getc fun v2 h2 => H v2 w' g' h2
theorem DL.push2 {base : Nat} {v : Value} {lo hi : Nat} {qs : List Rat} {KW : Value → World → Prop} {ty : TypeId} {u : Value} {q : Rat} (h : DL w base v lo hi qs) (hu : DQ w u lo hi q) (hbase : base ≤ w.heap.size) (hn : qs.length ≤ 1048576)
    (H : ∀ v' w', DL w' base v' lo hi (qs ++ [q]) → (∀ {w0}, Ext w0 w → w0.heap.size ≤ base → Ext w0 w') → KW v' w') : bsl P t_s_impl_Dyadic 1 [(0, u)] w fun x w1 => Ext w w1 ∧ bl2 P .append #[t_s_impl_Dyadic, t_s_impl_Dyadic] ty [v, x] w1 KW := by
  have hu0 := hu
  obtain ⟨m, e, ⟨s, l, rfl, hl, hw⟩, hc⟩ := hu
  refine bsl_Dy ?_
  have he := Ext_alloc w (.cells #[.int .i64 m.sign, s, .int .i64 e] t_impl_Dyadic)
  refine ⟨he, ?_⟩
  have hrow : Row 3 (w.alloc (.cells #[.int .i64 m.sign, s, .int .i64 e] t_impl_Dyadic)) (.slice (some ⟨w.heap.size, 0, none⟩) 1 1) 1 [.int .i64 m.sign, s, .int .i64 e] := by
    refine ⟨rfl, by decide, _, _, rfl, fun _ => ⟨w.heap.size, 0, rfl, fun j u hj => ?_⟩⟩
    match j, hj with
    | 0, hj => cases hj; simp only [World.cell?, heap_new]; rfl
    | 1, hj => cases hj; simp only [World.cell?, heap_new]; rfl
    | 2, hj => cases hj; simp only [World.cell?, heap_new]; rfl
    | _ + 3, hj => simp at hj
  refine SL.push (a := q) h hrow rfl (one_3 rfl (sl_one (IR.sl hl.toIR)) rfl) he hbase (fun w' c a row hr hk hg ht => ?_) hu0 u_s_impl_Dyadic i_impl_Dyadic rfl (by decide) hn (by decide) fun v' w' h' hg hk => ?_
  · exact DQ.kt (DQ.ext hr he) hg ht (by decide)
  · exact H v' w' h' fun he0 hs => ext_of_grown (he0.trans he) (fun k hk' => Nat.le_trans hs (hk k hk')) hg
theorem DL.at {base : Nat} {v : Value} {lo hi : Nat} {qs : List Rat} {K : Value → Prop} {k : IntKind} {i : Nat} (h : DL w base v lo hi qs) (hi' : i < qs.length) (H : ∀ u, DQ w u lo hi qs[i] → K u) :
    ixa P t_s_impl_Dyadic v (.int k (i : Int)) w (fun a => ld P t_impl_Dyadic a w K) :=
  SL.at h hi' u_s_impl_Dyadic i_impl_Dyadic u_impl_Dyadic rfl fun c hc => H _ hc
theorem DL.len {base : Nat} {v : Value} {lo hi : Nat} {qs : List Rat} {ty : TypeId} {K : Value → Prop} (h : DL w base v lo hi qs) : bl0 P .len #[t_s_impl_Dyadic] ty [v] w K = K (.int .i64 qs.length) := SL.len h u_s_impl_Dyadic
theorem DL.nil0 {lo hi : Nat} {KW : Value → World → Prop} (H : ∀ v w', Ext w w' → DL w' w.heap.size v lo hi [] → KW v w') : bsl P t_s_impl_Dyadic 0 [] w KW := SL.nil u_s_impl_Dyadic i_impl_Dyadic H
theorem DL.take {base : Nat} {v : Value} {lo hi : Nat} {qs : List Rat} {K : Value → Prop} {ik : IntKind} {k : Nat} (h : DL w base v lo hi qs) (hk : k ≤ qs.length) (H : ∀ v', DL w base v' lo hi (qs.take k) → K v') :
    sli P t_s_impl_Dyadic v none (some (.int ik (k : Int))) none w K := SL.take h hk u_s_impl_Dyadic i_impl_Dyadic H
end Go.Proofs.YtjompmflommadaaGreatDoor


set_option linter.unusedVariables false
set_option linter.unusedSimpArgs false
namespace Go.Proofs.YtjompmflommadaaGreatDoor
open Go Go.Vc Ieee
variable {w : World} {K : Value → World → Prop}
def qkF (a b : Nat) : Option PV :=
  if finB (opF .add a b) then (if finB (opF .sub (opF .add a b) a) then (if finB (opF .sub b (opF .sub (opF .add a b) a)) then some (opF .add a b, opF .sub b (opF .sub (opF .add a b) a)) else none) else none) else none
def isPB (p : PV) : Bool := finB p.1 && finB p.2 && (single.order (opF .add p.1 p.2) p.1 == some .eq)
noncomputable def smF (x y : Nat) : Option PV := if finB (opF .add x y) then some (opF .add x y, zF (rndQ 0 (fq x + fq y - fq (opF .add x y))).1) else none
noncomputable def spF (x y : Nat) : Option PV := if finB (opF .mul x y) then some (opF .mul x y, zF (rndQ 0 (fq x * fq y - fq (opF .mul x y))).1) else none
def okP (o : Option PV) : Option PV := match o with
  | none => none
  | some p => if isPB p then some p else none
noncomputable def ad2 (s t : PV) : Option PV :=
  if finB s.2 && finB (opF .add s.2 t.1) then (match qkF s.1 (opF .add s.2 t.1) with
    | none => none
    | some v => if finB t.2 && finB (opF .add t.2 v.2) then okP (qkF v.1 (opF .add t.2 v.2)) else none) else none
noncomputable def adF (p q : PV) : Option PV := match smF p.1 q.1, smF p.2 q.2 with
  | some s, some t => ad2 s t
  | _, _ => none
noncomputable def mlF (p q : PV) : Option PV := match spF p.1 q.1 with
  | none => none
  | some s => if finB (opF .mul p.1 q.2) && finB (opF .mul p.2 q.1) && finB (opF .add (opF .mul p.1 q.2) (opF .mul p.2 q.1)) && finB s.2 && finB (opF .add s.2 (opF .add (opF .mul p.1 q.2) (opF .mul p.2 q.1))) then
      okP (qkF s.1 (opF .add s.2 (opF .add (opF .mul p.1 q.2) (opF .mul p.2 q.1)))) else none
def ngP (p : PV) : PV := (turnB p.1, turnB p.2)
def dv2 (A y : Nat) (o : Option PV) : Option PV := match o with
  | none => none
  | some s => if finB (opF .quo s.1 y) then okP (qkF A (opF .quo s.1 y)) else none
noncomputable def dvF (p q : PV) : Option PV :=
  if finB (opF .quo p.1 q.1) then (match mlF q (opF .quo p.1 q.1, 0) with
    | none => none
    | some r => dv2 (opF .quo p.1 q.1) q.1 (adF p (ngP r))) else none
def PF (p : PV) : Prop := pvB p ∧ Vc.Fin single p.1 ∧ Vc.Fin single p.2
theorem isPB_fin {p : PV} (h : isPB p = true) : Vc.Fin single p.1 ∧ Vc.Fin single p.2 := by
  unfold isPB at h
  rw [Bool.and_eq_true, Bool.and_eq_true] at h
  exact ⟨finB_iff.1 h.1.1, finB_iff.1 h.1.2⟩
theorem okP_some {o : Option PV} {p : PV} (h : okP o = some p) : o = some p ∧ isPB p = true := by
  unfold okP at h
  cases o with
  | none => cases h
  | some q =>
    simp only at h
    split at h
    · rename_i hq; simp only [Option.some.injEq] at h; subst h; exact ⟨rfl, hq⟩
    · cases h
theorem adF_pair {p q r : PV} (h : adF p q = some r) : isPB r = true := by
  unfold adF at h
  split at h
  · unfold ad2 at h
    split at h
    · split at h
      · cases h
      · split at h
        · exact (okP_some h).2
        · cases h
    · cases h
  · cases h
theorem mlF_pair {p q r : PV} (h : mlF p q = some r) : isPB r = true := by
  unfold mlF at h
  split at h
  · cases h
  · split at h
    · exact (okP_some h).2
    · cases h
theorem dvF_pair {p q r : PV} (h : dvF p q = some r) : isPB r = true := by
  unfold dvF at h
  split at h
  · split at h
    · cases h
    · unfold dv2 at h
      split at h
      · cases h
      · split at h
        · exact (okP_some h).2
        · cases h
  · cases h
theorem qkF_lt {a b : Nat} {p : PV} (h : qkF a b = some p) : pvB p := by
  unfold qkF at h
  split at h
  · split at h
    · split at h
      · simp only [Option.some.injEq] at h; subst h; exact ⟨opF_lt, opF_lt⟩
      · cases h
    · cases h
  · cases h
theorem qkF_fin {a b : Nat} {p : PV} (h : qkF a b = some p) : finB p.1 = true ∧ finB p.2 = true := by
  unfold qkF at h
  split at h
  · rename_i h1
    split at h
    · split at h
      · rename_i h3; simp only [Option.some.injEq] at h; subst h; exact ⟨h1, h3⟩
      · cases h
    · cases h
  · cases h
theorem FR32 {op : BinOp} {a b r : Nat} (h : FR op .f32 a b r) : r < 4294967296 := FR_lt h
theorem add_cases {a b r : Nat} (h : FR .add .f32 a b r) : (finB a && finB b) = true ∧ r = opF .add a b ∨ (finB a && finB b) = false ∧ finB r = false := by
  cases hf : (finB a && finB b)
  · exact .inr ⟨rfl, nf_add h hf⟩
  · rw [Bool.and_eq_true] at hf
    exact .inl ⟨rfl, FR_opF h (add_fin (finB_iff.1 hf.1) (finB_iff.1 hf.2))⟩
theorem sub_cases {a b r : Nat} (h : FR .sub .f32 a b r) : (finB a && finB b) = true ∧ r = opF .sub a b ∨ (finB a && finB b) = false ∧ finB r = false := by
  cases hf : (finB a && finB b)
  · exact .inr ⟨rfl, nf_sub h hf⟩
  · rw [Bool.and_eq_true] at hf
    exact .inl ⟨rfl, FR_opF h (sub_fin (finB_iff.1 hf.1) (finB_iff.1 hf.2))⟩
theorem all_fin3 (a b c : Nat) : [a, b, c].all finB = (finB a && finB b && finB c) := by simp [Bool.and_assoc]
theorem all_fin2 (a b : Nat) : [a, b].all finB = (finB a && finB b) := by simp
theorem all_fin4 (a b c d : Nat) : [a, b, c, d].all finB = (finB a && finB b && finB c && finB d) := by simp [Bool.and_assoc]
theorem quick_bits {a b h k l : Nat} (ha : finB a = true) (hb : finB b = true) (h1 : FR .add .f32 a b h) (h2 : FR .sub .f32 h a k) (h3 : FR .sub .f32 b k l) :
    (finB h && finB k && finB l) = (qkF a b).isSome ∧ (finB h && finB l) = (qkF a b).isSome ∧ ∀ p, qkF a b = some p → (h, l) = p := by
  have e1 : h = opF .add a b := by rcases add_cases h1 with ⟨_, h⟩ | ⟨h, _⟩; exact h; rw [ha, hb] at h; cases h
  subst e1
  unfold qkF
  cases f1 : finB (opF .add a b)
  · simp
  · have e2 : k = opF .sub (opF .add a b) a := by rcases sub_cases h2 with ⟨_, h⟩ | ⟨h, _⟩; exact h; rw [f1, ha] at h; cases h
    subst e2
    cases f2 : finB (opF .sub (opF .add a b) a)
    · have : finB l = false := by rcases sub_cases h3 with ⟨h, _⟩ | ⟨_, h⟩; rw [hb, f2] at h; cases h; exact h
      simp [this]
    · have e3 : l = opF .sub b (opF .sub (opF .add a b) a) := by rcases sub_cases h3 with ⟨_, h⟩ | ⟨h, _⟩; exact h; rw [hb, f2] at h; cases h
      subst e3
      cases f3 : finB (opF .sub b (opF .sub (opF .add a b) a)) <;> simp
set_option maxRecDepth 20000 in
theorem bsl_three {t e : TypeId} {z : Value} {b : Nat} {KW : Value → World → Prop} {x y u : Value} (hu : P.underlying t = some (.slice e)) (ht : TI P e z 1 b) (h1 : x.oneCell' = true) (h2 : y.oneCell' = true) (h3 : u.oneCell' = true) (hz : z.oneCell' = true)
    (h : KW (.slice (some ⟨w.heap.size, 0, none⟩) 3 3) (w.alloc (.cells #[x, y, u] e))) : bsl P t 3 [(0, x), (1, y), (2, u)] w KW := by
  have hcells : ∀ v : Value, v.oneCell' = true → v.cells = #[v] := by intro v h1; cases v <;> first | rfl | (simp [Value.oneCell'] at h1; done)
  unfold bsl Instr.buildSlice
  refine SemA_rv (rv_underlying hu) ?_
  refine SemA_rv (sm := sizeOf e) (rv_sizeOf ht) ?_
  simp only [Nat.mul_one]
  rw [if_neg (by omega), if_neg (by omega)]
  refine SemA_bind (s := zeroValue e) ?_
  refine SemA_of_rd (rd_of_rv _ (rv_zeroValue ht) ?_)
  refine SemA_bind (SemA_pure ?_)
  have : Instr.fill (fun i => some (i, 1)) ((Array.range 3).map (fun i => z.cells[i % z.cells.size]!)) [(0, x), (1, y), (2, u)].toArray.toList = some #[x, y, u] := by
    have hr : Array.range 3 = #[0, 1, 2] := rfl
    simp [Instr.fill, hr, hcells x h1, hcells y h2, hcells u h3, hcells z hz]
  simp only [this]
  exact SemA_bind (SemA_bind (SemA_new (SemA_pure (SemA_pure h))))
set_option maxRecDepth 20000 in
theorem bsl_four {t e : TypeId} {z : Value} {b : Nat} {KW : Value → World → Prop} {x y u v : Value} (hu : P.underlying t = some (.slice e)) (ht : TI P e z 1 b) (h1 : x.oneCell' = true) (h2 : y.oneCell' = true) (h3 : u.oneCell' = true) (h4 : v.oneCell' = true) (hz : z.oneCell' = true)
    (h : KW (.slice (some ⟨w.heap.size, 0, none⟩) 4 4) (w.alloc (.cells #[x, y, u, v] e))) : bsl P t 4 [(0, x), (1, y), (2, u), (3, v)] w KW := by
  have hcells : ∀ v : Value, v.oneCell' = true → v.cells = #[v] := by intro v h1; cases v <;> first | rfl | (simp [Value.oneCell'] at h1; done)
  unfold bsl Instr.buildSlice
  refine SemA_rv (rv_underlying hu) ?_
  refine SemA_rv (sm := sizeOf e) (rv_sizeOf ht) ?_
  simp only [Nat.mul_one]
  rw [if_neg (by omega), if_neg (by omega)]
  refine SemA_bind (s := zeroValue e) ?_
  refine SemA_of_rd (rd_of_rv _ (rv_zeroValue ht) ?_)
  refine SemA_bind (SemA_pure ?_)
  have : Instr.fill (fun i => some (i, 1)) ((Array.range 4).map (fun i => z.cells[i % z.cells.size]!)) [(0, x), (1, y), (2, u), (3, v)].toArray.toList = some #[x, y, u, v] := by
    have hr : Array.range 4 = #[0, 1, 2, 3] := rfl
    simp [Instr.fill, hr, hcells x h1, hcells y h2, hcells u h3, hcells v h4, hcells z hz]
  simp only [this]
  exact SemA_bind (SemA_bind (SemA_new (SemA_pure (SemA_pure h))))
theorem bslF3 {a b c : Nat} {KW : Value → World → Prop} (ha : a < 4294967296) (hb : b < 4294967296) (hc : c < 4294967296) (H : ∀ v w', Ext w w' → FS w' v [a, b, c] → KW v w') : bsl P t_s_float32 3 [(0, fl a), (1, fl b), (2, fl c)] w KW :=
  bsl_three u_s_float32 i_float32 rfl rfl rfl rfl (H _ _ (Ext_alloc _ _) ⟨owns_Row (owns_lit w [fl a, fl b, fl c] t_float32 (by simp [maxLen])), by intro b hb; simp at hb; rcases hb with rfl | rfl | rfl <;> assumption⟩)
theorem bslF4 {a b c d : Nat} {KW : Value → World → Prop} (ha : a < 4294967296) (hb : b < 4294967296) (hc : c < 4294967296) (hd : d < 4294967296) (H : ∀ v w', Ext w w' → FS w' v [a, b, c, d] → KW v w') : bsl P t_s_float32 4 [(0, fl a), (1, fl b), (2, fl c), (3, fl d)] w KW :=
  bsl_four u_s_float32 i_float32 rfl rfl rfl rfl rfl (H _ _ (Ext_alloc _ _) ⟨owns_Row (owns_lit w [fl a, fl b, fl c, fl d] t_float32 (by simp [maxLen])), by intro b hb; simp at hb; rcases hb with rfl | rfl | rfl | rfl <;> assumption⟩)
theorem bx_lt {x : Value} {base : Nat} {cs : List Value} (h : Bx w base t_impl_Pair x cs) : ∀ g, blk x = some g → base ≤ g := fun g hg => (h.blk_lt hg).1
theorem pv_end {w0 : World} {base : Nat} {x : Value} {a b : Nat} {p : PV} {KW : Value → World → Prop} (h : Bx w base t_impl_Pair x (pv2 a b)) (he : Ext w0 w) (hb : w0.heap.size ≤ base) (H : ∀ w', Ext w0 w' → KW (pvv p) w') :
    sto P t_impl_Pair x (pvv p) w fun w' => ldc P t_impl_Pair x w' fun r => KW r w' :=
  pv_ret h fun w' g => H w' (ext_of_grown he (fun k hk => Nat.le_trans hb (h.blk_lt hk).1) g)
theorem c_quick {a b : Nat} (ha : a < 4294967296) (hb : b < 4294967296) (H : ∀ o f w', Ext w w' → pvB o → (finB a = true → finB b = true → f = (qkF a b).isSome ∧ ∀ p, qkF a b = some p → o = p) → K (.tuple #[pvv o, .bool f]) w') : call P f_impl_quick [fl a, fl b] w K := by
  refine I_impl_quick ?_
  unfold D_impl_quick
  refine alc_pv fun x w1 ⟨a0, b0, b4⟩ e1 => ?_
  refine rbin_float (by simp) fun h h1 => ?_
  refine rbin_float (by simp) fun k h2 => ?_
  refine rbin_float (by simp) fun l h3 => ?_
  rw [bld_pv]
  refine bslF3 (FR32 h1) (FR32 h2) (FR32 h3) fun v w2 e2 hv => ?_
  refine c_areFinite hv ?_
  rw [all_fin3]
  refine pv_end (p := (h, l)) (b4.ext e2) (e1.trans e2) (Nat.le_refl _) fun w' e => H (h, l) _ w' e ⟨FR32 h1, FR32 h3⟩ fun fa fb => ?_
  have := quick_bits fa fb h1 h2 h3
  exact ⟨this.1, this.2.2⟩
theorem c_opposite {p : PV} (hp : pvB p) (H : ∀ w', Ext w w' → K (pvv (ngP p)) w') : call P f_impl_opposite [pvv p] w K := by
  refine I_impl_opposite ?_
  unfold D_impl_opposite
  refine bx_pv fun x1 w1 b1 e1 => ?_
  refine alc_pv fun x2 w2 ⟨a0, b0, b2⟩ e2 => ?_
  have b1 := b1.ext e2
  refine pv_H b1 ?_
  rw [una_neg_float, neg32 _ hp.1]
  refine pv_L b1 ?_
  rw [una_neg_float, neg32 _ hp.2, bld_pv]
  exact pv_end (p := ngP p) b2 (e1.trans e2) e1.size H
theorem c_IsPair {p : PV} (hp : pvB p) (H : ∀ w', Ext w w' → K (.bool (isPB p)) w') : call P f_impl_IsPair [pvv p] w K := by
  refine I_impl_IsPair ?_
  unfold D_impl_IsPair
  refine bx_pv fun x1 w1 b1 e1 => ?_
  refine pv_H b1 ?_
  refine pv_L b1 ?_
  refine bslF2 hp.1 hp.2 fun v w2 e2 hv => ?_
  refine c_areFinite hv ?_
  rw [all_fin2]
  have H := H w2 (e1.trans e2)
  unfold isPB at H
  refine andJ (fun h => ?_) (fun h => ?_)
  · refine pv_H (b1.ext e2) ?_
    refine pv_L (b1.ext e2) ?_
    refine rbin_float (by simp) fun r hr => ?_
    refine pv_H (b1.ext e2) ?_
    rw [bin_feql]
    rw [h, Bool.true_and] at H
    have : r = opF .add p.1 p.2 := by rcases add_cases hr with ⟨_, h⟩ | ⟨h', _⟩; exact h; rw [h] at h'; cases h'
    rw [this]; exact H
  · rw [h, Bool.false_and] at H; exact H
theorem c_limited {o : PV} {f : Bool} (ho : pvB o) (H : ∀ o' w', Ext w w' → pvB o' → (f = true → o' = o) → K (.tuple #[pvv o', .int .i64 (if f then 0 else 3)]) w') : call P f_impl_limited [pvv o, .bool f] w K := by
  refine I_impl_limited ?_
  unfold D_impl_limited
  refine bx_pv fun x1 w1 b1 e1 => ?_
  refine alc_pv fun x2 w2 ⟨a0, b0, b2⟩ e2 => ?_
  have b1 := b1.ext e2
  rw [una_not]
  cases f
  · refine cnd_yes rfl ?_
    rw [bld_pv0]
    exact pv_end (p := (0, 0)) b2 (e1.trans e2) e1.size fun w' e => H _ w' e ⟨by decide, by decide⟩ (fun h => by cases h)
  · refine cnd_no rfl ?_
    refine pv_all b1 ?_
    exact pv_end (p := o) b2 (e1.trans e2) e1.size fun w' e => H _ w' e ho (fun _ => rfl)
theorem c_pairValue {p : PV} (hp : PF p) (H : ∀ v w', Ext w w' → NQ w' v 149 129 (fq p.1 + fq p.2) → K v w') : call P f_impl_pairValue [pvv p] w K := by
  refine I_impl_pairValue ?_
  unfold D_impl_pairValue
  refine bx_pv fun x1 w1 b1 e1 => ?_
  refine alc_NC fun x2 w2 n2 e2 => ?_
  have b1 := b1.ext e2
  refine pv_H b1 ?_
  refine pv_L b1 ?_
  refine c_numOf hp.1.1 hp.2.1 fun u w3 e3 hu => ?_
  refine ⟨e3, ?_⟩
  refine c_numOf hp.1.2 hp.2.2 fun v w4 e4 hv => ?_
  refine c_num_add (hu.ext e4) hv (by decide) (by decide) fun s w5 e5 hs => ?_
  have E := e3.trans (e4.trans e5)
  refine nm_ret (n2.ext E) hs fun v' w' g hv => ?_
  exact H v' w' (ext_gr (e1.trans (e2.trans E)) e1.size g) hv
theorem c_rest {v : Value} {lo hi b : Nat} {q : Rat} (h : NQ w v lo hi q) (hl : lo ≤ 1000) (hh : hi ≤ 1000) (hl' : 149 ≤ lo) (hh' : 128 ≤ hi) (hb : b < 4294967296) (hf : Vc.Fin single b) (H : ∀ f w', Ext w w' → K (.tuple #[fl (zF (rndQ 0 (q - fq b)).1), .bool f]) w') : call P f_impl_rest [v, fl b] w K := by
  refine I_impl_rest ?_
  unfold D_impl_rest
  refine bx_NV h fun x w1 v1 e1 => ?_
  refine v1.get fun u hu => ?_
  refine c_numOf hb hf fun u2 w2 e2 h2 => ?_
  refine ⟨e2, ?_⟩
  refine c_num_sub (hu.ext e2) (h2.mono hl' hh') (by omega) (by omega) fun u3 w3 e3 h3 => ?_
  refine c_num_round h3 (by omega) (by omega) fun w4 e4 => ?_
  rw [xtr_0, xtr_1]
  refine c_plain ?_
  rw [bin_eql]
  exact H _ w4 (e1.trans (e2.trans (e3.trans e4)))
theorem zF_lt2 {b : Nat} (h : b < 4294967296) : zF b < 4294967296 := by unfold zF; split; decide; exact h
theorem c_exactSum {x y : Nat} (hx : x < 4294967296) (hy : y < 4294967296) (fx : Vc.Fin single x) (fy : Vc.Fin single y) (H : ∀ o w', Ext w w' → pvB o → (∀ p, smF x y = some p → o = p) → K (.tuple #[pvv o, .bool (smF x y).isSome]) w') : call P f_impl_exactSum [fl x, fl y] w K := by
  refine I_impl_exactSum ?_
  unfold D_impl_exactSum
  refine alc_pv fun x4 w1 ⟨a0, b0, b4⟩ e1 => ?_
  refine rbin_float (by simp) fun h h1 => ?_
  have he : h = opF .add x y := FR_opF h1 (add_fin fx fy)
  subst he
  refine c_isFinite (FR32 h1) ?_
  rw [una_not]
  unfold smF at H
  cases hf : finB (opF .add x y)
  · rw [hf] at H
    refine cnd_yes rfl ?_
    rw [bld_pv0]
    exact pv_end (p := (0, 0)) b4 e1 (Nat.le_refl _) fun w' e => H _ w' e ⟨by decide, by decide⟩ (fun p hp => by cases hp)
  · rw [hf] at H
    refine cnd_no rfl ?_
    refine c_numOf hx fx fun u w2 e2 hu => ?_
    refine c_numOf hy fy fun v w3 e3 hv => ?_
    refine c_num_add (hu.ext e3) hv (by decide) (by decide) fun s w4 e4 hs => ?_
    refine c_rest hs (by decide) (by decide) (by decide) (by decide) (FR32 h1) (finB_iff.1 hf) fun f w5 e5 => ?_
    rw [xtr_0, xtr_1, bld_pv]
    have E := e2.trans (e3.trans (e4.trans e5))
    exact pv_end (p := (opF .add x y, zF (rndQ 0 (fq x + fq y - fq (opF .add x y))).1)) (b4.ext E) (e1.trans E) (Nat.le_refl _) fun w' e => H _ w' e ⟨opF_lt, zF_lt2 (rndQ_lt _ _)⟩ (fun p hp => by simpa using hp)
theorem c_shortProduct {x y : Nat} (hx : x < 4294967296) (hy : y < 4294967296) (fx : Vc.Fin single x) (fy : Vc.Fin single y) (H : ∀ o f w', Ext w w' → pvB o → (∀ p, spF x y = some p → o = p) → K (.tuple #[pvv o, .bool (spF x y).isSome, .bool f]) w') : call P f_impl_shortProduct [fl x, fl y] w K := by
  refine I_impl_shortProduct ?_
  unfold D_impl_shortProduct
  refine alc_pv fun x4 w1 ⟨a0, b0, b4⟩ e1 => ?_
  refine rbin_float (by simp) fun h h1 => ?_
  have he : h = opF .mul x y := FR_opF h1 (mul_fin fx fy)
  subst he
  refine c_isFinite (FR32 h1) ?_
  rw [una_not]
  unfold spF at H
  cases hf : finB (opF .mul x y)
  · rw [hf] at H
    refine cnd_yes rfl ?_
    rw [bld_pv0]
    exact pv_end (p := (0, 0)) b4 e1 (Nat.le_refl _) fun w' e => H _ _ w' e ⟨by decide, by decide⟩ (fun p hp => by cases hp)
  · rw [hf] at H
    refine cnd_no rfl ?_
    refine c_numOf hx fx fun u w2 e2 hu => ?_
    refine c_numOf hy fy fun v w3 e3 hv => ?_
    refine c_num_mul (hu.ext e3) hv (by decide) (by decide) (by decide) (by decide) fun s w4 e4 hs => ?_
    refine c_rest hs (by decide) (by decide) (by decide) (by decide) (FR32 h1) (finB_iff.1 hf) fun f w5 e5 => ?_
    rw [xtr_0, xtr_1, bld_pv]
    have E := e2.trans (e3.trans (e4.trans e5))
    exact pv_end (p := (opF .mul x y, zF (rndQ 0 (fq x * fq y - fq (opF .mul x y))).1)) (b4.ext E) (e1.trans E) (Nat.le_refl _) fun w' e => H _ _ w' e ⟨opF_lt, zF_lt2 (rndQ_lt _ _)⟩ (fun p hp => by simpa using hp)
end Go.Proofs.YtjompmflommadaaGreatDoor


set_option linter.unusedVariables false
set_option linter.unusedSimpArgs false
namespace Go.Proofs.YtjompmflommadaaGreatDoor
open Go Go.Vc Ieee
variable {w : World} {K : Value → World → Prop}
theorem smF_parts {x y : Nat} {p : PV} (h : smF x y = some p) : finB p.1 = true ∧ pvB p := by
  unfold smF at h
  split at h
  · rename_i hf; simp only [Option.some.injEq] at h; subst h; exact ⟨hf, opF_lt, zF_lt2 (rndQ_lt _ _)⟩
  · cases h
theorem spF_parts {x y : Nat} {p : PV} (h : spF x y = some p) : finB p.1 = true ∧ pvB p := by
  unfold spF at h
  split at h
  · rename_i hf; simp only [Option.some.injEq] at h; subst h; exact ⟨hf, opF_lt, zF_lt2 (rndQ_lt _ _)⟩
  · cases h
theorem okP_of {o : Option PV} {p : PV} (h : o = some p) : okP o = if isPB p then some p else none := by rw [h]; rfl
set_option maxRecDepth 20000 in
theorem c_addPairs {p q : PV} (hp : PF p) (hq : PF q) (H : ∀ o w', Ext w w' → pvB o → (∀ r, adF p q = some r → o = r) → K (.tuple #[pvv o, .bool (adF p q).isSome]) w') : call P f_impl_addPairs [pvv p, pvv q] w K := by
  refine I_impl_addPairs ?_
  unfold D_impl_addPairs
  refine bx_pv fun x2 w1 b2 e1 => ?_
  refine bx_pv fun x3 w2 b3 e2 => ?_
  refine alc_pv fun x4 w3 ⟨a0, b0, b4⟩ e3 => ?_
  have b2 := (b2.ext e2).ext e3
  have b3 := b3.ext e3
  have E3 := e1.trans (e2.trans e3)
  have s3 : w.heap.size ≤ w2.heap.size := (e1.trans e2).size
  refine pv_H b2 ?_
  refine pv_H b3 ?_
  refine c_exactSum hp.1.1 hq.1.1 hp.2.1 hq.2.1 fun s w4 e4 hs hsp => ?_
  rw [xtr_0, xtr_1]
  refine alc_pv fun x6 w5 ⟨a1, b1, b6⟩ e5 => ?_
  refine pv_put b6 fun w6 b6 g6 => ?_
  have e6 : Ext w4 w6 := ext_of_grown e5 (fun g hg => bx_lt b6 g hg) g6
  have E6 := e4.trans e6
  refine pv_L (b2.ext E6) ?_
  refine pv_L (b3.ext E6) ?_
  refine c_exactSum hp.1.2 hq.1.2 hp.2.2 hq.2.2 fun t w7 e7 ht htp => ?_
  rw [xtr_0, xtr_1]
  refine alc_pv fun x8 w8 ⟨a2, b2', b8⟩ e8 => ?_
  refine pv_put b8 fun w9 b8 g9 => ?_
  have e9 : Ext w7 w9 := ext_of_grown e8 (fun g hg => bx_lt b8 g hg) g9
  have b6 := (b6.ext e7).ext e9
  have E9 := E6.trans (e7.trans e9)
  have b4 := b4.ext E9
  have EE := E3.trans E9
  have fail : ∀ {w' : World}, Ext w9 w' → adF p q = none → bld P t_impl_Pair [] w' fun x => sto P t_impl_Pair x4 x w' fun w' => ldc P t_impl_Pair x4 w' fun r => K (.tuple #[r, .bool false]) w' := fun e hn => by
    rw [bld_pv0]
    refine pv_end (p := (0, 0)) (b4.ext e) (EE.trans e) s3 fun w' e' => ?_
    rw [hn] at H
    exact H _ w' e' ⟨by decide, by decide⟩ (fun r hr => by cases hr)
  rw [una_not]
  refine orJ (fun h1 => ?_) (fun h1 => ?_)
  · refine cnd_yes rfl (fail (Ext.refl _) ?_)
    have : smF p.1 q.1 = none := by cases hh : smF p.1 q.1; rfl; rw [hh] at h1; cases h1
    unfold adF; rw [this]
  rw [una_not]
  refine cnd_split (fun h2 => ?_) (fun h2 => ?_)
  · refine fail (Ext.refl _) ?_
    have : smF p.2 q.2 = none := by cases hh : smF p.2 q.2; rfl; rw [hh] at h2; cases h2
    unfold adF; rw [this]; cases smF p.1 q.1 <;> rfl
  obtain ⟨s', hs'⟩ : ∃ s', smF p.1 q.1 = some s' := by cases hh : smF p.1 q.1; rw [hh] at h1; cases h1; exact ⟨_, rfl⟩
  obtain ⟨t', ht'⟩ : ∃ t', smF p.2 q.2 = some t' := by cases hh : smF p.2 q.2; rw [hh] at h2; cases h2; exact ⟨_, rfl⟩
  have hss := hsp s' hs'
  have htt := htp t' ht'
  subst hss; subst htt
  have had : adF p q = ad2 s t := by unfold adF; rw [hs', ht']
  have fs1 := (smF_parts hs').1
  have ft1 := (smF_parts ht').1
  rw [had] at H fail
  refine pv_L b6 ?_
  refine pv_H b8 ?_
  refine rbin_float (by simp) fun f hf => ?_
  refine pv_H b6 ?_
  refine c_quick hs.1 (FR32 hf) fun v q3 w10 e10 hv hq1 => ?_
  rw [xtr_0, xtr_1]
  refine alc_pv fun x11 w11 ⟨a3, b3', b11⟩ e11 => ?_
  refine pv_put b11 fun w12 b11 g12 => ?_
  have e12 : Ext w10 w12 := ext_of_grown e11 (fun g hg => bx_lt b11 g hg) g12
  have E12 := e10.trans e12
  refine pv_L (b8.ext E12) ?_
  refine pv_L b11 ?_
  refine rbin_float (by simp) fun g hg => ?_
  refine pv_H b11 ?_
  refine c_quick hv.1 (FR32 hg) fun o q4 w13 e13 ho hq2 => ?_
  rw [xtr_0, xtr_1]
  refine alc_pv fun x14 w14 ⟨a4, b4', b14⟩ e14 => ?_
  refine pv_put b14 fun w15 b14 g15 => ?_
  have e15 : Ext w13 w15 := ext_of_grown e14 (fun g hg => bx_lt b14 g hg) g15
  refine bslF2 (FR32 hf) (FR32 hg) fun u w16 e16 hu => ?_
  refine c_areFinite hu ?_
  rw [all_fin2]
  have E16 := E12.trans (e13.trans (e15.trans e16))
  have b14 := b14.ext e16
  have out : ∀ (f1 f2 : Bool), (finB f && finB g) = f1 → (f1 = true → q3 = f2) → (f1 = false ∨ f2 = false → ad2 s t = none) ∧ (f1 = true → f2 = true → q4 = (ad2 s t).isSome ∨ (q4 = true ∧ (ad2 s t).isSome = isPB o)) ∧ (f1 = true → f2 = true → q4 = true → (isPB o = true → ad2 s t = some o) ∧ (isPB o = false → ad2 s t = none)) := by
    intro f1 f2 hf1 hf2
    subst hf1
    have fcase := add_cases hf
    by_cases ff : finB f = true
    · have hfe : (finB s.2 && finB t.1) = true ∧ f = opF .add s.2 t.1 := by
        rcases fcase with h | ⟨_, h⟩
        · exact h
        · rw [ff] at h; cases h
      obtain ⟨hfe1, rfl⟩ := hfe
      rw [Bool.and_eq_true] at hfe1
      obtain ⟨r1, r2⟩ := hq1 fs1 ff
      by_cases hqv : (qkF s.1 (opF .add s.2 t.1)).isSome = true
      · obtain ⟨v', hv'⟩ := Option.isSome_iff_exists.1 hqv
        have hvv := r2 v' hv'
        subst hvv
        have fv := qkF_fin hv'
        by_cases fg : finB g = true
        · have hge : (finB t.2 && finB v.2) = true ∧ g = opF .add t.2 v.2 := by
            rcases add_cases hg with h | ⟨_, h⟩
            · exact h
            · rw [fg] at h; cases h
          obtain ⟨hge1, rfl⟩ := hge
          rw [Bool.and_eq_true] at hge1
          obtain ⟨k1, k2⟩ := hq2 fv.1 fg
          have hA : ad2 s t = okP (qkF v.1 (opF .add t.2 v.2)) := by
            unfold ad2
            rw [hfe1.1, ff, Bool.and_self, if_pos rfl, hv']
            simp only
            rw [hge1.1, fg, Bool.and_self, if_pos rfl]
          refine ⟨fun h => ?_, fun _ _ => ?_, fun _ _ hq4 => ?_⟩
          · rcases h with h | h
            · rw [ff, fg] at h; cases h
            · have := hf2 (by rw [ff, fg]; rfl)
              rw [this, h, hqv] at r1
              cases r1
          · rw [hA]
            cases hk : qkF v.1 (opF .add t.2 v.2) with
            | none => left; rw [k1, hk]; rfl
            | some o' =>
              right
              have := k2 o' hk
              subst this
              refine ⟨by rw [k1, hk]; rfl, ?_⟩
              unfold okP; simp only
              cases isPB o <;> rfl
          · rw [k1] at hq4
            obtain ⟨o', ho'⟩ := Option.isSome_iff_exists.1 hq4
            have := k2 o' ho'
            subst this
            rw [hA, okP_of ho']
            exact ⟨fun h => by rw [if_pos h], fun h => by rw [if_neg (by rw [h]; decide)]⟩
        · rw [Bool.not_eq_true] at fg
          have hN : ad2 s t = none := by
            unfold ad2
            rw [hfe1.1, ff, Bool.and_self, if_pos rfl, hv']
            simp only
            by_cases hc : (finB t.2 && finB (opF .add t.2 v.2)) = true
            · rw [Bool.and_eq_true] at hc
              rcases add_cases hg with ⟨_, h⟩ | ⟨h, _⟩
              · rw [h, hc.2] at fg; cases fg
              · rw [hc.1, fv.2] at h; cases h
            · rw [if_neg hc]
          have hno : ¬ (finB (opF .add s.2 t.1) && finB g) = true := by rw [fg, Bool.and_false]; decide
          exact ⟨fun _ => hN, fun h => absurd h hno, fun h => absurd h hno⟩
      · rw [Bool.not_eq_true] at hqv
        have hnone : qkF s.1 (opF .add s.2 t.1) = none := by cases hh : qkF s.1 (opF .add s.2 t.1); rfl; rw [hh] at hqv; cases hqv
        have hN : ad2 s t = none := by
          unfold ad2
          rw [hfe1.1, ff, Bool.and_self, if_pos rfl, hnone]
        refine ⟨fun _ => hN, fun h1 h2 => ?_, fun h1 h2 => ?_⟩
        · have := hf2 h1
          rw [h2, r1, hqv] at this; cases this
        · have := hf2 h1
          rw [h2, r1, hqv] at this; cases this
    · rw [Bool.not_eq_true] at ff
      have hN : ad2 s t = none := by
        unfold ad2
        by_cases hc : (finB s.2 && finB (opF .add s.2 t.1)) = true
        · rw [Bool.and_eq_true] at hc
          rcases fcase with ⟨_, h⟩ | ⟨h, _⟩
          · rw [h, hc.2] at ff; cases ff
          · rw [hc.1, ft1] at h; cases h
        · rw [if_neg hc]
      have hno : ¬ (finB f && finB g) = true := by rw [ff, Bool.false_and]; decide
      exact ⟨fun _ => hN, fun h => absurd h hno, fun h => absurd h hno⟩
  rw [una_not]
  refine orJ (fun k1 => ?_) (fun k1 => ?_)
  · refine orJ (fun _ => ?_) (fun h => by cases h)
    refine orJ (fun _ => ?_) (fun h => by cases h)
    refine cnd_yes rfl (fail E16 ?_)
    exact (out false q3 (by revert k1; cases (finB f && finB g) <;> simp) (fun h => by cases h)).1 (.inl rfl)
  rw [una_not]
  have k1' : (finB f && finB g) = true := by revert k1; cases (finB f && finB g) <;> simp
  refine orJ (fun k2 => ?_) (fun k2 => ?_)
  · refine orJ (fun _ => ?_) (fun h => by cases h)
    refine cnd_yes rfl (fail E16 ?_)
    exact (out true q3 k1' (fun _ => rfl)).1 (.inr (by simpa using k2))
  rw [una_not]
  have k2' : q3 = true := by simpa using k2
  obtain ⟨o1, o2, o3⟩ := out true true k1' (fun _ => k2')
  refine orJ (fun k3 => ?_) (fun k3 => ?_)
  · have hq4 : q4 = false := by simpa using k3
    refine cnd_yes rfl (fail E16 ?_)
    rcases o2 rfl rfl with h | ⟨h, _⟩
    · rw [hq4] at h
      cases hh : ad2 s t
      · rfl
      · rw [hh] at h; cases h
    · rw [hq4] at h; cases h
  have hq4 : q4 = true := by simpa using k3
  have o3 := o3 rfl rfl hq4
  refine pv_all b14 ?_
  refine c_IsPair ho fun w17 e17 => ?_
  rw [una_not]
  cases hP : isPB o
  · refine cnd_yes rfl (fail (E16.trans e17) (o3.2 hP))
  · refine cnd_no rfl ?_
    refine pv_all (b14.ext e17) ?_
    refine pv_end (p := o) (b4.ext (E16.trans e17)) (EE.trans (E16.trans e17)) s3 fun w' e' => ?_
    rw [o3.1 hP] at H
    exact H o w' e' ho (fun r hr => by simpa using hr)
set_option maxRecDepth 20000 in
theorem c_mulPairs {p q : PV} (hp : PF p) (hq : PF q) (H : ∀ o w', Ext w w' → pvB o → (∀ r, mlF p q = some r → o = r) → K (.tuple #[pvv o, .bool (mlF p q).isSome]) w') : call P f_impl_mulPairs [pvv p, pvv q] w K := by
  refine I_impl_mulPairs ?_
  unfold D_impl_mulPairs
  refine bx_pv fun x2 w1 b2 e1 => ?_
  refine bx_pv fun x3 w2 b3 e2 => ?_
  refine alc_pv fun x4 w3 ⟨a0, b0, b4⟩ e3 => ?_
  have b2 := (b2.ext e2).ext e3
  have b3 := b3.ext e3
  have E3 := e1.trans (e2.trans e3)
  have s3 : w.heap.size ≤ w2.heap.size := (e1.trans e2).size
  refine pv_H b2 ?_
  refine pv_H b3 ?_
  refine c_shortProduct hp.1.1 hq.1.1 hp.2.1 hq.2.1 fun s ex w4 e4 hs hsp => ?_
  rw [xtr_0, xtr_1, xtr_2]
  refine alc_pv fun x6 w5 ⟨a1, b1, b6⟩ e5 => ?_
  refine pv_put b6 fun w6 b6 g6 => ?_
  have e6 : Ext w4 w6 := ext_of_grown e5 (fun g hg => bx_lt b6 g hg) g6
  have E6 := e4.trans e6
  have b2 := b2.ext E6
  have b3 := b3.ext E6
  have b4 := b4.ext E6
  have EE := E3.trans E6
  have fail : ∀ {w' : World}, Ext w6 w' → mlF p q = none → bld P t_impl_Pair [] w' fun x => sto P t_impl_Pair x4 x w' fun w' => ldc P t_impl_Pair x4 w' fun r => K (.tuple #[r, .bool false]) w' := fun e hn => by
    rw [bld_pv0]
    refine pv_end (p := (0, 0)) (b4.ext e) (EE.trans e) s3 fun w' e' => ?_
    rw [hn] at H
    exact H _ w' e' ⟨by decide, by decide⟩ (fun r hr => by cases hr)
  rw [una_not]
  refine cnd_split (fun h1 => ?_) (fun h1 => ?_)
  · refine fail (Ext.refl _) ?_
    have : spF p.1 q.1 = none := by cases hh : spF p.1 q.1; rfl; rw [hh] at h1; cases h1
    unfold mlF; rw [this]
  obtain ⟨s', hs'⟩ : ∃ s', spF p.1 q.1 = some s' := by cases hh : spF p.1 q.1; rw [hh] at h1; cases h1; exact ⟨_, rfl⟩
  have hss := hsp s' hs'
  subst hss
  have fs1 := (spF_parts hs').1
  refine pv_H b2 ?_
  refine pv_L b3 ?_
  refine rbin_float (by simp) fun a ha => ?_
  obtain rfl : a = opF .mul p.1 q.2 := FR_opF ha (mul_fin hp.2.1 hq.2.2)
  refine pv_L b2 ?_
  refine pv_H b3 ?_
  refine rbin_float (by simp) fun b hb => ?_
  obtain rfl : b = opF .mul p.2 q.1 := FR_opF hb (mul_fin hp.2.2 hq.2.1)
  refine rbin_float (by simp) fun c hc => ?_
  refine pv_L b6 ?_
  refine rbin_float (by simp) fun d hd => ?_
  refine pv_H b6 ?_
  refine c_quick hs.1 (FR32 hd) fun o q4 w7 e7 ho hq2 => ?_
  rw [xtr_0, xtr_1]
  refine alc_pv fun x13 w8 ⟨a4, b4', b13⟩ e8 => ?_
  refine pv_put b13 fun w9 b13 g9 => ?_
  have e9 : Ext w7 w9 := ext_of_grown e8 (fun g hg => bx_lt b13 g hg) g9
  refine bslF4 (FR32 ha) (FR32 hb) (FR32 hc) (FR32 hd) fun u w10 e10 hu => ?_
  refine c_areFinite hu ?_
  rw [all_fin4]
  have E10 := e7.trans (e9.trans e10)
  have b13 := b13.ext e10
  generalize hA : opF .mul p.1 q.2 = A at *
  generalize hB : opF .mul p.2 q.1 = B at *
  have key : (finB A && finB B && finB c && finB d) = (finB A && finB B && finB (opF .add A B) && finB s.2 && finB (opF .add s.2 (opF .add A B))) ∧ ((finB A && finB B && finB c && finB d) = true → d = opF .add s.2 (opF .add A B)) := by
    cases fA : finB A
    · exact ⟨by simp, fun h => by simp at h⟩
    cases fB : finB B
    · exact ⟨by simp, fun h => by simp at h⟩
    have hce : c = opF .add A B := by rcases add_cases hc with ⟨_, h⟩ | ⟨h, _⟩; exact h; rw [fA, fB] at h; cases h
    subst hce
    cases fc : finB (opF .add A B)
    · exact ⟨by simp, fun h => by simp at h⟩
    cases fs : finB s.2
    · have : finB d = false := by rcases add_cases hd with ⟨h, _⟩ | ⟨_, h⟩; rw [fs] at h; cases h; exact h
      exact ⟨by simp [this], fun h => by rw [this] at h; simp at h⟩
    · have hde : d = opF .add s.2 (opF .add A B) := by rcases add_cases hd with ⟨_, h⟩ | ⟨h, _⟩; exact h; rw [fs, fc] at h; cases h
      subst hde
      exact ⟨by simp, fun _ => rfl⟩
  have hml : mlF p q = if (finB A && finB B && finB c && finB d) = true then okP (qkF s.1 (opF .add s.2 (opF .add A B))) else none := by
    unfold mlF
    rw [hs', hA, hB, key.1]
  rw [una_not]
  refine orJ (fun k1 => ?_) (fun k1 => ?_)
  · refine orJ (fun _ => ?_) (fun h => by cases h)
    refine cnd_yes rfl (fail E10 ?_)
    rw [hml, if_neg (by revert k1; cases (finB A && finB B && finB c && finB d) <;> simp)]
  have k1' : (finB A && finB B && finB c && finB d) = true := by revert k1; cases (finB A && finB B && finB c && finB d) <;> simp
  rw [if_pos k1'] at hml
  have hde := key.2 k1'
  have fd : finB d = true := by simp only [Bool.and_eq_true] at k1'; exact k1'.2
  subst hde
  obtain ⟨r1, r2⟩ := hq2 fs1 fd
  rw [una_not]
  refine orJ (fun k2 => ?_) (fun k2 => ?_)
  · refine cnd_yes rfl (fail E10 ?_)
    have : q4 = false := by simpa using k2
    rw [hml]
    cases hh : qkF s.1 (opF .add s.2 (opF .add A B)) with
    | none => rfl
    | some x => rw [r1, hh] at this; cases this
  have hq4 : q4 = true := by simpa using k2
  rw [r1] at hq4
  obtain ⟨o', ho'⟩ := Option.isSome_iff_exists.1 hq4
  have := r2 o' ho'
  subst this
  rw [okP_of ho'] at hml
  refine pv_all b13 ?_
  refine c_IsPair ho fun w11 e11 => ?_
  rw [una_not]
  cases hP : isPB o
  · rw [hP] at hml
    exact cnd_yes rfl (fail (E10.trans e11) hml)
  · rw [hP] at hml
    refine cnd_no rfl ?_
    refine pv_all (b13.ext e11) ?_
    refine pv_end (p := o) (b4.ext (E10.trans e11)) (EE.trans (E10.trans e11)) s3 fun w' e' => ?_
    rw [hml] at H
    exact H o w' e' ho (fun r hr => by simpa using hr)
end Go.Proofs.YtjompmflommadaaGreatDoor


set_option linter.unusedVariables false
set_option linter.unusedSimpArgs false
namespace Go.Proofs.YtjompmflommadaaGreatDoor
open Go Go.Vc Ieee
variable {w : World} {K : Value → World → Prop}
def zB (b : Nat) : Bool := single.order b 0 == some .eq
theorem PF_ng {p : PV} (h : PF p) : PF (ngP p) := ⟨⟨turnB_lt h.1.1, turnB_lt h.1.2⟩, turnB_fin h.1.1 h.2.1, turnB_fin h.1.2 h.2.2⟩
theorem PF_of {p : PV} (h : isPB p = true) (hb : pvB p) : PF p := ⟨hb, isPB_fin h⟩
theorem okP_lt {a b : Nat} {p : PV} (h : okP (qkF a b) = some p) : pvB p := qkF_lt (okP_some h).1
theorem adF_PF {p q r : PV} (h : adF p q = some r) : PF r := by
  refine PF_of (adF_pair h) ?_
  unfold adF at h
  split at h
  · unfold ad2 at h
    split at h
    · split at h
      · cases h
      · split at h
        · exact okP_lt h
        · cases h
    · cases h
  · cases h
theorem mlF_PF {p q r : PV} (h : mlF p q = some r) : PF r := by
  refine PF_of (mlF_pair h) ?_
  unfold mlF at h
  split at h
  · cases h
  · split at h
    · exact okP_lt h
    · cases h
theorem dvF_PF {p q r : PV} (h : dvF p q = some r) : PF r := by
  refine PF_of (dvF_pair h) ?_
  unfold dvF at h
  split at h
  · split at h
    · cases h
    · unfold dv2 at h
      split at h
      · cases h
      · split at h
        · exact okP_lt h
        · cases h
  · cases h
theorem PF_H {a : Nat} (h : finB a = true) (ha : a < 4294967296) : PF (a, 0) := ⟨⟨ha, show (0 : Nat) < 4294967296 by decide⟩, finB_iff.1 h, show Vc.Fin single 0 by decide⟩
set_option maxRecDepth 20000 in
theorem c_divPairs {p q : PV} (hp : PF p) (hq : PF q) (hz : zB q.1 = false) (H : ∀ o w', Ext w w' → pvB o → (∀ r, dvF p q = some r → o = r) → K (.tuple #[pvv o, .bool (dvF p q).isSome]) w') : call P f_impl_divPairs [pvv p, pvv q] w K := by
  have hz' : FloatKind.f32.format.order q.1 0 ≠ some .eq := fun h => by
    unfold zB at hz
    rw [show single.order q.1 0 = some .eq from h] at hz
    cases hz
  refine I_impl_divPairs ?_
  unfold D_impl_divPairs
  refine bx_pv fun x2 w1 b2 e1 => ?_
  refine bx_pv fun x3 w2 b3 e2 => ?_
  refine alc_pv fun x4 w3 ⟨a0, b0, b4⟩ e3 => ?_
  have b2 := (b2.ext e2).ext e3
  have b3 := b3.ext e3
  have E3 := e1.trans (e2.trans e3)
  have s3 : w.heap.size ≤ w2.heap.size := (e1.trans e2).size
  have fail : ∀ {w' : World}, Ext w3 w' → dvF p q = none → bld P t_impl_Pair [] w' fun x => sto P t_impl_Pair x4 x w' fun w' => ldc P t_impl_Pair x4 w' fun r => K (.tuple #[r, .bool false]) w' := fun e hn => by
    rw [bld_pv0]
    refine pv_end (p := (0, 0)) (b4.ext e) (E3.trans e) s3 fun w' e' => ?_
    rw [hn] at H
    exact H _ w' e' ⟨by decide, by decide⟩ (fun r hr => by cases hr)
  refine pv_H b2 ?_
  refine pv_H b3 ?_
  refine rbin_float (by simp) fun a ha => ?_
  obtain rfl : a = opF .quo p.1 q.1 := FR_opF ha (div_def hp.2.1 hq.2.1 hz')
  have hAlt := FR32 ha
  generalize hA : opF .quo p.1 q.1 = A at *
  refine c_isFinite hAlt ?_
  rw [una_not]
  refine cnd_split (fun h1 => ?_) (fun h1 => ?_)
  · refine fail (Ext.refl _) ?_
    unfold dvF; rw [hA, if_neg (by simpa using h1)]
  have fA : finB A = true := by simpa using h1
  refine pv_all b3 ?_
  rw [bld_pvH]
  refine c_mulPairs hq (PF_H fA hAlt) fun r w4 e4 hr hm => ?_
  rw [xtr_0, xtr_1]
  refine alc_pv fun x7 w5 ⟨a1, b1, b7⟩ e5 => ?_
  refine pv_put b7 fun w6 b7 g6 => ?_
  have e6 : Ext w4 w6 := ext_of_grown e5 (fun g hg => bx_lt b7 g hg) g6
  have E6 := e4.trans e6
  rw [una_not]
  refine cnd_split (fun h2 => ?_) (fun h2 => ?_)
  · refine fail E6 ?_
    have : mlF q (A, 0) = none := by cases hh : mlF q (A, 0); rfl; rw [hh] at h2; cases h2
    unfold dvF; rw [hA, if_pos fA, this]
  obtain ⟨r', hr'⟩ : ∃ r', mlF q (A, 0) = some r' := by cases hh : mlF q (A, 0); rw [hh] at h2; cases h2; exact ⟨_, rfl⟩
  have hrr := hm r' hr'
  subst hrr
  have hPr := mlF_PF hr'
  have hdv : dvF p q = dv2 A q.1 (adF p (ngP r)) := by
    unfold dvF; rw [hA, if_pos fA, hr']
  refine ⟨fun x9 x10 w' => ∃ (B : Nat) (o : PV), w6.heap.size ≤ B ∧ Bx w' B t_impl_Pair x9 (pv2 o.1 o.2) ∧ Ext w6 w' ∧ pvB o ∧ x10 = .bool (adF p (ngP r)).isSome ∧ ∀ s, adF p (ngP r) = some s → o = s, ?_, ?_⟩
  · rintro x9 x10 junk w7 ⟨B, o, hB, b9, e7, ho, rfl, hos⟩
    rw [una_not]
    have E7 := E6.trans e7
    refine cnd_split (fun h3 => ?_) (fun h3 => ?_)
    · refine fail E7 ?_
      have : adF p (ngP r) = none := by cases hh : adF p (ngP r); rfl; rw [hh] at h3; cases h3
      rw [hdv, this]; rfl
    obtain ⟨s, hs⟩ : ∃ s, adF p (ngP r) = some s := by cases hh : adF p (ngP r); rw [hh] at h3; cases h3; exact ⟨_, rfl⟩
    have := hos s hs
    subst this
    have hPo := adF_PF hs
    rw [hs] at hdv
    unfold dv2 at hdv
    simp only at hdv
    refine pv_H b9 ?_
    refine pv_H (b3.ext E7) ?_
    refine rbin_float (by simp) fun b hb => ?_
    obtain rfl : b = opF .quo o.1 q.1 := FR_opF hb (div_def hPo.2.1 hq.2.1 hz')
    have hBlt := FR32 hb
    generalize hBq : opF .quo o.1 q.1 = Bq at *
    refine c_isFinite hBlt ?_
    rw [una_not]
    refine cnd_split (fun h4 => ?_) (fun h4 => ?_)
    · refine fail E7 ?_
      rw [hdv, if_neg (by simpa using h4)]
    have fB : finB Bq = true := by simpa using h4
    have hdv : dvF p q = okP (qkF A Bq) := by rw [hdv, if_pos fB]
    refine c_quick hAlt hBlt fun out q4 w8 e8 hout hq2 => ?_
    rw [xtr_0, xtr_1]
    refine alc_pv fun x12 w9 ⟨a4, b4', b12⟩ e9 => ?_
    refine pv_put b12 fun w10 b12 g10 => ?_
    have e10 : Ext w8 w10 := ext_of_grown e9 (fun g hg => bx_lt b12 g hg) g10
    have E10 := E7.trans (e8.trans e10)
    obtain ⟨r1, r2⟩ := hq2 fA fB
    rw [una_not]
    refine orJ (fun k2 => ?_) (fun k2 => ?_)
    · refine cnd_yes rfl (fail E10 ?_)
      have : q4 = false := by simpa using k2
      rw [hdv]
      cases hh : qkF A Bq with
      | none => rfl
      | some x => rw [r1, hh] at this; cases this
    have hq4 : q4 = true := by simpa using k2
    rw [r1] at hq4
    obtain ⟨o', ho'⟩ := Option.isSome_iff_exists.1 hq4
    have := r2 o' ho'
    subst this
    rw [okP_of ho'] at hdv
    refine pv_all b12 ?_
    refine c_IsPair hout fun w11 e11 => ?_
    rw [una_not]
    cases hP : isPB out
    · rw [hP] at hdv
      exact cnd_yes rfl (fail (E10.trans e11) hdv)
    · rw [hP] at hdv
      refine cnd_no rfl ?_
      refine pv_all (b12.ext e11) ?_
      refine pv_end (p := out) (b4.ext (E10.trans e11)) (E3.trans (E10.trans e11)) s3 fun w' e' => ?_
      rw [hdv] at H
      exact H out w' e' hout (fun r hr => by simpa using hr)
  · refine pv_all (b2.ext E6) ?_
    refine pv_all b7 ?_
    have hPn := PF_ng hPr
    refine ⟨?_, ?_⟩
    · refine c_opposite hr fun w7 e7 => ?_
      refine ⟨e7, ?_, ?_⟩
      · refine c_addPairs hp hPn fun o w8 e8 ho hos => ?_
        rw [xtr_0, xtr_1]
        refine alc_pv fun x9 w9 ⟨a1, b1, b9⟩ e9 => ?_
        refine ⟨e9, ?_⟩
        refine pv_put b9 fun w10 b9 g10 => ?_
        rw [xtr_1]
        have e10 : Ext w8 w10 := ext_of_grown e9 (fun g hg => bx_lt b9 g hg) g10
        exact ⟨rfl, _, o, (e7.trans e8).size, b9, e7.trans (e8.trans e10), ho, rfl, hos⟩
      · refine alc_pv fun x9 w8 ⟨a1, b1, b9⟩ e8 => ?_
        refine ⟨e8, ?_⟩
        refine c_addPairs hp hPn fun o w9 e9 ho hos => ?_
        rw [xtr_0, xtr_1]
        refine pv_put (b9.ext e9) fun w10 b9 g10 => ?_
        rw [xtr_1]
        have e10 : Ext w7 w10 := ext_of_grown (e8.trans e9) (fun g hg => bx_lt b9 g hg) g10
        exact ⟨rfl, _, o, e7.size, b9, e7.trans e10, ho, rfl, hos⟩
    · refine alc_pv fun x9 w7 ⟨a1, b1, b9⟩ e7 => ?_
      refine ⟨e7, ?_⟩
      refine c_opposite hr fun w8 e8 => ?_
      refine ⟨e8, ?_⟩
      refine c_addPairs hp hPn fun o w9 e9 ho hos => ?_
      rw [xtr_0, xtr_1]
      refine pv_put ((b9.ext e8).ext e9) fun w10 b9 g10 => ?_
      rw [xtr_1]
      have e10 : Ext w6 w10 := ext_of_grown (e7.trans (e8.trans e9)) (fun g hg => bx_lt b9 g hg) g10
      exact ⟨rfl, _, o, Nat.le_refl _, b9, e10, ho, rfl, hos⟩
def lim (o : Option PV) : PV × Int := match o with
  | none => ((0, 0), 3)
  | some r => (r, 0)
noncomputable def pvQ (p : PV) : Rat := fq p.1 + fq p.2
noncomputable def prOne (l : List UInt8) (p : PV) : PV × Int := if l = [110, 101, 103] then (ngP p, 0) else if l = [115, 113, 114] then lim (mlF p p) else if l = [97, 98, 115] then (if pvQ p < 0 then ngP p else p, 0) else ((0, 0), 5)
noncomputable def prTwo (l : List UInt8) (p q : PV) : PV × Int :=
  if l = [43] then lim (adF p q) else if l = [45] then lim (adF p (ngP q)) else if l = [42] then lim (mlF p q) else if l = [47] then (if zB q.1 then ((0, 0), 5) else lim (dvF p q))
  else if 0 < cmpQ (pvQ p) (pvQ q) ∧ l = [109, 105, 110] ∨ cmpQ (pvQ p) (pvQ q) < 0 ∧ l = [109, 97, 120] then (q, 0) else (p, 0)
noncomputable def prM (vs : List Nat) : Mach PV := ⟨fun l => (leafB vs l, 0), prOne, prTwo, (0, 0)⟩
theorem c_limF {o : PV} {x : Option PV} (ho : pvB o) (hx : ∀ r, x = some r → o = r) (H : ∀ o' w', Ext w w' → pvB o' → ((lim x).2 = 0 → o' = (lim x).1) → K (.tuple #[pvv o', .int .i64 (lim x).2]) w') : call P f_impl_limited [pvv o, .bool x.isSome] w K := by
  refine c_limited ho fun o' w' e ho' hv => ?_
  cases x with
  | none => exact H o' w' e ho' (fun h => by cases h)
  | some r =>
    have : o' = r := (hv rfl).trans (hx r rfl)
    exact H o' w' e ho' (fun _ => this)
theorem c_pairOne {l : List UInt8} {p : PV} (hp : PF p) (H : ∀ o w', Ext w w' → pvB o → ((prOne l p).2 = 0 → o = (prOne l p).1) → K (.tuple #[pvv o, .int .i64 (prOne l p).2]) w') : call P f_impl_pairOne [str l, pvv p] w K := by
  refine I_impl_pairOne ?_
  unfold D_impl_pairOne
  refine bx_pv fun x3 w1 b3 e1 => ?_
  refine alc_pv fun x4 w2 ⟨a0, b0, b4⟩ e2 => ?_
  have b3 := b3.ext e2
  have E2 := e1.trans e2
  have s1 := e1.size
  unfold prOne at H
  rw [eql_str]
  refine cnd_dec (fun h1 => ?_) (fun h1 => ?_)
  · rw [if_pos h1] at H
    refine pv_all b3 ?_
    refine c_opposite hp.1 fun w3 e3 => ?_
    exact pv_end (p := ngP p) (b4.ext e3) (E2.trans e3) s1 fun w' e => H _ w' e (PF_ng hp).1 (fun _ => rfl)
  rw [if_neg h1] at H
  rw [eql_str]
  refine cnd_dec (fun h2 => ?_) (fun h2 => ?_)
  · rw [if_pos h2] at H
    refine pv_all b3 ?_
    refine pv_all b3 ?_
    refine c_mulPairs hp hp fun o w3 e3 ho hx => ?_
    rw [xtr_0, xtr_1]
    refine c_limF ho hx fun o' w4 e4 ho' hv => ?_
    rw [xtr_0, xtr_1]
    exact pv_end (p := o') (b4.ext (e3.trans e4)) (E2.trans (e3.trans e4)) s1 fun w' e => H _ w' e ho' hv
  rw [if_neg h2] at H
  rw [eql_str]
  refine cnd_dec (fun h3 => ?_) (fun h3 => ?_)
  · rw [if_pos h3] at H
    refine pv_all b3 ?_
    refine c_pairValue hp fun u w3 e3 hu => ?_
    refine c_num_sign hu fun w4 e4 => ?_
    have E4 := e3.trans e4
    rw [bin_lss]
    have hs : pvQ p < 0 ↔ sgQ (fq p.1 + fq p.2) < 0 := by
      show pvQ p < 0 ↔ sgQ (pvQ p) < 0
      unfold sgQ
      by_cases h : pvQ p < 0
      · rw [if_pos h]; exact ⟨fun _ => by decide, fun _ => h⟩
      · rw [if_neg h]
        constructor
        · intro h'; exact absurd h' h
        · intro h'; split at h' <;> cases h'
    refine cnd_dec (fun h4 => ?_) (fun h4 => ?_)
    · rw [if_pos (hs.2 h4)] at H
      refine pv_all (b3.ext E4) ?_
      refine c_opposite hp.1 fun w5 e5 => ?_
      exact pv_end (p := ngP p) (b4.ext (E4.trans e5)) (E2.trans (E4.trans e5)) s1 fun w' e => H _ w' e (PF_ng hp).1 (fun _ => rfl)
    · rw [if_neg (fun h => h4 (hs.1 h))] at H
      refine pv_all (b3.ext E4) ?_
      exact pv_end (p := p) (b4.ext E4) (E2.trans E4) s1 fun w' e => H _ w' e hp.1 (fun _ => rfl)
  rw [if_neg h3] at H
  rw [bld_pv0]
  exact pv_end (p := (0, 0)) b4 E2 s1 fun w' e => H _ w' e ⟨by decide, by decide⟩ (fun h => by cases h)
theorem c_pairTwo {l : List UInt8} {p q : PV} (hp : PF p) (hq : PF q) (H : ∀ o w', Ext w w' → pvB o → ((prTwo l p q).2 = 0 → o = (prTwo l p q).1) → K (.tuple #[pvv o, .int .i64 (prTwo l p q).2]) w') : call P f_impl_pairTwo [str l, pvv p, pvv q] w K := by
  refine I_impl_pairTwo ?_
  unfold D_impl_pairTwo
  refine bx_pv fun x4 w0 b4 e0 => ?_
  refine bx_pv fun x5 w1 b5 e1' => ?_
  refine alc_pv fun x6 w2 ⟨a0, b0, b6⟩ e2 => ?_
  have b4 := (b4.ext e1').ext e2
  have b5 := b5.ext e2
  have E2 := (e0.trans e1').trans e2
  have s1 := (e0.trans e1').size
  unfold prTwo at H
  have ret : ∀ {w3 : World} {o : PV} {c : Int}, Ext w2 w3 → (∀ w', Ext w w' → K (.tuple #[pvv o, .int .i64 c]) w') → sto P t_impl_Pair x6 (pvv o) w3 fun w' => ldc P t_impl_Pair x6 w' fun r => K (.tuple #[r, .int .i64 c]) w' := fun e HH =>
    pv_end (b6.ext e) (E2.trans e) s1 HH
  rw [eql_str]
  refine cnd_dec (fun h1 => ?_) (fun h1 => ?_)
  · rw [if_pos h1] at H
    refine pv_all b4 ?_
    refine pv_all b5 ?_
    refine c_addPairs hp hq fun o w3 e3 ho hx => ?_
    rw [xtr_0, xtr_1]
    refine c_limF ho hx fun o' w4 e4 ho' hv => ?_
    rw [xtr_0, xtr_1]
    exact ret (e3.trans e4) fun w' e => H _ w' e ho' hv
  rw [if_neg h1] at H
  rw [eql_str]
  refine cnd_dec (fun h2 => ?_) (fun h2 => ?_)
  · rw [if_pos h2] at H
    refine pv_all b4 ?_
    refine pv_all b5 ?_
    refine c_opposite hq.1 fun w3 e3 => ?_
    refine ⟨e3, ?_⟩
    refine c_addPairs hp (PF_ng hq) fun o w4 e4 ho hx => ?_
    rw [xtr_0, xtr_1]
    refine c_limF ho hx fun o' w5 e5 ho' hv => ?_
    rw [xtr_0, xtr_1]
    exact ret (e3.trans (e4.trans e5)) fun w' e => H _ w' e ho' hv
  rw [if_neg h2] at H
  rw [eql_str]
  refine cnd_dec (fun h3 => ?_) (fun h3 => ?_)
  · rw [if_pos h3] at H
    refine pv_all b4 ?_
    refine pv_all b5 ?_
    refine c_mulPairs hp hq fun o w3 e3 ho hx => ?_
    rw [xtr_0, xtr_1]
    refine c_limF ho hx fun o' w4 e4 ho' hv => ?_
    rw [xtr_0, xtr_1]
    exact ret (e3.trans e4) fun w' e => H _ w' e ho' hv
  rw [if_neg h3] at H
  rw [eql_str]
  refine cnd_dec (fun h4 => ?_) (fun h4 => ?_)
  · rw [if_pos h4] at H
    refine pv_H b5 ?_
    rw [bin_feql]
    show cnd (.bool (zB q.1)) _ _
    cases hz : zB q.1
    · rw [hz] at H
      refine cnd_no rfl ?_
      refine pv_all b4 ?_
      refine pv_all b5 ?_
      refine c_divPairs hp hq hz fun o w3 e3 ho hx => ?_
      rw [xtr_0, xtr_1]
      refine c_limF ho hx fun o' w4 e4 ho' hv => ?_
      rw [xtr_0, xtr_1]
      exact ret (e3.trans e4) fun w' e => H _ w' e ho' hv
    · rw [hz] at H
      refine cnd_yes rfl ?_
      rw [bld_pv0]
      exact ret (o := (0, 0)) (Ext.refl _) fun w' e => H _ w' e ⟨by decide, by decide⟩ (fun h => by cases h)
  rw [if_neg h4] at H
  refine pv_all b4 ?_
  refine pv_all b5 ?_
  refine c_pairValue hp fun u w3 e3 hu => ?_
  refine ⟨e3, ?_⟩
  refine c_pairValue hq fun v w4 e4 hv => ?_
  refine c_num_cmp (hu.ext e4) hv (by decide) (by decide) fun w5 e5 => ?_
  have E5 := e3.trans (e4.trans e5)
  have b4 := b4.ext E5
  have b5 := b5.ext E5
  rw [bin_gtr]
  have yes : (0 < cmpQ (pvQ p) (pvQ q) ∧ l = [109, 105, 110] ∨ cmpQ (pvQ p) (pvQ q) < 0 ∧ l = [109, 97, 120]) → ld P t_impl_Pair x5 w5 fun x => sto P t_impl_Pair x6 x w5 fun w' => ldc P t_impl_Pair x6 w' fun r => K (.tuple #[r, .int .i64 0]) w' := fun hc => by
    rw [if_pos hc] at H
    refine pv_all b5 ?_
    exact ret E5 fun w' e => H _ w' e hq.1 (fun _ => rfl)
  have no : ¬ (0 < cmpQ (pvQ p) (pvQ q) ∧ l = [109, 105, 110] ∨ cmpQ (pvQ p) (pvQ q) < 0 ∧ l = [109, 97, 120]) → ld P t_impl_Pair x4 w5 fun x => sto P t_impl_Pair x6 x w5 fun w' => ldc P t_impl_Pair x6 w' fun r => K (.tuple #[r, .int .i64 0]) w' := fun hc => by
    rw [if_neg hc] at H
    refine pv_all b4 ?_
    exact ret E5 fun w' e => H _ w' e hp.1 (fun _ => rfl)
  change ∃ J81, _
  generalize hcq : cmpQ (fq p.1 + fq p.2) (fq q.1 + fq q.2) = c
  have hcq' : cmpQ (pvQ p) (pvQ q) = c := hcq
  rw [hcq'] at yes no
  by_cases hg : 0 < c
  · rw [decide_eq_true (show c > 0 from hg)]
    refine ⟨_, fun _ _ _ h => h, ?_⟩
    simp only [grd_true_true, eql_str, pick_bool, cond_true]
    by_cases hm : l = [109, 105, 110]
    · rw [decide_eq_true hm]
      refine ⟨_, fun _ _ _ h => h, ?_⟩
      simp only [grd_true_false]
      refine ⟨_, fun _ _ _ h => h, ?_⟩
      simp only [grd_undef]
      refine ⟨_, fun _ _ _ h => h, ?_⟩
      simp only [grd_true_false, pick_bool, cond_true, cnd_true]
      exact yes (.inl ⟨hg, hm⟩)
    · rw [decide_eq_false hm]
      refine ⟨_, fun _ _ _ h => h, ?_⟩
      simp only [grd_false_false, bin_lss, decide_eq_false (show ¬ c < 0 by omega)]
      refine ⟨_, fun _ _ _ h => h, ?_⟩
      simp only [grd_false_true]
      refine ⟨_, fun _ _ _ h => h, ?_⟩
      simp only [grd_false_false, pick_bool, cond_false, cnd_false]
      exact no fun hc => hc.elim (fun h => hm h.2) (fun h => absurd h.1 (by omega))
  · rw [decide_eq_false (show ¬ c > 0 from hg)]
    refine ⟨_, fun _ _ _ h => h, ?_⟩
    simp only [grd_false_true, pick_bool, cond_false]
    refine ⟨_, fun _ _ _ h => h, ?_⟩
    simp only [grd_false_false, bin_lss]
    by_cases hlt : c < 0
    · simp only [decide_eq_true hlt]
      refine ⟨_, fun _ _ _ h => h, ?_⟩
      simp only [grd_true_true, eql_str]
      refine ⟨_, fun _ _ _ h => h, ?_⟩
      simp only [grd_false_false, pick_bool, cond_true, cond_false]
      refine cnd_dec (fun hm => yes (.inr ⟨hlt, hm⟩)) (fun hm => no fun hc => hc.elim (fun h => hg h.1) (fun h => hm h.2))
    · simp only [decide_eq_false hlt]
      refine ⟨_, fun _ _ _ h => h, ?_⟩
      simp only [grd_false_true]
      refine ⟨_, fun _ _ _ h => h, ?_⟩
      simp only [grd_false_false, pick_bool, cond_false, cnd_false]
      exact no fun hc => hc.elim (fun h => hg h.1) (fun h => hlt h.1)
end Go.Proofs.YtjompmflommadaaGreatDoor


set_option linter.unusedVariables false
set_option linter.unusedSimpArgs false
namespace Go.Proofs.YtjompmflommadaaGreatDoor
open Go Go.Vc
variable {w : World} {K : Value → World → Prop}
theorem ask_zero {ws : List (List UInt8)} {vs : List Nat} (h : askF ws (vs.all finB) vs.length = 0) : (∃ m, depF ws = some m) ∧ (∀ b ∈ vs, Vc.Fin Ieee.single b) ∧ ndS ws ws.length ≤ (vs.length : Int) ∧ vs.length ≤ 3 := by
  unfold askF at h
  split at h
  · cases h
  · rename_i h1
    split at h
    · cases h
    · rename_i h2
      have a1 : isPF ws = true := by cases hh : isPF ws; exact absurd (.inl hh) h1; rfl
      have a2 : vs.all finB = true := by cases hh : vs.all finB; exact absurd (.inr hh) h1; rfl
      refine ⟨Option.isSome_iff_exists.1 a1, fun b hb => finB_iff.1 (List.all_eq_true.1 a2 b hb), by omega, by omega⟩
end Go.Proofs.YtjompmflommadaaGreatDoor


set_option linter.unusedVariables false
set_option linter.unusedSimpArgs false
namespace Go.Proofs.YtjompmflommadaaGreatDoor
open Go Go.Vc Ieee
variable {w : World} {K : Value → World → Prop}
def RP (w : World) (c : List Value) (p : PV) : Prop := c = [fl p.1, fl p.2] ∧ PF p
abbrev PL (w : World) (base : Nat) (v : Value) (ps : List PV) : Prop := SL RP 2 t_impl_Pair w base v ps
section
variable {base : Nat} {v : Value} {ps : List PV}
theorem PL.ext {w' : World} (h : PL w base v ps) (he : Ext w w') : PL w' base v ps := SL.ext (w := w) (R := RP) (fun c a h => h) h he
theorem PL.at {K : Value → Prop} {k : IntKind} {i : Nat} (h : PL w base v ps) (hi : i < ps.length) (H : PF ps[i] → K (pvv ps[i])) : ixa P t_s_impl_Pair v (.int k (i : Int)) w (fun a => ld P t_impl_Pair a w K) :=
  SL.at h hi u_s_impl_Pair i_impl_Pair u_impl_Pair rfl fun c hc => by rw [hc.1]; exact H hc.2
theorem PL.len {ty : TypeId} {K : Value → Prop} (h : PL w base v ps) : bl0 P .len #[t_s_impl_Pair] ty [v] w K = K (.int .i64 ps.length) := SL.len h u_s_impl_Pair
theorem PL.nil0 {KW : Value → World → Prop} (H : ∀ v w', Ext w w' → PL w' w.heap.size v [] → KW v w') : bsl P t_s_impl_Pair 0 [] w KW := SL.nil u_s_impl_Pair i_impl_Pair H
theorem PL.take {K : Value → Prop} {ik : IntKind} {k : Nat} (h : PL w base v ps) (hk : k ≤ ps.length) (H : ∀ v', PL w base v' (ps.take k) → K v') : sli P t_s_impl_Pair v none (some (.int ik (k : Int))) none w K :=
  SL.take h hk u_s_impl_Pair i_impl_Pair H
set_option maxRecDepth 20000 in
theorem bsl_pv {KW : Value → World → Prop} {a b : Nat} (h : KW (.slice (some ⟨w.heap.size, 0, none⟩) 1 1) (w.alloc (.cells #[fl a, fl b] t_impl_Pair))) : bsl P t_s_impl_Pair 1 [(0, .agg #[fl a, fl b])] w KW := by
  unfold bsl Instr.buildSlice
  refine SemA_rv (rv_underlying u_s_impl_Pair) ?_
  refine SemA_rv (sm := sizeOf t_impl_Pair) (rv_sizeOf i_impl_Pair) ?_
  simp only [Nat.one_mul]
  rw [if_neg (by omega), if_neg (by omega)]
  refine SemA_bind (s := zeroValue t_impl_Pair) ?_
  refine SemA_of_rd (rd_of_rv _ (rv_zeroValue i_impl_Pair) ?_)
  refine SemA_bind (SemA_pure ?_)
  have : Instr.fill (fun i => some (i * 2, 2)) ((Array.range 2).map (fun i => ((Value.agg #[(.float .f32 0), (.float .f32 0)]).cells)[i % ((Value.agg #[(.float .f32 0), (.float .f32 0)]).cells).size]!)) [(0, .agg #[fl a, fl b])].toArray.toList = some #[fl a, fl b] := by
    have hr : Array.range 2 = #[0, 1] := rfl
    simp [Instr.fill, hr, Value.cells]
  simp only [this]
  exact SemA_bind (SemA_bind (SemA_new (SemA_pure (SemA_pure h))))
theorem PL.push2 {KW : Value → World → Prop} {ty : TypeId} {p : PV} (h : PL w base v ps) (hp : PF p) (hbase : base ≤ w.heap.size) (hn : ps.length ≤ 1048576)
    (H : ∀ v' w', PL w' base v' (ps ++ [p]) → (∀ {w0}, Ext w0 w → w0.heap.size ≤ base → Ext w0 w') → KW v' w') : bsl P t_s_impl_Pair 1 [(0, pvv p)] w fun x w1 => Ext w w1 ∧ bl2 P .append #[t_s_impl_Pair, t_s_impl_Pair] ty [v, x] w1 KW := by
  refine bsl_pv ?_
  have he := Ext_alloc w (.cells #[fl p.1, fl p.2] t_impl_Pair)
  refine ⟨he, ?_⟩
  have hrow : Row 2 (w.alloc (.cells #[fl p.1, fl p.2] t_impl_Pair)) (.slice (some ⟨w.heap.size, 0, none⟩) 1 1) 1 [fl p.1, fl p.2] := by
    refine ⟨rfl, by decide, _, _, rfl, fun _ => ⟨w.heap.size, 0, rfl, fun j u hj => ?_⟩⟩
    match j, hj with
    | 0, hj => cases hj; simp only [World.cell?, heap_new]; rfl
    | 1, hj => cases hj; simp only [World.cell?, heap_new]; rfl
    | _ + 2, hj => simp at hj
  refine SL.push (a := p) h hrow rfl (one_pv _ _) he hbase (fun w' c a row hr hk hg ht => hr) ⟨rfl, hp⟩ u_s_impl_Pair i_impl_Pair rfl (by decide) hn (by decide) fun v' w' h' hg hk => ?_
  exact H v' w' h' fun he0 hs => ext_of_grown (he0.trans he) (fun k hk' => Nat.le_trans hs (hk k hk')) hg
theorem PL.push {KW : Value → World → Prop} {ty : TypeId} {p : PV} (h : PL w base v ps) (hp : PF p) (hbase : base ≤ w.heap.size) (hn : ps.length ≤ 1048576)
    (H : ∀ v' w', PL w' base v' (ps ++ [p]) → (∀ {w0}, Ext w0 w → w0.heap.size ≤ base → Ext w0 w') → KW v' w') : bsl P t_s_impl_Pair 1 [(0, pvv p)] w fun x w1 => bl2 P .append #[t_s_impl_Pair, t_s_impl_Pair] ty [v, x] w1 KW :=
  SemA_mono (fun _ _ q => q.2) (PL.push2 h hp hbase hn H)
end
theorem kind_pair_fld {base : Nat} {x f0 f1 f2 : Value} {K : Value → Prop} (h : Bx w base t_kind_impl_Pair x [f0, f1, f2]) (H : K f0) : fda P t_kind_impl_Pair x 0 w (fun y => ld P t_kind_impl_Pair_0 y w K) := by
  obtain ⟨d, hd, ha⟩ := u_kind_impl_Pair_0
  exact h.fld (off := 0) rfl u_kind_impl_Pair rfl i_kind_impl_Pair_0 hd ha H
theorem kind_pair_fld1 {base : Nat} {x f0 f1 f2 : Value} {K : Value → Prop} (h : Bx w base t_kind_impl_Pair x [f0, f1, f2]) (H : K f1) : fda P t_kind_impl_Pair x 1 w (fun y => ld P t_kind_impl_Pair_1 y w K) := by
  obtain ⟨d, hd, ha⟩ := u_kind_impl_Pair_1
  exact h.fld (off := 1) rfl u_kind_impl_Pair rfl i_kind_impl_Pair_1 hd ha H
theorem kind_pair_fld2 {base : Nat} {x f0 f1 f2 : Value} {K : Value → Prop} (h : Bx w base t_kind_impl_Pair x [f0, f1, f2]) (H : K f2) : fda P t_kind_impl_Pair x 2 w (fun y => ld P t_kind_impl_Pair_2 y w K) := by
  obtain ⟨d, hd, ha⟩ := u_kind_impl_Pair_2
  exact h.fld (off := 2) rfl u_kind_impl_Pair rfl i_kind_impl_Pair_2 hd ha H
theorem c_RunPair_1 {b : Nat} (H : ∀ w', Ext w w' → K (pvv (b, 0)) w') : call P f_impl_RunPair_1 [fl b] w K := by
  refine I_impl_RunPair_1 ?_
  unfold D_impl_RunPair_1
  refine alc_pv fun x w1 ⟨a0, b0, b1⟩ e1 => ?_
  rw [bld_pvH]
  exact pv_end (p := (b, 0)) b1 e1 (Nat.le_refl _) H
theorem alc_pvp {KW : Value → World → Prop} (H : ∀ a w', Bx w' w.heap.size t_impl_Pair (.pointer (some a)) (pv2 0 0) → Ext w w' → KW (.pointer (some a)) w') : alc P t_impl_Pair w KW :=
  alc_bx i_impl_Pair fun x w' b e _ => by
    obtain ⟨g, rfl, h2, h3⟩ := b
    exact H _ w' ⟨g, rfl, h2, h3⟩ e
theorem lim_PF {o : Option PV} (h : (lim o).2 = 0) (ho : ∀ r, o = some r → PF r) : PF (lim o).1 := by
  cases o with
  | none => cases h
  | some r => exact ho r rfl
theorem prOne_PF {l : List UInt8} {p : PV} (hp : PF p) (h : (prOne l p).2 = 0) : PF (prOne l p).1 := by
  unfold prOne at *
  split at h
  · rename_i h1; rw [if_pos h1]; exact PF_ng hp
  · rename_i h1
    rw [if_neg h1]
    split at h
    · rename_i h2; rw [if_pos h2]; exact lim_PF h fun r hr => mlF_PF hr
    · rename_i h2
      rw [if_neg h2]
      split at h
      · rename_i h3
        rw [if_pos h3]
        simp only
        split
        · exact PF_ng hp
        · exact hp
      · cases h
theorem prTwo_PF {l : List UInt8} {p q : PV} (hp : PF p) (hq : PF q) (h : (prTwo l p q).2 = 0) : PF (prTwo l p q).1 := by
  unfold prTwo at *
  split at h
  · rename_i h1; rw [if_pos h1]; exact lim_PF h fun r hr => adF_PF hr
  · rename_i h1
    rw [if_neg h1]
    split at h
    · rename_i h2; rw [if_pos h2]; exact lim_PF h fun r hr => adF_PF hr
    · rename_i h2
      rw [if_neg h2]
      split at h
      · rename_i h3; rw [if_pos h3]; exact lim_PF h fun r hr => mlF_PF hr
      · rename_i h3
        rw [if_neg h3]
        split at h
        · rename_i h4
          rw [if_pos h4]
          split at h
          · cases h
          · rename_i h5; rw [if_neg h5]; exact lim_PF h fun r hr => dvF_PF hr
        · rename_i h4
          rw [if_neg h4]
          split
          · exact hq
          · exact hp
theorem leaf_PF {vs : List Nat} {l : List UInt8} (hv : ∀ b ∈ vs, b < 4294967296 ∧ Vc.Fin single b) : PF (leafB vs l, 0) := by
  obtain ⟨h1, h2⟩ := leafB_fin (l := l) hv
  exact ⟨⟨h1, show (0 : Nat) < 4294967296 by decide⟩, h2, show Vc.Fin single 0 by decide⟩
theorem map_pr_get {vs : List Nat} {i : Nat} (h : i < (vs.map fun b => ((b, 0) : PV)).length) : (vs.map fun b => ((b, 0) : PV))[i] = (vs.getD i 0, 0) := by
  have : i < vs.length := by simpa using h
  rw [getA_lt this]; simp
set_option maxRecDepth 20000 in
theorem c_run_Pair {v vv : Value} {ws : List (List UInt8)} {vs : List Nat} {m : Int} {vb : Nat} (h : I_Program w v ws) (hd : depF ws = some m) (hv : PL w vb vv (vs.map fun b => ((b, 0) : PV))) (hfin : ∀ b ∈ vs, b < 4294967296 ∧ Vc.Fin single b)
    (hn : ndS ws ws.length ≤ (vs.length : Int))
    (H : ∀ w', Ext w w' → pvB ((prM vs).res ws).1 → K (.tuple #[pvv ((prM vs).res ws).1, .int .i64 ((prM vs).res ws).2]) w') :
    call P f_impl_run_impl_Pair [v, vv, .agg #[fnv f_impl_RunPair_1, fnv f_impl_pairOne, fnv f_impl_pairTwo]] w K := by
  obtain ⟨s, rfl, hs⟩ := h
  obtain ⟨mm, hdp, rfl, hlen, hlen1⟩ := depF_dpS hd
  refine I_impl_run_impl_Pair ?_
  unfold D_impl_run_impl_Pair
  refine bx_pr fun x3 w1 b3 e1 => ?_
  refine bx_bx fun x5 w2 b5 e2 _ => ?_
  have b5 : Bx w2 w1.heap.size t_kind_impl_Pair x5 [fnv f_impl_RunPair_1, fnv f_impl_pairOne, fnv f_impl_pairTwo] := b5
  refine alc_pvp fun a6 w3 z6 e3 => ?_
  refine alc_pvp fun a19 w4 z19 e4 => ?_
  rw [nch_some]
  refine pv_all z19 ?_
  refine alc_pvp fun a8 w5 z8 e5 => ?_
  refine pv_put z8 fun w6 z8 g6 => ?_
  have e6 : Ext w4 w6 := ext_of_grown e5 (fun g hg => bx_lt z8 g hg) g6
  have E2 := e1.trans e2
  have E26 := e3.trans (e4.trans e6)
  have E6 := E2.trans E26
  have b3 := (b3.ext e2).ext E26
  have b5 := b5.ext E26
  have z6 := z6.ext (e4.trans e6)
  have hs := hs.ext E6
  have hv := hv.ext E6
  have s26 := E2.size
  refine PL.nil0 fun v22 w7 e7 hst => ?_
  refine pr_w (b3.ext e7) ?_
  rw [(hs.ext e7).len]
  refine ⟨fun g x9 x26 w' => ∃ (i : Nat) (st : List PV) (b : Int), x26 = .int .i64 i ∧ g + i = ws.length ∧ (prM vs).run ws i = (st, 0) ∧ dpS ws i = some ((st.length : Int), b) ∧ Ext w6 w' ∧ PL w' w6.heap.size x9 st,
    ⟨ws.length, 0, [], 0, rfl, by omega, rfl, rfl, e7, hst⟩, ?_⟩
  rintro g x9 x26 junk w8 ⟨i, st, b, rfl, hg, hrun, hdi, e8, hst⟩
  have hrg := dpS_range ws i _ _ hdi
  rw [bin_lss]
  refine cnd_dec (fun hlt => ?_) (fun hge => ?_)
  · have hi : i < ws.length := by omega
    have hs8 := hs.ext e8
    have hv8 := hv.ext e8
    have s8 := e8.size
    refine hs8.at hi ?_
    refine c_variable ?_
    have hvr := var_range ws[i]
    have hvl := var_lt hn hi
    obtain ⟨f0, f1, hd1⟩ := dep_step hd hi hdi
    have hsucc := (prM vs).succ ws hrun
    rw [getD_w hi] at hsucc
    have hl := hs8.le hi
    have leaf : ∀ {w' : World}, form0 ws[i] = 0 → Ext w8 w' →
        bsl P t_s_impl_Pair 1 [(0, pvv (leafB vs ws[i], 0))] w' fun x w1 => bl2 P .append #[t_s_impl_Pair, t_s_impl_Pair] t_s_impl_Pair [x9, x] w1 fun x40 w37 =>
          bin P .add t_int false true (.int .i64 i) (.int .i64 1) w37 fun x101 => ∃ m39, m39 < g ∧ ∃ (i : Nat) (st : List PV) (b : Int), x101 = .int .i64 i ∧ m39 + i = ws.length ∧ (prM vs).run ws i = (st, 0) ∧ dpS ws i = some ((st.length : Int), b) ∧ Ext w6 w37 ∧ PL w37 w6.heap.size x40 st := fun hf e9 => by
      refine (hst.ext e9).push (leaf_PF hfin) (Nat.le_trans s8 e9.size) (by omega) fun v' w9 hst' he => ?_
      rw [bin_add, wrap_i64 (by omega) (by omega)]
      refine ⟨g - 1, by omega, i + 1, st ++ [(leafB vs ws[i], 0)], max b ((st.length : Int) + 1 - form0 ws[i]), rfl, by omega, ?_, ?_, he (e8.trans e9) (Nat.le_refl _), hst'⟩
      · rw [hsucc]; unfold Mach.step; rw [if_pos hf]; rfl
      · rw [hd1, hf]; simp
    rw [bin_geq]
    refine cnd_dec (fun hx => ?_) (fun hx => ?_)
    · have hf := var_form hx
      obtain ⟨k, hk⟩ : ∃ k : Nat, varF ws[i] = (k : Int) := ⟨(varF ws[i]).toNat, by omega⟩
      have hlb : leafB vs ws[i] = vs.getD k 0 := by unfold leafB; rw [if_pos hx, hk]; rfl
      rw [hk]
      have hk' : k < (vs.map fun b => ((b, 0) : PV)).length := by simp; omega
      refine hv8.at hk' fun _ => ?_
      rw [map_pr_get hk', ← hlb]
      exact leaf hf (Ext.refl _)
    · refine c_form hl fun w9 e9 => ?_
      rw [bin_eql]
      refine cnd_dec (fun hf => ?_) (fun hf => ?_)
      · refine c_parseFloat hl fun b w10 e10 hb => ?_
        obtain ⟨b', hb'⟩ := pF_of hf (by omega)
        have hlb : leafB vs ws[i] = b' := by unfold leafB; rw [if_neg (by omega), hb']; rfl
        have hbb := hb b' hb'
        subst hbb
        rw [xtr_0, xtr_1]
        have E := e9.trans e10
        refine kind_pair_fld (b5.ext (e8.trans E)) ?_
        refine callv_call ?_
        show call P f_impl_RunPair_1 [fl b] w10 _
        refine c_RunPair_1 fun w11 e11 => ?_
        rw [← hlb]
        exact leaf hf (E.trans e11)
      · have hst9 := hst.ext e9
        have hpos : 0 < st.length := by omega
        rw [hst9.len, bin_sub, wrap_i64 (by omega) (by omega), show ((st.length : Int) - 1) = ((st.length - 1 : Nat) : Int) by omega]
        refine hst9.at (i := st.length - 1) (by omega) fun hPt => ?_
        refine alc_pvp fun a16 w10 z16 e10 => ?_
        refine pv_put z16 fun w11 v16 g16 => ?_
        have e911 : Ext w9 w11 := ext_of_grown e10 (fun g hg => bx_lt v16 g hg) g16
        refine pv_all (z8.ext ((e8.trans e9).trans e911)) ?_
        refine alc_pvp fun a17 w12 z17 e12 => ?_
        refine pv_put z17 fun w13 z17 g17 => ?_
        have e1113 : Ext w11 w13 := ext_of_grown e12 (fun g hg => bx_lt z17 g hg) g17
        have E813 := e9.trans (e911.trans e1113)
        have hst13 := hst.ext E813
        have v16 := v16.ext e1113
        have E613 := e8.trans E813
        have hsz : w6.heap.size ≤ w11.heap.size := Nat.le_trans s8 (Nat.le_trans e9.size e911.size)
        have hb5 := b5.ext E613
        generalize hR : (if form0 ws[i] = 1 then prOne ws[i] (st.getD (st.length - 1) (0, 0)) else prTwo ws[i] (st.getD (st.length - 2) (0, 0)) (st.getD (st.length - 1) (0, 0))) = R
        have hstep : (prM vs).run ws (i + 1) = (st.take (st.length - (form0 ws[i]).toNat) ++ [R.1], R.2) := by
          rw [hsucc]
          unfold Mach.step
          rw [if_neg hf, ← hR]
          split
          · rename_i h1
            rw [h1]; rfl
          · rename_i h1
            have : form0 ws[i] = 2 := by have := form_range ws[i]; omega
            rw [this]; rfl
        refine ⟨fun x18 w' => x18 = .int .i64 R.2 ∧ Ext w11 w' ∧ ∃ o, Bx w' w11.heap.size t_impl_Pair (.pointer (some a17)) (pv2 o.1 o.2) ∧ (R.2 = 0 → o = R.1 ∧ PF o), ?_, ?_⟩
        · rintro x18 junk w14 ⟨rfl, e14, o, b17, h17⟩
          have E614 : Ext w6 w14 := (e8.trans (e9.trans e911)).trans e14
          rw [bin_neq]
          refine cnd_dec (fun hc => ?_) (fun hc => ?_)
          · refine pv_all (z8.ext E614) ?_
            have hres := (prM vs).bad ws (i := i + 1) (by omega) (by rw [hstep]; exact hc)
            rw [hstep] at hres
            rw [hres] at H
            exact pv_end (p := (0, 0)) (z6.ext E614) (E6.trans E614) s26 fun w' e => H w' e (show pvB (0, 0) from ⟨by decide, by decide⟩)
          · have hc : R.2 = 0 := by simpa using hc
            obtain ⟨rfl, hPo⟩ := h17 hc
            have hst14 := (hst.ext (e9.trans e911)).ext e14
            have hfn : form0 ws[i] = ((form0 ws[i]).toNat : Int) := by omega
            rw [hst14.len, bin_sub, wrap_i64 (by omega) (by omega), show ((st.length : Int) - form0 ws[i]) = ((st.length - (form0 ws[i]).toNat : Nat) : Int) by omega]
            refine hst14.take (by omega) fun v97 hst97 => ?_
            refine pv_all b17 ?_
            refine hst97.push2 hPo (Nat.le_trans hsz e14.size) (by simp; omega) fun v' w15 hst' he => ?_
            rw [bin_add, wrap_i64 (by omega) (by omega)]
            refine ⟨g - 1, by omega, i + 1, st.take (st.length - (form0 ws[i]).toNat) ++ [R.1], max b ((st.length : Int) + 1 - form0 ws[i]), rfl, by omega, ?_, ?_, he E614 (Nat.le_refl _), hst'⟩
            · rw [hstep, hc]
            · have el : (((st.take (st.length - (form0 ws[i]).toNat) ++ [R.1]).length : Nat) : Int) = (st.length : Int) + 1 - form0 ws[i] := by simp; omega
              rw [hd1, el]
        · have put : ∀ {o : PV} {w14 : World} {KW : World → Prop}, Ext w13 w14 → (R.2 = 0 → o = R.1 ∧ PF o) →
              (∀ w', Ext w11 w' → Bx w' w11.heap.size t_impl_Pair (.pointer (some a17)) (pv2 o.1 o.2) → KW w') → sto P t_impl_Pair (.pointer (some a17)) (pvv o) w14 KW := fun e14 hq HK => by
            refine pv_put (z17.ext e14) fun w15 b15 g15 => ?_
            exact HK w15 (ext_of_grown (e1113.trans e14) (fun g hg => bx_lt b15 g hg) g15) b15
          rw [bin_eql]
          refine cnd_dec (fun h1 => ?_) (fun h1 => ?_)
          · refine kind_pair_fld1 hb5 ?_
            refine pv_all v16 ?_
            refine callv_call ?_
            show call P f_impl_pairOne [str ws[i], pvv st[st.length - 1]] w13 _
            refine c_pairOne hPt fun o w14 e14 ho hq => ?_
            rw [xtr_0, xtr_1]
            have hR1 : R = prOne ws[i] st[st.length - 1] := by rw [← hR, if_pos h1, getA_lt]
            have hq' : R.2 = 0 → o = R.1 ∧ PF o := fun h0 => by
              rw [hR1] at h0 ⊢
              have := hq h0
              exact ⟨this, by rw [this]; exact prOne_PF hPt h0⟩
            rw [← hR1]
            exact put e14 hq' fun w' hw' hb' => ⟨rfl, hw', o, hb', hq'⟩
          · have h2 : form0 ws[i] = 2 := by have := form_range ws[i]; omega
            refine kind_pair_fld2 hb5 ?_
            rw [hst13.len, bin_sub, wrap_i64 (by omega) (by omega), show ((st.length : Int) - 2) = ((st.length - 2 : Nat) : Int) by omega]
            refine hst13.at (i := st.length - 2) (by omega) fun hP2 => ?_
            refine pv_all v16 ?_
            refine callv_call ?_
            show call P f_impl_pairTwo [str ws[i], pvv st[st.length - 2], pvv st[st.length - 1]] w13 _
            refine c_pairTwo hP2 hPt fun o w14 e14 ho hq => ?_
            rw [xtr_0, xtr_1]
            have hR1 : R = prTwo ws[i] st[st.length - 2] st[st.length - 1] := by rw [← hR, if_neg h1, getA_lt, getA_lt]
            have hq' : R.2 = 0 → o = R.1 ∧ PF o := fun h0 => by
              rw [hR1] at h0 ⊢
              have := hq h0
              exact ⟨this, by rw [this]; exact prTwo_PF hP2 hPt h0⟩
            rw [← hR1]
            refine put e14 hq' fun w' hw' hb' => ?_
            rw [xtr_1]
            exact ⟨rfl, rfl, hw', o, hb', hq'⟩
  · have hi : i = ws.length := by omega
    subst hi
    rw [hdp] at hdi
    simp only [Option.some.injEq, Prod.mk.injEq] at hdi
    have h1 : st.length = 1 := by omega
    refine hst.at (k := .i64) (i := 0) (by omega) fun hP => ?_
    have hres : (prM vs).res ws = (st[0], 0) := by
      unfold Mach.res
      rw [hrun]
      simp only [if_true]
      rw [getA_lt]
    rw [hres] at H
    exact pv_end (p := st[0]) (z6.ext e8) (E6.trans e8) s26 fun w' e => H w' e hP.1
noncomputable def runPF (ws : List (List UInt8)) (vs : List Nat) : PV × Int :=
  if askF ws (vs.all finB) vs.length = 0 then (prM vs).res ws else ((0, 0), askF ws (vs.all finB) vs.length)
theorem p_RunPair {a v : Value} {ws : List (List UInt8)} {vs : List Nat} (ha : I_Program w a ws) (hv0 : I_Float32S w v vs)
    (H : ∀ u w', Ext w w' → O_Pair w' w.heap.size w'.heap.size u (runPF ws vs).1 → K (.tuple #[u, .int .i64 (runPF ws vs).2]) w') : call P f_impl_RunPair [a, v] w K := by
  have hv : FS w v vs := hv0
  obtain ⟨s, rfl, hs⟩ := ha
  refine I_impl_RunPair ?_
  unfold D_impl_RunPair
  refine bx_pr fun x2 w1 b2 e1 => ?_
  refine alc_pv fun x4 w2 ⟨a0, b0, b4⟩ e2 => ?_
  have E2 := e1.trans e2
  have s1 := e1.size
  have b2 := b2.ext e2
  have hs := hs.ext E2
  have hv := hv.ext E2
  have hvb := hv.bound
  refine pr_all b2 ?_
  rw [hv.row.len u_s_float32]
  refine c_areFinite hv ?_
  refine ⟨Ext.refl _, ?_⟩
  refine c_asked ⟨s, rfl, hs⟩ fun w3 e3 => ?_
  have E3 := E2.trans e3
  have b2 := b2.ext e3
  have b4 := b4.ext e3
  have hs := hs.ext e3
  have hv := hv.ext e3
  rw [bin_neq]
  refine cnd_dec (fun hne => ?_) (fun heq => ?_)
  · rw [bld_pv0]
    refine pv_end (p := (0, 0)) b4 E3 s1 fun w' e => ?_
    have hr : runPF ws vs = ((0, 0), askF ws (vs.all finB) vs.length) := by unfold runPF; rw [if_neg hne]
    rw [hr] at H
    exact H _ w' e ⟨rfl, show (0 : Nat) < 4294967296 by decide, show (0 : Nat) < 4294967296 by decide⟩
  have h0 : askF ws (vs.all finB) vs.length = 0 := by simpa using heq
  obtain ⟨⟨m, hd⟩, hfin, hn, hn3⟩ := ask_zero h0
  have hfin' : ∀ b ∈ vs, b < 4294967296 ∧ Vc.Fin Ieee.single b := fun b hb => ⟨hv.lt b hb, hfin b hb⟩
  have hr : runPF ws vs = (prM vs).res ws := by unfold runPF; rw [if_pos h0]
  refine PL.nil0 fun v22 w4 e4 hst => ?_
  rw [(hv.ext e4).row.len u_s_float32]
  refine ⟨fun g x7 x25 w' => ∃ i : Nat, x25 = .int .i64 i ∧ g + i = vs.length ∧ Ext w3 w' ∧ PL w' w3.heap.size x7 ((vs.take i).map fun b => ((b, 0) : PV)), ⟨vs.length, 0, rfl, rfl, e4, by simpa using hst⟩, ?_⟩
  rintro g x7 x25 junk w5 ⟨i, rfl, hg, e5, hst⟩
  rw [bin_lss]
  refine cnd_dec (fun hlt => ?_) (fun hge => ?_)
  · have hi : i < vs.length := by omega
    have s5 := e5.size
    refine (hv.ext e5).at hi ?_
    obtain ⟨p1, p2⟩ := hfin' vs[i] (List.getElem_mem hi)
    rw [bld_pvH]
    refine hst.push (p := (vs[i], 0)) ⟨⟨p1, show (0 : Nat) < 4294967296 by decide⟩, p2, show Vc.Fin single 0 by decide⟩ s5 (by simp; omega) fun v' w8 hst' he => ?_
    rw [bin_add, wrap_i64 (by omega) (by omega)]
    refine ⟨g - 1, by omega, i + 1, rfl, by omega, he e5 (Nat.le_refl _), ?_⟩
    rw [List.take_succ_eq_append_getElem hi, List.map_append]
    exact hst'
  · have hi : i = vs.length := by omega
    subst hi
    rw [List.take_length] at hst
    refine pr_all (b2.ext e5) ?_
    rw [show bld P t_kind_impl_Pair [(0, (.func (.func f_impl_RunPair_1) #[] #[])), (1, (.func (.func f_impl_pairOne) #[] #[])), (2, (.func (.func f_impl_pairTwo) #[] #[]))] w5 = _ from funext fun K => bld_of (v := .agg #[fnv f_impl_RunPair_1, fnv f_impl_pairOne, fnv f_impl_pairTwo]) (by kernel_rfl)]
    refine c_run_Pair ⟨s, rfl, hs.ext e5⟩ hd hst hfin' hn fun w6 e6 hb => ?_
    rw [xtr_0, xtr_1]
    rw [← hr] at hb ⊢
    exact pv_end (p := (runPF ws vs).1) (b4.ext (e5.trans e6)) (E3.trans (e5.trans e6)) s1 fun w' e => H _ w' e ⟨rfl, hb⟩
end Go.Proofs.YtjompmflommadaaGreatDoor


set_option linter.unusedVariables false
set_option linter.unusedSimpArgs false
namespace Go.Proofs.YtjompmflommadaaGreatDoor
open Go Go.Vc Ieee
theorem cut_near (neg : Bool) (n d : Nat) : n / 2 ^ d ≤ Toward.even.cut neg n d ∧ Toward.even.cut neg n d ≤ n / 2 ^ d + 1 := by
  have hb : ∀ b : Bool, b.toNat ≤ 1 := by decide
  unfold Toward.cut
  simp only
  by_cases hd : d ≤ n.log2 + 2
  · rw [Nat.min_eq_left hd, Nat.shiftLeft_eq, Nat.one_mul]
    generalize (decide (2 ^ d < 2 * (n % 2 ^ d)) || 2 ^ d == 2 * (n % 2 ^ d) && n / 2 ^ d % 2 == 1) = b
    have := hb b
    omega
  · rw [Nat.min_eq_right (by omega), Nat.shiftLeft_eq, Nat.one_mul]
    have h1 : n < 2 ^ (n.log2 + 2) := Nat.lt_of_lt_of_le Nat.lt_log2_self (Nat.pow_le_pow_right (by decide) (by omega))
    have h2 : n < 2 ^ d := Nat.lt_of_lt_of_le h1 (Nat.pow_le_pow_right (by decide) (by omega))
    rw [Nat.div_eq_of_lt h1, Nat.div_eq_of_lt h2]
    generalize (decide (2 ^ (n.log2 + 2) < 2 * (n % 2 ^ (n.log2 + 2))) || 2 ^ (n.log2 + 2) == 2 * (n % 2 ^ (n.log2 + 2)) && 0 % 2 == 1) = b
    have := hb b
    omega
theorem word_mod (s : Bool) {r : Nat} (h : r < 2147483648) : single.word s r % 2147483648 = r := by
  have t1 : single.word true r = 2147483648 + r := rfl
  have t2 : single.word false r = r := rfl
  cases s
  · rw [t2]; omega
  · rw [t1]; omega
set_option maxRecDepth 20000 in
theorem W_near {s : Bool} {a : Nat} {e : Int} (ha : a ≠ 0) (h : Vc.Fin single (W single s a e)) :
    ∃ (k : Nat) (last : Int), -149 ≤ last ∧ last ≤ 105 ∧ W single s a e = W single s k last ∧ Cut k last ∧ (last ≤ e → k = a * 2 ^ (e - last).toNat) ∧ (e < last → a / 2 ^ (last - e).toNat ≤ k ∧ k ≤ a / 2 ^ (last - e).toNat + 1) := by
  have hW : W single s a e = single.word s (min ((max (e + a.log2 - 23) (-149) - -149).toNat * 8388608 + Toward.even.cut s (a <<< (e - max (e + a.log2 - 23) (-149)).toNat) (max (e + a.log2 - 23) (-149) - e).toNat) 2139095040) := by
    show single.nearest s a e = _
    unfold Format.nearest
    rw [if_neg ha]
    rfl
  have hlog : a.log2 = bl a - 1 := log2_eq ha
  have hbp := bl_pos ha
  generalize hL : max (e + a.log2 - 23) (-149) = last at hW
  have hlo : -149 ≤ last := by omega
  generalize hk : Toward.even.cut s (a <<< (e - last).toNat) (last - e).toNat = k at hW
  have hlt : (last - -149).toNat * 8388608 + k < 2139095040 := by
    generalize (last - -149).toNat * 8388608 + k = R at hW ⊢
    have hm : min R 2139095040 ≤ 2139095040 := Nat.min_le_right _ _
    have h1 := h
    rw [hW] at h1
    unfold Vc.Fin at h1
    rw [s_sw, s_inf] at h1
    generalize hQ : min R 2139095040 = Q at h1 hm
    rw [word_mod s (show Q < 2147483648 by omega)] at h1
    omega
  have hl2 : last ≤ 105 := by omega
  have e1 : last ≤ e → k = a * 2 ^ (e - last).toNat := fun hle => by
    rw [← hk, show (last - e).toNat = 0 by omega, cut_zero, Nat.shiftLeft_eq]
  have e2 : e < last → a / 2 ^ (last - e).toNat ≤ k ∧ k ≤ a / 2 ^ (last - e).toNat + 1 := fun hlt => by
    rw [← hk, show (e - last).toNat = 0 by omega, Nat.shiftLeft_zero]
    exact cut_near s a (last - e).toNat
  have hbl : (bl a : Int) + e - last ≤ 24 := by omega
  have hk24 : k ≤ 16777216 := by
    by_cases hle : last ≤ e
    · rw [e1 hle]
      have : bl (a * 2 ^ (e - last).toNat) ≤ 24 := by rw [bl_shl ha]; omega
      have := bl_le.1 this
      exact Nat.le_of_lt this
    · have := (e2 (by omega)).2
      have h3 : a / 2 ^ (last - e).toNat < 16777216 := by
        refine Nat.div_lt_of_lt_mul ?_
        have h4 : bl a ≤ (last - e).toNat + 24 := by omega
        have := bl_le.1 h4
        rw [Nat.pow_add] at this
        exact this
      omega
  have hk23 : -149 < last → 8388608 ≤ k := fun hl => by
    have hll : last = e + a.log2 - 23 := by omega
    have hb : 24 = (bl a : Int) + e - last := by omega
    by_cases hle : last ≤ e
    · rw [e1 hle]
      have h5 : ¬ bl (a * 2 ^ (e - last).toNat) ≤ 23 := by rw [bl_shl ha]; omega
      rw [bl_le] at h5
      have : (2 : Nat) ^ 23 = 8388608 := by decide
      omega
    · have := (e2 (by omega)).1
      have h3 : 8388608 ≤ a / 2 ^ (last - e).toNat := by
        refine (Nat.le_div_iff_mul_le (Nat.two_pow_pos _)).2 ?_
        have h5 : ¬ bl a ≤ (last - e).toNat + 23 := by omega
        rw [bl_le, Nat.pow_add] at h5
        have : (2 : Nat) ^ 23 = 8388608 := by decide
        rw [this, Nat.mul_comm] at h5
        omega
      omega
  have htop : (bl k : Int) + last ≤ 128 := by
    by_cases h1 : k < 8388608
    · have := bl_le.2 (show k < 2 ^ 23 from h1); omega
    · by_cases h2 : k < 16777216
      · have := bl_le.2 (show k < 2 ^ 24 from h2); omega
      · have := bl_le.2 (show k < 2 ^ 25 by show k < 33554432; omega); omega
  refine ⟨k, last, hlo, hl2, ?_, ⟨hk24, hlo, htop⟩, e1, e2⟩
  rw [hW, Nat.min_eq_left (by omega)]
  symm
  show single.nearest s k last = _
  unfold Format.nearest
  by_cases hk0 : k = 0
  · have : last = -149 := Classical.byContradiction fun hc => by have := hk23 (by omega); omega
    subst this
    rw [if_pos hk0, hk0]; rfl
  · rw [if_neg hk0]
    have hlogk : k.log2 = bl k - 1 := log2_eq hk0
    have hbk := bl_pos hk0
    show single.word s (min ((max (last + k.log2 - 23) (-149) - -149).toNat * 8388608 + Toward.even.cut s (k <<< (last - max (last + k.log2 - 23) (-149)).toNat) (max (last + k.log2 - 23) (-149) - last).toNat) 2139095040) = _
    by_cases h1 : k < 16777216
    · have hm : max (last + k.log2 - 23) (-149) = last := by
        have b24 := bl_le.2 (show k < 2 ^ 24 from h1)
        by_cases hl : last = -149
        · omega
        · have h3 := hk23 (by omega)
          have h5 : ¬ bl k ≤ 23 := fun h => by have := bl_le.1 h; have : (2 : Nat) ^ 23 = 8388608 := by decide
                                               omega
          omega
      rw [hm, show (last - last).toNat = 0 by omega, cut_zero, Nat.shiftLeft_zero, Nat.min_eq_left (by omega)]
    · have hk' : k = 16777216 := by omega
      have hm : max (last + k.log2 - 23) (-149) = last + 1 := by
        rw [hlogk, hk', show bl 16777216 = 25 from by decide]; omega
      rw [hm, show (last - (last + 1)).toNat = 0 by omega, show (last + 1 - last).toNat = 1 by omega, Nat.shiftLeft_zero, hk', show Toward.even.cut s 16777216 1 = 8388608 by
        have := cut_exact .even s 8388608 1 (fun h => by cases h)
        exact this]
      rw [hk'] at hlt
      have hs : (last + 1 - -149).toNat * 8388608 + 8388608 = (last - -149).toNat * 8388608 + 16777216 := by omega
      rw [hs, Nat.min_eq_left (by omega)]
theorem fq_W {s : Bool} {k : Nat} {l : Int} (h : Cut k l) : fq (W single s k l) = dy (if s then -(k : Int) else k) l := by
  obtain ⟨k', l', r, sn⟩ := read_any (s := s) hss h.has
  have hf := fin_W (s := s) h
  have hlt := W32_lt s k l
  have r2 := read_f hf hlt
  rw [r] at r2
  simp only [Datum.number.injEq] at r2
  obtain ⟨r3, r4, r5⟩ := r2
  unfold fq
  have hsg : fM (W single s k l) = if s then -(k' : Int) else k' := by
    have hM : fM (W single s k l) = (if W single s k l / 2147483648 % 2 = 1 then -((fM (W single s k l)).natAbs : Int) else ((fM (W single s k l)).natAbs : Int)) := by
      unfold fM
      simp only
      split <;> omega
    rw [hM, ← r4]
    cases s
    · have : ¬ W single false k l / 2147483648 % 2 = 1 := fun h => by rw [h] at r3; cases r3
      rw [if_neg this]; rfl
    · have : W single true k l / 2147483648 % 2 = 1 := by simpa using r3.symm
      rw [if_pos this]; rfl
  rw [hsg, ← r5]
  have hd := sn.dy
  cases s
  · exact hd.symm
  · show dy (-(k' : Int)) l' = dy (-(k : Int)) l
    rw [dy_neg, dy_neg, hd]
theorem rnd_fin {m e : Int} (h : m ≠ 0 → (bl m.natAbs : Int) + e ≤ 108) (md : Int) : Vc.Fin single (rndQ md (dy m e)).1 := by
  rw [rndQ_dy]
  refine roundF_fin ?_
  unfold roundF
  split
  · decide
  · rename_i h0
    have := h h0
    simp only
    rw [if_neg]
    · simp only
      split
      · decide
      · split <;> decide
    · have hc := cutT_le md (decide (m < 0)) m.natAbs e
      have := bl_le.2 (show (cutT md (decide (m < 0)) m.natAbs e).1 < 2 ^ 25 by show _ < 33554432; omega)
      unfold qOf
      omega
theorem rest_fin {s : Bool} {a : Nat} {e : Int} (h : Vc.Fin single (W single s a e)) (md : Int) : Vc.Fin single (rndQ md (dy (if s then -(a : Int) else a) e - fq (W single s a e))).1 := by
  by_cases ha : a = 0
  · subst ha
    rw [W_zero]
    have hz : fq (single.word s 0) = 0 := by
      cases s
      · show dy (fM 0) (fE 0) = 0; rw [dy_eq_zero]; decide
      · show dy (fM 2147483648) (fE 2147483648) = 0; rw [dy_eq_zero]; decide
    rw [hz]
    have : dy (if s = true then -((0 : Nat) : Int) else ((0 : Nat) : Int)) e - 0 = dy 0 0 := by
      have e0 : (if s = true then -((0 : Nat) : Int) else ((0 : Nat) : Int)) = 0 := by cases s <;> rfl
      rw [e0, dy_zero, dy_zero]; grind
    rw [this]
    exact rnd_fin (fun h => absurd rfl h) md
  · obtain ⟨k, last, l1, l2, hw, hc, e1, e2⟩ := W_near ha h
    rw [hw, fq_W hc]
    have hd : ∃ d : Int, dy (if s then -(a : Int) else a) e - dy (if s then -(k : Int) else k) last = dy d (min e last) ∧ (d ≠ 0 → (bl d.natAbs : Int) + min e last ≤ 108) := by
      by_cases hle : last ≤ e
      · have hk := e1 hle
        refine ⟨0, ?_, fun h => absurd rfl h⟩
        have : dy (a : Int) e = dy (k : Int) last := by
          rw [hk, Int.natCast_mul, Int.natCast_pow]
          exact (dy_shift' (by omega)).symm
        rw [dy_zero]
        cases s
        · show dy (a : Int) e - dy (k : Int) last = 0
          rw [this]; grind
        · show dy (-(a : Int)) e - dy (-(k : Int)) last = 0
          rw [dy_neg, dy_neg, this]; grind
      · have hk := e2 (by omega)
        have hmin : min e last = e := by omega
        rw [hmin]
        obtain ⟨j, hj⟩ : ∃ j : Nat, last = e + j := ⟨(last - e).toNat, by omega⟩
        have hj' : (last - e).toNat = j := by omega
        rw [hj'] at hk
        have hkd : dy (k : Int) last = dy ((k : Int) * 2 ^ j) e := (dy_shift' (by omega)).symm
        have hp := Nat.two_pow_pos j
        have hab : ((a : Int) - (k : Int) * 2 ^ j).natAbs ≤ 2 ^ j := by
          have d1 := Nat.div_add_mod a (2 ^ j)
          have d2 := Nat.mod_lt a hp
          have m1 := Nat.mul_le_mul_right (2 ^ j) hk.1
          have m2 := Nat.mul_le_mul_right (2 ^ j) hk.2
          rw [Nat.add_mul, Nat.one_mul] at m2
          rw [Nat.mul_comm] at d1
          have c : ((k : Int) * 2 ^ j) = ((k * 2 ^ j : Nat) : Int) := by rw [Int.natCast_mul, Int.natCast_pow]; rfl
          rw [c]
          generalize k * 2 ^ j = X at *
          generalize a / 2 ^ j * 2 ^ j = Y at *
          generalize 2 ^ j = Z at *
          omega
        refine ⟨if s then -((a : Int) - k * 2 ^ j) else (a : Int) - k * 2 ^ j, ?_, fun hne => ?_⟩
        · cases s
          · show dy (a : Int) e - dy (k : Int) last = dy ((a : Int) - k * 2 ^ j) e
            rw [hkd, Int.sub_eq_add_neg, ← dy_add, dy_neg]; grind
          · show dy (-(a : Int)) e - dy (-(k : Int)) last = dy (-((a : Int) - k * 2 ^ j)) e
            rw [dy_neg, dy_neg, dy_neg, hkd, Int.sub_eq_add_neg, ← dy_add, dy_neg]; grind
        · have hn : (if s = true then -((a : Int) - k * 2 ^ j) else (a : Int) - k * 2 ^ j).natAbs ≤ 2 ^ j := by
            split
            · rw [Int.natAbs_neg]; exact hab
            · exact hab
          have : bl (if s = true then -((a : Int) - k * 2 ^ j) else (a : Int) - k * 2 ^ j).natAbs ≤ j + 1 := bl_le.2 (by rw [Nat.pow_succ]; omega)
          omega
    obtain ⟨d, hd, hb⟩ := hd
    rw [hd]
    exact rnd_fin hb md
theorem fq_signed {b : Nat} (hb : b < 4294967296) : fq b = dy (if (b / 2147483648 % 2 == 1) = true then -((fM b).natAbs : Int) else ((fM b).natAbs : Int)) (fE b) := by
  have : ∀ mm : Nat, (if b / 2147483648 % 2 = 1 then -(mm : Int) else (mm : Int)) = if (b / 2147483648 % 2 == 1) = true then -((if b / 2147483648 % 2 = 1 then -(mm : Int) else (mm : Int)).natAbs : Int) else ((if b / 2147483648 % 2 = 1 then -(mm : Int) else (mm : Int)).natAbs : Int) := by
    intro mm
    by_cases h : b / 2147483648 % 2 = 1
    · rw [if_pos h, if_pos (beq_iff_eq.2 h)]; omega
    · rw [if_neg h, if_neg (fun h' => h (beq_iff_eq.1 h'))]; omega
  unfold fq
  congr 1
  exact this _
theorem mul_rest {x y : Nat} (hx : x < 4294967296) (hy : y < 4294967296) (fx : Vc.Fin single x) (fy : Vc.Fin single y) (hf : Vc.Fin single (opF .mul x y)) (md : Int) : Vc.Fin single (rndQ md (fq x * fq y - fq (opF .mul x y))).1 := by
  have hm : opF .mul x y = W single ((x / 2147483648 % 2 == 1) ^^ (y / 2147483648 % 2 == 1)) ((fM x).natAbs * (fM y).natAbs) (fE x + fE y) := by
    unfold opF
    rw [show floatBits .mul .f32 x y = some (W single ((x / 2147483648 % 2 == 1) ^^ (y / 2147483648 % 2 == 1)) ((fM x).natAbs * (fM y).natAbs) (fE x + fE y)) by
      show single.mul x y = _
      unfold Format.mul
      rw [read_f fx hx, read_f fy hy]; rfl]
    rfl
  rw [hm] at hf ⊢
  have h := rest_fin hf md
  have e : fq x * fq y = dy (if ((x / 2147483648 % 2 == 1) ^^ (y / 2147483648 % 2 == 1)) = true then -(((fM x).natAbs * (fM y).natAbs : Nat) : Int) else (((fM x).natAbs * (fM y).natAbs : Nat) : Int)) (fE x + fE y) := by
    rw [fq_signed hx, fq_signed hy, dy_mul]
    congr 1
    cases (x / 2147483648 % 2 == 1) <;> cases (y / 2147483648 % 2 == 1) <;> simp [Int.natCast_mul, Int.mul_neg, Int.neg_mul]
  rw [e]; exact h
end Go.Proofs.YtjompmflommadaaGreatDoor


set_option linter.unusedVariables false
set_option linter.unusedSimpArgs false
namespace Go.Proofs.YtjompmflommadaaGreatDoor
open Go Go.Vc Ieee
variable {w : World} {K : Value → World → Prop}
theorem c_l05Near {v : Value} {lo hi : Nat} {q : Rat} (h : DQ w v lo hi q) (hl : lo ≤ 1000) (hh : hi ≤ 1000) (H : ∀ w', Ext w w' → K (fl (zF (rndQ 0 q).1)) w') : call P f_spec_l05Near [v] w K := by
  refine I_spec_l05Near ?_
  unfold D_spec_l05Near
  refine bx_DV h fun x w1 v1 e1 => ?_
  refine v1.get fun u hu => ?_
  obtain ⟨m, e, hd, hc⟩ := hu
  refine c_l03Round hd hc.bd (by omega) (by omega) hc.canon fun w2 e2 => ?_
  rw [xtr_0, xtr_1]
  have hr : rndQ 0 q = roundF 0 m e := by rw [hc.val, rndQ_dy]
  rw [← hr, bin_feql]
  have H := H w2 (e1.trans e2)
  unfold zF at H
  refine cnd_split (fun h => ?_) (fun h => ?_)
  · rw [if_pos (by unfold isZ; exact h)] at H; exact H
  · rw [if_neg (by unfold isZ; rw [show (single.order (rndQ 0 q).1 0 == some .eq) = false from h]; decide)] at H; exact H
theorem c_l05Is {p : PV} (hp : pvB p) (H : ∀ w', Ext w w' → K (.bool (isPB p)) w') : call P f_spec_l05Is [pvv p] w K := by
  refine I_spec_l05Is ?_
  unfold D_spec_l05Is
  refine bx_pv fun x1 w1 b1 e1 => ?_
  refine pv_H b1 ?_
  refine c_l01Finite ?_
  have H := H w1 e1
  unfold isPB at H
  refine andJ (fun h => ?_) (fun h => ?_)
  · refine pv_L b1 ?_
    refine c_l01Finite ?_
    refine andJ (fun h2 => ?_) (fun h2 => ?_)
    · refine pv_H b1 ?_
      refine pv_L b1 ?_
      refine rbin_float (by simp) fun r hr => ?_
      refine pv_H b1 ?_
      rw [bin_feql]
      have : r = opF .add p.1 p.2 := by rcases add_cases hr with ⟨_, h'⟩ | ⟨h', _⟩; exact h'; rw [h, h2] at h'; cases h'
      rw [this]
      rw [h, h2, Bool.and_self, Bool.true_and] at H
      exact H
    · rw [h2, Bool.and_false, Bool.false_and] at H; exact H
  · refine andJ (fun h2 => by cases h2) (fun _ => ?_)
    rw [h, Bool.false_and, Bool.false_and] at H; exact H
theorem c_l05Value {p : PV} (hp : PF p) (H : ∀ v w', Ext w w' → DQ w' v 149 129 (pvQ p) → K v w') : call P f_spec_l05Value [pvv p] w K := by
  refine I_spec_l05Value ?_
  unfold D_spec_l05Value
  refine bx_pv fun x1 w1 b1 e1 => ?_
  refine alc_DC fun x2 w2 n2 e2 => ?_
  have b1 := b1.ext e2
  refine pv_H b1 ?_
  refine pv_L b1 ?_
  refine c_l03Of hp.2.1 hp.1.1 fun u w3 e3 hu => ?_
  refine ⟨e3, ?_⟩
  refine c_l03Of hp.2.2 hp.1.2 fun v w4 e4 hv => ?_
  refine c_l03Add (hu.ext e4) hv (by decide) (by decide) fun s w5 e5 hs => ?_
  have E := e3.trans (e4.trans e5)
  refine dv_ret (n2.ext E) hs fun v' w' g hv => ?_
  exact H v' w' (ext_gr (e1.trans (e2.trans E)) e1.size g) hv
theorem c_l05Sum {x y : Nat} (hx : x < 4294967296) (hy : y < 4294967296) (fx : Vc.Fin single x) (fy : Vc.Fin single y) (H : ∀ o w', Ext w w' → pvB o → (∀ p, smF x y = some p → o = p) → K (.tuple #[pvv o, .bool (smF x y).isSome]) w') : call P f_spec_l05Sum [fl x, fl y] w K := by
  refine I_spec_l05Sum ?_
  unfold D_spec_l05Sum
  refine alc_pv fun x4 w1 ⟨a0, b0, b4⟩ e1 => ?_
  refine rbin_float (by simp) fun h h1 => ?_
  have he : h = opF .add x y := FR_opF h1 (add_fin fx fy)
  subst he
  have hlt := FR32 h1
  refine c_l01Finite ?_
  rw [una_not]
  unfold smF at H
  cases hf : finB (opF .add x y)
  · rw [hf] at H
    refine cnd_yes rfl ?_
    rw [bld_pv0]
    exact pv_end (p := (0, 0)) b4 e1 (Nat.le_refl _) fun w' e => H _ w' e ⟨by decide, by decide⟩ (fun p hp => by cases hp)
  · rw [hf] at H
    refine cnd_no rfl ?_
    refine c_l03Of fx hx fun u w2 e2 hu => ?_
    refine c_l03Of fy hy fun v w3 e3 hv => ?_
    refine c_l03Add (hu.ext e3) hv (by decide) (by decide) fun s w4 e4 hs => ?_
    refine c_l03Of (finB_iff.1 hf) hlt fun hq w5 e5 hh => ?_
    refine c_l03Sub (hs.ext e5) (hh.mono (Nat.le_refl _) (by decide)) (by decide) (by decide) fun r w6 e6 hr => ?_
    refine c_l05Near hr (by decide) (by decide) fun w7 e7 => ?_
    rw [bld_pv]
    have E := e2.trans (e3.trans (e4.trans (e5.trans (e6.trans e7))))
    exact pv_end (p := (opF .add x y, zF (rndQ 0 (fq x + fq y - fq (opF .add x y))).1)) (b4.ext E) (e1.trans E) (Nat.le_refl _) fun w' e => H _ w' e ⟨opF_lt, zF_lt2 (rndQ_lt _ _)⟩ (fun p hp => by simpa using hp)
theorem zF_fin {b : Nat} (h : Vc.Fin single b) : Vc.Fin single (zF b) := by
  unfold zF
  split
  · decide
  · exact h
theorem c_l05Product {x y : Nat} (hx : x < 4294967296) (hy : y < 4294967296) (fx : Vc.Fin single x) (fy : Vc.Fin single y) (H : ∀ o f w', Ext w w' → pvB o → (∀ p, spF x y = some p → o = p) → K (.tuple #[pvv o, .bool f, .bool (spF x y).isSome]) w') : call P f_spec_l05Product [fl x, fl y] w K := by
  refine I_spec_l05Product ?_
  unfold D_spec_l05Product
  refine alc_pv fun x4 w1 ⟨a0, b0, b4⟩ e1 => ?_
  refine rbin_float (by simp) fun h h1 => ?_
  have he : h = opF .mul x y := FR_opF h1 (mul_fin fx fy)
  subst he
  have hlt := FR32 h1
  refine c_l01Finite ?_
  rw [una_not]
  unfold spF at H
  cases hf : finB (opF .mul x y)
  · rw [hf] at H
    refine cnd_yes rfl ?_
    rw [bld_pv0]
    exact pv_end (p := (0, 0)) b4 e1 (Nat.le_refl _) fun w' e => H _ _ w' e ⟨by decide, by decide⟩ (fun p hp => by cases hp)
  · rw [hf] at H
    refine cnd_no rfl ?_
    refine c_l03Of fx hx fun u w2 e2 hu => ?_
    refine c_l03Of fy hy fun v w3 e3 hv => ?_
    refine c_l03Mul (hu.ext e3) hv (by decide) (by decide) (by decide) (by decide) fun s w4 e4 hs => ?_
    refine c_l03Of (finB_iff.1 hf) hlt fun hq w5 e5 hh => ?_
    refine c_l03Sub (hs.ext e5) (hh.mono (by decide) (by decide)) (by decide) (by decide) fun r w6 e6 hr => ?_
    refine alc_DC fun x8 w7 d8 e7 => ?_
    refine d8.put (hr.ext e7) fun w8 v8 g8 _ => ?_
    have e8 : Ext w6 w8 := ext_gr e7 (Nat.le_refl _) g8
    refine v8.get fun u8 hu8 => ?_
    refine c_l05Near hu8 (by decide) (by decide) fun w9 e9 => ?_
    rw [bld_pv]
    have hz := zF_lt2 (rndQ_lt 0 (fq x * fq y - fq (opF .mul x y)))
    have hzf := zF_fin (mul_rest hx hy fx fy (finB_iff.1 hf) 0)
    refine (v8.ext e9).get fun u9 hu9 => ?_
    refine c_l03Of hzf hz fun u10 w10 e10 h10 => ?_
    refine ⟨e10, ?_⟩
    refine c_l03Compare (h10.mono (by decide) (by decide)) ((hu9.ext e10).mono (by decide) (by decide)) (lo := 1000) (hi := 1000) (by decide) (by decide) fun w11 e11 => ?_
    refine ⟨e11, ?_⟩
    rw [bin_eql]
    have E := e2.trans (e3.trans (e4.trans (e5.trans (e6.trans (e8.trans (e9.trans (e10.trans e11)))))))
    refine pv_put (b4.ext E) fun w12 b12 g12 => ?_
    rw [bin_eql]
    refine ⟨rfl, ?_⟩
    refine pv_allc b12 ?_
    exact H (opF .mul x y, zF (rndQ 0 (fq x * fq y - fq (opF .mul x y))).1) _ w12 (ext_of_grown (e1.trans E) (fun g hg => bx_lt b12 g hg) g12) ⟨opF_lt, hz⟩ (fun p hp => by simpa using hp)
theorem c_l05Quick {a b : Nat} (ha : a < 4294967296) (hb : b < 4294967296) (H : ∀ o w', Ext w w' → pvB o → (finB a = true → finB b = true → (finB o.1 && finB o.2) = (qkF a b).isSome ∧ ∀ p, qkF a b = some p → o = p) → K (pvv o) w') : call P f_spec_l05Quick [fl a, fl b] w K := by
  refine I_spec_l05Quick ?_
  unfold D_spec_l05Quick
  refine alc_pv fun x w1 ⟨a0, b0, b4⟩ e1 => ?_
  refine rbin_float (by simp) fun h h1 => ?_
  refine rbin_float (by simp) fun k h2 => ?_
  refine rbin_float (by simp) fun l h3 => ?_
  rw [bld_pv]
  refine pv_end (p := (h, l)) b4 e1 (Nat.le_refl _) fun w' e => H (h, l) w' e ⟨FR32 h1, FR32 h3⟩ fun fa fb => ?_
  have := quick_bits fa fb h1 h2 h3
  exact ⟨this.2.1, this.2.2⟩
theorem c_l08Turn {p : PV} (hp : PF p) (H : ∀ w', Ext w w' → K (pvv (ngP p)) w') : call P f_spec_l08Turn [pvv p] w K := by
  refine I_spec_l08Turn ?_
  unfold D_spec_l08Turn
  refine bx_pv fun x1 w1 b1 e1 => ?_
  refine alc_pv fun x2 w2 ⟨a0, b0, b2⟩ e2 => ?_
  have b1 := b1.ext e2
  refine pv_H b1 ?_
  refine pv_L b1 ?_
  refine c_l01TurnedB hp.2.1 hp.1.1 ?_
  refine ⟨Ext.refl _, ?_⟩
  refine c_l01TurnedB hp.2.2 hp.1.2 ?_
  rw [bld_pv]
  exact pv_end (p := ngP p) b2 (e1.trans e2) e1.size H
end Go.Proofs.YtjompmflommadaaGreatDoor


set_option linter.unusedVariables false
set_option linter.unusedSimpArgs false
namespace Go.Proofs.YtjompmflommadaaGreatDoor
open Go Go.Vc Ieee
variable {w : World} {K : Value → World → Prop}
theorem andJL {a : Bool} {C : Value → Value → World → Prop} {A : (Value → World → Prop) → Prop} (h1 : a = true → A (fun x => C x x)) (h2 : a = false → C undef (.bool false) w) :
    ∃ J : Value → World → Prop, (∀ (x : Value) (junk : Env) (w' : World), J x w' → pick (.bool a) x (.bool false) fun r => C x r w') ∧ grd (.bool a) true (A J) (J undef w) := by
  cases a
  · exact ⟨fun y w' => y = undef ∧ w' = w, fun x _ w' h => by obtain ⟨rfl, rfl⟩ := h; exact h2 rfl, rfl, rfl⟩
  · exact ⟨fun x => C x x, fun x _ w' h => h, h1 rfl⟩
def QK (a b : Nat) (o : PV) : Prop := finB a = true → finB b = true → (finB o.1 && finB o.2) = (qkF a b).isSome ∧ ∀ p, qkF a b = some p → o = p
theorem isPB_no {o : PV} (h : (finB o.1 && finB o.2) = false) : isPB o = false := by unfold isPB; rw [h, Bool.false_and]
theorem add_end {s t v o : PV} {f g : Nat} (fs1 : finB s.1 = true) (ft1 : finB t.1 = true) (hf : FR .add .f32 s.2 t.1 f) (hv : QK s.1 f v) (hg : FR .add .f32 t.2 v.2 g) (ho : QK v.1 g o) :
    (finB f && finB v.1 && finB v.2 && finB g && isPB o) = (ad2 s t).isSome ∧ ∀ r, ad2 s t = some r → o = r := by
  cases ff : finB f
  · have hN : ad2 s t = none := by
      unfold ad2
      by_cases hc : (finB s.2 && finB (opF .add s.2 t.1)) = true
      · rw [Bool.and_eq_true] at hc
        rcases add_cases hf with ⟨_, h⟩ | ⟨h, _⟩
        · rw [h, hc.2] at ff; cases ff
        · rw [hc.1, ft1] at h; cases h
      · rw [if_neg hc]
    rw [hN]; exact ⟨by simp, fun r h => by cases h⟩
  obtain ⟨hfe, rfl⟩ : (finB s.2 && finB t.1) = true ∧ f = opF .add s.2 t.1 := by
    rcases add_cases hf with h | ⟨_, h⟩
    · exact h
    · rw [ff] at h; cases h
  rw [Bool.and_eq_true] at hfe
  obtain ⟨r1, r2⟩ := hv fs1 ff
  have hA0 : ad2 s t = match qkF s.1 (opF .add s.2 t.1) with
    | none => none
    | some v => if finB t.2 && finB (opF .add t.2 v.2) then okP (qkF v.1 (opF .add t.2 v.2)) else none := by
    unfold ad2
    rw [hfe.1, ff, Bool.and_self, if_pos rfl]
    all_goals (cases qkF s.1 (opF .add s.2 t.1) <;> rfl)
  cases hq : qkF s.1 (opF .add s.2 t.1) with
  | none =>
    rw [hq] at hA0 r1
    rw [hA0, Bool.true_and, r1]
    exact ⟨by simp, fun r h => by cases h⟩
  | some v' =>
    have := r2 v' hq
    subst this
    rw [hq] at hA0
    have fv := qkF_fin hq
    simp only at hA0
    cases fg : finB g
    · have hN : ad2 s t = none := by
        rw [hA0]
        by_cases hc : (finB t.2 && finB (opF .add t.2 v.2)) = true
        · rw [Bool.and_eq_true] at hc
          rcases add_cases hg with ⟨_, h⟩ | ⟨h, _⟩
          · rw [h, hc.2] at fg; cases fg
          · rw [hc.1, fv.2] at h; cases h
        · rw [if_neg hc]
      rw [hN]; exact ⟨by simp, fun r h => by cases h⟩
    · obtain ⟨hge, rfl⟩ : (finB t.2 && finB v.2) = true ∧ g = opF .add t.2 v.2 := by
        rcases add_cases hg with h | ⟨_, h⟩
        · exact h
        · rw [fg] at h; cases h
      rw [Bool.and_eq_true] at hge
      rw [hge.1, fg, Bool.and_self, if_pos rfl] at hA0
      obtain ⟨k1, k2⟩ := ho fv.1 fg
      rw [fv.1, fv.2, hA0]
      cases hk : qkF v.1 (opF .add t.2 v.2) with
      | none =>
        rw [hk] at k1
        rw [isPB_no k1]
        exact ⟨rfl, fun r h => by cases h⟩
      | some o' =>
        have := k2 o' hk
        subst this
        unfold okP
        simp only
        cases isPB o
        · exact ⟨rfl, fun r h => by cases h⟩
        · exact ⟨rfl, fun r h => by simpa using h⟩
theorem mul_end {p q s o : PV} {c d : Nat} (hs : spF p.1 q.1 = some s) (hc : FR .add .f32 (opF .mul p.1 q.2) (opF .mul p.2 q.1) c) (hd : FR .add .f32 s.2 c d) (ho : QK s.1 d o) :
    (finB (opF .mul p.1 q.2) && finB (opF .mul p.2 q.1) && finB c && finB d && isPB o) = (mlF p q).isSome ∧ ∀ r, mlF p q = some r → o = r := by
  have fs1 := (spF_parts hs).1
  have hm : mlF p q = if finB (opF .mul p.1 q.2) && finB (opF .mul p.2 q.1) && finB (opF .add (opF .mul p.1 q.2) (opF .mul p.2 q.1)) && finB s.2 && finB (opF .add s.2 (opF .add (opF .mul p.1 q.2) (opF .mul p.2 q.1))) then
      okP (qkF s.1 (opF .add s.2 (opF .add (opF .mul p.1 q.2) (opF .mul p.2 q.1)))) else none := by unfold mlF; rw [hs]
  rw [hm]
  generalize opF .mul p.1 q.2 = A at *
  generalize opF .mul p.2 q.1 = B at *
  cases fA : finB A
  · exact ⟨by simp, fun r h => by simp at h⟩
  cases fB : finB B
  · exact ⟨by simp, fun r h => by simp at h⟩
  have hce : c = opF .add A B := by rcases add_cases hc with ⟨_, h⟩ | ⟨h, _⟩; exact h; rw [fA, fB] at h; cases h
  subst hce
  cases fc : finB (opF .add A B)
  · exact ⟨by simp, fun r h => by simp at h⟩
  cases fs : finB s.2
  · have : finB d = false := by rcases add_cases hd with ⟨h, _⟩ | ⟨_, h⟩; rw [fs] at h; cases h; exact h
    rw [this]
    exact ⟨by simp, fun r h => by simp at h⟩
  have hde : d = opF .add s.2 (opF .add A B) := by rcases add_cases hd with ⟨_, h⟩ | ⟨h, _⟩; exact h; rw [fs, fc] at h; cases h
  subst hde
  cases fd : finB (opF .add s.2 (opF .add A B))
  · exact ⟨by simp, fun r h => by simp at h⟩
  simp only [Bool.and_self, Bool.true_and, if_true]
  obtain ⟨k1, k2⟩ := ho fs1 fd
  cases hk : qkF s.1 (opF .add s.2 (opF .add A B)) with
  | none =>
    rw [hk] at k1
    rw [isPB_no k1]
    exact ⟨rfl, fun r h => by cases h⟩
  | some o' =>
    have := k2 o' hk
    subst this
    unfold okP
    simp only
    cases isPB o
    · exact ⟨rfl, fun r h => by cases h⟩
    · exact ⟨rfl, fun r h => by simpa using h⟩
set_option maxRecDepth 20000 in
theorem c_l05Add {p q : PV} (hp : PF p) (hq : PF q) (H : ∀ o w', Ext w w' → pvB o → (∀ r, adF p q = some r → o = r) → K (.tuple #[pvv o, .bool (adF p q).isSome]) w') : call P f_spec_l05Add [pvv p, pvv q] w K := by
  refine I_spec_l05Add ?_
  unfold D_spec_l05Add
  refine bx_pv fun x2 w1 b2 e1 => ?_
  refine bx_pv fun x3 w2 b3 e2 => ?_
  refine alc_pv fun x4 w3 ⟨a0, b0, b4⟩ e3 => ?_
  have b2 := (b2.ext e2).ext e3
  have b3 := b3.ext e3
  have E3 := e1.trans (e2.trans e3)
  have s3 : w.heap.size ≤ w2.heap.size := (e1.trans e2).size
  refine pv_H b2 ?_
  refine pv_H b3 ?_
  refine c_l05Sum hp.1.1 hq.1.1 hp.2.1 hq.2.1 fun s w4 e4 hs hsp => ?_
  rw [xtr_0, xtr_1]
  refine alc_pv fun x6 w5 ⟨a1, b1, b6⟩ e5 => ?_
  refine pv_put b6 fun w6 b6 g6 => ?_
  have e6 : Ext w4 w6 := ext_of_grown e5 (fun g hg => bx_lt b6 g hg) g6
  have E6 := e4.trans e6
  refine pv_L (b2.ext E6) ?_
  refine pv_L (b3.ext E6) ?_
  refine c_l05Sum hp.1.2 hq.1.2 hp.2.2 hq.2.2 fun t w7 e7 ht htp => ?_
  rw [xtr_0, xtr_1]
  refine alc_pv fun x8 w8 ⟨a2, b2', b8⟩ e8 => ?_
  refine pv_put b8 fun w9 b8 g9 => ?_
  have e9 : Ext w7 w9 := ext_of_grown e8 (fun g hg => bx_lt b8 g hg) g9
  have b6 := (b6.ext e7).ext e9
  have E9 := E6.trans (e7.trans e9)
  have b4 := b4.ext E9
  have EE := E3.trans E9
  have fail : ∀ {w' : World}, Ext w9 w' → adF p q = none → bld P t_impl_Pair [] w' fun x => sto P t_impl_Pair x4 x w' fun w' => ldc P t_impl_Pair x4 w' fun r => K (.tuple #[r, .bool false]) w' := fun e hn => by
    rw [bld_pv0]
    refine pv_end (p := (0, 0)) (b4.ext e) (EE.trans e) s3 fun w' e' => ?_
    rw [hn] at H
    exact H _ w' e' ⟨by decide, by decide⟩ (fun r hr => by cases hr)
  rw [una_not]
  refine orJ (fun h1 => ?_) (fun h1 => ?_)
  · refine cnd_yes rfl (fail (Ext.refl _) ?_)
    have : smF p.1 q.1 = none := by cases hh : smF p.1 q.1; rfl; rw [hh] at h1; cases h1
    unfold adF; rw [this]
  rw [una_not]
  refine cnd_split (fun h2 => ?_) (fun h2 => ?_)
  · refine fail (Ext.refl _) ?_
    have : smF p.2 q.2 = none := by cases hh : smF p.2 q.2; rfl; rw [hh] at h2; cases h2
    unfold adF; rw [this]; cases smF p.1 q.1 <;> rfl
  obtain ⟨s', hs'⟩ : ∃ s', smF p.1 q.1 = some s' := by cases hh : smF p.1 q.1; rw [hh] at h1; cases h1; exact ⟨_, rfl⟩
  obtain ⟨t', ht'⟩ : ∃ t', smF p.2 q.2 = some t' := by cases hh : smF p.2 q.2; rw [hh] at h2; cases h2; exact ⟨_, rfl⟩
  have hss := hsp s' hs'
  have htt := htp t' ht'
  subst hss; subst htt
  have had : adF p q = ad2 s t := by unfold adF; rw [hs', ht']
  rw [had] at H
  refine pv_L b6 ?_
  refine pv_H b8 ?_
  refine rbin_float (by simp) fun f hf => ?_
  refine pv_H b6 ?_
  refine c_l05Quick hs.1 (FR32 hf) fun v w10 e10 hv hq1 => ?_
  refine alc_pv fun x11 w11 ⟨a3, b3', b11⟩ e11 => ?_
  refine pv_put b11 fun w12 b11 g12 => ?_
  have e12 : Ext w10 w12 := ext_of_grown e11 (fun g hg => bx_lt b11 g hg) g12
  have E12 := e10.trans e12
  refine pv_L (b8.ext E12) ?_
  refine pv_L b11 ?_
  refine rbin_float (by simp) fun g hg => ?_
  refine pv_H b11 ?_
  refine c_l05Quick hv.1 (FR32 hg) fun o w13 e13 ho hq2 => ?_
  refine alc_pv fun x14 w14 ⟨a4, b4', b14⟩ e14 => ?_
  refine pv_put b14 fun w15 b14 g15 => ?_
  have e15 : Ext w13 w15 := ext_of_grown e14 (fun g hg => bx_lt b14 g hg) g15
  have E15 := E12.trans (e13.trans e15)
  have b11 := b11.ext (e13.trans e15)
  obtain ⟨k1, k2⟩ := add_end (smF_parts hs').1 (smF_parts ht').1 hf hq1 hg hq2
  have fin : ∀ {w' : World} {A : World → Prop} {b : Bool}, Ext w15 w' → (∀ w'', A w'') → b = (ad2 s t).isSome → sto P t_impl_Pair x4 (pvv o) w' fun w'' => A w'' ∧ ldc P t_impl_Pair x4 w'' fun r => K (.tuple #[r, .bool b]) w'' := fun e hA hb => by
    refine pv_put (b4.ext (E15.trans e)) fun w'' b'' g'' => ⟨hA _, pv_allc b'' ?_⟩
    rw [hb]
    exact H o _ (ext_of_grown (EE.trans (E15.trans e)) (fun g hg => Nat.le_trans s3 (bx_lt b'' g hg)) g'') ho k2
  refine pv_all b14 ?_
  refine c_l01Finite ?_
  refine ⟨Ext.refl _, ?_⟩
  refine andJ (fun h1 => ?_) (fun h1 => ?_)
  · refine pv_H b11 ?_
    refine c_l01Finite ?_
    refine ⟨Ext.refl _, ?_⟩
    refine andJ (fun h2 => ?_) (fun h2 => ?_)
    · refine pv_L b11 ?_
      refine c_l01Finite ?_
      refine ⟨Ext.refl _, ?_⟩
      refine andJ (fun h3 => ?_) (fun h3 => ?_)
      · refine c_l01Finite ?_
        refine ⟨Ext.refl _, ?_⟩
        refine andJL (fun h4 => ?_) (fun h4 => ?_)
        · refine pv_all b14 ?_
          refine c_l05Is ho fun w16 e16 => ?_
          refine ⟨e16, ?_⟩
          exact fin e16 (fun _ => by rw [h4]; rfl) (by rw [← k1, h1, h2, h3, h4]; simp)
        · exact fin (Ext.refl _) (fun _ => by rw [h4]; rfl) (by rw [← k1, h4]; simp)
      · refine andJL (fun h => by cases h) (fun _ => ?_)
        exact fin (Ext.refl _) (fun _ => rfl) (by rw [← k1, h3]; simp)
    · refine andJ (fun h => by cases h) (fun _ => ?_)
      refine andJL (fun h => by cases h) (fun _ => ?_)
      exact fin (Ext.refl _) (fun _ => rfl) (by rw [← k1, h2]; simp)
  · refine andJ (fun h => by cases h) (fun _ => ?_)
    refine andJ (fun h => by cases h) (fun _ => ?_)
    refine andJL (fun h => by cases h) (fun _ => ?_)
    exact fin (Ext.refl _) (fun _ => rfl) (by rw [← k1, h1]; simp)
set_option maxRecDepth 20000 in
theorem c_l05Times {p q : PV} (hp : PF p) (hq : PF q) (H : ∀ o w', Ext w w' → pvB o → (∀ r, mlF p q = some r → o = r) → K (.tuple #[pvv o, .bool (mlF p q).isSome]) w') : call P f_spec_l05Times [pvv p, pvv q] w K := by
  refine I_spec_l05Times ?_
  unfold D_spec_l05Times
  refine bx_pv fun x2 w1 b2 e1 => ?_
  refine bx_pv fun x3 w2 b3 e2 => ?_
  refine alc_pv fun x4 w3 ⟨a0, b0, b4⟩ e3 => ?_
  have b2 := (b2.ext e2).ext e3
  have b3 := b3.ext e3
  have E3 := e1.trans (e2.trans e3)
  have s3 : w.heap.size ≤ w2.heap.size := (e1.trans e2).size
  refine pv_H b2 ?_
  refine pv_H b3 ?_
  refine c_l05Product hp.1.1 hq.1.1 hp.2.1 hq.2.1 fun s ex w4 e4 hs hsp => ?_
  rw [xtr_0, xtr_1, xtr_2]
  refine alc_pv fun x6 w5 ⟨a1, b1, b6⟩ e5 => ?_
  refine pv_put b6 fun w6 b6 g6 => ?_
  have e6 : Ext w4 w6 := ext_of_grown e5 (fun g hg => bx_lt b6 g hg) g6
  have E6 := e4.trans e6
  have b2 := b2.ext E6
  have b3 := b3.ext E6
  have b4 := b4.ext E6
  have EE := E3.trans E6
  rw [una_not]
  refine cnd_split (fun h1 => ?_) (fun h1 => ?_)
  · have hn : mlF p q = none := by
      have : spF p.1 q.1 = none := by cases hh : spF p.1 q.1; rfl; rw [hh] at h1; cases h1
      unfold mlF; rw [this]
    rw [bld_pv0]
    refine pv_end (p := (0, 0)) b4 EE s3 fun w' e' => ?_
    rw [hn] at H
    exact H _ w' e' ⟨by decide, by decide⟩ (fun r hr => by cases hr)
  obtain ⟨s', hs'⟩ : ∃ s', spF p.1 q.1 = some s' := by cases hh : spF p.1 q.1; rw [hh] at h1; cases h1; exact ⟨_, rfl⟩
  have hss := hsp s' hs'
  subst hss
  refine pv_H b2 ?_
  refine pv_L b3 ?_
  refine pv_L b2 ?_
  refine pv_H b3 ?_
  refine rbin_float (by simp) fun a ha => ?_
  obtain rfl : a = opF .mul p.1 q.2 := FR_opF ha (mul_fin hp.2.1 hq.2.2)
  refine rbin_float (by simp) fun b hb => ?_
  obtain rfl : b = opF .mul p.2 q.1 := FR_opF hb (mul_fin hp.2.2 hq.2.1)
  refine rbin_float (by simp) fun c hc => ?_
  refine pv_L b6 ?_
  refine rbin_float (by simp) fun d hd => ?_
  refine pv_H b6 ?_
  refine c_l05Quick hs.1 (FR32 hd) fun o w7 e7 ho hq2 => ?_
  refine alc_pv fun x13 w8 ⟨a4, b4', b13⟩ e8 => ?_
  refine pv_put b13 fun w9 b13 g9 => ?_
  have e9 : Ext w7 w9 := ext_of_grown e8 (fun g hg => bx_lt b13 g hg) g9
  have E9 := e7.trans e9
  obtain ⟨k1, k2⟩ := mul_end hs' hc hd hq2
  have fin : ∀ {w' : World} {A : World → Prop} {b : Bool}, Ext w9 w' → (∀ w'', A w'') → b = (mlF p q).isSome → sto P t_impl_Pair x4 (pvv o) w' fun w'' => A w'' ∧ ldc P t_impl_Pair x4 w'' fun r => K (.tuple #[r, .bool b]) w'' := fun e hA hb => by
    refine pv_put (b4.ext (E9.trans e)) fun w'' b'' g'' => ⟨hA _, pv_allc b'' ?_⟩
    rw [hb]
    exact H o _ (ext_of_grown (EE.trans (E9.trans e)) (fun g hg => Nat.le_trans s3 (bx_lt b'' g hg)) g'') ho k2
  refine pv_all b13 ?_
  refine c_l01Finite ?_
  refine ⟨Ext.refl _, ?_⟩
  refine andJ (fun h1 => ?_) (fun h1 => ?_)
  · refine c_l01Finite ?_
    refine ⟨Ext.refl _, ?_⟩
    refine andJ (fun h2 => ?_) (fun h2 => ?_)
    · refine c_l01Finite ?_
      refine ⟨Ext.refl _, ?_⟩
      refine andJ (fun h3 => ?_) (fun h3 => ?_)
      · refine c_l01Finite ?_
        refine ⟨Ext.refl _, ?_⟩
        refine andJL (fun h4 => ?_) (fun h4 => ?_)
        · refine pv_all b13 ?_
          refine c_l05Is ho fun w16 e16 => ?_
          refine ⟨e16, ?_⟩
          exact fin e16 (fun _ => by rw [h4]; rfl) (by rw [← k1, h1, h2, h3, h4]; simp)
        · exact fin (Ext.refl _) (fun _ => by rw [h4]; rfl) (by rw [← k1, h4]; simp)
      · refine andJL (fun h => by cases h) (fun _ => ?_)
        exact fin (Ext.refl _) (fun _ => rfl) (by rw [← k1, h3]; simp)
    · refine andJ (fun h => by cases h) (fun _ => ?_)
      refine andJL (fun h => by cases h) (fun _ => ?_)
      exact fin (Ext.refl _) (fun _ => rfl) (by rw [← k1, h2]; simp)
  · refine andJ (fun h => by cases h) (fun _ => ?_)
    refine andJ (fun h => by cases h) (fun _ => ?_)
    refine andJL (fun h => by cases h) (fun _ => ?_)
    exact fin (Ext.refl _) (fun _ => rfl) (by rw [← k1, h1]; simp)
set_option maxRecDepth 20000 in
set_option maxHeartbeats 2000000 in
theorem c_l05Over {p q : PV} (hp : PF p) (hq : PF q) (hz : zB q.1 = false) (H : ∀ o w', Ext w w' → pvB o → (∀ r, dvF p q = some r → o = r) → K (.tuple #[pvv o, .bool (dvF p q).isSome]) w') : call P f_spec_l05Over [pvv p, pvv q] w K := by
  have hz' : FloatKind.f32.format.order q.1 0 ≠ some .eq := fun h => by
    unfold zB at hz
    rw [show single.order q.1 0 = some .eq from h] at hz
    cases hz
  refine I_spec_l05Over ?_
  unfold D_spec_l05Over
  refine bx_pv fun x2 w1 b2 e1 => ?_
  refine bx_pv fun x3 w2 b3 e2 => ?_
  refine alc_pv fun x4 w3 ⟨a0, b0, b4⟩ e3 => ?_
  have b2 := (b2.ext e2).ext e3
  have b3 := b3.ext e3
  have E3 := e1.trans (e2.trans e3)
  have s3 : w.heap.size ≤ w2.heap.size := (e1.trans e2).size
  have fail : ∀ {w' : World}, Ext w3 w' → dvF p q = none → bld P t_impl_Pair [] w' fun x => sto P t_impl_Pair x4 x w' fun w' => ldc P t_impl_Pair x4 w' fun r => K (.tuple #[r, .bool false]) w' := fun e hn => by
    rw [bld_pv0]
    refine pv_end (p := (0, 0)) (b4.ext e) (E3.trans e) s3 fun w' e' => ?_
    rw [hn] at H
    exact H _ w' e' ⟨by decide, by decide⟩ (fun r hr => by cases hr)
  refine pv_H b2 ?_
  refine pv_H b3 ?_
  refine rbin_float (by simp) fun a ha => ?_
  obtain rfl : a = opF .quo p.1 q.1 := FR_opF ha (div_def hp.2.1 hq.2.1 hz')
  have hAlt := FR32 ha
  generalize hA : opF .quo p.1 q.1 = A at *
  refine c_l01Finite ?_
  rw [una_not]
  refine cnd_split (fun h1 => ?_) (fun h1 => ?_)
  · refine fail (Ext.refl _) ?_
    unfold dvF; rw [hA, if_neg (by simpa using h1)]
  have fA : finB A = true := by simpa using h1
  refine pv_all b3 ?_
  rw [bld_pvH]
  refine c_l05Times hq (PF_H fA hAlt) fun r w4 e4 hr hm => ?_
  rw [xtr_0, xtr_1]
  refine alc_pv fun x7 w5 ⟨a1, b1, b7⟩ e5 => ?_
  refine pv_put b7 fun w6 b7 g6 => ?_
  have e6 : Ext w4 w6 := ext_of_grown e5 (fun g hg => bx_lt b7 g hg) g6
  have E6 := e4.trans e6
  rw [una_not]
  refine cnd_split (fun h2 => ?_) (fun h2 => ?_)
  · refine fail E6 ?_
    have : mlF q (A, 0) = none := by cases hh : mlF q (A, 0); rfl; rw [hh] at h2; cases h2
    unfold dvF; rw [hA, if_pos fA, this]
  obtain ⟨r', hr'⟩ : ∃ r', mlF q (A, 0) = some r' := by cases hh : mlF q (A, 0); rw [hh] at h2; cases h2; exact ⟨_, rfl⟩
  have hrr := hm r' hr'
  subst hrr
  have hPr := mlF_PF hr'
  have hdv : dvF p q = dv2 A q.1 (adF p (ngP r)) := by
    unfold dvF; rw [hA, if_pos fA, hr']
  refine ⟨fun x9 x10 w' => ∃ (B : Nat) (o : PV), w6.heap.size ≤ B ∧ Bx w' B t_impl_Pair x9 (pv2 o.1 o.2) ∧ Ext w6 w' ∧ pvB o ∧ x10 = .bool (adF p (ngP r)).isSome ∧ ∀ s, adF p (ngP r) = some s → o = s, ?_, ?_⟩
  · rintro x9 x10 junk w7 ⟨B, o, hB, b9, e7, ho, rfl, hos⟩
    rw [una_not]
    have E7 := E6.trans e7
    refine cnd_split (fun h3 => ?_) (fun h3 => ?_)
    · refine fail E7 ?_
      have : adF p (ngP r) = none := by cases hh : adF p (ngP r); rfl; rw [hh] at h3; cases h3
      rw [hdv, this]; rfl
    obtain ⟨s, hs⟩ : ∃ s, adF p (ngP r) = some s := by cases hh : adF p (ngP r); rw [hh] at h3; cases h3; exact ⟨_, rfl⟩
    have := hos s hs
    subst this
    have hPo := adF_PF hs
    rw [hs] at hdv
    unfold dv2 at hdv
    simp only at hdv
    refine pv_H b9 ?_
    refine pv_H (b3.ext E7) ?_
    refine rbin_float (by simp) fun b hb => ?_
    obtain rfl : b = opF .quo o.1 q.1 := FR_opF hb (div_def hPo.2.1 hq.2.1 hz')
    have hBlt := FR32 hb
    generalize hBq : opF .quo o.1 q.1 = Bq at *
    refine c_l05Quick hAlt hBlt fun out w8 e8 hout hq2 => ?_
    refine alc_pv fun x12 w9 ⟨a4, b4', b12⟩ e9 => ?_
    refine pv_put b12 fun w10 b12 g10 => ?_
    have e10 : Ext w8 w10 := ext_of_grown e9 (fun g hg => bx_lt b12 g hg) g10
    have E10 := E7.trans (e8.trans e10)
    obtain ⟨k1, k2⟩ : (finB Bq && isPB out) = (dvF p q).isSome ∧ ∀ r, dvF p q = some r → out = r := by
      rw [hdv]
      cases fB : finB Bq
      · exact ⟨by simp, fun r h => by simp at h⟩
      simp only [Bool.true_and, if_true]
      obtain ⟨k1, k2⟩ := hq2 fA fB
      cases hk : qkF A Bq with
      | none =>
        rw [hk] at k1
        rw [isPB_no k1]
        exact ⟨rfl, fun r h => by cases h⟩
      | some o' =>
        have := k2 o' hk
        subst this
        unfold okP
        simp only
        cases isPB out
        · exact ⟨rfl, fun r h => by cases h⟩
        · exact ⟨rfl, fun r h => by simpa using h⟩
    have fin : ∀ {w' : World} {A : World → Prop} {b : Bool}, Ext w10 w' → (∀ w'', A w'') → b = (dvF p q).isSome → sto P t_impl_Pair x4 (pvv out) w' fun w'' => A w'' ∧ ldc P t_impl_Pair x4 w'' fun r => K (.tuple #[r, .bool b]) w'' := fun e hA hb => by
      refine pv_put (b4.ext (E10.trans e)) fun w'' b'' g'' => ⟨hA _, pv_allc b'' ?_⟩
      rw [hb]
      exact H out _ (ext_of_grown (E3.trans (E10.trans e)) (fun g hg => Nat.le_trans s3 (bx_lt b'' g hg)) g'') hout k2
    refine pv_all b12 ?_
    refine c_l01Finite ?_
    refine ⟨Ext.refl _, ?_⟩
    refine andJL (fun h4 => ?_) (fun h4 => ?_)
    · refine pv_all b12 ?_
      refine c_l05Is hout fun w16 e16 => ?_
      refine ⟨e16, ?_⟩
      exact fin e16 (fun _ => by rw [h4]; rfl) (by rw [← k1, h4]; simp)
    · exact fin (Ext.refl _) (fun _ => by rw [h4]; rfl) (by rw [← k1, h4]; simp)
  · refine pv_all (b2.ext E6) ?_
    refine pv_H b7 ?_
    refine pv_L b7 ?_
    have hPn := PF_ng hPr
    refine ⟨?_, ?_⟩
    · refine c_l01TurnedB hPr.2.1 hPr.1.1 ?_
      refine ⟨Ext.refl _, ?_, ?_⟩
      · refine c_l01TurnedB hPr.2.2 hPr.1.2 ?_
        refine ⟨Ext.refl _, ?_⟩
        rw [bld_pv]
        refine ⟨?_, ?_⟩
        · refine c_l05Add hp hPn fun o w8 e8 ho hos => ?_
          rw [xtr_0, xtr_1]
          refine alc_pv fun x9 w9 ⟨a1, b1, b9⟩ e9 => ?_
          refine ⟨e9, ?_⟩
          refine pv_put b9 fun w10 b9 g10 => ?_
          rw [xtr_1]
          have e10 : Ext w8 w10 := ext_of_grown e9 (fun g hg => bx_lt b9 g hg) g10
          exact ⟨rfl, _, o, e8.size, b9, e8.trans e10, ho, rfl, hos⟩
        · refine alc_pv fun x9 w8 ⟨a1, b1, b9⟩ e8 => ?_
          refine ⟨e8, ?_⟩
          refine c_l05Add hp hPn fun o w9 e9 ho hos => ?_
          rw [xtr_0, xtr_1]
          refine pv_put (b9.ext e9) fun w10 b9 g10 => ?_
          rw [xtr_1]
          have e10 : Ext w6 w10 := ext_of_grown (e8.trans e9) (fun g hg => bx_lt b9 g hg) g10
          exact ⟨rfl, _, o, Nat.le_refl _, b9, e10, ho, rfl, hos⟩
      · refine alc_pv fun x9 w8 ⟨a1, b1, b9⟩ e8 => ?_
        refine ⟨e8, ?_⟩
        refine c_l01TurnedB hPr.2.2 hPr.1.2 ?_
        refine ⟨Ext.refl _, ?_⟩
        rw [bld_pv]
        refine c_l05Add hp hPn fun o w9 e9 ho hos => ?_
        rw [xtr_0, xtr_1]
        refine pv_put (b9.ext e9) fun w10 b9 g10 => ?_
        rw [xtr_1]
        have e10 : Ext w6 w10 := ext_of_grown (e8.trans e9) (fun g hg => bx_lt b9 g hg) g10
        exact ⟨rfl, _, o, Nat.le_refl _, b9, e10, ho, rfl, hos⟩
    · refine alc_pv fun x9 w8 ⟨a1, b1, b9⟩ e8 => ?_
      refine ⟨e8, ?_⟩
      refine c_l01TurnedB hPr.2.1 hPr.1.1 ?_
      refine ⟨Ext.refl _, ?_⟩
      refine c_l01TurnedB hPr.2.2 hPr.1.2 ?_
      refine ⟨Ext.refl _, ?_⟩
      rw [bld_pv]
      refine c_l05Add hp hPn fun o w9 e9 ho hos => ?_
      rw [xtr_0, xtr_1]
      refine pv_put (b9.ext e9) fun w10 b9 g10 => ?_
      rw [xtr_1]
      have e10 : Ext w6 w10 := ext_of_grown (e8.trans e9) (fun g hg => bx_lt b9 g hg) g10
      exact ⟨rfl, _, o, Nat.le_refl _, b9, e10, ho, rfl, hos⟩
end Go.Proofs.YtjompmflommadaaGreatDoor


set_option linter.unusedVariables false
set_option linter.unusedSimpArgs false
namespace Go.Proofs.YtjompmflommadaaGreatDoor
open Go Go.Vc Ieee
variable {w : World} {K : Value → World → Prop}
theorem pvQ_neg {p : PV} : pvQ p < 0 ↔ sgQ (pvQ p) < 0 := by
  unfold sgQ
  by_cases h : pvQ p < 0
  · rw [if_pos h]; exact ⟨fun _ => by decide, fun _ => h⟩
  · rw [if_neg h]
    constructor
    · intro h'; exact absurd h' h
    · intro h'; split at h' <;> cases h'
theorem c_l08PairOne {l : List UInt8} {p : PV} (hp : PF p) (H : ∀ o w', Ext w w' → pvB o → ((prOne l p).2 = 0 → o = (prOne l p).1) → K (.tuple #[pvv o, .int .i64 (prOne l p).2]) w') : call P f_spec_l08PairOne [str l, pvv p] w K := by
  refine I_spec_l08PairOne ?_
  unfold D_spec_l08PairOne
  refine bx_pv fun x3 w1 b3 e1 => ?_
  refine alc_pv fun x4 w2 ⟨a0, b0, b4⟩ e2 => ?_
  have b3 := b3.ext e2
  have E2 := e1.trans e2
  have s1 := e1.size
  unfold prOne at H
  rw [eql_str]
  refine cnd_dec (fun h1 => ?_) (fun h1 => ?_)
  · rw [if_pos h1] at H
    refine pv_all b3 ?_
    refine c_l08Turn hp fun w3 e3 => ?_
    exact pv_end (p := ngP p) (b4.ext e3) (E2.trans e3) s1 fun w' e => H _ w' e (PF_ng hp).1 (fun _ => rfl)
  rw [if_neg h1] at H
  rw [eql_str]
  refine cnd_dec (fun h3 => ?_) (fun h3 => ?_)
  · have h2 : ¬ l = [115, 113, 114] := fun h => by rw [h] at h3; cases h3
    rw [if_neg h2, if_pos h3] at H
    refine pv_all b3 ?_
    refine c_l05Value hp fun u w3 e3 hu => ?_
    obtain ⟨m, e, ⟨s, l', rfl, hl, wl⟩, hc⟩ := hu
    refine fld_dy_s (IR.sl hl.toIR) ?_
    rw [bin_lss]
    have hs : pvQ p < 0 ↔ m.sign < 0 := by rw [pvQ_neg, hc.val, sgQ_dy]
    refine cnd_dec (fun h4 => ?_) (fun h4 => ?_)
    · rw [if_pos (hs.2 h4)] at H
      refine pv_all (b3.ext e3) ?_
      refine c_l08Turn hp fun w5 e5 => ?_
      exact pv_end (p := ngP p) (b4.ext (e3.trans e5)) (E2.trans (e3.trans e5)) s1 fun w' e => H _ w' e (PF_ng hp).1 (fun _ => rfl)
    · rw [if_neg (fun h => h4 (hs.1 h))] at H
      refine pv_all (b3.ext e3) ?_
      exact pv_end (p := p) (b4.ext e3) (E2.trans e3) s1 fun w' e => H _ w' e hp.1 (fun _ => rfl)
  rw [eql_str]
  refine cnd_dec (fun h2 => ?_) (fun h2 => ?_)
  · rw [if_pos h2] at H
    refine pv_all b3 ?_
    refine pv_all b3 ?_
    refine c_l05Times hp hp fun o w3 e3 ho hx => ?_
    rw [xtr_0, xtr_1]
    refine alc_pv fun x6 w4 ⟨a1, b1, b6⟩ e4 => ?_
    refine pv_put b6 fun w5 b6 g5 => ?_
    have e5 : Ext w3 w5 := ext_of_grown e4 (fun g hg => bx_lt b6 g hg) g5
    have E5 := e3.trans e5
    rw [una_not]
    cases hm : mlF p p with
    | none =>
      rw [hm] at H
      refine cnd_yes rfl ?_
      rw [bld_pv0]
      exact pv_end (p := (0, 0)) (b4.ext E5) (E2.trans E5) s1 fun w' e => H _ w' e ⟨by decide, by decide⟩ (fun h => by cases h)
    | some r =>
      rw [hm] at H
      have := hx r hm
      subst this
      refine cnd_no rfl ?_
      refine pv_all b6 ?_
      exact pv_end (p := o) (b4.ext E5) (E2.trans E5) s1 fun w' e => H _ w' e ho (fun _ => rfl)
  rw [if_neg h2, if_neg h3] at H
  rw [bld_pv0]
  exact pv_end (p := (0, 0)) b4 E2 s1 fun w' e => H _ w' e ⟨by decide, by decide⟩ (fun h => by cases h)
set_option maxRecDepth 20000 in
set_option maxHeartbeats 2000000 in
theorem c_l08PairTwo {l : List UInt8} {p q : PV} (hp : PF p) (hq : PF q) (H : ∀ o w', Ext w w' → pvB o → ((prTwo l p q).2 = 0 → o = (prTwo l p q).1) → K (.tuple #[pvv o, .int .i64 (prTwo l p q).2]) w') : call P f_spec_l08PairTwo [str l, pvv p, pvv q] w K := by
  refine I_spec_l08PairTwo ?_
  unfold D_spec_l08PairTwo
  refine bx_pv fun x4 w0 b4 e0 => ?_
  refine bx_pv fun x5 w1 b5 e1' => ?_
  refine alc_pv fun x6 w2 ⟨a0, b0, b6⟩ e2 => ?_
  rw [bld_pv0]
  refine alc_pv fun x8 w3 ⟨a1, b1, b8⟩ e3 => ?_
  refine pv_put b8 fun w4 b8 g4 => ?_
  have e4 : Ext w2 w4 := ext_of_grown e3 (fun g hg => bx_lt b8 g hg) g4
  have b4 := ((b4.ext e1').ext e2).ext e4
  have b5 := (b5.ext e2).ext e4
  have b62 := b6
  have b6 := b6.ext e4
  have E4 := (e0.trans e1').trans (e2.trans e4)
  have s1 := (e0.trans e1').size
  have ret : ∀ {w3 : World} {o : PV} {c : Int}, Ext w4 w3 → (∀ w', Ext w w' → K (.tuple #[pvv o, .int .i64 c]) w') → sto P t_impl_Pair x6 (pvv o) w3 fun w' => ldc P t_impl_Pair x6 w' fun r => K (.tuple #[r, .int .i64 c]) w' := fun e HH =>
    pv_end (b6.ext e) (E4.trans e) s1 HH
  unfold prTwo at H
  refine ⟨fun x w' => ∃ (o : PV) (x? : Option PV), x = .bool x?.isSome ∧ Ext w2 w' ∧ Bx w' w2.heap.size t_impl_Pair x8 (pv2 o.1 o.2) ∧ pvB o ∧ (∀ r, x? = some r → o = r) ∧ prTwo l p q = lim x?, ?_, ?_⟩
  · rintro x junk w5 ⟨o, x?, rfl, e5, b8, ho, hx, hl⟩
    unfold prTwo at hl
    rw [hl] at H
    have e25 : Ext w w5 := (e0.trans (e1'.trans e2)).trans e5
    rw [una_not]
    cases x? with
    | none =>
      refine cnd_yes rfl ?_
      rw [bld_pv0]
      exact pv_end (p := (0, 0)) (b62.ext e5) e25 s1 fun w' e => H _ w' e ⟨by decide, by decide⟩ (fun h => by cases h)
    | some r =>
      have := hx r rfl
      subst this
      refine cnd_no rfl ?_
      refine pv_all b8 ?_
      exact pv_end (p := o) (b62.ext e5) e25 s1 fun w' e => H _ w' e ho (fun _ => rfl)
  rw [eql_str]
  refine cnd_dec (fun h1 => ?_) (fun h1 => ?_)
  · refine pv_all b4 ?_
    refine pv_all b5 ?_
    refine c_l05Add hp hq fun o w5 e5 ho hx => ?_
    rw [xtr_0, xtr_1]
    refine pv_put (b8.ext e5) fun w6 b8 g6 => ?_
    exact ⟨o, _, rfl, ext_of_grown (e4.trans e5) (fun g hg => bx_lt b8 g hg) g6, b8, ho, hx, by unfold prTwo; rw [if_pos h1]⟩
  rw [eql_str]
  refine cnd_dec (fun h2 => ?_) (fun h2 => ?_)
  · refine pv_all b4 ?_
    refine pv_all b5 ?_
    refine c_l08Turn hq fun w5 e5 => ?_
    refine ⟨e5, ?_⟩
    refine c_l05Add hp (PF_ng hq) fun o w6 e6 ho hx => ?_
    rw [xtr_0, xtr_1]
    refine pv_put ((b8.ext e5).ext e6) fun w7 b8 g7 => ?_
    rw [xtr_1]
    exact ⟨rfl, o, _, rfl, ext_of_grown (e4.trans (e5.trans e6)) (fun g hg => bx_lt b8 g hg) g7, b8, ho, hx, by unfold prTwo; rw [if_neg h1, if_pos h2]⟩
  rw [eql_str]
  refine cnd_dec (fun h3 => ?_) (fun h3 => ?_)
  · refine pv_all b4 ?_
    refine pv_all b5 ?_
    refine c_l05Times hp hq fun o w5 e5 ho hx => ?_
    rw [xtr_0, xtr_1]
    refine pv_put (b8.ext e5) fun w6 b8 g6 => ?_
    exact ⟨o, _, rfl, ext_of_grown (e4.trans e5) (fun g hg => bx_lt b8 g hg) g6, b8, ho, hx, by unfold prTwo; rw [if_neg h1, if_neg h2, if_pos h3]⟩
  rw [eql_str]
  refine cnd_dec (fun h4 => ?_) (fun h4 => ?_)
  · refine pv_H b5 ?_
    rw [bin_feql]
    show cnd (.bool (zB q.1)) _ _
    rw [if_neg h1, if_neg h2, if_neg h3, if_pos h4] at H
    cases hz : zB q.1
    · refine cnd_no rfl ?_
      refine pv_all b4 ?_
      refine pv_all b5 ?_
      refine c_l05Over hp hq hz fun o w5 e5 ho hx => ?_
      rw [xtr_0, xtr_1]
      refine pv_put (b8.ext e5) fun w6 b8 g6 => ?_
      exact ⟨o, _, rfl, ext_of_grown (e4.trans e5) (fun g hg => bx_lt b8 g hg) g6, b8, ho, hx, by unfold prTwo; rw [if_neg h1, if_neg h2, if_neg h3, if_pos h4, hz]; rfl⟩
    · rw [hz] at H
      refine cnd_yes rfl ?_
      rw [bld_pv0]
      exact ret (o := (0, 0)) (Ext.refl _) fun w' e => H _ w' e ⟨by decide, by decide⟩ (fun h => by cases h)
  rw [if_neg h1, if_neg h2, if_neg h3, if_neg h4] at H
  refine pv_all b4 ?_
  refine pv_all b5 ?_
  refine c_l05Value hp fun u w5 e5 hu => ?_
  refine ⟨e5, ?_⟩
  refine c_l05Value hq fun v w6 e6 hv => ?_
  refine c_l03Compare (hu.ext e6) hv (by decide) (by decide) fun w7 e7 => ?_
  have E7 := e5.trans (e6.trans e7)
  have b4 := b4.ext E7
  have b5 := b5.ext E7
  rw [eql_str]
  have yes : (0 < cmpQ (pvQ p) (pvQ q) ∧ l = [109, 105, 110] ∨ cmpQ (pvQ p) (pvQ q) < 0 ∧ l = [109, 97, 120]) → ld P t_impl_Pair x5 w7 fun x => sto P t_impl_Pair x6 x w7 fun w' => ldc P t_impl_Pair x6 w' fun r => K (.tuple #[r, .int .i64 0]) w' := fun hc => by
    rw [if_pos hc] at H
    refine pv_all b5 ?_
    exact ret E7 fun w' e => H _ w' e hq.1 (fun _ => rfl)
  have no : ¬ (0 < cmpQ (pvQ p) (pvQ q) ∧ l = [109, 105, 110] ∨ cmpQ (pvQ p) (pvQ q) < 0 ∧ l = [109, 97, 120]) → ld P t_impl_Pair x4 w7 fun x => sto P t_impl_Pair x6 x w7 fun w' => ldc P t_impl_Pair x6 w' fun r => K (.tuple #[r, .int .i64 0]) w' := fun hc => by
    rw [if_neg hc] at H
    refine pv_all b4 ?_
    exact ret E7 fun w' e => H _ w' e hp.1 (fun _ => rfl)
  generalize hcq : cmpQ (pvQ p) (pvQ q) = c at yes no ⊢
  by_cases hm : l = [109, 105, 110]
  · rw [decide_eq_true hm]
    refine ⟨_, fun _ _ _ h => h, ?_⟩
    simp only [grd_true_true, bin_gtr, pick_bool, cond_true]
    by_cases hg : 0 < c
    · rw [decide_eq_true (show c > 0 from hg)]
      refine ⟨_, fun _ _ _ h => h, ?_⟩
      simp only [grd_true_false]
      refine ⟨_, fun _ _ _ h => h, ?_⟩
      simp only [grd_undef]
      refine ⟨_, fun _ _ _ h => h, ?_⟩
      simp only [grd_true_false, pick_bool, cond_true, cnd_true]
      exact yes (.inl ⟨hg, hm⟩)
    · rw [decide_eq_false (show ¬ c > 0 from hg)]
      refine ⟨_, fun _ _ _ h => h, ?_⟩
      simp only [grd_false_false, eql_str, decide_eq_false (show ¬ l = [109, 97, 120] by rw [hm]; decide)]
      refine ⟨_, fun _ _ _ h => h, ?_⟩
      simp only [grd_false_true]
      refine ⟨_, fun _ _ _ h => h, ?_⟩
      simp only [grd_false_false, pick_bool, cond_false, cnd_false]
      exact no fun hc => hc.elim (fun h => hg h.1) (fun h => by rw [hm] at h; cases h.2)
  · rw [decide_eq_false hm]
    refine ⟨_, fun _ _ _ h => h, ?_⟩
    simp only [grd_false_true, pick_bool, cond_false]
    refine ⟨_, fun _ _ _ h => h, ?_⟩
    simp only [grd_false_false, eql_str]
    by_cases hx : l = [109, 97, 120]
    · simp only [decide_eq_true hx]
      refine ⟨_, fun _ _ _ h => h, ?_⟩
      simp only [grd_true_true, bin_lss]
      refine ⟨_, fun _ _ _ h => h, ?_⟩
      simp only [grd_false_false, pick_bool, cond_true, cond_false]
      refine cnd_dec (fun hlt => yes (.inr ⟨hlt, hx⟩)) (fun hlt => no fun hc => hc.elim (fun h => hm h.2) (fun h => hlt h.1))
    · simp only [decide_eq_false hx]
      refine ⟨_, fun _ _ _ h => h, ?_⟩
      simp only [grd_false_true]
      refine ⟨_, fun _ _ _ h => h, ?_⟩
      simp only [grd_false_false, pick_bool, cond_false, cnd_false]
      exact no fun hc => hc.elim (fun h => hm h.2) (fun h => hx h.2)
set_option maxRecDepth 20000 in
set_option maxHeartbeats 2000000 in
theorem s_RunPair {a v : Value} {ws : List (List UInt8)} {vs : List Nat} (ha : I_Program w a ws) (hv0 : I_Float32S w v vs)
    (H : ∀ u w', Ext w w' → I_Pair w' u (runPF ws vs).1 → K (.tuple #[u, .int .i64 (runPF ws vs).2]) w') : call P f_spec_RunPair [a, v] w K := by
  have hv : FS w v vs := hv0
  obtain ⟨s, rfl, hs⟩ := ha
  refine I_spec_RunPair ?_
  unfold D_spec_RunPair
  refine bx_pr fun x2 w1 b2 e1 => ?_
  refine alc_pv fun x4 w2 ⟨a0, b0, b4⟩ e2 => ?_
  have E2 := e1.trans e2
  have s1 := e1.size
  have b2 := b2.ext e2
  have hs := hs.ext E2
  have hv := hv.ext E2
  refine pr_all b2 ?_
  refine c_l08Code ⟨s, rfl, hs⟩ hv fun w3 e3 => ?_
  have E3 := E2.trans e3
  have b2 := b2.ext e3
  have b4 := b4.ext e3
  have hs := hs.ext e3
  have hv := hv.ext e3
  rw [bin_neq]
  refine cnd_dec (fun hne => ?_) (fun heq => ?_)
  · rw [bld_pv0]
    refine pv_end (p := (0, 0)) b4 E3 s1 fun w' e => ?_
    have hr : runPF ws vs = ((0, 0), askF ws (vs.all finB) vs.length) := by unfold runPF; rw [if_neg hne]
    rw [hr] at H
    exact H _ w' e ⟨rfl, show (0 : Nat) < 4294967296 by decide, show (0 : Nat) < 4294967296 by decide⟩
  have h0 : askF ws (vs.all finB) vs.length = 0 := by simpa using heq
  obtain ⟨⟨m, hd⟩, hfin, hn, hn3⟩ := ask_zero h0
  have hfin' : ∀ b ∈ vs, b < 4294967296 ∧ Vc.Fin Ieee.single b := fun b hb => ⟨hv.lt b hb, hfin b hb⟩
  have hr : runPF ws vs = (prM vs).res ws := by unfold runPF; rw [if_pos h0]
  rw [hr] at H
  obtain ⟨mm, hdp, rfl, hlen, hlen1⟩ := depF_dpS hd
  refine PL.nil0 fun v22 w4 e4 hst => ?_
  refine ⟨fun g x7 x8 w' => ∃ (i : Nat) (st : List PV) (b : Int), x8 = .int .i64 i ∧ g + i = ws.length ∧ (prM vs).run ws i = (st, 0) ∧ dpS ws i = some ((st.length : Int), b) ∧ Ext w3 w' ∧ PL w' w3.heap.size x7 st,
    ⟨ws.length, 0, [], 0, rfl, by omega, rfl, rfl, e4, hst⟩, ?_⟩
  rintro g x7 x8 junk w8 ⟨i, st, b, rfl, hg, hrun, hdi, e8, hst⟩
  have hrg := dpS_range ws i _ _ hdi
  have hs8 := hs.ext e8
  have hv8 := hv.ext e8
  have b28 := b2.ext e8
  have s8 := e8.size
  refine pr_w b28 ?_
  rw [hs8.len, bin_lss]
  refine cnd_dec (fun hlt => ?_) (fun hge => ?_)
  · have hi : i < ws.length := by omega
    refine pr_w b28 ?_
    refine hs8.at hi ?_
    rw [hst.len]
    have hl := hs8.le hi
    refine c_l08Needs hl fun w9 e9 => ?_
    have hvl := var_lt hn hi
    obtain ⟨f0, f1, hd1⟩ := dep_step hd hi hdi
    have hsucc := (prM vs).succ ws hrun
    rw [getD_w hi] at hsucc
    rw [bin_eql]
    refine cnd_dec (fun hf => ?_) (fun hf => ?_)
    · refine c_l08Leaf (hv8.ext e9) hl hvl hf fun w10 e10 => ?_
      rw [bld_pvH]
      have E := e9.trans e10
      refine (hst.ext E).push (p := (leafB vs ws[i], 0)) (leaf_PF hfin') (Nat.le_trans s8 E.size) (by omega) fun v' w12 hst' he => ?_
      rw [bin_add, wrap_i64 (by omega) (by omega)]
      refine ⟨g - 1, by omega, i + 1, st ++ [(leafB vs ws[i], 0)], max b ((st.length : Int) + 1 - form0 ws[i]), rfl, by omega, ?_, ?_, he (e8.trans E) (Nat.le_refl _), hst'⟩
      · rw [hsucc]; unfold Mach.step; rw [if_pos hf]; rfl
      · rw [hd1, hf]; simp
    · have hpos : 0 < st.length := by omega
      have hfr := form_range ws[i]
      generalize hR : (if form0 ws[i] = 1 then prOne ws[i] (st.getD (st.length - 1) (0, 0)) else prTwo ws[i] (st.getD (st.length - 2) (0, 0)) (st.getD (st.length - 1) (0, 0))) = R
      have hstep : (prM vs).run ws (i + 1) = (st.take (st.length - (form0 ws[i]).toNat) ++ [R.1], R.2) := by
        rw [hsucc]
        unfold Mach.step
        rw [if_neg hf, ← hR]
        split
        · rename_i h1
          rw [h1]; rfl
        · rename_i h1
          have : form0 ws[i] = 2 := by omega
          rw [this]; rfl
      have hst9 := hst.ext e9
      have hres : R.2 ≠ 0 → (prM vs).res ws = ((0, 0), R.2) := fun hc => by
        have hres := (prM vs).bad ws (i := i + 1) (by omega) (by rw [hstep]; exact hc)
        rw [hstep] at hres
        exact hres
      have next : ∀ {w10 : World}, Ext w9 w10 → R.2 = 0 → PF R.1 → ∀ {k : Int} {x : Value}, k = form0 ws[i] → (∀ {KW : Value → Prop}, KW (pvv R.1) → ld P t_impl_Pair x w10 KW) →
          bin P .sub t_int false true (.int .i64 st.length) (.int .i64 k) w10 fun x60 => sli P t_s_impl_Pair x7 none (some x60) none w10 fun x61 => ld P t_impl_Pair x w10 fun x62 => bsl P t_s_impl_Pair 1 [(0, x62)] w10 fun x63 w82 => Ext w10 w82 ∧ bl2 P .append #[t_s_impl_Pair, t_s_impl_Pair] t_s_impl_Pair [x61, x63] w82 fun x64 w84 =>
          bin P .add t_int false true (.int .i64 i) (.int .i64 1) w84 fun x29 => ∃ m39, m39 < g ∧ ∃ (i : Nat) (st : List PV) (b : Int), x29 = .int .i64 i ∧ m39 + i = ws.length ∧ (prM vs).run ws i = (st, 0) ∧ dpS ws i = some ((st.length : Int), b) ∧ Ext w3 w84 ∧ PL w84 w3.heap.size x64 st := fun {w10} e10 hc hPo {k x} hk hld => by
        have hfn : form0 ws[i] = ((form0 ws[i]).toNat : Int) := by omega
        have hst10 := hst9.ext e10
        subst hk
        rw [bin_sub, wrap_i64 (by omega) (by omega), show ((st.length : Int) - form0 ws[i]) = ((st.length - (form0 ws[i]).toNat : Nat) : Int) by omega]
        refine hst10.take (by omega) fun v97 hst97 => ?_
        refine hld ?_
        have E := e9.trans e10
        refine hst97.push2 hPo (Nat.le_trans s8 E.size) (by simp; omega) fun v' w15 hst' he => ?_
        rw [bin_add, wrap_i64 (by omega) (by omega)]
        refine ⟨g - 1, by omega, i + 1, st.take (st.length - (form0 ws[i]).toNat) ++ [R.1], max b ((st.length : Int) + 1 - form0 ws[i]), rfl, by omega, ?_, ?_, he (e8.trans E) (Nat.le_refl _), hst'⟩
        · rw [hstep, hc]
        · have el : (((st.take (st.length - (form0 ws[i]).toNat) ++ [R.1]).length : Nat) : Int) = (st.length : Int) + 1 - form0 ws[i] := by simp; omega
          rw [hd1, el]
      have bad : ∀ {w10 : World}, Ext w3 w10 → R.2 ≠ 0 → bld P t_impl_Pair [] w10 fun x => sto P t_impl_Pair x4 x w10 fun w' => ldc P t_impl_Pair x4 w' fun r => K (.tuple #[r, .int .i64 R.2]) w' := fun e hc => by
        rw [bld_pv0]
        have := hres hc
        rw [this] at H
        exact pv_end (p := (0, 0)) (b4.ext e) (E3.trans e) s1 fun w' e' => H _ w' e' ⟨rfl, show (0 : Nat) < 4294967296 by decide, show (0 : Nat) < 4294967296 by decide⟩
      rw [bin_eql]
      refine cnd_dec (fun h1 => ?_) (fun h1 => ?_)
      · rw [bin_sub, wrap_i64 (by omega) (by omega), show ((st.length : Int) - 1) = ((st.length - 1 : Nat) : Int) by omega]
        refine hst9.at (i := st.length - 1) (by omega) fun hPt => ?_
        refine c_l08PairOne hPt fun o w10 e10 ho hq => ?_
        rw [xtr_0, xtr_1]
        have hR1 : R = prOne ws[i] st[st.length - 1] := by rw [← hR, if_pos h1, getA_lt]
        have hq' : R.2 = 0 → o = R.1 ∧ PF R.1 := fun h0 => by
          rw [hR1] at h0 ⊢
          exact ⟨hq h0, prOne_PF hPt h0⟩
        rw [← hR1]
        refine alc_pv fun x11 w11 ⟨a5, b5, b11⟩ e11 => ?_
        refine pv_put b11 fun w12 b11 g12 => ?_
        have e12 : Ext w10 w12 := ext_of_grown e11 (fun g hg => bx_lt b11 g hg) g12
        have E12 := e10.trans e12
        rw [bin_neq]
        refine cnd_dec (fun hc => ?_) (fun hc => ?_)
        · exact bad ((e8.trans e9).trans E12) hc
        · have hc : R.2 = 0 := by simpa using hc
          obtain ⟨rfl, hPo⟩ := hq' hc
          have := next E12 hc hPo (k := 1) (x := x11) h1.symm (fun h => pv_all b11 h)
          exact this
      · have h2 : form0 ws[i] = 2 := by omega
        refine ⟨fun x13 x14 w' => x14 = .int .i64 R.2 ∧ Ext w9 w' ∧ ∃ (B : Nat) (o : PV), w9.heap.size ≤ B ∧ Bx w' B t_impl_Pair x13 (pv2 o.1 o.2) ∧ (R.2 = 0 → o = R.1 ∧ PF R.1), ?_, ?_⟩
        · rintro x13 x14 junk w10 ⟨rfl, e10, B, o, hB, b13, hq'⟩
          rw [bin_neq]
          refine cnd_dec (fun hc => ?_) (fun hc => ?_)
          · exact bad ((e8.trans e9).trans e10) hc
          · have hc : R.2 = 0 := by simpa using hc
            obtain ⟨rfl, hPo⟩ := hq' hc
            exact next e10 hc hPo h2.symm (fun h => pv_all b13 h)
        · rw [bin_sub, wrap_i64 (by omega) (by omega), show ((st.length : Int) - 2) = ((st.length - 2 : Nat) : Int) by omega]
          refine hst9.at (i := st.length - 2) (by omega) fun hP2 => ?_
          rw [bin_sub, wrap_i64 (by omega) (by omega), show ((st.length : Int) - 1) = ((st.length - 1 : Nat) : Int) by omega]
          refine hst9.at (i := st.length - 1) (by omega) fun hPt => ?_
          have hR1 : R = prTwo ws[i] st[st.length - 2] st[st.length - 1] := by rw [← hR, if_neg h1, getA_lt, getA_lt]
          have hq' : ∀ {o : PV}, ((prTwo ws[i] st[st.length - 2] st[st.length - 1]).2 = 0 → o = (prTwo ws[i] st[st.length - 2] st[st.length - 1]).1) → R.2 = 0 → o = R.1 ∧ PF R.1 := fun hq h0 => by
            rw [hR1] at h0 ⊢
            exact ⟨hq h0, prTwo_PF hP2 hPt h0⟩
          refine ⟨?_, ?_⟩
          · refine c_l08PairTwo hP2 hPt fun o w10 e10 ho hq => ?_
            rw [xtr_0, xtr_1, ← hR1]
            refine alc_pv fun x13 w11 ⟨a5, b5, b13⟩ e11 => ?_
            refine ⟨e11, ?_⟩
            refine pv_put b13 fun w12 b13 g12 => ?_
            rw [xtr_1]
            exact ⟨rfl, rfl, e10.trans (ext_of_grown e11 (fun g hg => bx_lt b13 g hg) g12), _, o, e10.size, b13, hq' hq⟩
          · refine alc_pv fun x13 w11 ⟨a5, b5, b13⟩ e11 => ?_
            refine ⟨e11, ?_⟩
            refine c_l08PairTwo hP2 hPt fun o w10 e10 ho hq => ?_
            rw [xtr_0, xtr_1, ← hR1]
            refine pv_put (b13.ext e10) fun w12 b13 g12 => ?_
            rw [xtr_1]
            exact ⟨rfl, rfl, ext_of_grown (e11.trans e10) (fun g hg => bx_lt b13 g hg) g12, _, o, Nat.le_refl _, b13, hq' hq⟩
  · have hi : i = ws.length := by omega
    subst hi
    rw [hdp] at hdi
    simp only [Option.some.injEq, Prod.mk.injEq] at hdi
    have h1 : st.length = 1 := by omega
    refine hst.at (k := .i64) (i := 0) (by omega) fun hP => ?_
    have hres : (prM vs).res ws = (st[0], 0) := by
      unfold Mach.res
      rw [hrun]
      simp only [if_true]
      rw [getA_lt]
    rw [hres] at H
    exact pv_end (p := st[0]) (b4.ext e8) (E3.trans e8) s1 fun w' e => H _ w' e ⟨rfl, hP.1⟩
theorem small_RunPair_0 (ws : List (List UInt8)) (vs : List Nat) : cnt_Pair (runPF ws vs).1 ≤ 45812984491 := Nat.zero_le _
end Go.Proofs.YtjompmflommadaaGreatDoor


set_option linter.unusedVariables false
set_option linter.unusedSimpArgs false
namespace Go.Proofs.YtjompmflommadaaGreatDoor
open Go Go.Vc
variable {w : World} {K : Value → World → Prop} {lo hi : Nat} {v : Value}
structure A_StringS (w : World) (v : Value) (l : List (List UInt8)) : Prop where
  row : Row 1 w v l.length (l.map str)
  lt : ∀ s ∈ l, s.length ≤ 9223372036854775807
  cap : CapOk v
theorem A_StringS.ext {w' : World} {l : List (List UInt8)} (h : A_StringS w v l) (he : Ext w w') : A_StringS w' v l := ⟨h.row.ext he, h.lt, h.cap⟩
theorem A_StringS.N {l : List (List UInt8)} (h : A_StringS w v l) : A_StringS (Vc.N w) v l := ⟨h.row, h.lt, h.cap⟩
theorem A_StringS.bound {l : List (List UInt8)} (h : A_StringS w v l) : l.length ≤ 9223372036854775807 := by have := h.row.bound; simp only [maxLen] at this; omega
theorem A_StringS.at {l : List (List UInt8)} {k : IntKind} {i : Nat} {K : Value → Prop} (h : A_StringS w v l) (hi : i < l.length) (H : K (str l[i])) : ixa P t_s_string v (.int k (i : Int)) w (fun a => ld P t_string a w K) :=
  h.row.at1 (by rw [List.getElem?_map, List.getElem?_eq_getElem hi]; rfl) u_s_string i_string u_string rfl H
abbrev I_StringS := SS
def O_StringS (w : World) (lo hi : Nat) (v : Value) (l : List (List UInt8)) : Prop := OwnR w lo hi t_string 1 v l.length (l.map str) ∧ ∀ s ∈ l, s.length ≤ 1048576
theorem O_StringS.ext {l : List (List UInt8)} {w' : World} (h : O_StringS w lo hi v l) (he : Ext w w') : O_StringS w' lo hi v l := ⟨h.1.ext he, h.2⟩
theorem O_StringS.chg {l : List (List UInt8)} {w' : World} {lo' hi' : Nat} (h : O_StringS w lo hi v l) (hc : Chg lo' hi' w w') (hd : hi ≤ lo' ∨ hi' ≤ lo) : O_StringS w' lo hi v l := ⟨h.1.chg hc hd, h.2⟩
theorem O_StringS.I {l : List (List UInt8)} (h : O_StringS w lo hi v l) : I_StringS w v l := ⟨owns_Row h.1.own, h.2, owns_cap h.1.own⟩
def totS (l : List (List UInt8)) : Nat := (l.map List.length).sum
def sz_StringS (l : List (List UInt8)) : Nat := l.length + totS l
def cnt_StringS (l : List (List UInt8)) : Nat := l.length
theorem cnt_sz_StringS (l : List (List UInt8)) : cnt_StringS l ≤ sz_StringS l := by unfold cnt_StringS sz_StringS; omega
theorem totS_take {l : List (List UInt8)} {i : Nat} (hi : i < l.length) : totS (l.take (i + 1)) = totS (l.take i) + l[i].length := by
  unfold totS
  rw [List.take_succ_eq_append_getElem hi, List.map_append, List.sum_append]
  simp
theorem totS_ge {l : List (List UInt8)} {s : List UInt8} (h : s ∈ l) : s.length ≤ totS l := by
  unfold totS
  induction l with
  | nil => cases h
  | cons a l ih =>
    rw [List.map_cons, List.sum_cons]
    rcases List.mem_cons.1 h with rfl | h
    · omega
    · have := ih h; omega
theorem len_StringS {l : List (List UInt8)} (h : A_StringS w v l) {ty : TypeId} {K : Value → Prop} : bl0 P .len #[t_s_string] ty [v] w K = K (.int .i64 (l.length : Nat)) := h.row.len u_s_string
theorem c_sz_StringS {l : List (List UInt8)} {left : Int} (h : A_StringS w v l) (h0 : 0 ≤ left) (h1 : left ≤ 1048576) (H : ∀ (r : Int) w', Ext w w' → (r = -1 ∨ ((sz_StringS l : Nat) : Int) ≤ left ∧ r = left - (sz_StringS l : Nat)) → K (.int .i64 r) w') : call P f_laws_szStringS [v, .int .i64 left] w K := by
  have H := fun r hr => H r w (Ext.refl _) hr
  refine I_laws_szStringS ?_
  unfold D_laws_szStringS
  have hb := h.bound
  have hs : sz_StringS l = l.length + totS l := rfl
  rw [len_StringS h, bin_sub, wrap_i64 (by omega) (by omega), bin_lss]
  refine cnd_dec (fun h2 => H _ (.inl rfl)) (fun h2 => ?_)
  refine ⟨fun k x y w' => w' = w ∧ ∃ i : Nat, y = .int .i64 i ∧ k + i = l.length ∧ x = .int .i64 (left - l.length - totS (l.take i)) ∧ 0 ≤ left - l.length - totS (l.take i), ⟨l.length, rfl, 0, rfl, by omega, by simp [totS], by simp [totS]; omega⟩, ?_⟩
  rintro k x y junk w' ⟨rfl, i, rfl, hm, rfl, hpos⟩
  rw [len_StringS h, bin_lss]
  refine cnd_dec (fun hlt => ?_) (fun hge => ?_)
  · have hi : i < l.length := by omega
    have e := totS_take hi
    have hl := h.lt _ (List.getElem_mem hi)
    refine h.at hi ?_
    rw [len_str u_string, bin_sub, wrap_i64 (by omega) (by omega), bin_lss]
    refine cnd_dec (fun h3 => H _ (.inl rfl)) (fun h3 => ?_)
    rw [bin_add, wrap_i64 (by omega) (by omega)]
    exact ⟨k - 1, by omega, rfl, i + 1, rfl, by omega, by congr 1; omega, by omega⟩
  · have ht : l.take i = l := List.take_of_length_le (by omega)
    rw [ht] at hpos ⊢
    exact H _ (.inr ⟨by omega, by omega⟩)
theorem c_to_StringS {l : List (List UInt8)} (h : A_StringS w v l) (hs : sz_StringS l ≤ 1048576) (H : ∀ v' w', Ext w w' → O_StringS w' w.heap.size w'.heap.size v' l → K v' w') : call P f_laws_toStringS [v] w K := by
  unfold sz_StringS at hs
  have hbits : ∀ s ∈ l, s.length ≤ 1048576 := fun s hm => by have := totS_ge hm; omega
  refine I_laws_toStringS ?_
  unfold D_laws_toStringS
  rw [len_StringS h]
  refine mks_intro u_s_string i_string rfl (by omega) (by simp only [maxLen]; omega) fun w1 v1 ho he => ?_
  refine ⟨fun m x w' => Ext w w' ∧ ∃ i : Nat, x = .int .i64 i ∧ m + i = l.length ∧ w'.ownsRow w.heap.size t_string 1 v1 l.length ((l.map str).take i ++ List.replicate (l.length - i) (str [])),
    ⟨l.length, he, 0, rfl, by omega, by simpa using ho⟩, ?_⟩
  rintro m x junk w2 ⟨e2, i, rfl, hm, ho2⟩
  have h2 := h.ext e2
  rw [len_StringS h2, bin_lss]
  refine cnd_dec (fun hlt => ?_) (fun hge => ?_)
  · have hi : i < l.length := by omega
    refine h2.at hi ?_
    refine owns_set ho2 hi rfl u_s_string i_string fun w4 ho4 g4 => ?_
    rw [bin_add, wrap_i64 (by omega) (by omega)]
    refine ⟨m - 1, by omega, ext_of_grown e2 (fun g hg => (ho2.lt g hg).1) g4, i + 1, rfl, by omega, ?_⟩
    have := replicate_set_take (l.map str) (str []) i (by simpa using hi)
    simp only [List.length_map, List.getElem_map] at this
    rw [this] at ho4
    exact ho4
  · have hi : i = l.length := by omega
    subst hi
    have e : (l.map str).take l.length = l.map str := List.take_of_length_le (by simp)
    simp only [Nat.sub_self, List.replicate_zero, List.append_nil, e] at ho2
    exact H _ _ e2 ⟨OwnR.of ho2, hbits⟩
set_option maxRecDepth 20000 in
theorem c_eq_StringS {u : Value} {l : List (List UInt8)} (h1 : I_StringS w u l) (h2 : I_StringS w v l) (H : ∀ w', Ext w w' → K (.bool true) w') : call P f_laws_eqStringS [u, v] w K := by
  refine I_laws_eqStringS ?_
  unfold D_laws_eqStringS
  have hb := h1.bound
  rw [h1.len, h2.len, bin_neq]
  refine cnd_dec (fun h1 => by omega) (fun _ => ?_)
  refine ⟨fun m x w' => w' = w ∧ ∃ i : Nat, x = .int .i64 i ∧ m + i = l.length, ⟨l.length, rfl, 0, rfl, by omega⟩, ?_⟩
  rintro m x junk w' ⟨rfl, i, rfl, hm⟩
  rw [h1.len, bin_lss]
  refine cnd_dec (fun hlt => ?_) (fun hge => H _ (Ext.refl _))
  have hi : i < l.length := by omega
  refine h1.at hi ?_
  refine h2.at hi ?_
  rw [neq_str]
  refine cnd_no (by simp) ?_
  rw [bin_add, wrap_i64 (by omega) (by omega)]
  exact ⟨m - 1, by omega, rfl, i + 1, rfl, by omega⟩
def A_Program (w : World) (v : Value) (l : List (List UInt8)) : Prop := ∃ s, v = .agg #[s] ∧ A_StringS w s l
theorem A_Program.ext {w' : World} {l : List (List UInt8)} (h : A_Program w v l) (he : Ext w w') : A_Program w' v l := let ⟨s, h1, h2⟩ := h; ⟨s, h1, h2.ext he⟩
theorem A_Program.N {l : List (List UInt8)} (h : A_Program w v l) : A_Program (Vc.N w) v l := let ⟨s, h1, h2⟩ := h; ⟨s, h1, h2.N⟩
def O_Program (w : World) (lo hi : Nat) (v : Value) (l : List (List UInt8)) : Prop := ∃ s, v = .agg #[s] ∧ O_StringS w lo hi s l
theorem O_Program.ext {l : List (List UInt8)} {w' : World} (h : O_Program w lo hi v l) (he : Ext w w') : O_Program w' lo hi v l := let ⟨s, h1, h2⟩ := h; ⟨s, h1, h2.ext he⟩
theorem O_Program.chg {l : List (List UInt8)} {w' : World} {lo' hi' : Nat} (h : O_Program w lo hi v l) (hc : Chg lo' hi' w w') (hd : hi ≤ lo' ∨ hi' ≤ lo) : O_Program w' lo hi v l := let ⟨s, h1, h2⟩ := h; ⟨s, h1, h2.chg hc hd⟩
theorem O_Program.I {l : List (List UInt8)} (h : O_Program w lo hi v l) : I_Program w v l := let ⟨s, h1, h2⟩ := h; ⟨s, h1, h2.I⟩
def sz_Program (l : List (List UInt8)) : Nat := sz_StringS l
def cnt_Program (l : List (List UInt8)) : Nat := l.length
theorem cnt_sz_Program (l : List (List UInt8)) : cnt_Program l ≤ sz_Program l := cnt_sz_StringS l
theorem one_sl1 {s : Value} (h : ∃ a n c, s = .slice a n c) : ∀ x ∈ [s], x.oneCell' = true := by
  intro x hx
  simp only [List.mem_cons, List.not_mem_nil, or_false] at hx
  rw [hx]; exact sl_one h
theorem A_StringS.sl {l : List (List UInt8)} (h : A_StringS w v l) : ∃ a n c, v = .slice a n c := by obtain ⟨_, _, a, c, rfl, _⟩ := h.row; exact ⟨_, _, _, rfl⟩
theorem SS.sl {l : List (List UInt8)} (h : SS w v l) : ∃ a n c, v = .slice a n c := by obtain ⟨_, _, a, c, rfl, _⟩ := h.row; exact ⟨_, _, _, rfl⟩
theorem Program_agg {l : List (List UInt8)} (h : I_Program w v l) : ∃ cs : List Value, v = .agg cs.toArray ∧ cs.length = 1 ∧ ∀ x ∈ cs, x.oneCell' = true := by
  obtain ⟨s, rfl, h1⟩ := h
  exact ⟨[s], rfl, rfl, one_sl1 h1.sl⟩
theorem Program_aggA {l : List (List UInt8)} (h : A_Program w v l) : ∃ cs : List Value, v = .agg cs.toArray ∧ cs.length = 1 ∧ ∀ x ∈ cs, x.oneCell' = true := by
  obtain ⟨s, rfl, h1⟩ := h
  exact ⟨[s], rfl, rfl, one_sl1 h1.sl⟩
theorem bx_agg {t : TypeId} {cs : List Value} {KW : Value → World → Prop} (H : ∀ p w', Bx w' w.heap.size t p cs → Ext w w' → KW p w') : bx P t (.agg cs.toArray) w KW :=
  bx_bx fun p w' b e _ => H p w' b e
theorem c_sz_Program {l : List (List UInt8)} {left : Int} (h : A_Program w v l) (h0 : 0 ≤ left) (h1 : left ≤ 1048576) (H : ∀ (r : Int) w', Ext w w' → (r = -1 ∨ ((sz_Program l : Nat) : Int) ≤ left ∧ r = left - (sz_Program l : Nat)) → K (.int .i64 r) w') : call P f_laws_szProgram [v, .int .i64 left] w K := by
  obtain ⟨s, rfl, hs⟩ := h
  refine I_laws_szProgram ?_
  unfold D_laws_szProgram
  refine bx_pr fun x w1 b1 e1 => ?_
  refine b1.fld (off := 0) rfl u_laws_Program rfl i_s_string u_s_string rfl ?_
  refine c_sz_StringS (hs.ext e1) h0 h1 fun r w2 e2 hr => ?_
  rw [bin_lss]
  refine cnd_dec (fun h2 => H _ _ (e1.trans e2) (.inl rfl)) (fun h2 => ?_)
  exact H _ _ (e1.trans e2) hr
theorem c_to_Program {l : List (List UInt8)} (h : A_Program w v l) (hs : sz_Program l ≤ 1048576) (H : ∀ v' w', Ext w w' → O_Program w' w.heap.size w'.heap.size v' l → K v' w') : call P f_laws_toProgram [v] w K := by
  obtain ⟨s, rfl, hss⟩ := h
  refine I_laws_toProgram ?_
  unfold D_laws_toProgram
  refine bx_pr fun x w1 b1 e1 => ?_
  refine alc_bx i_impl_Program fun y w2 b2 e2 _ => ?_
  refine alc_bx i_impl_Program fun z w3 b3 e3 _ => ?_
  have b1 := (b1.ext e2).ext e3
  have b2 := b2.ext e3
  have E3 := e1.trans (e2.trans e3)
  refine b1.fld (off := 0) rfl u_laws_Program rfl i_s_string u_s_string rfl ?_
  refine c_to_StringS (hss.ext E3) hs fun s' w4 e4 o4 => ?_
  have b2 := b2.ext e4
  have b3 := b3.ext e4
  have E4 := E3.trans e4
  have hsl := o4.I.sl
  refine b3.fput (off := 0) (show 0 < 1 by decide) u_impl_Program rfl i_s_string (sl_one hsl) fun w5 b5 g5 => ?_
  have s23 : w.heap.size ≤ w2.heap.size := (e1.trans e2).size
  have E5 : Ext w w5 := ext_of_grown E4 (fun g hg => Nat.le_trans s23 (b3.blk_lt hg).1) g5
  have n23 : blk z ≠ blk y := by
    obtain ⟨g, rfl, h1, h2⟩ := b3
    obtain ⟨g', rfl, h1', h2'⟩ := ‹Bx w2 w1.heap.size t_impl_Program y _›
    have := heap_lt h2'
    simp only [blk, ne_eq, Option.some.injEq]
    omega
  have o5 : O_StringS w5 w3.heap.size w4.heap.size s' l := ⟨⟨keep_row o4.1.own g5 (Ty.box b3) (by decide), o4.1.top⟩, o4.2⟩
  have b2' := b2.kept g5 (.inr n23)
  have b5 : Bx w5 w2.heap.size t_impl_Program z [s'] := b5
  refine b5.get u_impl_Program rfl i_impl_Program rfl ?_
  refine b2'.put i_impl_Program (ds := [s']) rfl rfl (one_sl1 hsl) fun w6 b6 g6 => ?_
  have o6 : O_StringS w6 w3.heap.size w4.heap.size s' l := ⟨⟨keep_row o5.1.own g6 (Ty.box b2') (by decide), o5.1.top⟩, o5.2⟩
  refine b6.getc u_impl_Program rfl i_impl_Program rfl ?_
  have E6 : Ext w w6 := ext_of_grown E5 (fun g hg => Nat.le_trans e1.size (b2'.blk_lt hg).1) g6
  refine H _ w6 E6 ⟨s', rfl, o6.1.mono E3.size ?_, o6.2⟩
  exact Nat.le_trans g5.size g6.size
theorem c_eq_Program {u : Value} {l : List (List UInt8)} (h1 : I_Program w u l) (h2 : I_Program w v l) (H : ∀ w', Ext w w' → K (.bool true) w') : call P f_laws_eqProgram [u, v] w K := by
  obtain ⟨s, rfl, a1⟩ := h1
  obtain ⟨t, rfl, a2⟩ := h2
  refine I_laws_eqProgram ?_
  unfold D_laws_eqProgram
  refine bx_pr fun x w1 b1 e1 => ?_
  refine bx_pr fun y w2 b2 e2 => ?_
  refine pr_w (b1.ext e2) ?_
  refine pr_w b2 ?_
  have E := e1.trans e2
  refine c_eq_StringS (a1.ext E) (a2.ext E) fun w3 e3 => ?_
  rw [una_not, Bool.not_true, cnd_false]
  exact H _ (E.trans e3)
end Go.Proofs.YtjompmflommadaaGreatDoor


set_option linter.unusedVariables false
namespace Go.Proofs.YtjompmflommadaaGreatDoor
open Go Go.Vc
open Go.ChangeShapes Go.WideShapes Go.ChangeAt
section
variable {H : Type} {enc : TypeId × Value → H} {w : World} {base : Nat} {spare : Nat → Bool} {held : Bool} {fuel : Nat}
theorem open_rowc {t e : TypeId} {v : Value} {x : DataW H × List MemPlace} (hu : P.underlying t = some (.slice e)) (hc : P.cellsOf e = 1) (h : DataW.trod enc P w base (fun _ => true) held fuel t [v] = some x) :
    CapOk v ∧ ∃ (n : Nat) (vs : List Value), Row 1 w v n vs ∧ ∀ (i : Nat) (u : Value), vs[i]? = some u → ∃ m y, DataW.trod enc P w base (fun _ => true) held m e [u] = some y := by
  refine ⟨?_, open_row hu hc h⟩
  rcases Deep.open_slice1 hu hc h with ⟨hcs, _⟩ | ⟨a, len, cap, m, k, V, D, Pl, hcs, hb, hl, hm, hmm, _, hx⟩
  · obtain rfl : v = .slice none 0 0 := by simpa using hcs
    exact Nat.le_refl _
  · obtain rfl : v = .slice (some a) len cap := by simpa using hcs
    exact hl
theorem cells_string : P.cellsOf t_string = 1 := by kernel_rfl
theorem cells_s_string : P.cellsOf t_s_string = 1 := by kernel_rfl
set_option maxRecDepth 20000 in
theorem open_StringS {v : Value} {x : DataW H × List MemPlace} (h : DataW.trod enc P w base (fun _ => true) held fuel t_s_string [v] = some x) : ∃ l, A_StringS w v l := by
  obtain ⟨hcap, n, vs, hrow, hel⟩ := open_rowc u_s_string cells_string h
  obtain ⟨bs, h1, h2⟩ := list_of (p := fun u (b : List UInt8) => u = str b ∧ b.length ≤ 9223372036854775807) (l := vs) (fun i u hu => by
    obtain ⟨m, y, hy⟩ := hel i u hu
    obtain ⟨s, hs, _, hw⟩ := DataW.trod_string u_string hy
    refine ⟨s.data.toList, ?_, ?_⟩
    · simp only [List.cons.injEq, and_true] at hs
      rw [hs]
    · simp only [maxLen] at hw
      have : s.data.toList.length = s.size := Array.length_toList
      omega)
  have hn : bs.length = n := by have := hrow.1; omega
  have hmap : vs = bs.map str := by
    apply List.ext_getElem?
    intro i
    cases hi : vs[i]? with
    | none =>
      rw [List.getElem?_eq_none_iff] at hi
      exact (List.getElem?_eq_none_iff.2 (by simp; omega)).symm
    | some u =>
      obtain ⟨b, hb, rfl, _⟩ := h2 i u hi
      simp [hb]
  refine ⟨bs, ?_, fun b hb => ?_, hcap⟩
  · rw [hn, ← hmap]; exact hrow
  · obtain ⟨i, hi, rfl⟩ := List.getElem_of_mem hb
    have hi' : i < vs.length := by omega
    obtain ⟨b', hb', _, hlt⟩ := h2 i vs[i] (by simp [hi'])
    rw [List.getElem?_eq_getElem hi] at hb'
    cases hb'; exact hlt
theorem cells_laws_Program : P.cellsOf t_laws_Program = 1 := by kernel_rfl
set_option maxRecDepth 20000 in
theorem open_Program {cs : Array Value} {x : DataW H × List MemPlace} (h : DataW.trod enc P w base (fun _ => true) held fuel t_laws_Program cs.toList = some x) : ∃ l, A_Program w (.agg cs) l := by
  obtain ⟨xs, n, _, _, hl, hxs, hf⟩ := DataW.trod_struct u_laws_Program h
  rw [cells_laws_Program] at hl
  obtain ⟨s, hs⟩ : ∃ s, cs = #[s] := by
    match cs, hl with
    | ⟨[s]⟩, _ => exact ⟨s, rfl⟩
  subst hs
  have h0 := hf 0 _ rfl
  have hx : 0 < xs.length := by rw [hxs]; decide
  rw [List.getElem?_eq_getElem hx] at h0
  have h1 : DataW.trod enc P w base (fun _ => true) held n t_s_string [s] = some xs[0] := by
    have e : (([s] : List Value).drop 0).take (P.cellsOf t_s_string) = [s] := by rw [cells_s_string]; rfl
    rw [← e]; exact h0
  obtain ⟨l, hA⟩ := open_StringS h1
  exact ⟨l, s, rfl, hA⟩
end
theorem door_met5 (os : Os) (args : Array Value) : laidMetH Tryz.prog Rows.fnExactIsProgramRow.laid ((World.doorLaid Tryz.prog 72 os).forCall (fun _ _ => 0) ⟨#[], args, []⟩).memory :=
  laidMetH_of_parts3 (fuel := 8) (laidMet_of_run' 8 (by kernel_rfl) (by kernel_rfl)) (by kernel_rfl) (by kernel_rfl)
end Go.Proofs.YtjompmflommadaaGreatDoor


set_option linter.unusedVariables false
namespace Go.Proofs.YtjompmflommadaaGreatDoor
open Go Go.Vc
open Go.ChangeShapes Go.WideShapes Go.ChangeAt
end Go.Proofs.YtjompmflommadaaGreatDoor


set_option linter.unusedVariables false
set_option linter.unusedSimpArgs false
namespace Go.Proofs.YtjompmflommadaaGreatDoor
open Go Go.Vc
variable {w : World} {K : Value → World → Prop} {lo hi : Nat} {v : Value}
end Go.Proofs.YtjompmflommadaaGreatDoor


set_option linter.unusedVariables false
namespace Go.Proofs.YtjompmflommadaaGreatDoor
open Go
end Go.Proofs.YtjompmflommadaaGreatDoor


set_option linter.unusedVariables false
namespace Go.Proofs.YtjompmflommadaaGreatDoor
open Go Go.Vc
theorem reach_FnExactRunPair : Tryz.pinned.checked.prog.closure 10 = [10, 12, 51, 14, 53, 33, 40, 74, 52, 56, 89, 141, 191, 235, 214, 251, 170, 117, 120, 192, 236, 167, 237, 218, 172, 219, 164, 217, 252, 253, 254, 238, 270, 242, 212, 193, 116, 57, 104, 90, 91, 142, 143, 118, 163, 213, 121, 171, 168, 144, 194, 166, 216, 169, 165, 215, 239, 147, 195, 196, 92, 145, 197, 146, 41, 77, 122, 173, 76, 15, 54, 103, 129, 182, 222, 255, 211, 247, 273, 248, 249, 250, 274, 223, 224, 256, 231, 221, 181, 178, 257, 137, 176, 220, 175, 186, 230, 124, 174, 189, 190, 234, 128, 179, 180, 225, 258, 275, 287, 288, 259, 276, 289, 277, 278, 291, 300, 302, 303, 304, 308, 307, 309, 305, 306, 310, 311, 312, 313, 290, 279, 226, 260, 183, 227, 228, 261, 233, 269, 280, 184, 229, 125, 262, 263, 281, 264, 282, 292, 265, 232, 268, 285, 298, 286, 299, 266, 177, 187, 267, 283, 284, 293, 301, 296, 294, 295, 297, 58, 105, 94, 95, 148, 150, 198, 78, 123, 132, 185, 240, 135, 130, 134, 188, 271, 199, 50, 149, 151, 96, 152, 200, 153, 136, 93, 42, 86, 16, 55, 36] := by kernel_rfl
theorem joined_FnExactRunPair : joinedFacts Tryz.pinned.checked.prog 10 Tryz.f10 Rows.fnExactRunPairSpec Rows.fnExactRunPairRow = true := by
  unfold joinedFacts Program.recurses Program.inPlace Program.varsNamed Program.unfollowed
  rw [reach_FnExactRunPair]
  kernel_rfl
end Go.Proofs.YtjompmflommadaaGreatDoor
