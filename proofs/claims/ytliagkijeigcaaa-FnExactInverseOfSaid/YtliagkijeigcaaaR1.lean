/- From a row's reading of its arguments to what the contracts ask. -/
import Derived.Test.YtliagkijeigcaaaT1
import Derived.ProofKit
import Derived.OpenShut
import Derived.ChangeOld
import Derived.Deep.Slices
set_option linter.unusedVariables false
namespace Go.Proofs.Ytliagkijeigcaaa
open Go Go.Vc
open Go.ChangeShapes Go.WideShapes Go.ChangeAt

section
variable {H : Type} {enc : TypeId × Value → H} {w : World} {base : Nat} {spare : Nat → Bool} {held : Bool} {fuel : Nat}

theorem trod_float {t : TypeId} {k : FloatKind} {cs : List Value} {x : DataW H × List MemPlace} (ht : P.underlying t = some (.float k)) (h : DataW.trod enc P w base spare held fuel t cs = some x) : ∃ b, cs = [.float k b] ∧ (Lit.float k b).wf = true := by
  cases fuel with
  | zero => simp [DataW.trod] at h
  | succ n =>
    unfold DataW.trod at h
    rw [ht] at h
    split at h <;> simp_all

theorem open_row {t e : TypeId} {v : Value} {x : DataW H × List MemPlace} (hu : P.underlying t = some (.slice e)) (hc : P.cellsOf e = 1) (h : DataW.trod enc P w base (fun _ => true) held fuel t [v] = some x) :
    ∃ (n : Nat) (vs : List Value), Row 1 w v n vs ∧ ∀ (i : Nat) (u : Value), vs[i]? = some u → ∃ m y, DataW.trod enc P w base (fun _ => true) held m e [u] = some y := by
  rcases Deep.open_slice1 hu hc h with ⟨hcs, _⟩ | ⟨a, len, cap, m, k, V, D, Pl, hcs, hb, hl, hm, hmm, _, hx⟩
  · obtain rfl : v = .slice none 0 0 := by simpa using hcs
    exact ⟨0, [], Row.nil 1 w, fun i u hu => by simp at hu⟩
  · obtain rfl : v = .slice (some a) len cap := by simpa using hcs
    simp only [if_true] at hmm
    subst hmm
    refine ⟨len, (List.range len).map V, ⟨by simp, by omega, some a, _, rfl, fun hn => ?_⟩, fun i u hu => ?_⟩
    · have h0 := (hx 0 (by omega)).1
      obtain ⟨b, o, sp⟩ := a
      have hsp : sp = none := by
        have := World.cell?_spot h0
        simpa [Addr.add] using this
      subst hsp
      refine ⟨b, o, rfl, fun j u hu => ?_⟩
      have hj : j < len := by
        have := (List.getElem?_eq_some_iff.1 hu).1
        simpa using this
      have := (hx j (by omega)).1
      rw [Addr.add_lit] at this
      rw [this]
      simp [hj] at hu
      rw [hu]
    · have hj : i < len := by
        have := (List.getElem?_eq_some_iff.1 hu).1
        simpa using this
      simp [hj] at hu
      subst hu
      exact ⟨k, _, (hx i (by omega)).2⟩

theorem cells_float32 : P.cellsOf t_float32 = 1 := by kernel_rfl
theorem cells_s_float32 : P.cellsOf t_s_float32 = 1 := by kernel_rfl

/-- From 'each is some f ..' to one list. -/
theorem list_of {α β : Type} {p : α → β → Prop} : ∀ {l : List α}, (∀ (i : Nat) (u : α), l[i]? = some u → ∃ b, p u b) → ∃ bs : List β, bs.length = l.length ∧ ∀ (i : Nat) (u : α), l[i]? = some u → ∃ b, bs[i]? = some b ∧ p u b
  | [], _ => ⟨[], rfl, fun i u h => by simp at h⟩
  | a :: l, h => by
    obtain ⟨b, hb⟩ := h 0 a rfl
    obtain ⟨bs, h1, h2⟩ := list_of (l := l) (fun i u hu => h (i + 1) u (by simpa using hu))
    refine ⟨b :: bs, by simp [h1], fun i u hu => ?_⟩
    cases i with
    | zero => simp at hu; subst hu; exact ⟨b, rfl, hb⟩
    | succ i => obtain ⟨c, hc1, hc2⟩ := h2 i u (by simpa using hu); exact ⟨c, by simpa using hc1, hc2⟩

theorem open_FS {v : Value} {x : DataW H × List MemPlace} (h : DataW.trod enc P w base (fun _ => true) held fuel t_s_float32 [v] = some x) : ∃ l, FS w v l := by
  obtain ⟨n, vs, hrow, hel⟩ := open_row u_s_float32 cells_float32 h
  obtain ⟨bs, h1, h2⟩ := list_of (p := fun u b => u = fl b ∧ b < 4294967296) (l := vs) (fun i u hu => by
    obtain ⟨m, y, hy⟩ := hel i u hu
    obtain ⟨b, hb, hw⟩ := trod_float u_float32 hy
    refine ⟨b, by simpa using hb, ?_⟩
    simpa [Lit.wf] using hw)
  have hn : bs.length = n := by have := hrow.1; omega
  have hmap : vs = bs.map fl := by
    apply List.ext_getElem?
    intro i
    cases hi : vs[i]? with
    | none =>
      rw [List.getElem?_eq_none_iff] at hi
      exact (List.getElem?_eq_none_iff.2 (by simp; omega)).symm
    | some u =>
      obtain ⟨b, hb, rfl, _⟩ := h2 i u hi
      simp [hb]
  refine ⟨bs, ?_, fun b hb => ?_⟩
  · rw [hn, ← hmap]; exact hrow
  · obtain ⟨i, hi, rfl⟩ := List.getElem_of_mem hb
    have hi' : i < vs.length := by omega
    obtain ⟨b', hb', _, hlt⟩ := h2 i vs[i] (by simp [hi'])
    rw [List.getElem?_eq_getElem hi] at hb'
    cases hb'; exact hlt

theorem open_FSS {v : Value} {x : DataW H × List MemPlace} (h : DataW.trod enc P w base (fun _ => true) held fuel t_s_s_float32 [v] = some x) : ∃ m, FSS w v m ∧ bits m := by
  obtain ⟨n, vs, hrow, hel⟩ := open_row u_s_s_float32 cells_s_float32 h
  obtain ⟨bs, h1, h2⟩ := list_of (p := fun u l => FS w u l) (l := vs) (fun i u hu => by
    obtain ⟨m, y, hy⟩ := hel i u hu
    exact open_FS hy)
  have hn : bs.length = n := by have := hrow.1; omega
  refine ⟨bs, ⟨vs, by rw [hn]; exact hrow, fun i hi => ?_⟩, fun r hr => ?_⟩
  · have hi' : i < vs.length := by omega
    obtain ⟨l, hl, hf⟩ := h2 i vs[i] (by simp [hi'])
    rw [List.getElem?_eq_getElem hi] at hl
    cases hl
    exact ⟨_, by simp [hi'], hf⟩
  · obtain ⟨i, hi, rfl⟩ := List.getElem_of_mem hr
    have hi' : i < vs.length := by omega
    obtain ⟨l, hl, hf⟩ := h2 i vs[i] (by simp [hi'])
    rw [List.getElem?_eq_getElem hi] at hl
    cases hl
    exact hf.lt
end

theorem FS.N {w : World} {v : Value} {l : List Nat} (h : FS w v l) : FS (N w) v l := ⟨h.row, h.lt⟩
theorem FSS.N {w : World} {v : Value} {m : List (List Nat)} (h : FSS w v m) : FSS (Vc.N w) v m := by
  obtain ⟨vs, h1, h2⟩ := h.ex
  exact ⟨vs, h1, fun i hi => let ⟨x, hx, hf⟩ := h2 i hi; ⟨x, hx, hf.N⟩⟩
theorem open_Float32S {H : Type} {enc : TypeId × Value → H} {w : World} {base : Nat} {held : Bool} {fuel : Nat} {v : Value} {x : DataW H × List MemPlace} (h : DataW.trod enc P w base (fun _ => true) held fuel t_s_float32 [v] = some x) : ∃ l, A_Float32S w v l := open_FS h
theorem open_Float32SS {H : Type} {enc : TypeId × Value → H} {w : World} {base : Nat} {held : Bool} {fuel : Nat} {v : Value} {x : DataW H × List MemPlace} (h : DataW.trod enc P w base (fun _ => true) held fuel t_s_s_float32 [v] = some x) : ∃ l, A_Float32SS w v l := open_FSS h
theorem A_Float32SS.N {w : World} {v : Value} {m : List (List Nat)} (h : A_Float32SS w v m) : A_Float32SS (Vc.N w) v m := ⟨h.1.N, h.2⟩
theorem below_N {w c : World} (h : Ext (Vc.N w) (Vc.N c)) : RowKit.Below w.heap.size w c := by
  have h1 := RowKit.Below.os h
  have h2 := RowKit.Below.tape h
  have h3 := RowKit.Below.output h
  have h4 := Ext.size h
  have h5 := Ext.block h
  exact ⟨h1, h2, h3, h4, h5⟩

theorem own : ownKnob P.godebug = none := by kernel_rfl
theorem laidOut : laidOutB P = true := by kernel_rfl

/-- A call that is known to end well, as the row wants it. -/
theorem calls_of {f : FuncId} {fn : Func} {args : List Value} {w : World} {K : Value → World → Prop} (hf : P.funcs[f]? = some fn) (hn : (fn.name == "runtime.NumGoroutine") = false) (hb : fn.body.isSome = true) (h : call P f args (N w) K) :
    Calls P f args.toArray w (fun e w' => ∃ v, e = .returned v ∧ K v (N w')) := by
  obtain ⟨n, c', hr, hk⟩ := h w rfl
  have hn' : ¬ fn.name = "runtime.NumGoroutine" := by simpa using hn
  cases hbb : fn.body with
  | none => rw [hbb] at hb; cases hb
  | some c =>
    have : (callFunc f args.toArray).run P w = .ok (.enter f args.toArray) w := by simp [callFunc, program, Sem.run, hf, hn', hbb]
    rw [this] at hr
    cases hr
    exact hk w rfl

end Go.Proofs.Ytliagkijeigcaaa
