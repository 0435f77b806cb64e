import Derived.Shelf.Strings.Builder1
import Derived.Shelf.Strings.Builder2
import Derived.Test.YtjompmflommadaaGreatDoorQProgramTextVVcM
import Derived.Test.YtjompmflommadaaGreatDoorQProgramTextVVcS
import Derived.LaidMore
import Derived.LaidOnce
import Derived.LaidHandle
import Derived.Test.YtjompmflommadaaGreatDoorRows
import Derived.ProofKit
import Derived.Test.YtjompmflommadaaGreatDoorQProgramText3
set_option linter.unusedSimpArgs false
set_option linter.unusedVariables false

set_option linter.unusedVariables false
set_option linter.unusedSimpArgs false
namespace Go.Proofs.YtjompmflommadaaGreatDoor
open Go Go.Vc
variable {w : World} {K : Value → World → Prop}
structure Mach (α : Type) where
  leaf : List UInt8 → α
  one : List UInt8 → α → α × Int
  two : List UInt8 → α → α → α × Int
  z : α
section
variable {α : Type} (M : Mach α) (ws : List (List UInt8))
noncomputable def Mach.step (l : List UInt8) (st : List α) : List α × Int :=
  if form0 l = 0 then (st ++ [M.leaf l], 0)
  else if form0 l = 1 then (st.take (st.length - 1) ++ [(M.one l (st.getD (st.length - 1) M.z)).1], (M.one l (st.getD (st.length - 1) M.z)).2)
  else (st.take (st.length - 2) ++ [(M.two l (st.getD (st.length - 2) M.z) (st.getD (st.length - 1) M.z)).1], (M.two l (st.getD (st.length - 2) M.z) (st.getD (st.length - 1) M.z)).2)
noncomputable def Mach.run : Nat → List α × Int
  | 0 => ([], 0)
  | i + 1 => if (Mach.run i).2 = 0 then M.step (ws.getD i []) (Mach.run i).1 else Mach.run i
noncomputable def Mach.res : α × Int := if (M.run ws ws.length).2 = 0 then ((M.run ws ws.length).1.getD 0 M.z, 0) else (M.z, (M.run ws ws.length).2)
theorem Mach.stop {i : Nat} (h : (M.run ws i).2 ≠ 0) : ∀ j, M.run ws (i + j) = M.run ws i
  | 0 => rfl
  | j + 1 => by
    rw [← Nat.add_assoc, Mach.run, Mach.stop h j, if_neg h]
theorem Mach.bad {i : Nat} (hi : i ≤ ws.length) (h : (M.run ws i).2 ≠ 0) : M.res ws = (M.z, (M.run ws i).2) := by
  have := M.stop ws h (ws.length - i)
  rw [Nat.add_sub_cancel' hi] at this
  unfold Mach.res
  rw [this, if_neg h]
theorem Mach.succ {i : Nat} {st : List α} (h : M.run ws i = (st, 0)) : M.run ws (i + 1) = M.step (ws.getD i []) st := by
  rw [Mach.run, h, if_pos rfl]
theorem depF_dpS {ws : List (List UInt8)} {m : Int} (h : depF ws = some m) : ∃ m', dpS ws ws.length = some (1, m') ∧ m' = m ∧ ws.length ≤ 60 ∧ 1 ≤ ws.length := by
  unfold depF at h
  split at h
  · rename_i h1
    split at h
    · cases h
    · rename_i a b e
      split at h
      · rename_i h2
        obtain ⟨rfl, _⟩ := h2
        exact ⟨b, e, by simpa using h, h1.2, h1.1⟩
      · cases h
  · cases h
end
theorem flatten_take {s : Nat} : ∀ (k : Nat) {cs : List (List Value)}, (∀ c ∈ cs, c.length = s) → cs.flatten.take (k * s) = (cs.take k).flatten
  | 0, cs, _ => by simp
  | k + 1, [], _ => by simp
  | k + 1, c :: cs, h => by
    have hc := h c List.mem_cons_self
    rw [List.flatten_cons, List.take_succ_cons, List.flatten_cons, ← flatten_take k (fun c' h' => h c' (List.mem_cons_of_mem _ h')), List.take_append, hc,
      List.take_of_length_le (show c.length ≤ (k + 1) * s by rw [hc, Nat.succ_mul]; omega), show (k + 1) * s - s = k * s by rw [Nat.succ_mul]; omega]
section
variable {α : Type} {R : World → List Value → α → Prop} {s : Nat} {e t : TypeId} {base : Nat} {v : Value} {ls : List α} {z : Value} {b : Nat} {d : TypeDesc}
theorem owns_take {n k : Nat} {a : Option Addr} {cap : Nat} {xs : List Value} (h : w.ownsRow base e s (.slice a n cap) n xs) (hk : k ≤ n) : w.ownsRow base e s (.slice a k cap) k (xs.take (k * s)) := by
  obtain ⟨h1, h2⟩ := h
  refine ⟨by rw [List.length_take, h1]; exact Nat.min_eq_left (Nat.mul_le_mul_right _ hk), ?_⟩
  rcases h2 with ⟨h3, h4⟩ | ⟨g, cap', cur, h3, h4, h5, h6, h7, h8, h9⟩
  · simp only [Value.slice.injEq] at h3
    obtain ⟨rfl, _, rfl⟩ := h3
    exact .inl ⟨by rw [show k = 0 by omega], by omega⟩
  · simp only [Value.slice.injEq, true_and] at h3
    obtain ⟨rfl, rfl⟩ := h3
    refine .inr ⟨g, cap, cur, rfl, h4, h5, by omega, h7, h8, ?_⟩
    rw [← h9, List.take_take, Nat.min_eq_left (Nat.mul_le_mul_right _ hk)]
theorem SL.take {K : Value → Prop} {ik : IntKind} {k : Nat} (h : SL R s e w base v ls) (hk : k ≤ ls.length) (hu : P.underlying t = some (.slice e)) (ht : TI P e z s b) (H : ∀ v', SL R s e w base v' (ls.take k) → K v') :
    sli P t v none (some (.int ik (k : Int))) none w K := by
  obtain ⟨cs, h1, h2, h3, h4⟩ := h
  have hv : ∃ a cap, v = .slice a ls.length cap ∧ ls.length ≤ cap := by
    rcases h3.2 with ⟨h5, h6⟩ | ⟨g, cap, cur, h5, _, _, h6, _⟩
    · exact ⟨none, 0, by rw [h5, h6], by omega⟩
    · exact ⟨_, cap, h5, h6⟩
  obtain ⟨a, cap, rfl, hcap⟩ := hv
  rw [sli_h hu ht (by omega)]
  refine H _ ⟨cs.take k, by simp [h1], fun c hc => h2 c (List.mem_of_mem_take hc), ?_, fun i hi hi' => ?_⟩
  · have := owns_take h3 hk
    rw [flatten_take k h2] at this
    rw [List.length_take, Nat.min_eq_left hk]
    exact this
  · have := h4 i (by simp at hi; omega) (by simp at hi'; omega)
    simpa using this
end
end Go.Proofs.YtjompmflommadaaGreatDoor


set_option linter.unusedVariables false
set_option linter.unusedSimpArgs false
set_option maxRecDepth 20000
namespace Go.Proofs.YtjompmflommadaaGreatDoor
open Go Go.Vc Go.Shelf
def rh : Ren := ⟨fun k => cond (Nat.beq k 165) 157 ( cond (Nat.beq k 166) 158 ( cond (Nat.beq k 169) 159 ( cond (Nat.beq k 240) 206 ( cond (Nat.beq k 241) 207 ( cond (Nat.beq k 276) 244 ( cond (Nat.beq k 277) 245 (k))))))), fun k => cond (Nat.beq k 31) 22 ( cond (Nat.beq k 37) 72 ( cond (Nat.beq k 70) 184 ( cond (Nat.beq k 72) 186 ( cond (Nat.beq k 75) 189 ( cond (Nat.beq k 76) 190 ( cond (Nat.beq k 80) 192 ( cond (Nat.beq k 127) 226 ( cond (Nat.beq k 164) 255 (k))))))))), fun k => k⟩
theorem ly165 : Lays.n165 P rh where
  mixed := mixed
  f165 := by kernel_rfl
  f240 := by kernel_rfl
  f241 := by kernel_rfl
  f276 := by kernel_rfl
  f277 := by kernel_rfl
  t0 := by kernel_rfl
  a0 := Tryz.isAgg0
  z0 := Tryz.sizeOf0
  v0 := Tryz.zeroValue0
  t3 := by kernel_rfl
  a3 := Tryz.isAgg3
  z3 := Tryz.sizeOf3
  v3 := Tryz.zeroValue3
  t4 := by kernel_rfl
  a4 := Tryz.isAgg4
  z4 := Tryz.sizeOf4
  v4 := Tryz.zeroValue4
  t9 := by kernel_rfl
  a9 := Tryz.isAgg9
  z9 := Tryz.sizeOf9
  v9 := Tryz.zeroValue9
  t20 := by kernel_rfl
  a20 := Tryz.isAgg20
  z20 := Tryz.sizeOf20
  v20 := Tryz.zeroValue20
  t37 := by kernel_rfl
  a37 := Tryz.isAgg72
  z37 := Tryz.sizeOf72
  v37 := Tryz.zeroValue72
  t70 := by kernel_rfl
  a70 := Tryz.isAgg184
  z70 := Tryz.sizeOf184
  v70 := Tryz.zeroValue184
  t72 := by kernel_rfl
  a72 := Tryz.isAgg186
  z72 := Tryz.sizeOf186
  v72 := Tryz.zeroValue186
  t164 := by kernel_rfl
  a164 := Tryz.isAgg255
  z164 := Tryz.sizeOf255
  v164 := Tryz.zeroValue255
theorem ly166 : Lays.n166 P rh where
  mixed := mixed
  f166 := by kernel_rfl
  f240 := by kernel_rfl
  f276 := by kernel_rfl
  t0 := by kernel_rfl
  a0 := Tryz.isAgg0
  z0 := Tryz.sizeOf0
  v0 := Tryz.zeroValue0
  t3 := by kernel_rfl
  a3 := Tryz.isAgg3
  z3 := Tryz.sizeOf3
  v3 := Tryz.zeroValue3
  t4 := by kernel_rfl
  a4 := Tryz.isAgg4
  z4 := Tryz.sizeOf4
  v4 := Tryz.zeroValue4
  t9 := by kernel_rfl
  a9 := Tryz.isAgg9
  z9 := Tryz.sizeOf9
  v9 := Tryz.zeroValue9
  t20 := by kernel_rfl
  a20 := Tryz.isAgg20
  z20 := Tryz.sizeOf20
  v20 := Tryz.zeroValue20
  t37 := by kernel_rfl
  a37 := Tryz.isAgg72
  z37 := Tryz.sizeOf72
  v37 := Tryz.zeroValue72
  t70 := by kernel_rfl
  a70 := Tryz.isAgg184
  z70 := Tryz.sizeOf184
  v70 := Tryz.zeroValue184
  t72 := by kernel_rfl
  a72 := Tryz.isAgg186
  z72 := Tryz.sizeOf186
  v72 := Tryz.zeroValue186
  t75 := by kernel_rfl
  a75 := Tryz.isAgg189
  z75 := Tryz.sizeOf189
  v75 := Tryz.zeroValue189
  t164 := by kernel_rfl
  a164 := Tryz.isAgg255
  z164 := Tryz.sizeOf255
  v164 := Tryz.zeroValue255
theorem ly169 : Lays.n169 P rh where
  mixed := mixed
  f169 := by kernel_rfl
  t0 := by kernel_rfl
  a0 := Tryz.isAgg0
  z0 := Tryz.sizeOf0
  v0 := Tryz.zeroValue0
  t3 := by kernel_rfl
  a3 := Tryz.isAgg3
  z3 := Tryz.sizeOf3
  v3 := Tryz.zeroValue3
  t9 := by kernel_rfl
  a9 := Tryz.isAgg9
  z9 := Tryz.sizeOf9
  v9 := Tryz.zeroValue9
  t37 := by kernel_rfl
  a37 := Tryz.isAgg72
  z37 := Tryz.sizeOf72
  v37 := Tryz.zeroValue72
  t70 := by kernel_rfl
  a70 := Tryz.isAgg184
  z70 := Tryz.sizeOf184
  v70 := Tryz.zeroValue184
  t72 := by kernel_rfl
  a72 := Tryz.isAgg186
  z72 := Tryz.sizeOf186
  v72 := Tryz.zeroValue186
  t127 := by kernel_rfl
  a127 := Tryz.isAgg226
  z127 := Tryz.sizeOf226
  v127 := Tryz.zeroValue226
theorem bX : Builder.Extra P rh where
  sizeBuilder := by kernel_rfl
  liesBuilder := by kernel_rfl
  t5 := by kernel_rfl
  a5 := Tryz.isAgg5
  z5 := Tryz.sizeOf5
  v5 := Tryz.zeroValue5
  infoByte := by kernel_rfl
  cellsByte := by kernel_rfl
  sizeByte := by kernel_rfl
  neB5 := by decide
variable {w : World} {K : Value → World → Prop}
theorem call_kit {f : FuncId} {fn : Func} {c : Code} {args : List Value} (hf : P.funcs[f]? = some fn) (hb : fn.body = some c) (hn : (fn.name == "runtime.NumGoroutine") = false)
    (h : ∀ c, N c = w → Calls P f args.toArray c (fun e c' => ∃ v, e = .returned v ∧ K v (N c'))) : call P f args w K := by
  intro cw hcw
  refine ⟨.enter f args.toArray, cw, ?_, ?_⟩
  · have hn' : ¬ fn.name = "runtime.NumGoroutine" := by simpa using hn
    simp [callFunc, program, Sem.run, hf, hn', hb]
  · intro c2 hc2
    exact h c2 (hc2.trans hcw)
abbrev t_sB : TypeId := 186
theorem i_sB : TI P t_sB (.agg #[.pointer none, .slice none 0 0]) 2 32 := TI_of (by kernel_rfl)
abbrev BS (w : World) (b : Nat) (l : List UInt8) : Prop := Lib.IsBuilder t_sB t_uint8 b b (Lib.byteCells l) w
theorem BS.lt {b : Nat} {l : List UInt8} (h : BS w b l) : b < w.heap.size := by
  rcases h with h | h <;> exact h.lt
theorem c_sGrow {b n : Nat} (h : w.heap[b]? = some (.cells #[.pointer none, .slice none 0 0] t_sB (0, 0))) (hb : b < w.heap.size) (hn : n ≤ 281474976710656) (H : ∀ w', BS w' b [] → RowKit.Below b w w' → K (.tuple #[]) w') : call P f_strings_Builder_Grow [.pointer (some ⟨b, 0, none⟩), .int .i64 n] w K := by
  refine call_kit (c := codeOf Tryz.f157) Tryz.func157 (by kernel_rfl) (by kernel_rfl) fun c hc => ?_
  subst hc
  refine (Any.Builder_Grow_fresh ly165 bX b b n c (Nat.le_refl _) h (Nat.le_of_lt hb) hn).mono fun e c' hq => ?_
  obtain ⟨he, h1, h2⟩ := hq
  exact ⟨_, he, H (N c') (.inr h1) ⟨h2.os, h2.tape, h2.output, h2.size, h2.block⟩⟩
theorem c_sWrite {b : Nat} {l s : List UInt8} (h : BS w b l) (hl : l.length + s.length ≤ 140737488355328) (H : ∀ v w', BS w' b (l ++ s) → RowKit.Below b w w' → K v w') : call P f_strings_Builder_WriteString [.pointer (some ⟨b, 0, none⟩), str s] w K := by
  refine call_kit (c := codeOf Tryz.f158) Tryz.func158 (by kernel_rfl) (by kernel_rfl) fun c hc => ?_
  subst hc
  refine (Any.Builder_WriteString ly166 bX b b (Lib.byteCells l) ⟨s.toArray⟩ c h (by rw [Lib.byteCells_length]; simpa [ByteArray.size] using hl) (Nat.le_of_lt h.lt)).mono fun e c' hq => ?_
  obtain ⟨he, h1, h2⟩ := hq
  refine ⟨_, he, H _ (N c') (.inr ?_) ⟨h2.os, h2.tape, h2.output, h2.size, h2.block⟩⟩
  have : Lib.byteCells (l ++ s) = Lib.byteCells l ++ Lib.strCells ⟨s.toArray⟩ := by unfold Lib.byteCells Lib.strCells; rw [List.map_append]
  rw [this]; exact h1
theorem c_sString {b : Nat} {l : List UInt8} (h : BS w b l) (H : ∀ w', RowKit.Below b w w' → K (str l) w') : call P f_strings_Builder_String [.pointer (some ⟨b, 0, none⟩)] w K := by
  refine call_kit (c := codeOf Tryz.f159) Tryz.func159 (by kernel_rfl) (by kernel_rfl) fun c hc => ?_
  subst hc
  refine (Any.Builder_String_any ly169 bX b b l c h (Nat.le_of_lt h.lt)).mono fun e c' hq => ?_
  obtain ⟨he, h2⟩ := hq
  exact ⟨_, he, H (N c') ⟨h2.os, h2.tape, h2.output, h2.size, h2.block⟩⟩
def jt (sp : List UInt8) (ws : List (List UInt8)) : Nat → List UInt8
  | 0 => []
  | i + 1 => (if 0 < i then jt sp ws i ++ sp else jt sp ws i) ++ ws.getD i []
theorem jt_len {ws : List (List UInt8)} (hw : ∀ s ∈ ws, s.length ≤ 1048576) : ∀ i, (jt [32] ws i).length ≤ i * 1048577
  | 0 => by simp [jt]
  | i + 1 => by
    have ih := jt_len hw i
    have hg : (ws.getD i []).length ≤ 1048576 := by
      by_cases hi : i < ws.length
      · rw [List.getD_eq_getElem?_getD, List.getElem?_eq_getElem hi]; exact hw _ (List.getElem_mem hi)
      · rw [List.getD_eq_getElem?_getD, List.getElem?_eq_none (by omega)]; simp
    unfold jt
    rw [List.length_append, Nat.add_mul]
    split
    · rw [List.length_append]; simp only [List.length_cons, List.length_nil]; omega
    · omega
theorem SS.drop1 {v : Value} {ws : List (List UInt8)} (h : SS w v ws) (h1 : 1 ≤ ws.length) : ∃ v', (∀ (w' : World) (K : Value → Prop), sli P t_s_string v (some (.int .i64 1)) none none w' K = K v') ∧ ∀ w', SS w' v ws → SS w' v' (ws.drop 1) := by
  obtain ⟨⟨r1, r2, a, cap, rfl, r3⟩, lt, hc⟩ := h
  refine ⟨_, fun w' K => Vc.sli_l (l := 1) u_s_string i_string h1, fun w' h' => ?_⟩
  have := h'.row.sli_l (l := 1) (ik := .i64) h'.cap u_s_string i_string h1 (K := fun v => SS w' v (ws.drop 1)) fun v' hr hcap => ⟨by rw [List.length_drop]; rw [← List.map_drop] at hr; exact hr, fun s hs => h'.lt s (List.mem_of_mem_drop hs), hcap⟩
  rw [show (Value.int .i64 ((1 : Nat) : Int)) = .int .i64 1 from rfl] at this
  have e := Vc.sli_l (w := w') (a := a) (n := ws.length) (cap := cap) (l := 1) (ik := .i64) (K := fun v => SS w' v (ws.drop 1)) u_s_string i_string h1
  rw [show (Value.int .i64 ((1 : Nat) : Int)) = .int .i64 1 from rfl] at e
  rw [e] at this
  exact this
set_option maxHeartbeats 1000000 in
theorem c_sJoin {s : Value} {ws : List (List UInt8)} (h : SS w s ws) (hn : ws.length ≤ 1000) (H : ∀ w', Ext w w' → K (str (jt [32] ws ws.length)) w') : call P f_strings_Join [s, str [32]] w K := by
  have hget : ∀ {i : Nat} (hi : i < ws.length), ws.getD i [] = ws[i] := fun hi => by rw [List.getD_eq_getElem?_getD, List.getElem?_eq_getElem hi]; rfl
  refine I_strings_Join ?_
  unfold D_strings_Join
  rw [h.len, bin_eql]
  refine cnd_dec (fun h0 => ?_) (fun h0 => ?_)
  · have : ws.length = 0 := by omega
    rw [this] at H
    exact H w (Ext.refl _)
  rw [bin_eql]
  refine cnd_dec (fun h1 => ?_) (fun h1 => ?_)
  · have h1' : ws.length = 1 := by omega
    refine h.at (k := .i64) (i := 0) (by omega) ?_
    have := H w (Ext.refl _)
    rw [h1'] at this
    have e : jt [32] ws 1 = ws[0] := by rw [← hget (by omega)]; simp [jt]
    rw [e] at this; exact this
  refine ⟨fun x w' => w' = w ∧ ∃ m : Nat, x = .int .i64 m ∧ m ≤ 1000, ?_, ?_⟩
  · rintro x junk w1 ⟨rfl, m, rfl, hm⟩
    rw [h.len]
    refine ⟨fun g x y w' => w' = w1 ∧ ∃ i m : Nat, y = .int .i64 i ∧ x = .int .i64 m ∧ g + i = ws.length ∧ m ≤ 1000 + i * 1048576, ⟨ws.length, rfl, 0, m, rfl, rfl, rfl, by omega⟩, ?_⟩
    rintro g x y junk w2 ⟨rfl, i, m, rfl, rfl, hg, hm⟩
    rw [bin_lss]
    refine cnd_dec (fun hlt => ?_) (fun hge => ?_)
    · have hi : i < ws.length := by omega
      have hw := h.lt _ (List.getElem_mem hi)
      refine h.at hi ?_
      rw [len_str u_string, bin_sub, wrap_i64 (by omega) (by omega), bin_gtr]
      refine cnd_dec (fun hc => absurd hc (by omega)) (fun _ => ?_)
      rw [len_str u_string, bin_add, wrap_i64 (by omega) (by omega), bin_add, wrap_i64 (by omega) (by omega)]
      exact ⟨g - 1, by omega, rfl, i + 1, m + ws[i].length, rfl, by first | rfl | (congr 1; omega), by omega, by omega⟩
    · refine alc_bx i_sB fun p w3 b3 e3 hp => ?_
      obtain ⟨b, rfl, hb, hc3⟩ := b3
      have hbe : b = w2.heap.size := by simpa [blk] using hp
      have hlt : b < w3.heap.size := by
        rcases Nat.lt_or_ge b w3.heap.size with h' | h'
        · exact h'
        · rw [Array.getElem?_eq_none h'] at hc3; cases hc3
      have toE : ∀ {wa wb : World}, Ext w2 wa → RowKit.Below b wa wb → Ext w2 wb := fun h1 h2 => RowKit.Below.trans h1 (by rw [← hbe]; exact h2)
      refine c_sGrow hc3 hlt (by omega) fun w4 s4 g4 => ?_
      have e4 := toE e3 g4
      refine (h.ext e4).at (k := .i64) (i := 0) (by omega) ?_
      refine c_sWrite s4 (by have := h.lt _ (List.getElem_mem (show 0 < ws.length by omega)); simp only [List.length_nil]; omega) fun v w5 s5 g5 => ?_
      have e5 := toE e4 g5
      obtain ⟨v', hv, hd⟩ := h.drop1 (by omega)
      rw [hv, (hd _ (h.ext e5)).len, List.length_drop]
      refine ⟨fun g x w' => ∃ i : Nat, x = .int .i64 i ∧ g + i = ws.length - 1 ∧ Ext w2 w' ∧ BS w' b (jt [32] ws (i + 1)), ⟨ws.length - 1, 0, rfl, rfl, e5, ?_⟩, ?_⟩
      · have e : jt [32] ws (0 + 1) = [] ++ ws[0] := by rw [← hget (by omega)]; simp [jt]
        rw [e]; exact s5
      rintro g x junk w6 ⟨i, rfl, hg, e6, s6⟩
      rw [bin_lss]
      have hj := jt_len h.lt (i + 1)
      refine cnd_dec (fun hlt => ?_) (fun hge => ?_)
      · have hi : i + 1 < ws.length := by omega
        refine (hd _ (h.ext e6)).at (i := i) (by rw [List.length_drop]; omega) ?_
        rw [List.getElem_drop]
        have hi' : 1 + i < ws.length := by omega
        have hw := h.lt _ (List.getElem_mem hi')
        refine c_sWrite s6 (by simp only [List.length_cons, List.length_nil]; omega) fun v w7 s7 g7 => ?_
        refine c_sWrite s7 (by rw [List.length_append]; simp only [List.length_cons, List.length_nil]; omega) fun v w8 s8 g8 => ?_
        rw [bin_add, wrap_i64 (by omega) (by omega)]
        refine ⟨g - 1, by omega, i + 1, rfl, by omega, toE (toE e6 g7) g8, ?_⟩
        have e : jt [32] ws (i + 1 + 1) = (jt [32] ws (i + 1) ++ [32]) ++ ws[1 + i] := by
          show (if 0 < i + 1 then jt [32] ws (i + 1) ++ [32] else jt [32] ws (i + 1)) ++ ws.getD (i + 1) [] = _
          rw [if_pos (by omega), hget hi]
          congr 2
          omega
        rw [e]; exact s8
      · have hi : ws.length = i + 1 := by omega
        refine c_sString s6 fun w7 g7 => ?_
        have := H w7 (toE e6 g7)
        rw [hi] at this
        exact this
  · rw [len_str u_string, bin_gtr]
    refine cnd_dec (fun _ => ?_) (fun hc => absurd (show ((1 : Nat) : Int) > 0 by decide) hc)
    refine ⟨fun w' => w' = w, ?_, ?_⟩
    · rintro junk w1 rfl
      rw [len_str u_string, h.len, bin_sub, wrap_i64 (by omega) (by omega), bin_mul, wrap_i64 (by simp; omega) (by simp; omega), bin_add, wrap_i64 (by simp; omega) (by simp; omega)]
      refine ⟨rfl, ws.length - 1, ?_, by omega⟩
      congr 1
      simp; omega
    · rw [len_str u_string, h.len, bin_sub, wrap_i64 (by omega) (by omega)]
      have hk : ((ws.length : Int) - 1) = ((ws.length - 1 : Nat) : Int) := by omega
      rw [hk]
      rw [show (Value.int .i64 9223372036854775807) = .int .i64 ((9223372036854775807 : Nat) : Int) from rfl, bin_quoI (b := ws.length - 1) (by omega) (by omega), bin_geq]
      have : 2 ≤ 9223372036854775807 / (ws.length - 1) := (Nat.le_div_iff_mul_le (by omega)).2 (by omega)
      refine cnd_dec (fun hc => ?_) (fun _ => rfl)
      exfalso
      generalize 9223372036854775807 / (ws.length - 1) = q at *
      simp at hc
      omega
end Go.Proofs.YtjompmflommadaaGreatDoor


set_option linter.unusedVariables false
set_option linter.unusedSimpArgs false
namespace Go.Proofs.YtjompmflommadaaGreatDoor
open Go Go.Vc
variable {w : World} {K : Value → World → Prop}
def prT (ws : List (List UInt8)) : List UInt8 := jt [32] ws ws.length
noncomputable def textF (ws : List (List UInt8)) : List UInt8 × Int := if isPF ws then (prT ws, 0) else ([], 1)
theorem c_programText {v : Value} {ws : List (List UInt8)} (h : I_Program w v ws) (hn : ws.length ≤ 1000) (H : ∀ w', Ext w w' → K (str (prT ws)) w') : call P f_impl_programText [v] w K := by
  obtain ⟨s, rfl, hs⟩ := h
  refine I_impl_programText ?_
  unfold D_impl_programText
  refine bx_pr fun x w1 b1 e1 => ?_
  refine pr_w b1 ?_
  exact c_sJoin (hs.ext e1) hn fun w2 e2 => H w2 (e1.trans e2)
theorem c_l08Text {v : Value} {ws : List (List UInt8)} (h : I_Program w v ws) (hn : ws.length ≤ 1000) (H : ∀ w', Ext w w' → K (str (prT ws)) w') : call P f_spec_l08Text [v] w K := by
  obtain ⟨s, rfl, hs⟩ := h
  refine I_spec_l08Text ?_
  unfold D_spec_l08Text
  refine bx_pr fun x w1 b1 e1 => ?_
  have h1 := hs.ext e1
  refine ⟨fun g y x w' => w' = w1 ∧ ∃ i : Nat, x = .int .i64 i ∧ g + i = ws.length ∧ y = str (jt [32] ws i), ⟨ws.length, rfl, 0, rfl, by omega, rfl⟩, ?_⟩
  rintro g y x' junk w2 ⟨rfl, i, rfl, hg, rfl⟩
  have hj := jt_len h1.lt i
  refine pr_w b1 ?_
  rw [h1.len, bin_lss]
  refine cnd_dec (fun hlt => ?_) (fun hge => ?_)
  · have hi : i < ws.length := by omega
    have hw := h1.lt _ (List.getElem_mem hi)
    refine ⟨fun x w' => w' = w2 ∧ x = str (if 0 < i then jt [32] ws i ++ [32] else jt [32] ws i), ?_, ?_⟩
    · rintro x3 junk w3 ⟨rfl, rfl⟩
      refine pr_w b1 ?_
      refine h1.at hi ?_
      have hl : (if 0 < i then jt [32] ws i ++ [32] else jt [32] ws i).length ≤ 2000000000 := by
        split
        · rw [List.length_append]; simp only [List.length_cons, List.length_nil]; omega
        · omega
      rw [add_str (by omega), bin_add, wrap_i64 (by omega) (by omega)]
      refine ⟨g - 1, by omega, rfl, i + 1, rfl, by omega, ?_⟩
      show _ = str ((if 0 < i then jt [32] ws i ++ [32] else jt [32] ws i) ++ ws.getD i [])
      rw [List.getD_eq_getElem?_getD, List.getElem?_eq_getElem hi]
      rfl
    · rw [bin_gtr]
      refine cnd_dec (fun hc => ?_) (fun hc => ?_)
      · rw [show (Value.string ⟨#[32]⟩) = str [32] from rfl, add_str (by simp only [List.length_cons, List.length_nil]; omega)]
        exact ⟨rfl, by rw [if_pos (by omega)]⟩
      · exact ⟨rfl, by rw [if_neg (by omega)]⟩
  · have hi : i = ws.length := by omega
    subst hi
    exact H _ e1
theorem isPF_len {ws : List (List UInt8)} (h : isPF ws = true) : ws.length ≤ 1000 := by
  obtain ⟨m, hm⟩ := Option.isSome_iff_exists.1 h
  obtain ⟨_, _, _, h60, _⟩ := depF_dpS hm
  omega
theorem p_ProgramText {v : Value} {ws : List (List UInt8)} (h : I_Program w v ws) (H : ∀ w', Ext w w' → K (.tuple #[str (textF ws).1, .int .i64 (textF ws).2]) w') : call P f_impl_ProgramText [v] w K := by
  obtain ⟨s, rfl, hs⟩ := h
  refine I_impl_ProgramText ?_
  unfold D_impl_ProgramText
  refine bx_pr fun x w1 b1 e1 => ?_
  refine pr_all b1 ?_
  refine c_impl_IsProgram ⟨s, rfl, hs.ext e1⟩ fun w2 e2 => ?_
  rw [una_not]
  unfold textF at H
  cases hp : isPF ws
  · rw [hp] at H
    exact cnd_yes (by rw [show (depF ws).isSome = false from hp]; rfl) (H w2 (e1.trans e2))
  · rw [hp] at H
    refine cnd_no (by rw [show (depF ws).isSome = true from hp]; rfl) ?_
    refine pr_all (b1.ext e2) ?_
    exact c_programText ⟨s, rfl, hs.ext (e1.trans e2)⟩ (isPF_len hp) fun w3 e3 => H w3 (e1.trans (e2.trans e3))
theorem s_ProgramText {v : Value} {ws : List (List UInt8)} (h : I_Program w v ws) (H : ∀ w', Ext w w' → K (.tuple #[str (textF ws).1, .int .i64 (textF ws).2]) w') : call P f_spec_ProgramText [v] w K := by
  obtain ⟨s, rfl, hs⟩ := h
  refine I_spec_ProgramText ?_
  unfold D_spec_ProgramText
  refine bx_pr fun x w1 b1 e1 => ?_
  refine pr_all b1 ?_
  refine c_l08Is ⟨s, rfl, hs.ext e1⟩ fun w2 e2 => ?_
  rw [una_not]
  unfold textF at H
  cases hp : isPF ws
  · rw [hp] at H
    exact cnd_yes (by rw [show (depF ws).isSome = false from hp]; rfl) (H w2 (e1.trans e2))
  · rw [hp] at H
    refine cnd_no (by rw [show (depF ws).isSome = true from hp]; rfl) ?_
    refine pr_all (b1.ext e2) ?_
    exact c_l08Text ⟨s, rfl, hs.ext (e1.trans e2)⟩ (isPF_len hp) fun w3 e3 => H w3 (e1.trans (e2.trans e3))
end Go.Proofs.YtjompmflommadaaGreatDoor


set_option linter.unusedVariables false
set_option linter.unusedSimpArgs false
namespace Go.Proofs.YtjompmflommadaaGreatDoor
open Go Go.Vc
variable {w : World} {K : Value → World → Prop} {lo hi : Nat} {v : Value}
structure A_StringS (w : World) (v : Value) (l : List (List UInt8)) : Prop where
  row : Row 1 w v l.length (l.map str)
  lt : ∀ s ∈ l, s.length ≤ 9223372036854775807
  cap : CapOk v
theorem A_StringS.ext {w' : World} {l : List (List UInt8)} (h : A_StringS w v l) (he : Ext w w') : A_StringS w' v l := ⟨h.row.ext he, h.lt, h.cap⟩
theorem A_StringS.N {l : List (List UInt8)} (h : A_StringS w v l) : A_StringS (Vc.N w) v l := ⟨h.row, h.lt, h.cap⟩
theorem A_StringS.bound {l : List (List UInt8)} (h : A_StringS w v l) : l.length ≤ 9223372036854775807 := by have := h.row.bound; simp only [maxLen] at this; omega
theorem A_StringS.at {l : List (List UInt8)} {k : IntKind} {i : Nat} {K : Value → Prop} (h : A_StringS w v l) (hi : i < l.length) (H : K (str l[i])) : ixa P t_s_string v (.int k (i : Int)) w (fun a => ld P t_string a w K) :=
  h.row.at1 (by rw [List.getElem?_map, List.getElem?_eq_getElem hi]; rfl) u_s_string i_string u_string rfl H
abbrev I_StringS := SS
def O_StringS (w : World) (lo hi : Nat) (v : Value) (l : List (List UInt8)) : Prop := OwnR w lo hi t_string 1 v l.length (l.map str) ∧ ∀ s ∈ l, s.length ≤ 1048576
theorem O_StringS.ext {l : List (List UInt8)} {w' : World} (h : O_StringS w lo hi v l) (he : Ext w w') : O_StringS w' lo hi v l := ⟨h.1.ext he, h.2⟩
theorem O_StringS.chg {l : List (List UInt8)} {w' : World} {lo' hi' : Nat} (h : O_StringS w lo hi v l) (hc : Chg lo' hi' w w') (hd : hi ≤ lo' ∨ hi' ≤ lo) : O_StringS w' lo hi v l := ⟨h.1.chg hc hd, h.2⟩
theorem O_StringS.I {l : List (List UInt8)} (h : O_StringS w lo hi v l) : I_StringS w v l := ⟨owns_Row h.1.own, h.2, owns_cap h.1.own⟩
def totS (l : List (List UInt8)) : Nat := (l.map List.length).sum
def sz_StringS (l : List (List UInt8)) : Nat := l.length + totS l
def cnt_StringS (l : List (List UInt8)) : Nat := l.length
theorem cnt_sz_StringS (l : List (List UInt8)) : cnt_StringS l ≤ sz_StringS l := by unfold cnt_StringS sz_StringS; omega
theorem totS_take {l : List (List UInt8)} {i : Nat} (hi : i < l.length) : totS (l.take (i + 1)) = totS (l.take i) + l[i].length := by
  unfold totS
  rw [List.take_succ_eq_append_getElem hi, List.map_append, List.sum_append]
  simp
theorem totS_ge {l : List (List UInt8)} {s : List UInt8} (h : s ∈ l) : s.length ≤ totS l := by
  unfold totS
  induction l with
  | nil => cases h
  | cons a l ih =>
    rw [List.map_cons, List.sum_cons]
    rcases List.mem_cons.1 h with rfl | h
    · omega
    · have := ih h; omega
theorem len_StringS {l : List (List UInt8)} (h : A_StringS w v l) {ty : TypeId} {K : Value → Prop} : bl0 P .len #[t_s_string] ty [v] w K = K (.int .i64 (l.length : Nat)) := h.row.len u_s_string
theorem c_sz_StringS {l : List (List UInt8)} {left : Int} (h : A_StringS w v l) (h0 : 0 ≤ left) (h1 : left ≤ 1048576) (H : ∀ (r : Int) w', Ext w w' → (r = -1 ∨ ((sz_StringS l : Nat) : Int) ≤ left ∧ r = left - (sz_StringS l : Nat)) → K (.int .i64 r) w') : call P f_laws_szStringS [v, .int .i64 left] w K := by
  have H := fun r hr => H r w (Ext.refl _) hr
  refine I_laws_szStringS ?_
  unfold D_laws_szStringS
  have hb := h.bound
  have hs : sz_StringS l = l.length + totS l := rfl
  rw [len_StringS h, bin_sub, wrap_i64 (by omega) (by omega), bin_lss]
  refine cnd_dec (fun h2 => H _ (.inl rfl)) (fun h2 => ?_)
  refine ⟨fun k x y w' => w' = w ∧ ∃ i : Nat, y = .int .i64 i ∧ k + i = l.length ∧ x = .int .i64 (left - l.length - totS (l.take i)) ∧ 0 ≤ left - l.length - totS (l.take i), ⟨l.length, rfl, 0, rfl, by omega, by simp [totS], by simp [totS]; omega⟩, ?_⟩
  rintro k x y junk w' ⟨rfl, i, rfl, hm, rfl, hpos⟩
  rw [len_StringS h, bin_lss]
  refine cnd_dec (fun hlt => ?_) (fun hge => ?_)
  · have hi : i < l.length := by omega
    have e := totS_take hi
    have hl := h.lt _ (List.getElem_mem hi)
    refine h.at hi ?_
    rw [len_str u_string, bin_sub, wrap_i64 (by omega) (by omega), bin_lss]
    refine cnd_dec (fun h3 => H _ (.inl rfl)) (fun h3 => ?_)
    rw [bin_add, wrap_i64 (by omega) (by omega)]
    exact ⟨k - 1, by omega, rfl, i + 1, rfl, by omega, by congr 1; omega, by omega⟩
  · have ht : l.take i = l := List.take_of_length_le (by omega)
    rw [ht] at hpos ⊢
    exact H _ (.inr ⟨by omega, by omega⟩)
theorem c_to_StringS {l : List (List UInt8)} (h : A_StringS w v l) (hs : sz_StringS l ≤ 1048576) (H : ∀ v' w', Ext w w' → O_StringS w' w.heap.size w'.heap.size v' l → K v' w') : call P f_laws_toStringS [v] w K := by
  unfold sz_StringS at hs
  have hbits : ∀ s ∈ l, s.length ≤ 1048576 := fun s hm => by have := totS_ge hm; omega
  refine I_laws_toStringS ?_
  unfold D_laws_toStringS
  rw [len_StringS h]
  refine mks_intro u_s_string i_string rfl (by omega) (by simp only [maxLen]; omega) fun w1 v1 ho he => ?_
  refine ⟨fun m x w' => Ext w w' ∧ ∃ i : Nat, x = .int .i64 i ∧ m + i = l.length ∧ w'.ownsRow w.heap.size t_string 1 v1 l.length ((l.map str).take i ++ List.replicate (l.length - i) (str [])),
    ⟨l.length, he, 0, rfl, by omega, by simpa using ho⟩, ?_⟩
  rintro m x junk w2 ⟨e2, i, rfl, hm, ho2⟩
  have h2 := h.ext e2
  rw [len_StringS h2, bin_lss]
  refine cnd_dec (fun hlt => ?_) (fun hge => ?_)
  · have hi : i < l.length := by omega
    refine h2.at hi ?_
    refine owns_set ho2 hi rfl u_s_string i_string fun w4 ho4 g4 => ?_
    rw [bin_add, wrap_i64 (by omega) (by omega)]
    refine ⟨m - 1, by omega, ext_of_grown e2 (fun g hg => (ho2.lt g hg).1) g4, i + 1, rfl, by omega, ?_⟩
    have := replicate_set_take (l.map str) (str []) i (by simpa using hi)
    simp only [List.length_map, List.getElem_map] at this
    rw [this] at ho4
    exact ho4
  · have hi : i = l.length := by omega
    subst hi
    have e : (l.map str).take l.length = l.map str := List.take_of_length_le (by simp)
    simp only [Nat.sub_self, List.replicate_zero, List.append_nil, e] at ho2
    exact H _ _ e2 ⟨OwnR.of ho2, hbits⟩
set_option maxRecDepth 20000 in
theorem c_eq_StringS {u : Value} {l : List (List UInt8)} (h1 : I_StringS w u l) (h2 : I_StringS w v l) (H : ∀ w', Ext w w' → K (.bool true) w') : call P f_laws_eqStringS [u, v] w K := by
  refine I_laws_eqStringS ?_
  unfold D_laws_eqStringS
  have hb := h1.bound
  rw [h1.len, h2.len, bin_neq]
  refine cnd_dec (fun h1 => by omega) (fun _ => ?_)
  refine ⟨fun m x w' => w' = w ∧ ∃ i : Nat, x = .int .i64 i ∧ m + i = l.length, ⟨l.length, rfl, 0, rfl, by omega⟩, ?_⟩
  rintro m x junk w' ⟨rfl, i, rfl, hm⟩
  rw [h1.len, bin_lss]
  refine cnd_dec (fun hlt => ?_) (fun hge => H _ (Ext.refl _))
  have hi : i < l.length := by omega
  refine h1.at hi ?_
  refine h2.at hi ?_
  rw [neq_str]
  refine cnd_no (by simp) ?_
  rw [bin_add, wrap_i64 (by omega) (by omega)]
  exact ⟨m - 1, by omega, rfl, i + 1, rfl, by omega⟩
def A_Program (w : World) (v : Value) (l : List (List UInt8)) : Prop := ∃ s, v = .agg #[s] ∧ A_StringS w s l
theorem A_Program.ext {w' : World} {l : List (List UInt8)} (h : A_Program w v l) (he : Ext w w') : A_Program w' v l := let ⟨s, h1, h2⟩ := h; ⟨s, h1, h2.ext he⟩
theorem A_Program.N {l : List (List UInt8)} (h : A_Program w v l) : A_Program (Vc.N w) v l := let ⟨s, h1, h2⟩ := h; ⟨s, h1, h2.N⟩
def O_Program (w : World) (lo hi : Nat) (v : Value) (l : List (List UInt8)) : Prop := ∃ s, v = .agg #[s] ∧ O_StringS w lo hi s l
theorem O_Program.ext {l : List (List UInt8)} {w' : World} (h : O_Program w lo hi v l) (he : Ext w w') : O_Program w' lo hi v l := let ⟨s, h1, h2⟩ := h; ⟨s, h1, h2.ext he⟩
theorem O_Program.chg {l : List (List UInt8)} {w' : World} {lo' hi' : Nat} (h : O_Program w lo hi v l) (hc : Chg lo' hi' w w') (hd : hi ≤ lo' ∨ hi' ≤ lo) : O_Program w' lo hi v l := let ⟨s, h1, h2⟩ := h; ⟨s, h1, h2.chg hc hd⟩
theorem O_Program.I {l : List (List UInt8)} (h : O_Program w lo hi v l) : I_Program w v l := let ⟨s, h1, h2⟩ := h; ⟨s, h1, h2.I⟩
def sz_Program (l : List (List UInt8)) : Nat := sz_StringS l
def cnt_Program (l : List (List UInt8)) : Nat := l.length
theorem cnt_sz_Program (l : List (List UInt8)) : cnt_Program l ≤ sz_Program l := cnt_sz_StringS l
theorem one_sl1 {s : Value} (h : ∃ a n c, s = .slice a n c) : ∀ x ∈ [s], x.oneCell' = true := by
  intro x hx
  simp only [List.mem_cons, List.not_mem_nil, or_false] at hx
  rw [hx]; exact sl_one h
theorem A_StringS.sl {l : List (List UInt8)} (h : A_StringS w v l) : ∃ a n c, v = .slice a n c := by obtain ⟨_, _, a, c, rfl, _⟩ := h.row; exact ⟨_, _, _, rfl⟩
theorem SS.sl {l : List (List UInt8)} (h : SS w v l) : ∃ a n c, v = .slice a n c := by obtain ⟨_, _, a, c, rfl, _⟩ := h.row; exact ⟨_, _, _, rfl⟩
theorem Program_agg {l : List (List UInt8)} (h : I_Program w v l) : ∃ cs : List Value, v = .agg cs.toArray ∧ cs.length = 1 ∧ ∀ x ∈ cs, x.oneCell' = true := by
  obtain ⟨s, rfl, h1⟩ := h
  exact ⟨[s], rfl, rfl, one_sl1 h1.sl⟩
theorem Program_aggA {l : List (List UInt8)} (h : A_Program w v l) : ∃ cs : List Value, v = .agg cs.toArray ∧ cs.length = 1 ∧ ∀ x ∈ cs, x.oneCell' = true := by
  obtain ⟨s, rfl, h1⟩ := h
  exact ⟨[s], rfl, rfl, one_sl1 h1.sl⟩
theorem bx_agg {t : TypeId} {cs : List Value} {KW : Value → World → Prop} (H : ∀ p w', Bx w' w.heap.size t p cs → Ext w w' → KW p w') : bx P t (.agg cs.toArray) w KW :=
  bx_bx fun p w' b e _ => H p w' b e
theorem c_sz_Program {l : List (List UInt8)} {left : Int} (h : A_Program w v l) (h0 : 0 ≤ left) (h1 : left ≤ 1048576) (H : ∀ (r : Int) w', Ext w w' → (r = -1 ∨ ((sz_Program l : Nat) : Int) ≤ left ∧ r = left - (sz_Program l : Nat)) → K (.int .i64 r) w') : call P f_laws_szProgram [v, .int .i64 left] w K := by
  obtain ⟨s, rfl, hs⟩ := h
  refine I_laws_szProgram ?_
  unfold D_laws_szProgram
  refine bx_pr fun x w1 b1 e1 => ?_
  refine b1.fld (off := 0) rfl u_laws_Program rfl i_s_string u_s_string rfl ?_
  refine c_sz_StringS (hs.ext e1) h0 h1 fun r w2 e2 hr => ?_
  rw [bin_lss]
  refine cnd_dec (fun h2 => H _ _ (e1.trans e2) (.inl rfl)) (fun h2 => ?_)
  exact H _ _ (e1.trans e2) hr
theorem c_to_Program {l : List (List UInt8)} (h : A_Program w v l) (hs : sz_Program l ≤ 1048576) (H : ∀ v' w', Ext w w' → O_Program w' w.heap.size w'.heap.size v' l → K v' w') : call P f_laws_toProgram [v] w K := by
  obtain ⟨s, rfl, hss⟩ := h
  refine I_laws_toProgram ?_
  unfold D_laws_toProgram
  refine bx_pr fun x w1 b1 e1 => ?_
  refine alc_bx i_impl_Program fun y w2 b2 e2 _ => ?_
  refine alc_bx i_impl_Program fun z w3 b3 e3 _ => ?_
  have b1 := (b1.ext e2).ext e3
  have b2 := b2.ext e3
  have E3 := e1.trans (e2.trans e3)
  refine b1.fld (off := 0) rfl u_laws_Program rfl i_s_string u_s_string rfl ?_
  refine c_to_StringS (hss.ext E3) hs fun s' w4 e4 o4 => ?_
  have b2 := b2.ext e4
  have b3 := b3.ext e4
  have E4 := E3.trans e4
  have hsl := o4.I.sl
  refine b3.fput (off := 0) (show 0 < 1 by decide) u_impl_Program rfl i_s_string (sl_one hsl) fun w5 b5 g5 => ?_
  have s23 : w.heap.size ≤ w2.heap.size := (e1.trans e2).size
  have E5 : Ext w w5 := ext_of_grown E4 (fun g hg => Nat.le_trans s23 (b3.blk_lt hg).1) g5
  have n23 : blk z ≠ blk y := by
    obtain ⟨g, rfl, h1, h2⟩ := b3
    obtain ⟨g', rfl, h1', h2'⟩ := ‹Bx w2 w1.heap.size t_impl_Program y _›
    have := heap_lt h2'
    simp only [blk, ne_eq, Option.some.injEq]
    omega
  have o5 : O_StringS w5 w3.heap.size w4.heap.size s' l := ⟨⟨keep_row o4.1.own g5 (Ty.box b3) (by decide), o4.1.top⟩, o4.2⟩
  have b2' := b2.kept g5 (.inr n23)
  have b5 : Bx w5 w2.heap.size t_impl_Program z [s'] := b5
  refine b5.get u_impl_Program rfl i_impl_Program rfl ?_
  refine b2'.put i_impl_Program (ds := [s']) rfl rfl (one_sl1 hsl) fun w6 b6 g6 => ?_
  have o6 : O_StringS w6 w3.heap.size w4.heap.size s' l := ⟨⟨keep_row o5.1.own g6 (Ty.box b2') (by decide), o5.1.top⟩, o5.2⟩
  refine b6.getc u_impl_Program rfl i_impl_Program rfl ?_
  have E6 : Ext w w6 := ext_of_grown E5 (fun g hg => Nat.le_trans e1.size (b2'.blk_lt hg).1) g6
  refine H _ w6 E6 ⟨s', rfl, o6.1.mono E3.size ?_, o6.2⟩
  exact Nat.le_trans g5.size g6.size
theorem c_eq_Program {u : Value} {l : List (List UInt8)} (h1 : I_Program w u l) (h2 : I_Program w v l) (H : ∀ w', Ext w w' → K (.bool true) w') : call P f_laws_eqProgram [u, v] w K := by
  obtain ⟨s, rfl, a1⟩ := h1
  obtain ⟨t, rfl, a2⟩ := h2
  refine I_laws_eqProgram ?_
  unfold D_laws_eqProgram
  refine bx_pr fun x w1 b1 e1 => ?_
  refine bx_pr fun y w2 b2 e2 => ?_
  refine pr_w (b1.ext e2) ?_
  refine pr_w b2 ?_
  have E := e1.trans e2
  refine c_eq_StringS (a1.ext E) (a2.ext E) fun w3 e3 => ?_
  rw [una_not, Bool.not_true, cnd_false]
  exact H _ (E.trans e3)
end Go.Proofs.YtjompmflommadaaGreatDoor


set_option linter.unusedVariables false
namespace Go.Proofs.YtjompmflommadaaGreatDoor
open Go Go.Vc
open Go.ChangeShapes Go.WideShapes Go.ChangeAt
section
variable {H : Type} {enc : TypeId × Value → H} {w : World} {base : Nat} {spare : Nat → Bool} {held : Bool} {fuel : Nat}
theorem open_rowc {t e : TypeId} {v : Value} {x : DataW H × List MemPlace} (hu : P.underlying t = some (.slice e)) (hc : P.cellsOf e = 1) (h : DataW.trod enc P w base (fun _ => true) held fuel t [v] = some x) :
    CapOk v ∧ ∃ (n : Nat) (vs : List Value), Row 1 w v n vs ∧ ∀ (i : Nat) (u : Value), vs[i]? = some u → ∃ m y, DataW.trod enc P w base (fun _ => true) held m e [u] = some y := by
  refine ⟨?_, open_row hu hc h⟩
  rcases Deep.open_slice1 hu hc h with ⟨hcs, _⟩ | ⟨a, len, cap, m, k, V, D, Pl, hcs, hb, hl, hm, hmm, _, hx⟩
  · obtain rfl : v = .slice none 0 0 := by simpa using hcs
    exact Nat.le_refl _
  · obtain rfl : v = .slice (some a) len cap := by simpa using hcs
    exact hl
theorem cells_string : P.cellsOf t_string = 1 := by kernel_rfl
theorem cells_s_string : P.cellsOf t_s_string = 1 := by kernel_rfl
set_option maxRecDepth 20000 in
theorem open_StringS {v : Value} {x : DataW H × List MemPlace} (h : DataW.trod enc P w base (fun _ => true) held fuel t_s_string [v] = some x) : ∃ l, A_StringS w v l := by
  obtain ⟨hcap, n, vs, hrow, hel⟩ := open_rowc u_s_string cells_string h
  obtain ⟨bs, h1, h2⟩ := list_of (p := fun u (b : List UInt8) => u = str b ∧ b.length ≤ 9223372036854775807) (l := vs) (fun i u hu => by
    obtain ⟨m, y, hy⟩ := hel i u hu
    obtain ⟨s, hs, _, hw⟩ := DataW.trod_string u_string hy
    refine ⟨s.data.toList, ?_, ?_⟩
    · simp only [List.cons.injEq, and_true] at hs
      rw [hs]
    · simp only [maxLen] at hw
      have : s.data.toList.length = s.size := Array.length_toList
      omega)
  have hn : bs.length = n := by have := hrow.1; omega
  have hmap : vs = bs.map str := by
    apply List.ext_getElem?
    intro i
    cases hi : vs[i]? with
    | none =>
      rw [List.getElem?_eq_none_iff] at hi
      exact (List.getElem?_eq_none_iff.2 (by simp; omega)).symm
    | some u =>
      obtain ⟨b, hb, rfl, _⟩ := h2 i u hi
      simp [hb]
  refine ⟨bs, ?_, fun b hb => ?_, hcap⟩
  · rw [hn, ← hmap]; exact hrow
  · obtain ⟨i, hi, rfl⟩ := List.getElem_of_mem hb
    have hi' : i < vs.length := by omega
    obtain ⟨b', hb', _, hlt⟩ := h2 i vs[i] (by simp [hi'])
    rw [List.getElem?_eq_getElem hi] at hb'
    cases hb'; exact hlt
theorem cells_laws_Program : P.cellsOf t_laws_Program = 1 := by kernel_rfl
set_option maxRecDepth 20000 in
theorem open_Program {cs : Array Value} {x : DataW H × List MemPlace} (h : DataW.trod enc P w base (fun _ => true) held fuel t_laws_Program cs.toList = some x) : ∃ l, A_Program w (.agg cs) l := by
  obtain ⟨xs, n, _, _, hl, hxs, hf⟩ := DataW.trod_struct u_laws_Program h
  rw [cells_laws_Program] at hl
  obtain ⟨s, hs⟩ : ∃ s, cs = #[s] := by
    match cs, hl with
    | ⟨[s]⟩, _ => exact ⟨s, rfl⟩
  subst hs
  have h0 := hf 0 _ rfl
  have hx : 0 < xs.length := by rw [hxs]; decide
  rw [List.getElem?_eq_getElem hx] at h0
  have h1 : DataW.trod enc P w base (fun _ => true) held n t_s_string [s] = some xs[0] := by
    have e : (([s] : List Value).drop 0).take (P.cellsOf t_s_string) = [s] := by rw [cells_s_string]; rfl
    rw [← e]; exact h0
  obtain ⟨l, hA⟩ := open_StringS h1
  exact ⟨l, s, rfl, hA⟩
end
theorem door_met5 (os : Os) (args : Array Value) : laidMetH Tryz.prog Rows.fnExactIsProgramRow.laid ((World.doorLaid Tryz.prog 72 os).forCall (fun _ _ => 0) ⟨#[], args, []⟩).memory :=
  laidMetH_of_parts3 (fuel := 8) (laidMet_of_run' 8 (by kernel_rfl) (by kernel_rfl)) (by kernel_rfl) (by kernel_rfl)
end Go.Proofs.YtjompmflommadaaGreatDoor


set_option linter.unusedVariables false
namespace Go.Proofs.YtjompmflommadaaGreatDoor
open Go
end Go.Proofs.YtjompmflommadaaGreatDoor


set_option linter.unusedVariables false
namespace Go.Proofs.YtjompmflommadaaGreatDoor
open Go Go.Vc
theorem reach_FnExactProgramText : Tryz.pinned.checked.prog.closure 6 = [6, 12, 51, 14, 53, 21, 52, 56, 89, 141, 191, 235, 214, 251, 170, 117, 120, 192, 236, 167, 237, 218, 172, 219, 164, 217, 252, 253, 254, 238, 270, 242, 212, 193, 59, 22, 15, 54, 103, 129, 182, 222, 255, 211, 247, 273, 248, 249, 250, 274, 223, 224, 256, 231, 221, 181, 178, 257, 137, 176, 220, 175, 186, 230, 124, 174, 189, 190, 234, 128, 179, 180, 225, 258, 275, 287, 288, 259, 276, 289, 277, 278, 291, 300, 302, 303, 304, 308, 307, 309, 305, 306, 310, 311, 312, 313, 290, 279, 226, 260, 183, 227, 228, 261, 233, 269, 280, 184, 229, 125, 262, 263, 281, 264, 282, 292, 265, 232, 268, 285, 298, 286, 299, 266, 177, 187, 267, 283, 284, 293, 301, 296, 294, 295, 297, 60, 106, 157, 206, 244, 207, 245, 158, 159, 16, 55] := by kernel_rfl
theorem joined_FnExactProgramText : joinedFacts Tryz.pinned.checked.prog 6 Tryz.f6 Rows.fnExactProgramTextSpec Rows.fnExactProgramTextRow = true := by
  unfold joinedFacts Program.recurses Program.inPlace Program.varsNamed Program.unfollowed
  rw [reach_FnExactProgramText]
  kernel_rfl
end Go.Proofs.YtjompmflommadaaGreatDoor
