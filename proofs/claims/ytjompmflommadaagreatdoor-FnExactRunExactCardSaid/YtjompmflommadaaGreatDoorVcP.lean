/- Rows whose elements are structs: a field read or written by the element's index, a whole element written; rows of pairs of floats. -/
import Derived.Test.YtjompmflommadaaGreatDoorVcK
import Derived.Test.YtjompmflommadaaGreatDoorVcL
set_option linter.unusedVariables false
namespace Go.Vc
open Go

variable {P : Program} {w : World} {s n : Nat} {v : Value} {xs : List Value} {t e ty : TypeId} {z z' : Value} {b b' : Nat} {d : TypeDesc}

theorem Row.fld {K : Value → Prop} {fs : Array Field} {k : IntKind} {i f off : Nat} {x : Value} (h : Row s w v n xs) (hi : i < n) (hx : xs[i * s + off]? = some x) (hu : P.underlying t = some (.slice e)) (ht : TI P e z s b)
    (hue : P.underlying e = some (.struct fs)) (hf : (fs[f]?).map (fun x => (x.type, x.offset)) = some (ty, off)) (hty : TI P ty z' 1 b') (hud : P.underlying ty = some d) (hd : aggB d = false) (H : K x) :
    ixa P t v (.int k (i : Int)) w (fun a => fda P e a f w fun y => ld P ty y w K) := by
  obtain ⟨h1, h2, a, cap, rfl, h3⟩ := h
  obtain ⟨bl, o, rfl, hc⟩ := h3 (by omega)
  rw [ixa_slice hu ht (by omega) (by omega), fda_off hue hf hty (by decide)]
  rw [ld_scalar hud hd (v := x)]
  · exact H
  · rw [Addr.add_lit, Int.toNat_natCast, Nat.add_assoc]
    exact hc _ _ hx
/-- A field of an element of a row of one's own is written. -/
theorem owns_fset {base : Nat} {KW : World → Prop} {fs : Array Field} {k : IntKind} {i f off : Nat} {x : Value} (h : w.ownsRow base e s v n xs) (hi : i < n) (ho : off < s) (hx : x.oneCell' = true) (hu : P.underlying t = some (.slice e)) (ht : TI P e z s b)
    (hue : P.underlying e = some (.struct fs)) (hf : (fs[f]?).map (fun x => (x.type, x.offset)) = some (ty, off)) (hty : TI P ty z' 1 b')
    (H : ∀ w', w'.ownsRow base e s v n (xs.set (i * s + off) x) → w.grownBy w' v.ownBlock → KW w') : ixa P t v (.int k (i : Int)) w (fun a => fda P e a f w fun y => sto P ty y x w KW) := by
  have h0 := h
  have hlen : i * s + off < n * s := by
    have : (i + 1) * s ≤ n * s := Nat.mul_le_mul_right s (by omega)
    rw [Nat.succ_mul] at this; omega
  rcases h.2 with ⟨rfl, rfl⟩ | ⟨g, cap, cur, rfl, hb, hg, hnc, hcm, hcs, htake⟩
  · omega
  · rw [ixa_slice hu ht (by omega) (by omega), fda_off hue hf hty (by decide)]
    simp only [Int.toNat_natCast, Nat.zero_add, Addr.add_lit]
    have hc := h0.cellAt (i * s + off) hlen
    have hlt : i * s + off < xs.length := by rw [h.1]; exact hlen
    rw [List.getElem?_eq_getElem hlt] at hc
    have hst := h0.stored (i * s + off) x
    exact sto_scalar hty hx hc (h0.frozenAt _) (H _ hst.1 hst.2)
theorem owns_fold {base cap g : Nat} : ∀ (ds : List Value) (i : Nat) (j : Nat) (xs : List Value) (w : World), w.ownsRow base e s (.slice (some ⟨g, 0, none⟩) n cap) n xs →
    ((ds.zipIdx j).foldl (fun w x => w.setCell ((Addr.mk g i none).add x.2) x.1) w).ownsRow base e s (.slice (some ⟨g, 0, none⟩) n cap) n ((ds.zipIdx j).foldl (fun xs x => xs.set (i + x.2) x.1) xs) ∧
      w.grownBy ((ds.zipIdx j).foldl (fun w x => w.setCell ((Addr.mk g i none).add x.2) x.1) w) (some g)
  | [], i, j, xs, w, h => ⟨h, World.grownBy.refl _ _⟩
  | x :: ds, i, j, xs, w, h => by
    simp only [List.zipIdx_cons, List.foldl_cons]
    rw [Addr.add_lit]
    have hst := h.stored (i + j) x
    obtain ⟨q1, q2⟩ := owns_fold ds i (j + 1) (xs.set (i + j) x) _ hst.1
    exact ⟨q1, grown_trans hst.2 q2⟩
/-- An element of two cells of a row of one's own is written. -/
theorem owns_set2 {base : Nat} {KW : World → Prop} {k : IntKind} {i : Nat} {x y : Value} (h : w.ownsRow base e 2 v n xs) (hi : i < n) (hx : x.oneCell' = true) (hy : y.oneCell' = true) (hu : P.underlying t = some (.slice e)) (ht : TI P e z 2 b)
    (H : ∀ w', w'.ownsRow base e 2 v n ((xs.set (i * 2) x).set (i * 2 + 1) y) → w.grownBy w' v.ownBlock → KW w') : ixa P t v (.int k (i : Int)) w (fun a => sto P e a (.agg #[x, y]) w KW) := by
  have h0 := h
  rcases h.2 with ⟨rfl, rfl⟩ | ⟨g, cap, cur, rfl, hb, hg, hnc, hcm, hcs, htake⟩
  · omega
  · rw [ixa_slice hu ht (by omega) (by omega)]
    simp only [Int.toNat_natCast, Nat.zero_add]
    obtain ⟨q1, q2⟩ := owns_fold [x, y] (i * 2) 0 xs w h0
    refine sto_agg (cs := [x, y]) ht rfl (fun u hu => ?_) (fun j hj => ?_) (H _ q1 q2)
    · simp only [List.mem_cons, List.not_mem_nil, or_false] at hu
      rcases hu with rfl | rfl <;> assumption
    · have hlt : i * 2 + j < xs.length := by rw [h.1]; omega
      refine ⟨xs[i * 2 + j], ?_, ?_⟩
      · rw [Addr.add_lit, h0.cellAt _ (by omega), List.getElem?_eq_getElem hlt]
      · rw [Addr.add_lit]; exact h0.frozenAt _

/-! ### pairs of floats -/
def pf (p : Nat × Nat) : List Value := [.float .f32 p.1, .float .f32 p.2]
def pfs (l : List (Nat × Nat)) : List Value := l.flatMap pf
theorem pfs_nil : pfs [] = [] := rfl
theorem pfs_cons (p : Nat × Nat) (l : List (Nat × Nat)) : pfs (p :: l) = .float .f32 p.1 :: .float .f32 p.2 :: pfs l := rfl
theorem pfs_app (l r : List (Nat × Nat)) : pfs (l ++ r) = pfs l ++ pfs r := by simp [pfs]
theorem pfs_len : ∀ l : List (Nat × Nat), (pfs l).length = l.length * 2
  | [] => rfl
  | p :: l => by rw [pfs_cons]; simp only [List.length_cons, pfs_len l]; omega
theorem pfs_get0 : ∀ {l : List (Nat × Nat)} {i : Nat} (h : i < l.length), (pfs l)[i * 2]? = some (.float .f32 l[i].1)
  | [], i, h => absurd h (Nat.not_lt_zero _)
  | p :: l, 0, h => rfl
  | p :: l, i + 1, h => by
    rw [pfs_cons, show (i + 1) * 2 = i * 2 + 1 + 1 by omega, List.getElem?_cons_succ, List.getElem?_cons_succ]
    exact pfs_get0 (l := l) (by simpa using h)
theorem pfs_get1 : ∀ {l : List (Nat × Nat)} {i : Nat} (h : i < l.length), (pfs l)[i * 2 + 1]? = some (.float .f32 l[i].2)
  | [], i, h => absurd h (Nat.not_lt_zero _)
  | p :: l, 0, h => rfl
  | p :: l, i + 1, h => by
    rw [pfs_cons, show (i + 1) * 2 + 1 = i * 2 + 1 + 1 + 1 by omega, List.getElem?_cons_succ, List.getElem?_cons_succ]
    exact pfs_get1 (l := l) (by simpa using h)
theorem pfs_set0 {a : Nat} : ∀ {l : List (Nat × Nat)} {i : Nat} (h : i < l.length), (pfs l).set (i * 2) (.float .f32 a) = pfs (l.set i (a, l[i].2))
  | [], i, h => absurd h (Nat.not_lt_zero _)
  | p :: l, 0, h => rfl
  | p :: l, i + 1, h => by
    rw [pfs_cons, show (i + 1) * 2 = i * 2 + 1 + 1 by omega, List.set_cons_succ, List.set_cons_succ, List.set_cons_succ, pfs_cons]
    rw [pfs_set0 (l := l) (by simpa using h)]
    rfl
theorem pfs_set1 {a : Nat} : ∀ {l : List (Nat × Nat)} {i : Nat} (h : i < l.length), (pfs l).set (i * 2 + 1) (.float .f32 a) = pfs (l.set i (l[i].1, a))
  | [], i, h => absurd h (Nat.not_lt_zero _)
  | p :: l, 0, h => rfl
  | p :: l, i + 1, h => by
    rw [pfs_cons, show (i + 1) * 2 + 1 = i * 2 + 1 + 1 + 1 by omega, List.set_cons_succ, List.set_cons_succ, List.set_cons_succ, pfs_cons]
    rw [pfs_set1 (l := l) (by simpa using h)]
    rfl
theorem pfs_set {a c : Nat} {l : List (Nat × Nat)} {i : Nat} (h : i < l.length) : ((pfs l).set (i * 2) (.float .f32 a)).set (i * 2 + 1) (.float .f32 c) = pfs (l.set i (a, c)) := by
  rw [pfs_set0 h, pfs_set1 (by simpa using h)]
  simp
theorem pfs_one (l : List (Nat × Nat)) : ∀ u ∈ pfs l, u.oneCell' = true := by
  intro u hu
  simp only [pfs, List.mem_flatMap, pf, List.mem_cons, List.not_mem_nil, or_false] at hu
  obtain ⟨p, _, rfl | rfl⟩ := hu <;> rfl
theorem made_two (x y : Value) : ∀ n : Nat, (madeCells #[x, y] (n * 2)).toList = (List.replicate n [x, y]).flatten := by
  intro n
  apply List.ext_getElem?
  intro i
  have hlen : ∀ m : Nat, ((List.replicate m [x, y]).flatten).length = m * 2 := fun m => by simp
  have hg : ∀ (m i : Nat), ((List.replicate m [x, y]).flatten)[i]? = if i < m * 2 then some (if i % 2 = 0 then x else y) else none := by
    intro m
    induction m with
    | zero => intro i; simp
    | succ m ih =>
      intro i
      rw [List.replicate_succ, List.flatten_cons]
      match i with
      | 0 => simp
      | 1 => simp; omega
      | i + 2 =>
        rw [show [x, y] ++ (List.replicate m [x, y]).flatten = x :: y :: (List.replicate m [x, y]).flatten from rfl, List.getElem?_cons_succ, List.getElem?_cons_succ, ih]
        have e1 : (i < m * 2) = (i + 2 < (m + 1) * 2) := by simp only [eq_iff_iff]; omega
        have e2 : (i % 2 = 0) = ((i + 2) % 2 = 0) := by simp only [eq_iff_iff]; omega
        simp only [e1, e2]
  rw [hg]
  unfold madeCells
  by_cases h : i < n * 2
  · rw [if_pos h]
    simp only [Array.toList_map, Array.toList_range, List.getElem?_map]
    rw [List.getElem?_range h]
    have h2 : i % 2 = 0 ∨ i % 2 = 1 := by omega
    rcases h2 with h2 | h2 <;> simp [h2]
  · rw [if_neg h]
    simp; omega
theorem made_pfs (n : Nat) : (madeCells #[.float .f32 0, .float .f32 0] (n * 2)).toList = pfs (List.replicate n (0, 0)) := by
  rw [made_two]
  unfold pfs
  rw [List.flatMap_def, List.map_replicate]
  rfl
/-- 'make([]T, n)', a pair of floats to an element. -/
theorem mks_pairs {KW : Value → World → Prop} {k k' : IntKind} {n : Nat} (hu : P.underlying t = some (.slice e)) (ht : TI P e (.agg #[.float .f32 0, .float .f32 0]) 2 b) (hb : b * n ≤ 281474976710656) (hn : n ≤ maxLen)
    (H : ∀ w' v, w'.ownsRow w.heap.size e 2 v n (pfs (List.replicate n (0, 0))) → Ext w w' → KW v w') : mks P t (.int k (n : Int)) (.int k' (n : Int)) w KW := by
  intro c hc
  subst hc
  obtain ⟨i, h1, h2, h3, h4⟩ := ht
  obtain ⟨w', hr, ho, hg⟩ := run_make_full (P := P) c c.heap.size t e i _ 2 hu h1 h2 h3 k k' n (by rw [h4]; exact hb) hn (Nat.le_refl _)
  refine ⟨_, w', hr, H (N w') _ ?_ ?_⟩
  · rw [show (Value.agg #[.float .f32 0, .float .f32 0]).cells = #[.float .f32 0, .float .f32 0] from rfl, made_pfs] at ho
    exact ho
  · exact ⟨hg.os, hg.tape, hg.output, hg.size, fun k hk => hg.block k hk (fun e => by cases e)⟩
end Go.Vc
