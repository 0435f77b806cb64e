import Derived.Test.YtjompmflommadaaGreatDoorQIsServerVVcK
import Derived.Test.YtjompmflommadaaGreatDoorQIsServerVVcL
set_option linter.unusedVariables false
namespace Go.Vc
open Go
variable {P : Program} {w : World} {s n : Nat} {v : Value} {xs : List Value} {t e ty : TypeId} {z z' : Value} {b b' : Nat} {d : TypeDesc}
theorem Row.fld {K : Value → Prop} {fs : Array Field} {k : IntKind} {i f off : Nat} {x : Value} (h : Row s w v n xs) (hi : i < n) (hx : xs[i * s + off]? = some x) (hu : P.underlying t = some (.slice e)) (ht : TI P e z s b)
    (hue : P.underlying e = some (.struct fs)) (hf : (fs[f]?).map (fun x => (x.type, x.offset)) = some (ty, off)) (hty : TI P ty z' 1 b') (hud : P.underlying ty = some d) (hd : aggB d = false) (H : K x) :
    ixa P t v (.int k (i : Int)) w (fun a => fda P e a f w fun y => ld P ty y w K) := by
  obtain ⟨h1, h2, a, cap, rfl, h3⟩ := h
  obtain ⟨bl, o, rfl, hc⟩ := h3 (by omega)
  rw [ixa_slice hu ht (by omega) (by omega), fda_off hue hf hty (by decide)]
  rw [ld_scalar hud hd (v := x)]
  · exact H
  · rw [Addr.add_lit, Int.toNat_natCast, Nat.add_assoc]
    exact hc _ _ hx
theorem owns_fold {base cap g : Nat} : ∀ (ds : List Value) (i : Nat) (j : Nat) (xs : List Value) (w : World), w.ownsRow base e s (.slice (some ⟨g, 0, none⟩) n cap) n xs →
    ((ds.zipIdx j).foldl (fun w x => w.setCell ((Addr.mk g i none).add x.2) x.1) w).ownsRow base e s (.slice (some ⟨g, 0, none⟩) n cap) n ((ds.zipIdx j).foldl (fun xs x => xs.set (i + x.2) x.1) xs) ∧
      w.grownBy ((ds.zipIdx j).foldl (fun w x => w.setCell ((Addr.mk g i none).add x.2) x.1) w) (some g)
  | [], i, j, xs, w, h => ⟨h, World.grownBy.refl _ _⟩
  | x :: ds, i, j, xs, w, h => by
    simp only [List.zipIdx_cons, List.foldl_cons]
    rw [Addr.add_lit]
    have hst := h.stored (i + j) x
    obtain ⟨q1, q2⟩ := owns_fold ds i (j + 1) (xs.set (i + j) x) _ hst.1
    exact ⟨q1, grown_trans hst.2 q2⟩
theorem owns_set2 {base : Nat} {KW : World → Prop} {k : IntKind} {i : Nat} {x y : Value} (h : w.ownsRow base e 2 v n xs) (hi : i < n) (hx : x.oneCell' = true) (hy : y.oneCell' = true) (hu : P.underlying t = some (.slice e)) (ht : TI P e z 2 b)
    (H : ∀ w', w'.ownsRow base e 2 v n ((xs.set (i * 2) x).set (i * 2 + 1) y) → w.grownBy w' v.ownBlock → KW w') : ixa P t v (.int k (i : Int)) w (fun a => sto P e a (.agg #[x, y]) w KW) := by
  have h0 := h
  rcases h.2 with ⟨rfl, rfl⟩ | ⟨g, cap, cur, rfl, hb, hg, hnc, hcm, hcs, htake⟩
  · omega
  · rw [ixa_slice hu ht (by omega) (by omega)]
    simp only [Int.toNat_natCast, Nat.zero_add]
    obtain ⟨q1, q2⟩ := owns_fold [x, y] (i * 2) 0 xs w h0
    refine sto_agg (cs := [x, y]) ht rfl (fun u hu => ?_) (fun j hj => ?_) (H _ q1 q2)
    · simp only [List.mem_cons, List.not_mem_nil, or_false] at hu
      rcases hu with rfl | rfl <;> assumption
    · have hlt : i * 2 + j < xs.length := by rw [h.1]; omega
      refine ⟨xs[i * 2 + j], ?_, ?_⟩
      · rw [Addr.add_lit, h0.cellAt _ (by omega), List.getElem?_eq_getElem hlt]
      · rw [Addr.add_lit]; exact h0.frozenAt _
theorem made_two (x y : Value) : ∀ n : Nat, (madeCells #[x, y] (n * 2)).toList = (List.replicate n [x, y]).flatten := by
  intro n
  apply List.ext_getElem?
  intro i
  have hlen : ∀ m : Nat, ((List.replicate m [x, y]).flatten).length = m * 2 := fun m => by simp
  have hg : ∀ (m i : Nat), ((List.replicate m [x, y]).flatten)[i]? = if i < m * 2 then some (if i % 2 = 0 then x else y) else none := by
    intro m
    induction m with
    | zero => intro i; simp
    | succ m ih =>
      intro i
      rw [List.replicate_succ, List.flatten_cons]
      match i with
      | 0 => simp
      | 1 => simp; omega
      | i + 2 =>
        rw [show [x, y] ++ (List.replicate m [x, y]).flatten = x :: y :: (List.replicate m [x, y]).flatten from rfl, List.getElem?_cons_succ, List.getElem?_cons_succ, ih]
        have e1 : (i < m * 2) = (i + 2 < (m + 1) * 2) := by simp only [eq_iff_iff]; omega
        have e2 : (i % 2 = 0) = ((i + 2) % 2 = 0) := by simp only [eq_iff_iff]; omega
        simp only [e1, e2]
  rw [hg]
  unfold madeCells
  by_cases h : i < n * 2
  · rw [if_pos h]
    simp only [Array.toList_map, Array.toList_range, List.getElem?_map]
    rw [List.getElem?_range h]
    have h2 : i % 2 = 0 ∨ i % 2 = 1 := by omega
    rcases h2 with h2 | h2 <;> simp [h2]
  · rw [if_neg h]
    simp; omega
end Go.Vc
