import Derived.Test.YtjompmflommadaaGreatDoorQFnProgramTextsVVcJ
set_option linter.unusedSimpArgs false
set_option linter.unusedVariables false
namespace Go.Vc
open Go
variable {P : Program} {w : World}
section
variable {t e : TypeId} {z : Value} {s b n : Nat}
theorem Aba {ty : TypeId} {KW : Value → World → Prop} {y : Value} {m g : Nat} {ys : List Value} (hy : Row s w y m ys) (h1 : ∀ u ∈ ys, u.oneCell' = true) (hu : P.underlying t = some (.slice e)) (ht : TI P e z s b) (hzs : z.cells.size = s)
  (hs : 0 < s) (hm : 0 < m) (hby : m * b ≤ 140737488355328)
  (H : ∀ v' w', w'.ownsRow w.heap.size e s v' m ys → Ext w w' → KW v' w') : bl2 P .append #[t, t] ty [.slice (some ⟨g, 0, none⟩) 0 0, y] w KW := by
 intro c hc
 subst hc
 obtain ⟨i, i1, i2, i3, i4⟩ := ht
 obtain ⟨hl, hmx, a, cap, rfl, hcells⟩ := hy
 obtain ⟨bl, o, rfl, hcl⟩ := hcells (by omega)
 have hmx' := hmx
 simp only [maxLen] at hmx'
 have hr := run_append_grow (P := P) c t ty e i z hu i1 i2 ⟨g, 0, none⟩ 0 0 [] (by simp) (by simp) ⟨bl, o, none⟩ m cap ys (by rw [i3]; exact hl) (fun j u hj => by rw [Addr.add_lit]; exact hcl j u hj) (by omega) (by omega) (growslice_fits (by omega) (by rw [i4, Nat.zero_add]; exact hby))
 have hrun : ∃ v' w', (Builtin.append_ #[t, t] ty #[.slice (some ⟨g, 0, none⟩) 0 0, .slice (some ⟨bl, o, none⟩) m cap]).run P c = .ok v' w' ∧ (N w').ownsRow (N c).heap.size e s v' m ys ∧ Ext (N c) (N w') := by
  refine ⟨_, _, hr, ?_, ?_⟩
  ·simp only [Nat.zero_add, Array.empty_append]
   have hge := grownCap_ge c m 0 e
   have hcm := grownCap_le_maxLen c m 0 e hmx
   refine ⟨hl, .inr ⟨c.heap.size, _, _, rfl, Nat.le_refl _, heap_alloc_new c.drew _, hge, hcm, ?_, ?_⟩⟩
   ·simp only [Array.size_append, List.size_toArray, size_zeroCells, hzs, hl, ← Nat.add_mul]
    congr 1
    omega
   ·simp only [Array.toList_append, ← hl]
    simp
  ·refine ⟨rfl, rfl, rfl, ?_, fun k hk => ?_⟩
   ·show c.heap.size ≤ (c.drew.alloc _).heap.size
    rw [show ∀ o, (c.drew.alloc o).heap = c.heap.push o from fun _ => rfl]
    simp
   ·exact heap_alloc_old c.drew (.cells (#[] ++ ys.toArray ++ Builtin.zeroCells z.cells (grownCap c (0 + m) 0 e - (0 + m))) e) hk
 obtain ⟨v', w', q1, q2, q3⟩ := hrun
 refine ⟨.value v', w', ?_, H v' (N w') q2 q3⟩
 simp [builtin, q1]
def Ty (w : World) (k : Option Nat) (e : TypeId) : Prop := ∀ b, k = some b → ∃ c f, w.heap[b]? = some (.cells c e f)
theorem Ty.owns {base n : Nat} {v : Value} {xs : List Value} (h : w.ownsRow base e s v n xs) : Ty w v.ownBlock e := by
 intro b hb
 rcases h.2 with ⟨rfl, _⟩ | ⟨g, cap, cur, rfl, _, hg, _⟩
 ·cases hb
 ·cases hb; exact ⟨_, _, hg⟩
theorem Ty.box {base : Nat} {p : Value} {cs : List Value} (h : Bx w base t p cs) : Ty w (blk p) t := by
 obtain ⟨g, rfl, _, h3⟩ := h
 intro b hb
 cases hb; exact ⟨_, _, h3⟩
theorem Ty.apart {k k' : Option Nat} {e' : TypeId} (h : Ty w k e) (h' : Ty w k' e') (hne : e ≠ e') : k = none ∨ k ≠ k' := by
 cases k with
 | none => exact .inl rfl
 | some b =>
  refine .inr fun hk => ?_
  obtain ⟨c, f, h1⟩ := h b rfl
  obtain ⟨c', f', h2⟩ := h' b hk.symm
  rw [h1] at h2
  simp only [Option.some.injEq, Obj.cells.injEq] at h2
  exact hne h2.2.1
theorem AX {w' : World} {base n : Nat} {v : Value} {xs : List Value} {row : Option Nat} {e' : TypeId} (h : w.ownsRow base e s v n xs) (hg : w.grownBy w' row) (ht : Ty w row e') (hne : e ≠ e') : w'.ownsRow base e s v n xs :=
 h.kept hg ((Ty.owns h).apart ht hne)
theorem Bl {w' : World} {base : Nat} {p : Value} {cs : List Value} {row : Option Nat} {e' : TypeId} (h : Bx w base t p cs) (hg : w.grownBy w' row) (ht : Ty w row e') (hne : t ≠ e') : Bx w' base t p cs := by
 refine h.kept hg ?_
 rcases ht.apart (Ty.box h) (Ne.symm hne) with h1 | h1
 ·exact .inl h1
 ·exact .inr h1
theorem Hn {a b c : World} {row : Option Nat} (he : Ext a b) (hg : b.grownBy c row) : a.grownBy c row :=
 ⟨hg.os.trans (RowKit.Below.os he), hg.tape.trans (RowKit.Below.tape he), hg.output.trans (RowKit.Below.output he), Nat.le_trans he.size hg.size, fun k hk hne => (hg.block k (Nat.lt_of_lt_of_le hk he.size) hne).trans (he.block k hk)⟩
theorem app1x {base n : Nat} {v x : Value} {xs : List Value} {KW : Value → World → Prop} (h : w.ownsRow base e 1 v n xs) (hx : x.oneCell' = true)
  (hu : P.underlying t = some (.slice e)) (ht : TI P e z 1 b) (hz : z.oneCell' = true) (hn : n + 1 ≤ maxLen) (hby : (n + 1) * b ≤ 140737488355328) (hbase : base ≤ w.heap.size)
  (H : ∀ v' w', w'.ownsRow base e 1 v' (n + 1) (xs ++ [x]) → w.grownBy w' v.ownBlock → KW v' w') : bsl P t 1 [(0, x)] w fun y w2 => Ext w w2 ∧ bl2 P .append #[t, t] t [v, y] w2 KW := by
 have hcells : z.cells = #[z] := by cases z <;> first | rfl | (simp [Value.oneCell'] at hz; done)
 refine Qx hu ht hx hz ?_
 have ho := B9 w [x] e (by simp [maxLen])
 have he := Bg w (.cells #[x] e)
 refine ⟨he, Jk (Di h he) (Bc ho) (by simpa using hx) hu ht (by rw [hcells]; rfl) (by decide) hn hby (Nat.le_trans hbase he.size) fun v' w' h1 h2 => H v' w' h1 (Hn he h2)⟩
end
end Go.Vc
