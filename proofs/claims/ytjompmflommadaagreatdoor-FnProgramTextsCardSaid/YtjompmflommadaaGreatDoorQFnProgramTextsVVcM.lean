import Derived.Laws.CopyRow
import Derived.Laws.IdiomCopy
import Derived.Test.YtjompmflommadaaGreatDoorQFnProgramTextsVVcS
set_option linter.unusedSimpArgs false
set_option linter.unusedVariables false
namespace Go.Vc
open Go
variable {P : Program} {w : World}
def Hide (p : Prop) : Prop := p
theorem Hide.mk {p : Prop} (h : p) : Hide p := h
theorem Hide.out {p : Prop} (h : Hide p) : p := h
section
variable {t e : TypeId} {z : Value} {s b n : Nat}
theorem Ae7 {base m : Nat} {ty : TypeId} {v y : Value} {xs ys : List Value} {KW : Value → World → Prop} (h : w.ownsRow base e 1 v n xs) (hy : Row 1 w y m ys) (hm : m ≤ n) (h1 : ∀ u ∈ ys, u.oneCell' = true)
  (hu : P.underlying t = some (.slice e)) (ht : TI P e z 1 b)
  (H : ∀ w', w'.ownsRow base e 1 v n (ys ++ xs.drop m) → w.grownBy w' v.ownBlock → KW (.int .i64 (m : Nat)) w') : bl2 P .copy #[t, t] ty [v, y] w KW := by
 intro c hc
 subst hc
 obtain ⟨i, i1, i2, i3, i4⟩ := ht
 have hsz : (P.info? e).map (·.size) = some 1 := by rw [i1]; simp [i3]
 obtain ⟨hl, _, a, cap, rfl, hcells⟩ := hy
 have hrun : ∃ w', (Builtin.copy_ #[t, t] ty #[v, .slice a m cap]).run P c = .ok (goInt m) w' ∧ (N w').ownsRow base e 1 v n (ys ++ xs.drop m) ∧ (N c).grownBy (N w') v.ownBlock := by
  by_cases hm0 : m = 0
  ·subst hm0
   obtain rfl : ys = [] := List.eq_nil_of_length_eq_zero (by simpa using hl)
   have hv : ∃ d n' cap', v = .slice d n' cap' := by
    rcases h.2 with ⟨rfl, _⟩ | ⟨g, cap', cur, rfl, _⟩
    ·exact ⟨_, _, _, rfl⟩
    ·exact ⟨_, _, _, rfl⟩
   obtain ⟨d, n', cap', rfl⟩ := hv
   exact ⟨c, run_copy_none c t t ty e d a n' cap' 0 cap hu hsz (Nat.min_eq_left (Nat.zero_le _)), by simpa using h, World.grownBy.refl _ _⟩
  ·obtain ⟨bl, o, rfl, hcl⟩ := hcells hm0
   rcases h.2 with ⟨rfl, h0⟩ | ⟨g, cap', cur, rfl, hb, hg, hnc, hcm, hcs, htake⟩
   ·omega
   ·have hr := run_copy_row (P := P) c t t ty e g 0 n cap' ⟨bl, o, none⟩ m cap cur e ys hu hsz hg (by rw [hl, Nat.mul_one]; exact (Nat.min_eq_left hm).symm) (fun j u hj => by rw [Addr.add_lit]; exact hcl j u hj) (by omega) h1
    have hlm : ys.length = m := by omega
    rw [hlm] at hr
    refine ⟨_, hr, ⟨by simp [hl, h.1]; omega, .inr ⟨g, cap', _, rfl, hb, setRow_heap c g cur _ e _ hg, hnc, hcm, ?_, ?_⟩⟩, ⟨rfl, rfl, rfl, by simp [N], fun k hk hne => ?_⟩⟩
    ·simp [hlm]; omega
    ·simp only [List.take_zero, List.nil_append, Nat.zero_add, Nat.mul_one]
     rw [← htake, Nat.mul_one, List.drop_take, List.take_append, List.take_of_length_le (by omega), hlm]
    ·exact setRow_other c g k _ (fun e => hne (by rw [e]; rfl))
 obtain ⟨w', q1, q2, q3⟩ := hrun
 refine ⟨.value (goInt m), w', ?_, H (N w') q2 q3⟩
 simp [builtin, q1]
end
end Go.Vc
