/- The contracts of the exported functions, as the laws want them. -/
import Derived.Test.YtliagkijeigcaaaT1
set_option linter.unusedVariables false
namespace Go.Proofs.Ytliagkijeigcaaa
open Go Go.Vc

variable {w : World} {K : Value → World → Prop}

theorem s_TimesMatrix {a v : Value} {m b : List (List Nat)} (ha : I_Float32SS w a m) (hv : I_Float32SS w v b) (H : ∀ u w', Ext w w' → I_Float32SS w' u (tmF m b).1 → K (.tuple #[u, .int .i64 (tmF m b).2]) w') : call P f_spec_TimesMatrix [a, v] w K :=
  c_spec_TimesMatrix ha.1 hv.1 hv.2 fun u w' vs he ho => H u w' he ⟨ho.FSS (tmF_bits _ _), tmF_bits _ _⟩
theorem p_TimesMatrix {a v : Value} {m b : List (List Nat)} (ha : I_Float32SS w a m) (hv : I_Float32SS w v b) (H : ∀ u w', Ext w w' → O_Float32SS w' w.heap.size w'.heap.size u (tmF m b).1 → K (.tuple #[u, .int .i64 (tmF m b).2]) w') : call P f_impl_TimesMatrix [a, v] w K :=
  c_impl_TimesMatrix ha.1 hv.1 hv.2 fun u w' vs he ho => H u w' he ⟨⟨vs, ho⟩, tmF_bits _ _⟩
theorem total_le {m : List (List Nat)} {k : Nat} (h : ∀ r ∈ m, r.length ≤ k) : total m ≤ m.length * k := by
  unfold total
  induction m with
  | nil => simp
  | cons a m ih =>
    have h1 := h a (by simp)
    have h2 := ih fun r hr => h r (by simp [hr])
    simp only [List.map_cons, List.sum_cons, List.length_cons, Nat.add_mul]
    omega
theorem small_TimesMatrix_0 (m b : List (List Nat)) : cnt_Float32SS (tmF m b).1 ≤ 1099511627776 := by
  obtain ⟨h1, h2⟩ := tmF_small m b
  have := total_le h2
  unfold cnt_Float32SS
  omega
end Go.Proofs.Ytliagkijeigcaaa
