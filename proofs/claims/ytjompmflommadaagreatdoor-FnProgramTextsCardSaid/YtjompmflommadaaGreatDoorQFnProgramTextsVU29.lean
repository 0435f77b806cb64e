set_option linter.unusedSimpArgs false
set_option linter.unusedVariables false
namespace Go.Vc
def lit : Nat → Nat → Nat
 | 0, x => x
 | k + 1, x => lit k (6364136223846793005 * x + 1442695040888963407)
theorem IW : ∀ (j k x : Nat), lit (j + k) x = lit k (lit j x)
 | 0, k, x => by rw [Nat.zero_add]; rfl
 | j + 1, k, x => by rw [show j + 1 + k = (j + k) + 1 by omega]; exact IW j k _
theorem Adt : ∀ n : Nat, ∃ α β : Nat, ∀ x, lit (2 ^ n) x = x + 2 ^ n * (4 * α * x + (2 * β + 1))
 | 0 => ⟨1591034055961698251, 721347520444481703, fun x => by simp only [Nat.pow_zero, lit]; omega⟩
 | n + 1 => by
  obtain ⟨α, β, h⟩ := Adt n
  refine ⟨α * (1 + 2 * α * 2 ^ n), β + α * 2 ^ n * (2 * β + 1), fun x => ?_⟩
  rw [Nat.pow_succ, Nat.mul_two, IW, h, h]
  generalize 2 ^ n = p
  grind
def itk (g : Nat → Nat) : Nat → Nat → Nat
 | 0, x => x
 | k + 1, x => itk g k (g x)
theorem Lu (g : Nat → Nat) : ∀ (j k x : Nat), itk g (j + k) x = itk g k (itk g j x)
 | 0, k, x => by rw [Nat.zero_add]; rfl
 | j + 1, k, x => by rw [show j + 1 + k = (j + k) + 1 by omega]; exact Lu g j k (g x)
theorem AbY (g h : Nat → Nat) (m : Nat) (hg : ∀ x y, x % m = y % m → g x % m = h y % m) : ∀ (k x y : Nat), x % m = y % m → itk g k x % m = itk h k y % m
 | 0, _, _, e => e
 | k + 1, x, y, e => AbY g h m hg k _ _ (hg x y e)
theorem least {p : Nat → Prop} {b : Nat} (h : ∃ k, k ≤ b ∧ p k) : ∃ k, k ≤ b ∧ p k ∧ ∀ j, j < k → ¬ p j := by
 obtain ⟨k, hk, hp⟩ := h
 induction k using Nat.strongRecOn with
 | ind k ih =>
  by_cases hx : ∃ j, j < k ∧ p j
  ·obtain ⟨j, hj, hpj⟩ := hx
   exact ih j hj (by omega) hpj
  ·exact ⟨k, hk, hp, fun j hj hpj => hx ⟨j, hj, hpj⟩⟩
theorem AfI (g : Nat → Nat) (bad : Nat → Prop) (b : Nat) (h : ∀ x, ∃ k, k ≤ b ∧ (¬ bad (itk g (2 * k) x) ∧ ¬ bad (itk g 2 (itk g (2 * k) x)))) :
  ∃ D : Nat → Nat, ∀ x, D x ≤ b ∧ (bad x → D (itk g 2 x) < D x ∧ D (itk g 4 x) < D x) := by
 have hl := fun x => least (h x)
 have hc : ∃ E : Nat → Nat, ∀ x, E x ≤ b ∧ (¬ bad (itk g (2 * E x) x) ∧ ¬ bad (itk g 2 (itk g (2 * E x) x))) ∧ ∀ j, j < E x → ¬ (¬ bad (itk g (2 * j) x) ∧ ¬ bad (itk g 2 (itk g (2 * j) x))) :=
  ⟨fun x => Classical.choose (hl x), fun x => Classical.choose_spec (hl x)⟩
 obtain ⟨E, hE⟩ := hc
 have le : ∀ x k, (¬ bad (itk g (2 * k) x) ∧ ¬ bad (itk g 2 (itk g (2 * k) x))) → E x ≤ k := fun x k hk => by
  rcases Nat.lt_or_ge k (E x) with h' | h'
  ·exact absurd hk ((hE x).2.2 k h')
  ·exact h'
 have hD : ∃ D : Nat → Nat, ∀ x, (bad x → D x = E x) ∧ (¬ bad x → D x = 0) :=
  ⟨fun x => @ite _ (bad x) (Classical.propDecidable _) (E x) 0, fun x => ⟨fun hb => if_pos hb, fun hb => if_neg hb⟩⟩
 obtain ⟨D, hD⟩ := hD
 have dle : ∀ x, D x ≤ E x := fun x => by
  rcases Classical.em (bad x) with hb | hb
  ·rw [(hD x).1 hb]; exact Nat.le_refl _
  ·rw [(hD x).2 hb]; exact Nat.zero_le _
 refine ⟨D, fun x => ⟨Nat.le_trans (dle x) (hE x).1, fun hb => ?_⟩⟩
 rw [(hD x).1 hb]
 have he := (hE x).2.1
 have e0 : E x ≠ 0 := fun h0 => by
  rw [h0] at he
  exact he.1 hb
 obtain ⟨n, hn⟩ : ∃ n, E x = n + 1 := ⟨E x - 1, by omega⟩
 rw [hn] at he ⊢
 constructor
 ·have := le (itk g 2 x) n (by rw [← Lu, show 2 + 2 * n = 2 * (n + 1) by omega]; exact he)
  have := dle (itk g 2 x)
  omega
 ·cases n with
  | zero =>
   have : ¬ bad (itk g 4 x) := by
    have h2 := he.2
    rw [← Lu] at h2
    exact h2
   rw [(hD _).2 this]; omega
  | succ n =>
   have := le (itk g 4 x) n (by rw [← Lu, show 4 + 2 * n = 2 * (n + 1 + 1) by omega]; exact he)
   have := dle (itk g 4 x)
   omega
theorem AfZ : ∀ k x : Nat, lit k x = itk (fun x => 6364136223846793005 * x + 1442695040888963407) k x
 | 0, _ => rfl
 | k + 1, x => AfZ k (6364136223846793005 * x + 1442695040888963407)
end Go.Vc
