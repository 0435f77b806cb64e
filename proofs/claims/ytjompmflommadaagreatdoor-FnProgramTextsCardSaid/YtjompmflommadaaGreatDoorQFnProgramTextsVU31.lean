import Derived.Test.YtjompmflommadaaGreatDoorQFnProgramTextsVU30
set_option linter.unusedSimpArgs false
set_option linter.unusedVariables false
namespace Go.Vc
theorem AhQ {α β p : Nat} (hp : 0 < p) (hd : ∀ x, lit p x = x + p * (4 * α * x + (2 * β + 1))) (x : Nat) :
  4 * α * (6364136223846793005 * x + 1442695040888963407) + (2 * β + 1) = 6364136223846793005 * (4 * α * x + (2 * β + 1)) := by
 have h1 : lit (1 + p) x = lit p (lit 1 x) := IW 1 p x
 have h2 : lit (p + 1) x = lit 1 (lit p x) := IW p 1 x
 rw [Nat.add_comm] at h1
 have h3 := h1.symm.trans h2
 rw [hd x, hd (lit 1 x)] at h3
 simp only [lit] at h3
 refine Nat.eq_of_mul_eq_mul_left hp ?_
 generalize 6364136223846793005 = a at *
 grind
theorem Yy {α β p s : Nat} (hs : p = 2 ^ 24 * s) (hd : ∀ x, lit p x = x + p * (4 * α * x + (2 * β + 1))) (x : Nat) :
  ∀ i : Nat, ∃ q, lit (i * p) x = x + p * (i * (4 * α * x + (2 * β + 1)) + 2 ^ 24 * q)
 | 0 => ⟨0, by rw [Nat.zero_mul]; simp [lit]⟩
 | i + 1 => by
  obtain ⟨q, h⟩ := Yy hs hd x i
  rw [Nat.succ_mul, IW, hd, h]
  refine ⟨q + 4 * α * s * (i * (4 * α * x + (2 * β + 1)) + 2 ^ 24 * q), ?_⟩
  subst hs
  generalize (2 : Nat) ^ 24 = c
  grind
theorem Adg : ∀ n : Nat, ∃ γ : Nat, (6364136223846793005 * 6364136223846793005) ^ (2 ^ n) = 1 + 2 ^ (n + 3) * (2 * γ + 1)
 | 0 => ⟨(6364136223846793005 * 6364136223846793005 - 9) / 16, by decide⟩
 | n + 1 => by
  obtain ⟨γ, h⟩ := Adg n
  rw [Nat.pow_succ, Nat.mul_two, Nat.pow_add, h, show n + 1 + 3 = (n + 3) + 1 by omega, Nat.pow_succ 2 (n + 3), show n + 3 = n + 2 + 1 by omega, Nat.pow_succ 2 (n + 2), Nat.pow_succ 2 (n + 1)]
  refine ⟨γ + 2 ^ (n + 1) * (2 * γ + 1) * (2 * γ + 1), ?_⟩
  generalize 2 ^ (n + 1) = p
  grind
theorem Zp (u t : Nat) (hu : u % 2 = 1) (h8 : u % 8 = t % 8) : ∀ n : Nat, ∃ m, m < 2 ^ n ∧ (6364136223846793005 * 6364136223846793005) ^ m * u % 2 ^ (n + 3) = t % 2 ^ (n + 3)
 | 0 => ⟨0, by decide, by rw [Nat.pow_zero, Nat.one_mul]; exact h8⟩
 | n + 1 => by
  obtain ⟨m, hm, he⟩ := Zp u t hu h8 n
  have hp := Nat.two_pow_pos (n + 3)
  have e1 : ∀ y : Nat, y % 2 ^ (n + 3 + 1) = y % 2 ^ (n + 3) + 2 ^ (n + 3) * (y / 2 ^ (n + 3) % 2) := fun y => by rw [Nat.pow_succ, Nat.mod_mul]
  have hodd : ∀ m : Nat, (6364136223846793005 * 6364136223846793005) ^ m * u % 2 = 1 := fun m => by
   rw [Nat.mul_mod, Nat.pow_mod, hu]
   simp
  rw [show n + 1 + 3 = n + 3 + 1 by omega]
  by_cases h : (6364136223846793005 * 6364136223846793005) ^ m * u / 2 ^ (n + 3) % 2 = t / 2 ^ (n + 3) % 2
  ·exact ⟨m, by rw [Nat.pow_succ]; omega, by rw [e1, e1, he, h]⟩
  ·refine ⟨m + 2 ^ n, by rw [Nat.pow_succ]; omega, ?_⟩
   obtain ⟨γ, hd⟩ := Adg n
   rw [Nat.pow_add, hd]
   have ho := hodd m
   generalize hh : (6364136223846793005 * 6364136223846793005) ^ m = y0 at *
   rw [show y0 * (1 + 2 ^ (n + 3) * (2 * γ + 1)) * u = (y0 * u) * (1 + 2 ^ (n + 3) * (2 * γ + 1)) by rw [Nat.mul_right_comm]]
   generalize y0 * u = y at *
   obtain ⟨z, hz⟩ : ∃ z, y = 2 * z + 1 := ⟨y / 2, by omega⟩
   have e2 : y * (1 + 2 ^ (n + 3) * (2 * γ + 1)) = (y + 2 ^ (n + 3)) + 2 ^ (n + 3) * 2 * (γ * y + z) := by
    rw [hz]
    generalize 2 ^ (n + 3) = p
    grind
   rw [e2, show 2 ^ (n + 3 + 1) = 2 ^ (n + 3) * 2 from Nat.pow_succ .., Nat.add_mul_mod_self_left, ← Nat.pow_succ, e1, e1, ← he, Nat.add_mod_right, Nat.add_div_right _ hp]
   congr 2
   omega
theorem seven {X D : Nat} (hX : X < 2 ^ 24) (hD : 6 * D < 2 ^ 24) : ∃ w, w < 8 ∧ ∀ i, i < 7 → (X + i * D) % 2 ^ 24 % 3 = (X % 3 + i * (D % 3) + (if w ≤ i then 2 else 0)) % 3 := by
 have hex : ∃ w, w ≤ 7 ∧ (w = 7 ∨ 2 ^ 24 ≤ X + w * D) := ⟨7, Nat.le_refl _, .inl rfl⟩
 obtain ⟨w, hw, h1, h2⟩ := least hex
 refine ⟨w, by omega, fun i hi => ?_⟩
 have hm : i * D ≤ 6 * D := Nat.mul_le_mul_right D (by omega)
 have h3 : i * D % 3 = i * (D % 3) % 3 := by rw [Nat.mul_mod, Nat.mul_mod i (D % 3), Nat.mod_mod]
 split
 ·rename_i hwi
  have h4 : 2 ^ 24 ≤ X + i * D := by
   rcases h1 with h1 | h1
   ·omega
   ·have : w * D ≤ i * D := Nat.mul_le_mul_right D hwi
    omega
  generalize i * D = Y at *
  generalize i * (D % 3) = Z at *
  omega
 ·rename_i hwi
  have h4 := h2 i (by omega)
  have h5 : X + i * D < 2 ^ 24 := by
   rcases Nat.lt_or_ge (X + i * D) (2 ^ 24) with h | h
   ·exact h
   ·exact absurd (.inr h) h4
  generalize i * D = Y at *
  generalize i * (D % 3) = Z at *
  omega
def sevenB : Bool := (List.range 3).all fun x => (List.range 3).all fun d => d == 0 || (List.range 8).all fun w => (List.range 3).all fun x' => (List.range 3).all fun d' => d' == 0 || (List.range 8).all fun w' =>
 (List.range 7).any fun i => decide ((x + i * d + (if w ≤ i then 2 else 0)) % 3 ≠ 0 ∧ (x' + i * d' + (if w' ≤ i then 2 else 0)) % 3 ≠ 0)
theorem Acv : sevenB = true := by decide +kernel
theorem Af0 {x d w x' d' w' : Nat} (h1 : x < 3) (h2 : d < 3) (h3 : d ≠ 0) (h4 : w < 8) (h1' : x' < 3) (h2' : d' < 3) (h3' : d' ≠ 0) (h4' : w' < 8) :
  ∃ i, i < 7 ∧ (x + i * d + (if w ≤ i then 2 else 0)) % 3 ≠ 0 ∧ (x' + i * d' + (if w' ≤ i then 2 else 0)) % 3 ≠ 0 := by
 have h := Acv
 unfold sevenB at h
 have h := List.all_eq_true.1 h x (List.mem_range.2 h1)
 have h := List.all_eq_true.1 h d (List.mem_range.2 h2)
 have h := (Bool.or_eq_true_iff.1 h).resolve_left (by simpa using h3)
 have h := List.all_eq_true.1 h w (List.mem_range.2 h4)
 have h := List.all_eq_true.1 h x' (List.mem_range.2 h1')
 have h := List.all_eq_true.1 h d' (List.mem_range.2 h2')
 have h := (Bool.or_eq_true_iff.1 h).resolve_left (by simpa using h3')
 have h := List.all_eq_true.1 h w' (List.mem_range.2 h4')
 obtain ⟨i, hi, h⟩ := List.any_eq_true.1 h
 exact ⟨i, List.mem_range.1 hi, of_decide_eq_true h⟩
theorem Aej {X D X' D' : Nat} (hX : X < 2 ^ 24) (hD : 6 * D < 2 ^ 24) (h3 : D % 3 ≠ 0) (hX' : X' < 2 ^ 24) (hD' : 6 * D' < 2 ^ 24) (h3' : D' % 3 ≠ 0) :
  ∃ i, i < 7 ∧ (X + i * D) % 2 ^ 24 % 3 ≠ 0 ∧ (X' + i * D') % 2 ^ 24 % 3 ≠ 0 := by
 obtain ⟨w, hw, h⟩ := seven hX hD
 obtain ⟨w', hw', h'⟩ := seven hX' hD'
 obtain ⟨i, hi, a, b⟩ := Af0 (x := X % 3) (d := D % 3) (x' := X' % 3) (d' := D' % 3) (by omega) (by omega) h3 hw (by omega) (by omega) h3' hw'
 exact ⟨i, hi, by rw [h i hi]; exact a, by rw [h' i hi]; exact b⟩
theorem four {e : Nat} (h : e % 2 = 1) : ∃ t, e % 8 = t % 8 ∧ 6 * (t % 2 ^ 24) < 2 ^ 24 ∧ t % 2 ^ 24 % 3 ≠ 0 ∧ 6 * (6364136223846793005 * 6364136223846793005 * t % 2 ^ 24) < 2 ^ 24 ∧ 6364136223846793005 * 6364136223846793005 * t % 2 ^ 24 % 3 ≠ 0 := by
 have : e % 8 = 1 ∨ e % 8 = 3 ∨ e % 8 = 5 ∨ e % 8 = 7 := by omega
 rcases this with h | h | h | h
 ·exact ⟨25, by rw [h], by decide, by decide, by decide, by decide⟩
 ·exact ⟨451, by rw [h], by decide, by decide, by decide, by decide⟩
 ·exact ⟨157, by rw [h], by decide, by decide, by decide, by decide⟩
 ·exact ⟨239, by rw [h], by decide, by decide, by decide, by decide⟩
theorem AbF {z p i e q : Nat} (hp : p = 2 ^ 33) : shw (z + p * (i * e + 2 ^ 24 * q)) = (shw z + i * (e % 2 ^ 24)) % 2 ^ 24 := by
 unfold shw
 rw [hp, Nat.add_mul_div_left _ _ (by decide), ← Nat.add_assoc, Nat.add_mul_mod_self_left]
 have h1 : i * (e % 2 ^ 24) % 2 ^ 24 = i * e % 2 ^ 24 := by rw [Nat.mul_mod, Nat.mod_mod, ← Nat.mul_mod]
 generalize z / 2 ^ 33 = A at *
 generalize i * (e % 2 ^ 24) = B at *
 generalize i * e = C at *
 omega
theorem AiK {a e : Nat} (ha : a % 2 = 1) (he : e % 2 = 1) : a * e % 2 = 1 := by rw [Nat.mul_mod, ha, he]
theorem Ahq (n : Nat) (hn : 2 ^ n = 2 ^ 33) (x : Nat) : ∃ m i, m < 2 ^ 21 ∧ i < 7 ∧ shw (lit (2 * m + i * 2 ^ n + 1) x) % 3 ≠ 0 ∧ shw (lit (2 * m + i * 2 ^ n + 3) x) % 3 ≠ 0 := by
 obtain ⟨α, β, hd⟩ := Adt n
 have hp := Nat.two_pow_pos n
 have hs : 2 ^ n = 2 ^ 24 * 2 ^ 9 := by rw [hn]
 generalize 2 ^ n = p at *
 have hE : ∀ k x, 4 * α * lit k x + (2 * β + 1) = 6364136223846793005 ^ k * (4 * α * x + (2 * β + 1)) := by
  intro k
  induction k with
  | zero => intro x; rw [Nat.pow_zero, Nat.one_mul]; rfl
  | succ k ih => intro x; rw [show lit (k + 1) x = lit k (6364136223846793005 * x + 1442695040888963407) from rfl, ih, AhQ hp hd, Nat.pow_succ, Nat.mul_assoc (6364136223846793005 ^ k)]
 have ho : (4 * α * x + (2 * β + 1)) % 2 = 1 := by
  have : 4 * α * x = 2 * (2 * α * x) := by grind
  omega
 have ho1 : 6364136223846793005 * (4 * α * x + (2 * β + 1)) % 2 = 1 := AiK (by decide) ho
 obtain ⟨t, h8, t1, t2, t3, t4⟩ := four ho1
 obtain ⟨m, hm, hmt⟩ := Zp _ t ho1 h8 21
 have e1 : 4 * α * lit (2 * m + 1) x + (2 * β + 1) = (6364136223846793005 * 6364136223846793005) ^ m * (6364136223846793005 * (4 * α * x + (2 * β + 1))) := by
  rw [hE, Nat.pow_succ, Nat.pow_mul, Nat.pow_two, Nat.mul_assoc]
 have e3 : 4 * α * lit (2 * m + 3) x + (2 * β + 1) = 6364136223846793005 * 6364136223846793005 * ((6364136223846793005 * 6364136223846793005) ^ m * (6364136223846793005 * (4 * α * x + (2 * β + 1)))) := by
  rw [← e1, show 2 * m + 3 = (2 * m + 1) + 2 by omega, IW, hE, Nat.pow_two]
 have d1 : (4 * α * lit (2 * m + 1) x + (2 * β + 1)) % 2 ^ 24 = t % 2 ^ 24 := by rw [e1]; exact hmt
 have d3 : (4 * α * lit (2 * m + 3) x + (2 * β + 1)) % 2 ^ 24 = 6364136223846793005 * 6364136223846793005 * t % 2 ^ 24 := by
  rw [e3, Nat.mul_mod, hmt, ← Nat.mul_mod]
 have lt : ∀ z, shw z < 2 ^ 24 := fun z => Nat.mod_lt _ (by decide)
 obtain ⟨i, hi, a, b⟩ := Aej (lt (lit (2 * m + 1) x)) t1 t2 (lt (lit (2 * m + 3) x)) t3 t4
 refine ⟨m, i, hm, hi, ?_, ?_⟩
 ·obtain ⟨q, hq⟩ := Yy hs hd (lit (2 * m + 1) x) i
  rw [show 2 * m + i * p + 1 = (2 * m + 1) + i * p by omega, IW, hq, AbF hn, d1]
  exact a
 ·obtain ⟨q, hq⟩ := Yy hs hd (lit (2 * m + 3) x) i
  rw [show 2 * m + i * p + 3 = (2 * m + 3) + i * p by omega, IW, hq, AbF hn, d3]
  exact b
theorem Aho (g : Nat → Nat) (bad : Nat → Prop) (hg : ∀ x y, x % 2 ^ 57 = y % 2 ^ 57 → g x % 2 ^ 57 = (6364136223846793005 * y + 1442695040888963407) % 2 ^ 57)
  (hb : ∀ x, bad x → shw (g x) % 3 = 0) : ∃ D : Nat → Nat, ∀ x, D x ≤ 2 ^ 36 ∧ (bad x → D (itk g 2 x) < D x ∧ D (itk g 4 x) < D x) := by
 refine AfI g bad _ fun x => ?_
 obtain ⟨n, hn⟩ : ∃ n : Nat, n = 33 := ⟨33, rfl⟩
 have hn' : (2 : Nat) ^ n = 2 ^ 33 := by rw [hn]
 obtain ⟨m, i, hm, hi, a, b⟩ := Ahq n hn' x
 obtain ⟨c, hc, hc'⟩ : ∃ c, 2 ^ n = 2 * c ∧ c = 2 ^ 32 := ⟨2 ^ 32, by rw [hn'], rfl⟩
 have gg : ∀ k z, itk g k z % 2 ^ 57 = lit k z % 2 ^ 57 := fun k z => by
  rw [AfZ]
  exact AbY g (fun x => 6364136223846793005 * x + 1442695040888963407) (2 ^ 57) hg k z z rfl
 have gs : ∀ k z, shw (itk g k z) = shw (lit k z) := fun k z => AiD _ _ (gg k z)
 have e : 2 * m + i * 2 ^ n = 2 * (m + i * c) := by rw [hc]; grind
 rw [e] at a b
 have one : ∀ z, g z = itk g 1 z := fun z => rfl
 refine ⟨m + i * c, ?_, fun h => a ?_, fun h => b ?_⟩
 ·have : i * c ≤ 6 * c := Nat.mul_le_mul_right c (by omega)
  rw [hc'] at this ⊢
  have h36 : (2 : Nat) ^ 36 = 68719476736 := by decide
  have h21 : (2 : Nat) ^ 21 = 2097152 := by decide
  have h32 : (2 : Nat) ^ 32 = 4294967296 := by decide
  omega
 ·have := hb _ h
  rw [one, ← Lu, gs] at this
  exact this
 ·have := hb _ h
  rw [one, ← Lu, ← Lu, gs] at this
  exact this
theorem Ahz : ∃ D : Nat → Nat, ∀ x, D x ≤ 2 ^ 36 ∧ (shw (nxt x) % 3 = 0 → D (itk nxt 2 x) < D x ∧ D (itk nxt 4 x) < D x) :=
 Aho nxt (fun x => shw (nxt x) % 3 = 0) AiQ fun _ h => h
end Go.Vc
