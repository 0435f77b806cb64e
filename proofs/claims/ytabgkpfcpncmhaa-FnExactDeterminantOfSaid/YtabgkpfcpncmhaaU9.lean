/- Long division, digit by digit: the plain law. -/
import Derived.Test.YtabgkpfcpncmhaaU6
set_option linter.unusedVariables false
namespace Go.Vc

theorem msub_step {V' V'' R g bk Pi p pk c be be' t y o d Bs : Nat} (hp : p = Pi * pk) (hv : V' + g * bk * Pi = R + (c + be) * p) (ht : t = c + g * y) (hd : d + t % Bs + be = o + be' * Bs) (hq : V'' + p * o = V' + p * d) :
    V'' + g * (bk + pk * y) * Pi = R + (t / Bs + be') * (p * Bs) := by
  have h := Nat.div_add_mod t Bs
  have h2 : p * (Bs * (t / Bs) + t % Bs) = p * (c + g * y) := by rw [h, ht]
  have h3 : p * (d + t % Bs + be) = p * (o + be' * Bs) := by rw [hd]
  subst hp
  grind
theorem madd_step {V' V'' R bk Pi p pk m s y o Bs : Nat} (hp : p = Pi * pk) (hv : V' + m * p = R + bk * Pi) (hs : s = m + o + y) (hq : V'' + p * o = V' + p * (s % Bs)) :
    V'' + s / Bs * (p * Bs) = R + (bk + pk * y) * Pi := by
  have h := Nat.div_add_mod s Bs
  have h2 : p * (Bs * (s / Bs) + s % Bs) = p * (m + o + y) := by rw [h, hs]
  subst hp
  grind
/-- The window and the quotient's digit. -/
theorem win_bounds {X low Pi U V : Nat} (hX : X = low + Pi * U) (hl : low < Pi) (hV : 0 < V) : U / V * (V * Pi) ≤ X ∧ X < U / V * (V * Pi) + V * Pi := by
  have h1 := Nat.div_mul_le_self U V
  have h2 := Nat.lt_div_mul_add (a := U) hV
  generalize U / V = q at *
  have h3 : q * V * Pi ≤ U * Pi := Nat.mul_le_mul_right _ h1
  have h4 : (U + 1) * Pi ≤ (q * V + V) * Pi := Nat.mul_le_mul_right _ h2
  constructor <;> grind
theorem digit_eq {X Y G T q be : Nat} (h1 : q * G ≤ X) (hY : Y < T) (hv : Y + q * G = X + be * T) : be = 0 := by
  rcases Nat.eq_zero_or_pos be with h | h
  · exact h
  · have : 1 * T ≤ be * T := Nat.mul_le_mul_right _ h
    omega
theorem digit_past {X Y G T q be : Nat} (h2 : X < q * G + G) (hv : Y + (q + 1) * G = X + be * T) : 0 < be := by
  rcases Nat.eq_zero_or_pos be with h | h
  · subst h
    rw [Nat.succ_mul] at hv
    omega
  · exact h
theorem digit_back {X Y Z G T q m : Nat} (h1 : q * G ≤ X) (h2 : X < q * G + G) (hG : G ≤ T) (hv : Y + (q + 1) * G = X + 1 * T) (hz : Z + m * T = Y + G) (hZ : Z < T) : Z + q * G = X := by
  rw [Nat.succ_mul] at hv
  have e : Z + m * T + q * G = X + T := by omega
  rcases m with _ | m
  · omega
  · rcases m with _ | m
    · omega
    · have : (m + 2) * T = m * T + 2 * T := by grind
      have : (m + 1 + 1) * T = m * T + 2 * T := by grind
      omega
theorem div_next {X X' V Pi q A Q : Nat} (h : X' + q * (V * Pi) = X) (hA : X + V * Q = A) : X' + V * (Q + Pi * q) = A := by grind
theorem div_end {A Bv X Q S : Nat} (hS : 0 < S) (h : X + Bv * S * Q = A * S) (hX : X < Bv * S) : Q = A / Bv ∧ X = A % Bv * S := by
  have hB : 0 < Bv := by
    rcases Nat.eq_zero_or_pos Bv with h0 | h0
    · subst h0; simp at hX
    · exact h0
  have e : A * S = X + Bv * S * Q := h.symm
  have h1 : A * S / (Bv * S) = A / Bv := Nat.mul_div_mul_right _ _ hS
  have h2 : A * S % (Bv * S) = A % Bv * S := Nat.mul_mod_mul_right _ _ _
  rw [e] at h1 h2
  rw [Nat.add_mul_div_left _ _ (Nat.mul_pos hB hS), Nat.div_eq_of_lt hX, Nat.zero_add] at h1
  rw [Nat.add_mul_mod_self_left, Nat.mod_eq_of_lt hX] at h2
  exact ⟨h1, h2⟩
theorem val_zero {b : Nat} : ∀ {l : List Nat}, (∀ d ∈ l, d = 0) → val b l = 0
  | [], _ => rfl
  | d :: l, h => by
    have h1 := h d List.mem_cons_self
    have h2 := val_zero (b := b) (l := l) fun x hx => h x (List.mem_cons_of_mem _ hx)
    simp only [val, h1, h2]; omega
end Go.Vc
