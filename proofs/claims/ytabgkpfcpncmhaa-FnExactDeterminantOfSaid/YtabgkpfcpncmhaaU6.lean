/- One digit of a quotient, guessed from the two highest digits of the divisor. -/
import Derived.Test.YtabgkpfcpncmhaaU1
set_option linter.unusedVariables false
namespace Go.Vc

structure Gs (B P V v1 v2 vl U head r2 ul : Nat) : Prop where
  hV : V = (v1 * B + v2) * P + vl
  hU : U = (head * B + r2) * P + ul
  pP : 0 < P
  v1p : 0 < v1
  v2B : v2 < B
  vlP : vl < P
  r2B : r2 < B
  ulP : ul < P
  lt : U < V * B
namespace Gs
variable {B P V v1 v2 vl U head r2 ul : Nat} (h : Gs B P V v1 v2 vl U head r2 ul)
include h
theorem Vpos : 0 < V := by
  have := h.hV; have := h.pP; have := h.v1p; have := h.v2B
  have h1 : 0 < (v1 * B + v2) * P := Nat.mul_pos (by
    have : 0 < v1 * B := Nat.mul_pos h.v1p (by omega)
    omega) h.pP
  omega
theorem BP_le : B * P ≤ V := by
  have h1 : 1 * B ≤ v1 * B := Nat.mul_le_mul_right _ h.v1p
  have h2 : B * P ≤ (v1 * B + v2) * P := Nat.mul_le_mul_right _ (by omega)
  rw [h.hV]; omega
theorem q_lt : U / V < B := by
  rw [Nat.div_lt_iff_lt_mul h.Vpos, Nat.mul_comm]; exact h.lt
theorem start : U / V ≤ head / v1 := by
  rw [Nat.le_div_iff_mul_le h.v1p]
  have h1 := Nat.div_mul_le_self U V
  have h2 := h.hV
  have h3 := h.hU
  generalize U / V = q at *
  rw [← Nat.not_lt]
  intro hc
  have h4 : (head + 1) * (B * P) ≤ q * v1 * (B * P) := Nat.mul_le_mul_right _ hc
  have h5 : q * (v1 * B * P) ≤ q * V := Nat.mul_le_mul_left _ (by
    rw [h2, Nat.add_mul]; omega)
  have h6 : U < (head * B + B) * P := by
    have a : (head * B + r2 + 1) * P ≤ (head * B + B) * P := Nat.mul_le_mul_right _ (by have := h.r2B; omega)
    rw [Nat.add_mul (head * B + r2) 1 P, Nat.one_mul] at a
    have := h.ulP
    omega
  grind
theorem down {g left : Nat} (hq : U / V ≤ g) (hl : left + g * v1 = head) (ht : B ≤ g ∨ left * B + r2 < g * v2) : U / V ≤ g - 1 := by
  have hqB := h.q_lt
  rcases ht with ht | ht
  · omega
  · have h1 := Nat.div_mul_le_self U V
    have h2 := h.hV
    have h3 := h.hU
    have h7 := h.ulP
    refine Classical.byContradiction fun hc => ?_
    have hg : U / V = g := by omega
    rw [hg] at h1
    have h4 : g * ((v1 * B + v2) * P) ≤ g * V := Nat.mul_le_mul_left _ (by omega)
    have h5 : (left * B + r2 + 1) * P ≤ g * v2 * P := Nat.mul_le_mul_right _ ht
    subst hl
    grind
theorem near {g left : Nat} (hl : left + g * v1 = head) (hg : g < B) (ht : g * v2 ≤ left * B + r2) : g ≤ U / V + 1 := by
  have h1 := h.hV
  have h3 := h.hU
  have hV := h.Vpos
  have h2 := Nat.lt_div_mul_add (a := U) hV
  refine Nat.lt_succ_iff.1 (Classical.byContradiction fun hc => ?_)
  have h4 : (U / V + 1 + 1) * V ≤ g * V := Nat.mul_le_mul_right _ (by omega)
  have h5 : g * v2 * P ≤ (left * B + r2) * P := Nat.mul_le_mul_right _ ht
  have h6 : g * vl ≤ B * P := Nat.mul_le_mul (by omega) (Nat.le_of_lt h.vlP)
  have h7 := h.BP_le
  have h8 : g * V = g * (v1 * B) * P + g * v2 * P + g * vl := by rw [h1]; grind
  have h9 : U = left * B * P + g * v1 * B * P + r2 * P + ul := by rw [h3, ← hl]; grind
  grind
theorem past {g left : Nat} (hl : left + g * v1 = head) (ht : B ≤ left) : g ≤ U / V := by
  have h1 := h.hV
  have h3 := h.hU
  have hV := h.Vpos
  rw [Nat.le_div_iff_mul_le hV]
  have hgB : g < B := by
    have a : U < V * B := h.lt
    refine Classical.byContradiction fun hc => ?_
    have b : B * V ≤ g * V := Nat.mul_le_mul_right _ (by omega)
    have c : g * V ≤ (g * v1 + g) * (B * P) := by
      rw [h1, ← Nat.mul_succ, Nat.mul_assoc]
      refine Nat.mul_le_mul_left _ ?_
      have d : (v1 * B + v2 + 1) * P ≤ (v1 * B + B) * P := Nat.mul_le_mul_right _ (by have := h.v2B; omega)
      have := h.vlP
      have e : (v1 * B + B) * P = v1.succ * (B * P) := by rw [Nat.succ_mul]; grind
      rw [← e]
      rw [Nat.add_mul (v1 * B + v2), Nat.one_mul] at d
      omega
    -- head B P ≤ U < V B ≤ (v1 + 1) B P B, so head < (v1 + 1) B
    have d : head * (B * P) ≤ U := by rw [h3]; grind
    have e : V ≤ (v1 + 1) * (B * P) := by
      have d : (v1 * B + v2 + 1) * P ≤ (v1 * B + B) * P := Nat.mul_le_mul_right _ (by have := h.v2B; omega)
      have := h.vlP
      have e : (v1 * B + B) * P = (v1 + 1) * (B * P) := by grind
      rw [h1, ← e]
      rw [Nat.add_mul (v1 * B + v2), Nat.one_mul] at d
      omega
    have f : V * B ≤ (v1 + 1) * (B * P) * B := Nat.mul_le_mul_right _ e
    have i : head * (B * P) < (v1 + 1) * B * (B * P) := by grind
    have j : head < (v1 + 1) * B := Nat.lt_of_mul_lt_mul_right i
    have k : B * v1 ≤ g * v1 := Nat.mul_le_mul_right _ (by omega)
    grind
  have h4 : g * v2 + g ≤ B * B := by
    rw [← Nat.mul_succ]
    exact Nat.mul_le_mul (by omega) h.v2B
  have h5 : g * V ≤ g * (v1 * B) * P + (g * v2 + g) * P := by
    have a : g * vl ≤ g * P := Nat.mul_le_mul_left _ (Nat.le_of_lt h.vlP)
    rw [h1]; grind
  have h6 : (g * v2 + g) * P ≤ B * B * P := Nat.mul_le_mul_right _ h4
  have h7 : B * B * P ≤ left * B * P := Nat.mul_le_mul_right _ (Nat.mul_le_mul_right _ ht)
  have h9 : U = left * B * P + g * v1 * B * P + r2 * P + ul := by rw [h3, ← hl]; grind
  have h10 : g * (v1 * B) * P = g * v1 * B * P := by grind
  omega
end Gs
end Go.Vc
