import Derived.Test.YtjompmflommadaaGreatDoorQFnProgramTextsVU1
import Derived.Test.YtjompmflommadaaGreatDoorQFnProgramTextsVVcS
set_option linter.unusedSimpArgs false
set_option linter.unusedVariables false
namespace Go.Vc
def digB (b : UInt8) : Bool := decide (48 ≤ b.toNat) && decide (b.toNat ≤ 57)
def numB (l : List UInt8) : Bool := decide (l ≠ []) && l.all digB && (decide (l.head? ≠ some 48) || decide (l.length ≤ 1))
def negB (l : List UInt8) : Bool := decide (l.head? = some 45)
def body (l : List UInt8) : List UInt8 := if negB l then l.tail else l
def isNum (l : List UInt8) : Bool := numB (body l) && !(negB l && decide (body l = [48]))
def decA (a : Nat) (l : List UInt8) : Nat := l.foldl (fun a d => a * 10 + (d.toNat - 48)) a
def decV (l : List UInt8) : Nat := decA 0 l
def numI (l : List UInt8) : Int := if negB l then -(decV (body l) : Int) else decV (body l)
theorem PD (a : Nat) (d : UInt8) (l : List UInt8) : decA a (d :: l) = decA (a * 10 + (d.toNat - 48)) l := by simp only [decA, List.foldl_cons]
theorem SX (a : Nat) (l : List UInt8) (d : UInt8) : decA a (l ++ [d]) = decA a l * 10 + (d.toNat - 48) := by simp only [decA, List.foldl_append, List.foldl_cons, List.foldl_nil]
theorem UF : ∀ (l : List UInt8) (a : Nat), decA a l = a * 10 ^ l.length + decV l
 | [], a => by simp [decA, decV]
 | d :: l, a => by
  unfold decV
  rw [PD, PD, UF l, UF l (0 * 10 + _), List.length_cons, Nat.pow_succ]
  simp only [Nat.zero_mul, Nat.zero_add, Nat.add_mul]
  have : a * 10 * 10 ^ l.length = a * (10 ^ l.length * 10) := by rw [Nat.mul_assoc, Nat.mul_comm 10]
  omega
theorem Adk {l : List UInt8} (h : l.all digB = true) : decV l < 10 ^ l.length := by
 induction l with
 | nil => simp [decV, decA]
 | cons d l ih =>
  simp only [List.all_cons, Bool.and_eq_true] at h
  have h1 := ih h.2
  have h2 : d.toNat ≤ 57 := by
   have := h.1
   simp only [digB, Bool.and_eq_true, decide_eq_true_eq] at this
   exact this.2
  unfold decV
  rw [PD, UF, List.length_cons, Nat.pow_succ]
  have : (0 * 10 + (d.toNat - 48)) * 10 ^ l.length ≤ 9 * 10 ^ l.length := Nat.mul_le_mul_right _ (by omega)
  omega
theorem YU {l : List UInt8} {n : Nat} (h : numB l = true) (hn : n + 1 ≤ l.length) (hn0 : 0 < n) : 10 ^ n ≤ decV l := by
 cases l with
 | nil => simp at hn
 | cons d l =>
  simp only [numB, Bool.and_eq_true, Bool.or_eq_true, List.all_cons, List.head?_cons, List.length_cons] at h hn
  obtain ⟨⟨_, h1, _⟩, h2⟩ := h
  simp only [digB, Bool.and_eq_true, decide_eq_true_eq] at h1
  have hd : d.toNat ≠ 48 := by
   intro e
   rcases h2 with h2 | h2
   ·exact of_decide_eq_true h2 (congrArg some (UInt8.toNat_inj.1 (by rw [e]; rfl)))
   ·have := of_decide_eq_true h2
    omega
  unfold decV
  rw [PD, UF]
  have : 1 * 10 ^ l.length ≤ (0 * 10 + (d.toNat - 48)) * 10 ^ l.length := Nat.mul_le_mul_right _ (by omega)
  have : 10 ^ n ≤ 10 ^ l.length := Nat.pow_le_pow_right (by decide) (by omega)
  omega
theorem Wb (l : List UInt8) : l.length ≤ (body l).length + 1 := by
 unfold body
 split
 ·simp; omega
 ·omega
theorem NO (l : List UInt8) : (body l).length ≤ l.length := by
 unfold body
 split
 ·simp
 ·omega
theorem Gg {l : List UInt8} (h : isNum l = true) : numB (body l) = true := by
 simp only [isNum, Bool.and_eq_true] at h; exact h.1
theorem VN (l : List UInt8) : (numI l).natAbs = decV (body l) := by unfold numI; split <;> simp
theorem ZJ {l : List UInt8} (h : isNum l = true) (h1 : -3000 ≤ numI l) (h2 : numI l ≤ 3000) : l.length ≤ 6 := by
 refine Nat.le_of_not_lt fun hc => ?_
 have hb := Wb l
 have := YU (Gg h) (n := 5) (by omega) (by decide)
 have := VN l
 omega
theorem Adh : (2 : Nat) ^ 2400 ≤ 10 ^ 798 := by decide +kernel
theorem Zv {l : List UInt8} (h : isNum l = true) (h1 : bl (numI l).natAbs ≤ 2400) : l.length ≤ 800 := by
 refine Nat.le_of_not_lt fun hc => ?_
 have hb := Wb l
 have h2 := YU (Gg h) (n := 798) (by omega) (by decide)
 rw [VN, Bf] at h1
 have := Adh
 omega
theorem AfO {l : List UInt8} (h : l.all digB = true) (k : Nat) : bl (decV (l.take k)) ≤ 4 * l.length := by
 rw [Bf]
 have h1 : (l.take k).all digB = true := by
  rw [List.all_eq_true] at h ⊢
  exact fun x hx => h x (List.mem_of_mem_take hx)
 have h2 := Adk h1
 have h3 : (10 : Nat) ^ (l.take k).length ≤ 16 ^ l.length := Nat.le_trans (Nat.pow_le_pow_left (by decide) _) (Nat.pow_le_pow_right (by decide) (by rw [List.length_take]; omega))
 have h4 : (16 : Nat) ^ l.length = 2 ^ (4 * l.length) := by rw [Nat.pow_mul]
 omega
def isDyB (m e : Int) : Bool := decide (bl m.natAbs ≤ 2400) && decide (-3000 ≤ e) && decide (e ≤ 3000) && (decide (m = 0 ∧ e = 0) || decide (m % 2 = 1))
def cut1 (l : List UInt8) : List UInt8 := l.takeWhile fun x => x != 112
def cut2 (l : List UInt8) : List UInt8 := (l.dropWhile fun x => x != 112).tail
def parseD (l : List UInt8) : Option (Int × Int) :=
 if l.contains 112 && isNum (cut1 l) && isNum (cut2 l) && isDyB (numI (cut1 l)) (numI (cut2 l)) then some (numI (cut1 l), numI (cut2 l)) else none
theorem AeZ {a b : List UInt8} (h : 112 ∉ a) : cut1 (a ++ 112 :: b) = a ∧ cut2 (a ++ 112 :: b) = b := by
 have h1 : ∀ x ∈ a, (x != 112) = true := fun x hx => by
  have : x ≠ 112 := fun e => h (by rw [← e]; exact hx)
  simpa using this
 constructor
 ·unfold cut1
  rw [List.takeWhile_append_of_pos h1]
  simp
 ·unfold cut2
  rw [List.dropWhile_append_of_pos h1]
  simp
theorem AaW {a b : List UInt8} (h : 112 ∉ a) : parseD (a ++ 112 :: b) = if isNum a && isNum b && isDyB (numI a) (numI b) then some (numI a, numI b) else none := by
 obtain ⟨h1, h2⟩ := AeZ (b := b) h
 unfold parseD
 rw [h1, h2]
 simp
theorem W5 {l : List UInt8} (h : 112 ∉ l) : parseD l = none := by
 unfold parseD
 have : l.contains 112 = false := by simpa using h
 rw [this]; rfl
theorem WN {l : List UInt8} {m e : Int} (h : parseD l = some (m, e)) : isDyB m e = true := by
 unfold parseD at h
 split at h
 ·rename_i hc
  simp only [Option.some.injEq, Prod.mk.injEq] at h
  obtain ⟨rfl, rfl⟩ := h
  simp only [Bool.and_eq_true] at hc
  exact hc.2
 ·cases h
theorem AcL {m e : Int} (h : isDyB m e = true) : Canon m e := by
 simp only [isDyB, Bool.and_eq_true, Bool.or_eq_true, decide_eq_true_eq] at h
 exact h.2
theorem AaL {m e : Int} (h : isDyB m e = true) : Bd 3000 5400 m e := by
 simp only [isDyB, Bool.and_eq_true, Bool.or_eq_true, decide_eq_true_eq] at h
 exact ⟨by omega, by omega, fun _ => by omega⟩
end Go.Vc
