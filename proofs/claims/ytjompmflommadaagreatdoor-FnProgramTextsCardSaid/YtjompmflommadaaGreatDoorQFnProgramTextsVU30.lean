import Derived.Test.YtjompmflommadaaGreatDoorQFnProgramTextsVU29
set_option linter.unusedSimpArgs false
set_option linter.unusedVariables false
namespace Go.Vc
theorem AiQ (x y : Nat) (e : x % 2 ^ 57 = y % 2 ^ 57) : ((6364136223846793005 * x + 1442695040888963407) % 2 ^ 64) % 2 ^ 57 = (6364136223846793005 * y + 1442695040888963407) % 2 ^ 57 := by
 have d : (2 : Nat) ^ 57 ∣ 2 ^ 64 := ⟨2 ^ 7, by decide⟩
 rw [Nat.mod_mod_of_dvd _ d, Nat.add_mod, Nat.mul_mod, e, ← Nat.mul_mod, ← Nat.add_mod]
end Go.Vc
namespace Go.Vc
def nxt (s : Nat) : Nat := (6364136223846793005 * s + 1442695040888963407) % 2 ^ 64
def shw (s : Nat) : Nat := s / 2 ^ 33 % 2 ^ 24
theorem AiD (x y : Nat) (e : x % 2 ^ 57 = y % 2 ^ 57) : shw x = shw y := by
 have h : ∀ z : Nat, shw z = z % 2 ^ 57 / 2 ^ 33 := fun z => by
  unfold shw
  rw [show (2 : Nat) ^ 57 = 2 ^ 33 * 2 ^ 24 from by decide, Nat.mod_mul_right_div_self]
 rw [h, h, e]
end Go.Vc
