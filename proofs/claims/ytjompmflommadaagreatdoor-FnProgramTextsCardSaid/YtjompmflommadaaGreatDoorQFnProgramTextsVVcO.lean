import Derived.Test.YtjompmflommadaaGreatDoorQFnProgramTextsVVcE
set_option linter.unusedSimpArgs false
set_option linter.unusedVariables false
namespace Go.Vc
open Go
variable {w : World}
theorem orJ {a : Bool} {C : Value → World → Prop} {A : (Value → World → Prop) → Prop} (h1 : a = true → C (.bool true) w) (h2 : a = false → A C) :
  ∃ J : Value → World → Prop, (∀ (x : Value) (junk : Env) (w' : World), J x w' → pick (.bool a) (.bool true) x fun r => C r w') ∧ grd (.bool a) false (A J) (J undef w) := by
 cases a
 ·exact ⟨C, fun x _ w' h => h, h2 rfl⟩
 ·exact ⟨fun _ w' => w' = w, fun x _ w' h => by subst h; exact h1 rfl, rfl⟩
theorem andJ {a : Bool} {C : Value → World → Prop} {A : (Value → World → Prop) → Prop} (h1 : a = true → A C) (h2 : a = false → C (.bool false) w) :
  ∃ J : Value → World → Prop, (∀ (x : Value) (junk : Env) (w' : World), J x w' → pick (.bool a) x (.bool false) fun r => C r w') ∧ grd (.bool a) true (A J) (J undef w) := by
 cases a
 ·exact ⟨fun _ w' => w' = w, fun x _ w' h => by subst h; exact h2 rfl, rfl⟩
 ·exact ⟨C, fun x _ w' h => h, h1 rfl⟩
@[simp] theorem IZ (b : Bool) (A B : Prop) : grd undef b A B = B := rfl
end Go.Vc
