import Derived.Test.YtjompmflommadaaGreatDoorQRunPairVVcK
import Derived.Test.YtjompmflommadaaGreatDoorQRunPairVVcL
set_option linter.unusedVariables false
namespace Go.Vc
open Go
variable {P : Program} {w : World} {s n : Nat} {v : Value} {xs : List Value} {t e ty : TypeId} {z z' : Value} {b b' : Nat} {d : TypeDesc}
theorem Row.fld {K : Value → Prop} {fs : Array Field} {k : IntKind} {i f off : Nat} {x : Value} (h : Row s w v n xs) (hi : i < n) (hx : xs[i * s + off]? = some x) (hu : P.underlying t = some (.slice e)) (ht : TI P e z s b)
    (hue : P.underlying e = some (.struct fs)) (hf : (fs[f]?).map (fun x => (x.type, x.offset)) = some (ty, off)) (hty : TI P ty z' 1 b') (hud : P.underlying ty = some d) (hd : aggB d = false) (H : K x) :
    ixa P t v (.int k (i : Int)) w (fun a => fda P e a f w fun y => ld P ty y w K) := by
  obtain ⟨h1, h2, a, cap, rfl, h3⟩ := h
  obtain ⟨bl, o, rfl, hc⟩ := h3 (by omega)
  rw [ixa_slice hu ht (by omega) (by omega), fda_off hue hf hty (by decide)]
  rw [ld_scalar hud hd (v := x)]
  · exact H
  · rw [Addr.add_lit, Int.toNat_natCast, Nat.add_assoc]
    exact hc _ _ hx
def pf (p : Nat × Nat) : List Value := [.float .f32 p.1, .float .f32 p.2]
def pfs (l : List (Nat × Nat)) : List Value := l.flatMap pf
end Go.Vc
