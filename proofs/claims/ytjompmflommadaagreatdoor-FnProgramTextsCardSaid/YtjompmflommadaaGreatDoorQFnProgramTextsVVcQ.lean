import Derived.Lib.ConvBytes
import Derived.Test.YtjompmflommadaaGreatDoorQFnProgramTextsVVcS
set_option linter.unusedSimpArgs false
set_option linter.unusedVariables false
namespace Go.Vc
open Go
variable {P : Program} {w : World}
theorem UB {t : TypeId} {cx : Bool} {K : Value → Prop} (hu : ∃ ms, P.underlying t = some (.interface ms)) : bin P .neq t cx true .nilIface .nilIface w K = K (.bool false) := by
 obtain ⟨ms, hu⟩ := hu
 refine BB ?_ ?_
 ·unfold eqg eqGuard
  simp
 ·show rv P (do pure (Value.bool (!(← Op.equal t .nilIface .nilIface)))) w = _
  have : rv P (Op.equal t .nilIface .nilIface) w = some true := by
   show rv P (Op.equalIn (9999 + 1) t .nilIface .nilIface) w = _
   rw [Op.equalIn, AR, A4 hu]
   rfl
  rw [AR, this]; rfl
theorem AdW {s t e : TypeId} {l : List UInt8} {u : TypeDesc} {KW : Value → World → Prop} (hs : P.underlying s = some u) (hd : P.underlying t = some (.slice e)) (he : P.underlying e = some (.int .u8)) (hl : l.length ≤ maxLen)
  (H : ∀ v w', Ext w w' → Row 1 w' v l.length (l.map fun b => .int .u8 (b.toNat : Nat)) → KW v w') : cnv2 P s t (str l) w KW := by
 intro c hc
 subst hc
 have hsz : (ByteArray.mk l.toArray).size = l.length := by simp [ByteArray.size]
 have hr := Go.Lib.run_convert_string_bytes (P := P) c s t e ⟨l.toArray⟩ hs hd he
 refine ⟨_, _, hr, H _ _ ?_ ?_⟩
 ·refine ⟨?_, ?_, ?_, ?_, fun k hk => ?_⟩
  ·rfl
  ·rfl
  ·rfl
  ·show c.heap.size ≤ (Go.Lib.bytesWorld c e ⟨l.toArray⟩).heap.size
   rw [Go.Lib.bytesWorld_size]; omega
  ·exact Go.Lib.bytesWorld_at_old c e ⟨l.toArray⟩ k hk
 ·refine ⟨by simp, hl, some ⟨c.heap.size, 0, none⟩, _, by rw [hsz], fun hn => ⟨c.heap.size, 0, rfl, fun j u hj => ?_⟩⟩
  have hj' : j < l.length := by
   have := (List.getElem?_eq_some_iff.1 hj).1
   simpa using this
  have := Go.Lib.bytesWorld_cell c e ⟨l.toArray⟩ j (by rw [hsz]; exact hj')
  rw [Nat.zero_add]
  show (Go.Lib.bytesWorld c e ⟨l.toArray⟩).cell? ⟨c.heap.size, j, none⟩ = some u
  rw [this]
  simp [hj'] at hj
  rw [← hj]
  simp [List.getD, hj']
end Go.Vc
