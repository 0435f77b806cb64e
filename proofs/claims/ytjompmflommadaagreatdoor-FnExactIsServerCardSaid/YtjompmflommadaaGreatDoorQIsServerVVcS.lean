import Derived.Lib.Bytealg
import Derived.Test.YtjompmflommadaaGreatDoorQIsServerVVcL
set_option linter.unusedVariables false
namespace Go.Vc
open Go
variable {P : Program} {w : World}
abbrev str (l : List UInt8) : Value := .string ⟨l.toArray⟩
section
variable {t ty : TypeId} {K : Value → Prop} {cx cy : Bool} {l a b : List UInt8}
theorem len_str (hu : P.underlying t = some .string) : bl0 P .len #[t] ty [str l] w K = K (.int .i64 (l.length : Nat)) := bl0_len_s hu
theorem str_toList (l : List UInt8) : (ByteArray.mk l.toArray).toList = l := by
  rw [Go.Lib.toList_data]
theorem eql_str : bin P .eql t cx cy (str a) (str b) w K = K (.bool (decide (a = b))) := by
  rw [bin_seql, str_toList, str_toList]
  congr 2
  by_cases h : a = b <;> simp [h]
theorem neq_str : bin P .neq t cx cy (str a) (str b) w K = K (.bool (decide (a ≠ b))) := by
  rw [bin_sneq, str_toList, str_toList]
  congr 2
  by_cases h : a = b <;> simp [h]
theorem idx_str {k : IntKind} {i : Nat} (hu : P.underlying t = some .string) (hi : i < l.length) : idx P t (str l) (.int k (i : Int)) w K = K (.int .u8 (l[i].toNat : Nat)) := by
  unfold idx dv Instr.index
  have hs : (ByteArray.mk l.toArray)[i]? = some l[i] := by
    have : i < (ByteArray.mk l.toArray).size := hi
    rw [getElem?_pos _ i this]; rfl
  simp [asIntOf, rv_underlying hu, hs]
theorem extract_str (lo hi : Nat) (h : hi ≤ l.length) (h2 : lo ≤ hi) : (ByteArray.mk l.toArray).extract lo hi = ⟨((l.take hi).drop lo).toArray⟩ := by
  rw [Go.Lib.extract_eq, List.drop_take]
theorem sli_strL {ik : IntKind} {lo : Nat} (hu : P.underlying t = some .string) (h : lo ≤ l.length) : sli P t (str l) (some (.int ik (lo : Int))) none none w K = K (str (l.drop lo)) := by
  have hs : (ByteArray.mk l.toArray).size = l.length := by simp [ByteArray.size]
  unfold sli dv Instr.sliceAt
  simp only [rv_bind', rv_underlying hu, Option.bind_some]
  unfold Instr.slice
  simp only [rv_bind', rv_underlying hu, Option.bind_some]
  unfold Instr.sliceBounds
  simp only [rv_bind', rv_pure, Option.bind_some, Option.isSome_none, Bool.false_eq_true, if_false, hs, rv_bound h]
  rw [extract_str lo l.length (Nat.le_refl _) h, List.take_of_length_le (Nat.le_refl _)]
  simp
theorem sli_strH {ik : IntKind} {hi : Nat} (hu : P.underlying t = some .string) (h : hi ≤ l.length) : sli P t (str l) none (some (.int ik (hi : Int))) none w K = K (str (l.take hi)) := by
  have hs : (ByteArray.mk l.toArray).size = l.length := by simp [ByteArray.size]
  unfold sli dv Instr.sliceAt
  simp only [rv_bind', rv_underlying hu, Option.bind_some]
  unfold Instr.slice
  simp only [rv_bind', rv_underlying hu, Option.bind_some]
  unfold Instr.sliceBounds
  simp only [rv_bind', rv_pure, Option.bind_some, Option.isSome_none, Bool.false_eq_true, if_false, hs, rv_bound h]
  rw [extract_str 0 hi h (Nat.zero_le _), List.drop_zero]
  simp
end
theorem indexByte_none {l : List UInt8} {c : UInt8} (h : c ∉ l) : Lib.indexByte l c = -1 := by
  induction l with
  | nil => rfl
  | cons b l ih =>
    have h1 : (b == c) = false := by
      have : b ≠ c := fun e => h (by rw [e]; exact List.mem_cons_self ..)
      simpa using this
    have h2 := ih fun hm => h (List.mem_cons_of_mem _ hm)
    unfold Lib.indexByte
    rw [h1, h2]; rfl
theorem indexByte_some {a b : List UInt8} {c : UInt8} (h : c ∉ a) : Lib.indexByte (a ++ c :: b) c = (a.length : Int) := by
  induction a with
  | nil => simp [Lib.indexByte]
  | cons x a ih =>
    have h1 : (x == c) = false := by
      have : x ≠ c := fun e => h (by rw [e]; exact List.mem_cons_self ..)
      simpa using this
    have h2 := ih fun hm => h (List.mem_cons_of_mem _ hm)
    rw [List.cons_append]
    unfold Lib.indexByte
    rw [h1, h2]
    have : (((a.length : Int)) == -1) = false := by
      rw [beq_eq_false_iff_ne]; omega
    rw [this]; simp
theorem split_first {l : List UInt8} {c : UInt8} (h : c ∈ l) : ∃ a b, l = a ++ c :: b ∧ c ∉ a := by
  induction l with
  | nil => cases h
  | cons x l ih =>
    by_cases hx : x = c
    · exact ⟨[], l, by rw [hx]; rfl, by simp⟩
    · have hm : c ∈ l := by
        rcases List.mem_cons.1 h with e | e
        · exact absurd e.symm hx
        · exact e
      obtain ⟨a, b, h1, h2⟩ := ih hm
      exact ⟨x :: a, b, by rw [h1]; rfl, fun hm => by
        rcases List.mem_cons.1 hm with e | e
        · exact hx e.symm
        · exact h2 e⟩
theorem u8_nat (c : UInt8) : (((c.toNat : Nat) : Int)).toNat.toUInt8 = c := by simp
end Go.Vc
