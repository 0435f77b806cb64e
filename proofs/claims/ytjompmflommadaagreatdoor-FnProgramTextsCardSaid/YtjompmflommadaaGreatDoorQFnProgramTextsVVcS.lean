import Derived.Lib.Bytealg
import Derived.Test.YtjompmflommadaaGreatDoorQFnProgramTextsVVcL
set_option linter.unusedSimpArgs false
set_option linter.unusedVariables false
namespace Go.Vc
open Go
variable {P : Program} {w : World}
abbrev str (l : List UInt8) : Value := .string ⟨l.toArray⟩
theorem Agh (s : ByteArray) : Value.string s = str s.data.toList := rfl
section
variable {t ty : TypeId} {K : Value → Prop} {cx cy : Bool} {l a b : List UInt8}
theorem By (hu : P.underlying t = some .string) : bl0 P .len #[t] ty [str l] w K = K (.int .i64 (l.length : Nat)) := Agl hu
theorem ND (l : List UInt8) : (ByteArray.mk l.toArray).toList = l := by
 rw [Go.Lib.toList_data]
theorem A7 : bin P .eql t cx cy (str a) (str b) w K = K (.bool (decide (a = b))) := by
 rw [AhM, ND, ND]
 congr 2
 by_cases h : a = b <;> simp [h]
theorem Yo : bin P .neq t cx cy (str a) (str b) w K = K (.bool (decide (a ≠ b))) := by
 rw [AbN, ND, ND]
 congr 2
 by_cases h : a = b <;> simp [h]
theorem Db {k : IntKind} {i : Nat} (hu : P.underlying t = some .string) (hi : i < l.length) : idx P t (str l) (.int k (i : Int)) w K = K (.int .u8 (l[i].toNat : Nat)) := by
 unfold idx dv Instr.index
 have hs : (ByteArray.mk l.toArray)[i]? = some l[i] := by
  have : i < (ByteArray.mk l.toArray).size := hi
  rw [getElem?_pos _ i this]; rfl
 simp [asIntOf, A4 hu, hs]
theorem PZ (lo hi : Nat) (h : hi ≤ l.length) (h2 : lo ≤ hi) : (ByteArray.mk l.toArray).extract lo hi = ⟨((l.take hi).drop lo).toArray⟩ := by
 rw [Go.Lib.extract_eq, List.drop_take]
theorem Ahr {ik ik' : IntKind} {lo hi : Nat} (hu : P.underlying t = some .string) (h : lo ≤ hi) (h2 : hi ≤ l.length) : sli P t (str l) (some (.int ik (lo : Int))) (some (.int ik' (hi : Int))) none w K = K (str ((l.take hi).drop lo)) := by
 have hs : (ByteArray.mk l.toArray).size = l.length := by simp [ByteArray.size]
 unfold sli dv Instr.sliceAt
 simp only [AR, A4 hu, Option.bind_some]
 unfold Instr.slice
 simp only [AR, A4 hu, Option.bind_some]
 unfold Instr.sliceBounds
 simp only [AR, HG, Option.bind_some, Option.isSome_none, Bool.false_eq_true, if_false, hs, Ln h2, Ln h]
 rw [PZ lo hi h2 h]
 simp
theorem DN {ik : IntKind} {lo : Nat} (hu : P.underlying t = some .string) (h : lo ≤ l.length) : sli P t (str l) (some (.int ik (lo : Int))) none none w K = K (str (l.drop lo)) := by
 have hs : (ByteArray.mk l.toArray).size = l.length := by simp [ByteArray.size]
 unfold sli dv Instr.sliceAt
 simp only [AR, A4 hu, Option.bind_some]
 unfold Instr.slice
 simp only [AR, A4 hu, Option.bind_some]
 unfold Instr.sliceBounds
 simp only [AR, HG, Option.bind_some, Option.isSome_none, Bool.false_eq_true, if_false, hs, Ln h]
 rw [PZ lo l.length (Nat.le_refl _) h, List.take_of_length_le (Nat.le_refl _)]
 simp
theorem RB {ik : IntKind} {hi : Nat} (hu : P.underlying t = some .string) (h : hi ≤ l.length) : sli P t (str l) none (some (.int ik (hi : Int))) none w K = K (str (l.take hi)) := by
 have hs : (ByteArray.mk l.toArray).size = l.length := by simp [ByteArray.size]
 unfold sli dv Instr.sliceAt
 simp only [AR, A4 hu, Option.bind_some]
 unfold Instr.slice
 simp only [AR, A4 hu, Option.bind_some]
 unfold Instr.sliceBounds
 simp only [AR, HG, Option.bind_some, Option.isSome_none, Bool.false_eq_true, if_false, hs, Ln h]
 rw [PZ 0 hi h (Nat.zero_le _), List.drop_zero]
 simp
theorem DM (h : a.length + b.length ≤ 9223372036854775807) : bin P .add t cx cy (str a) (str b) w K = K (str (a ++ b)) := by
 have hs : ∀ l : List UInt8, (ByteArray.mk l.toArray).size = l.length := fun l => by simp [ByteArray.size]
 rw [AgD _ _ _ _ _ _ (by rw [hs, hs]; exact h)]
 congr 2
end
theorem Yg {l : List UInt8} {c : UInt8} (h : c ∉ l) : Lib.indexByte l c = -1 := by
 induction l with
 | nil => rfl
 | cons b l ih =>
  have h1 : (b == c) = false := by
   have : b ≠ c := fun e => h (by rw [e]; exact List.mem_cons_self ..)
   simpa using this
  have h2 := ih fun hm => h (List.mem_cons_of_mem _ hm)
  unfold Lib.indexByte
  rw [h1, h2]; rfl
theorem L6 {a b : List UInt8} {c : UInt8} (h : c ∉ a) : Lib.indexByte (a ++ c :: b) c = (a.length : Int) := by
 induction a with
 | nil => simp [Lib.indexByte]
 | cons x a ih =>
  have h1 : (x == c) = false := by
   have : x ≠ c := fun e => h (by rw [e]; exact List.mem_cons_self ..)
   simpa using this
  have h2 := ih fun hm => h (List.mem_cons_of_mem _ hm)
  rw [List.cons_append]
  unfold Lib.indexByte
  rw [h1, h2]
  have : (((a.length : Int)) == -1) = false := by
   rw [beq_eq_false_iff_ne]; omega
  rw [this]; simp
theorem Qg {l : List UInt8} {c : UInt8} (h : c ∈ l) : ∃ a b, l = a ++ c :: b ∧ c ∉ a := by
 induction l with
 | nil => cases h
 | cons x l ih =>
  by_cases hx : x = c
  ·exact ⟨[], l, by rw [hx]; rfl, by simp⟩
  ·have hm : c ∈ l := by
    rcases List.mem_cons.1 h with e | e
    ·exact absurd e.symm hx
    ·exact e
   obtain ⟨a, b, h1, h2⟩ := ih hm
   exact ⟨x :: a, b, by rw [h1]; rfl, fun hm => by
    rcases List.mem_cons.1 hm with e | e
    ·exact hx e.symm
    ·exact h2 e⟩
theorem Afx (c : UInt8) : (((c.toNat : Nat) : Int)).toNat.toUInt8 = c := by simp
def splitL (c : UInt8) : List UInt8 → List (List UInt8)
 | [] => [[]]
 | x :: r => if x = c then [] :: splitL c r else match splitL c r with
  | h :: t => (x :: h) :: t
  | [] => [[x]]
theorem Um (c : UInt8) : ∀ l, splitL c l ≠ []
 | [] => by simp [splitL]
 | x :: r => by
  rw [splitL]
  split
  ·simp
  ·split <;> simp
theorem RZ {c : UInt8} {a b : List UInt8} (h : c ∉ a) : splitL c (a ++ c :: b) = a :: splitL c b := by
 induction a with
 | nil => simp [splitL]
 | cons x a ih =>
  have h1 : x ≠ c := fun e => h (by rw [e]; exact List.mem_cons_self ..)
  have h2 := ih fun hm => h (List.mem_cons_of_mem _ hm)
  rw [List.cons_append, splitL, if_neg h1, h2]
theorem Qb {c : UInt8} {a : List UInt8} (h : c ∉ a) : splitL c a = [a] := by
 induction a with
 | nil => rfl
 | cons x a ih =>
  have h1 : x ≠ c := fun e => h (by rw [e]; exact List.mem_cons_self ..)
  have h2 := ih fun hm => h (List.mem_cons_of_mem _ hm)
  rw [splitL, if_neg h1, h2]
theorem Rw (c : UInt8) : ∀ l : List UInt8, (splitL c l).length = l.count c + 1
 | [] => rfl
 | x :: r => by
  have ih := Rw c r
  rw [splitL]
  split
  ·rename_i h; subst h; simp [ih]
  ·rename_i h
   have hne : (x == c) = false := by simpa using h
   rw [List.count_cons, hne]
   split
   ·rename_i h t he; rw [he] at ih; simpa using ih
   ·rename_i he; exact absurd he (Um c r)
end Go.Vc
