set_option linter.unusedSimpArgs false
set_option linter.unusedVariables false
namespace Go.Vc
def val (b : Nat) : List Nat → Nat
 | [] => 0
 | d :: r => d + b * val b r
theorem NB (b : Nat) : ∀ (l r : List Nat), val b (l ++ r) = val b l + b ^ l.length * val b r
 | [], r => by simp [val]
 | d :: l, r => by
  simp only [List.cons_append, val, NB b l r, List.length_cons, Nat.pow_succ, Nat.mul_add, Nat.add_assoc]
  congr 2
  rw [← Nat.mul_assoc, Nat.mul_comm b]
theorem De (b : Nat) (l : List Nat) (d : Nat) : val b (l ++ [d]) = val b l + b ^ l.length * d := by simp [NB, val]
theorem BV (b : Nat) {l : List Nat} {i : Nat} (h : i < l.length) : val b (l.take (i + 1)) = val b (l.take i) + b ^ i * l[i] := by
 rw [List.take_succ_eq_append_getElem h, De, List.length_take, Nat.min_eq_left (Nat.le_of_lt h)]
theorem FP (b n : Nat) : val b (List.replicate n 0) = 0 := by
 induction n with
 | zero => rfl
 | succ n ih => rw [List.replicate_succ, val, ih]; simp
def Dig (b : Nat) (l : List Nat) : Prop := ∀ d ∈ l, d < b
theorem B8 {b : Nat} : ∀ {l : List Nat}, Dig b l → val b l < b ^ l.length
 | [], _ => by simp [val]
 | d :: l, h => by
  have h1 : d < b := h d (by simp)
  have h2 := B8 (l := l) fun x hx => h x (by simp [hx])
  simp only [val, List.length_cons, Nat.pow_succ]
  have h3 : b * (val b l + 1) ≤ b * b ^ l.length := Nat.mul_le_mul_left _ h2
  rw [Nat.mul_add, Nat.mul_one] at h3
  rw [Nat.mul_comm (b ^ l.length) b]
  omega
def Norm (b : Nat) (l : List Nat) : Prop := Dig b l ∧ l.getLast? ≠ some 0
theorem Norm.nil (b : Nat) : Norm b [] := ⟨by intro d hd; simp at hd, by simp⟩
theorem Norm.tail {b d : Nat} {l : List Nat} (h : Norm b (d :: l)) : Norm b l := by
 refine ⟨fun x hx => h.1 x (by simp [hx]), ?_⟩
 cases l with
 | nil => simp
 | cons e l => have := h.2; simpa using this
theorem Norm.pos {b : Nat} (hb : 0 < b) : ∀ {l : List Nat}, Norm b l → l ≠ [] → 0 < val b l
 | [], _, h => absurd rfl h
 | [d], h, _ => by
  have := h.2
  simp at this
  simp only [val]
  omega
 | d :: e :: l, h, _ => by
  have := Norm.pos hb (l := e :: l) h.tail (by simp)
  rw [val]
  have : 0 < b * val b (e :: l) := Nat.mul_pos hb this
  omega
def trim : List Nat → List Nat
 | [] => []
 | d :: l => if d = 0 ∧ trim l = [] then [] else d :: trim l
theorem II (b : Nat) : ∀ l : List Nat, val b (trim l) = val b l
 | [] => rfl
 | d :: l => by
  rw [trim]
  split
  ·rename_i h
   have := II b l
   rw [h.2] at this
   simp only [val] at this ⊢
   rw [← this, h.1]; simp
  ·rw [val, val, II b l]
theorem Tx : ∀ l : List Nat, (trim l).getLast? ≠ some 0
 | [] => by simp [trim]
 | d :: l => by
  rw [trim]
  split
  ·simp
  ·rename_i h
   cases ht : trim l with
   | nil =>
    rw [ht] at h
    simp only [and_true] at h
    simp [h]
   | cons e r =>
    have := Tx l
    rw [ht] at this
    simpa using this
theorem AhD {l : List Nat} : ∀ d ∈ trim l, d ∈ l := by
 induction l with
 | nil => intro d hd; simp [trim] at hd
 | cons e l ih =>
  intro d hd
  rw [trim] at hd
  split at hd
  ·simp at hd
  ·rcases List.mem_cons.1 hd with rfl | hd
   ·simp
   ·exact List.mem_cons_of_mem _ (ih d hd)
theorem Norm.trim {b : Nat} {l : List Nat} (h : Dig b l) : Norm b (Vc.trim l) := ⟨fun d hd => h d (AhD d hd), Tx l⟩
theorem Dig.take {b : Nat} {l : List Nat} (h : Dig b l) (i : Nat) : Dig b (l.take i) := fun d hd => h d (List.mem_of_mem_take hd)
theorem Dig.drop {b : Nat} {l : List Nat} (h : Dig b l) (i : Nat) : Dig b (l.drop i) := fun d hd => h d (List.mem_of_mem_drop hd)
theorem Ce (b : Nat) (l : List Nat) {i : Nat} (h : i ≤ l.length) : val b l = val b (l.take i) + b ^ i * val b (l.drop i) := by
 conv => lhs; rw [← List.take_append_drop i l]
 rw [NB, List.length_take, Nat.min_eq_left h]
theorem Norm.ge {b : Nat} {l : List Nat} (h : Norm b l) (hl : l ≠ []) : b ^ (l.length - 1) ≤ val b l := by
 have hs : l = l.dropLast ++ [l.getLast hl] := (List.dropLast_concat_getLast hl).symm
 have hz : l.getLast hl ≠ 0 := by
  intro hz
  have := h.2
  rw [List.getLast?_eq_some_getLast hl, hz] at this
  exact this rfl
 have hv : val b l = val b l.dropLast + b ^ l.dropLast.length * l.getLast hl := by
  conv => lhs; rw [hs]
  rw [De]
 rw [hv, List.length_dropLast]
 have : b ^ (l.length - 1) * 1 ≤ b ^ (l.length - 1) * l.getLast hl := Nat.mul_le_mul_left _ (by omega)
 omega
theorem R7 {b : Nat} {l r : List Nat} (h1 : Dig b l) (h2 : Norm b r) (h : l.length < r.length) : val b l < val b r := by
 have hr : r ≠ [] := by intro e; rw [e] at h; simp at h
 have hb : 0 < b := by
  obtain ⟨d, hd⟩ := List.exists_mem_of_ne_nil r hr
  exact Nat.lt_of_le_of_lt (Nat.zero_le _) (h2.1 d hd)
 have h3 := B8 h1
 have h4 := h2.ge hr
 have h5 : b ^ l.length ≤ b ^ (r.length - 1) := Nat.pow_le_pow_right hb (by omega)
 omega
theorem Ada {b : Nat} {l r : List Nat} {i : Nat} (hl : Dig b l) (hlen : l.length = r.length) (hi : i < l.length) (hd : l.drop (i + 1) = r.drop (i + 1)) (hlt : l[i] < r[i]'(by omega)) : val b l < val b r := by
 rw [Ce b l (i := i + 1) (by omega), Ce b r (i := i + 1) (by omega), hd, BV b hi, BV b (by omega : i < r.length)]
 have h1 := B8 (hl.take i)
 rw [List.length_take, Nat.min_eq_left (by omega)] at h1
 have h2 : b ^ i * (l[i] + 1) ≤ b ^ i * r[i]'(by omega) := Nat.mul_le_mul_left _ hlt
 rw [Nat.mul_add, Nat.mul_one] at h2
 omega
end Go.Vc
