import Derived.Test.YtjompmflommadaaGreatDoorQIsServerVU7
import Derived.Test.YtjompmflommadaaGreatDoorQIsServerVU13
import Derived.Test.YtjompmflommadaaGreatDoorQIsServerVVcM
import Derived.Test.YtjompmflommadaaGreatDoorQIsServerVVcO
import Derived.Test.YtjompmflommadaaGreatDoorQIsServerVU8
import Derived.Test.YtjompmflommadaaGreatDoorQIsServerVVcQ
import Derived.Test.YtjompmflommadaaGreatDoorQIsServerVVcK
import Derived.Test.YtjompmflommadaaGreatDoorQIsServer2
set_option linter.unusedSimpArgs false
set_option linter.unusedVariables false

set_option linter.unusedVariables false
namespace Go.Proofs.YtjompmflommadaaGreatDoor
open Go Go.Vc
variable {w : World} {K : Value → World → Prop}
theorem pL (i : Nat) : (16777216 : Nat) ^ (i + 1) = 16777216 ^ i * 16777216 := Nat.pow_succ ..
theorem Dig_snoc {b : Nat} {l : List Nat} {x : Nat} (h : Dig b l) (hx : x < b) : Dig b (l ++ [x]) := fun d hd => by
  rcases List.mem_append.1 hd with hd | hd
  · exact h d hd
  · simp at hd; omega
theorem getD_ge {l : List Nat} {i : Nat} (h : l.length ≤ i) : l.getD i 0 = 0 := by rw [List.getD_eq_getElem?_getD]; simp [h]
theorem bin_remI {t : TypeId} {cx cy : Bool} {a b : Nat} {c : Int} {K : Value → Prop} (hb : b ≠ 0) (hc : c = (b : Int) := by rfl) : bin P .rem t cx cy (.int .i64 (a : Int)) (.int .i64 c) w K = K (.int .i64 ((a % b : Nat) : Int)) := bin_remN hb hc
theorem bin_quoI {t : TypeId} {cx cy : Bool} {a b : Nat} {c : Int} {K : Value → Prop} (ha : a ≤ 9223372036854775807) (hb : b ≠ 0) (hc : c = (b : Int) := by rfl) : bin P .quo t cx cy (.int .i64 (a : Int)) (.int .i64 c) w K = K (.int .i64 ((a / b : Nat) : Int)) := bin_quoN (by rw [max_i64]; omega) hb hc
theorem c_l02CompareLimbs {u v : Value} {l r : List Nat} (h1 : IR .i64 w u l) (h2 : IR .i64 w v r) (n1 : Norm 16777216 l) (n2 : Norm 16777216 r) (H : K (.int .i64 (cmpN (val 16777216 l) (val 16777216 r))) w) : call P f_spec_l02CompareLimbs [u, v] w K := by
  refine I_spec_l02CompareLimbs ?_
  unfold D_spec_l02CompareLimbs
  have b1 := h1.bound
  have b2 := h2.bound
  have one : ∀ {a b : Nat} {K : Prop}, a ≠ b → (∀ {w : World} {K : Value → World → Prop}, K (.int .i64 (cmpN a b)) w → (if a < b then K (.int .i64 (-1)) w else K (.int .i64 1) w)) := by
    intro a b _ hne w K hk
    unfold cmpN at hk
    split
    · rename_i h; rw [if_pos h] at hk; exact hk
    · rename_i h; rw [if_neg h, if_pos (by omega)] at hk; exact hk
  rw [h1.row.len u_s_int64, h2.row.len u_s_int64, bin_neq]
  refine cnd_dec (fun h => ?_) (fun h => ?_)
  · rw [h1.row.len u_s_int64, h2.row.len u_s_int64, bin_lss]
    rw [cmpN_len n1 n2 (by omega)] at H
    have := one (K := True) (show l.length ≠ r.length by omega) H
    refine cnd_dec (fun hl => ?_) (fun hl => ?_)
    · rw [if_pos (by omega)] at this; exact this
    · rw [if_neg (by omega)] at this; exact this
  · have hlen : l.length = r.length := by omega
    rw [h1.row.len u_s_int64, bin_sub, wrap_i64 (by omega) (by omega)]
    refine ⟨fun m x w' => w' = w ∧ x = .int .i64 ((m : Int) - 1) ∧ m ≤ l.length ∧ l.drop m = r.drop m, ⟨l.length, rfl, rfl, Nat.le_refl _, by rw [List.drop_length, hlen, List.drop_length]⟩, ?_⟩
    rintro m x junk w' ⟨rfl, rfl, hm, hd⟩
    rw [bin_geq]
    refine cnd_dec (fun hge => ?_) (fun hlt => ?_)
    · have hm0 : 0 < m := by omega
      rw [show (m : Int) - 1 = ((m - 1 : Nat) : Int) by omega]
      refine h1.at (i := m - 1) (by omega) u_s_int64 i_int64 u_int64 ?_
      refine h2.at (i := m - 1) (by omega) u_s_int64 i_int64 u_int64 ?_
      rw [bin_neq]
      refine cnd_dec (fun hne => ?_) (fun heq => ?_)
      · refine h1.at (i := m - 1) (by omega) u_s_int64 i_int64 u_int64 ?_
        refine h2.at (i := m - 1) (by omega) u_s_int64 i_int64 u_int64 ?_
        have hne' : l[m - 1] ≠ r[m - 1] := by omega
        rw [cmpN_dig (i := m - 1) n1.1 n2.1 hlen (by omega) (by rw [show m - 1 + 1 = m by omega]; exact hd) hne'] at H
        have := one (K := True) hne' H
        rw [bin_lss]
        refine cnd_dec (fun hl => ?_) (fun hl => ?_)
        · rw [if_pos (by omega)] at this; exact this
        · rw [if_neg (by omega)] at this; exact this
      · rw [bin_sub, wrap_i64 (by omega) (by omega)]
        refine ⟨m - 1, by omega, rfl, by congr 1, by omega, ?_⟩
        rw [List.drop_eq_getElem_cons (by omega : m - 1 < l.length), List.drop_eq_getElem_cons (by omega : m - 1 < r.length), show m - 1 + 1 = m by omega, hd]
        congr 1; omega
    · have hm0 : m = 0 := by omega
      subst hm0
      have : l = r := by simpa using hd
      subst this
      unfold cmpN at H
      rw [if_neg (by omega), if_neg (by omega)] at H
      exact H
theorem step_add24 {V L R p c a b s : Nat} (hv : V + c * p = L + R) (hs : s = c + a + b) : V + p * (s % 16777216) + s / 16777216 * (p * 16777216) = L + p * a + (R + p * b) := by
  have h := Nat.div_add_mod s 16777216
  have h2 : p * (16777216 * (s / 16777216) + s % 16777216) = p * (c + a + b) := by rw [h, hs]
  grind
theorem c_l02Plus {u v : Value} {l r : List Nat} (h1 : IR .i64 w u l) (h2 : IR .i64 w v r) (d1 : Dig 16777216 l) (d2 : Dig 16777216 r) (l1 : l.length ≤ 45812984491) (l2 : r.length ≤ 45812984491)
    (H : ∀ v' w' q, Ext w w' → OD .i64 t_int64 w' w.heap.size v' q → Dig 16777216 q → val 16777216 q = val 16777216 l + val 16777216 r → q.length ≤ 45812984492 → K v' w') : call P f_spec_l02Plus [u, v] w K := by
  refine I_spec_l02Plus ?_
  unfold D_spec_l02Plus
  refine bsl_nil u_s_int64 i_int64 ?_
  have he := Ext_alloc w (.cells #[] t_int64)
  have hz : OD .i64 t_int64 (w.alloc (.cells #[] t_int64)) w.heap.size (.slice (some ⟨w.heap.size, 0, none⟩) 0 0) [] := owns_lit w [] t_int64
  generalize w.alloc (.cells #[] t_int64) = w1 at he hz ⊢
  refine ⟨fun g x y z w' => ∃ (i c : Nat) (q : List Nat), g + i = max l.length r.length + 1 ∧ y = .int .i64 (c : Int) ∧ z = .int .i64 (i : Int) ∧ Ext w w' ∧ OD .i64 t_int64 w' w.heap.size x q ∧ q.length = i ∧ Dig 16777216 q ∧ c ≤ 1 ∧
    val 16777216 q + c * 16777216 ^ i = val 16777216 (l.take i) + val 16777216 (r.take i) ∧ (max l.length r.length < i → c = 0), ⟨max l.length r.length + 1, 0, 0, [], rfl, rfl, rfl, he, hz, rfl, (by intro d hd; cases hd), by omega, by simp [val], by omega⟩, ?_⟩
  rintro g x y z junk w2 ⟨i, c, q, hg, rfl, rfl, e2, oq, hq, dq, hc, hv, hfin⟩
  rw [(h1.ext e2).row.len u_s_int64, bin_lss]
  have more : i < l.length ∨ i < r.length ∨ 0 < c → ∃ J22 : Value → World → Prop, (∀ (x6_25 : Value) (junk23 : Env) (w24 : World), J22 x6_25 w24 →
            ∃ J26 : Value → World → Prop, (∀ (x6_29 : Value) (junk27 : Env) (w28 : World), J26 x6_29 w28 →
              bin P .rem t_int64 false true x6_29 (.int .i64 16777216) w28 fun x47_30 =>
              bsl P t_s_int64 1 [(0, x47_30)] w28 fun x48_31 w32 =>
              bl2 P .append #[t_s_int64, t_s_int64] t_s_int64 [x, x48_31] w32 fun x49_33 w34 =>
              bin P .quo t_int64 false true x6_29 (.int .i64 16777216) w34 fun x51_35 =>
              bin P .add t_int false true (.int .i64 (i : Int)) (.int .i64 1) w34 fun x24_36 =>
              ∃ m37, m37 < g ∧ ∃ (i c : Nat) (q : List Nat), m37 + i = max l.length r.length + 1 ∧ x51_35 = .int .i64 (c : Int) ∧ x24_36 = .int .i64 (i : Int) ∧ Ext w w34 ∧ OD .i64 t_int64 w34 w.heap.size x49_33 q ∧ q.length = i ∧ Dig 16777216 q ∧ c ≤ 1 ∧
                val 16777216 q + c * 16777216 ^ i = val 16777216 (l.take i) + val 16777216 (r.take i) ∧ (max l.length r.length < i → c = 0)) ∧
              (bl0 P .len #[t_s_int64] t_int [v] w24 fun x37_38 =>
              bin P .lss t_int false false (.int .i64 (i : Int)) x37_38 w24 fun x38_39 =>
              cnd x38_39
                (ixa P t_s_int64 v (.int .i64 (i : Int)) w24 fun x42_40 =>
                ld P t_int64 x42_40 w24 fun x43_41 =>
                bin P .add t_int64 false false x6_25 x43_41 w24 fun x44_42 =>
                J26 x44_42 w24)
                (J26 x6_25 w24))) ∧
            (bl0 P .len #[t_s_int64] t_int [u] w2 fun x27_43 =>
            bin P .lss t_int false false (.int .i64 (i : Int)) x27_43 w2 fun x28_44 =>
            cnd x28_44
              (ixa P t_s_int64 u (.int .i64 (i : Int)) w2 fun x32_45 =>
              ld P t_int64 x32_45 w2 fun x33_46 =>
              bin P .add t_int64 false false (.int .i64 (c : Int)) x33_46 w2 fun x34_47 =>
              J22 x34_47 w2)
              (J22 (.int .i64 (c : Int)) w2)) := by
    intro hor
    have hi : i ≤ max l.length r.length := by
      rcases hor with h | h | h
      · omega
      · omega
      · refine Nat.le_of_not_lt fun hlt => ?_
        have := hfin hlt; omega
    have ga : l.getD i 0 < 16777216 := by
      by_cases h : i < l.length
      · rw [getD_get h]; exact Dig_get d1 h
      · rw [getD_ge (by omega)]; decide
    have gb : r.getD i 0 < 16777216 := by
      by_cases h : i < r.length
      · rw [getD_get h]; exact Dig_get d2 h
      · rw [getD_ge (by omega)]; decide
    refine ⟨fun x w' => w' = w2 ∧ x = .int .i64 ((c + l.getD i 0 : Nat) : Int), ?_, ?_⟩
    · rintro x' junk w3 ⟨rfl, rfl⟩
      refine ⟨fun x w' => w' = w3 ∧ x = .int .i64 ((c + l.getD i 0 + r.getD i 0 : Nat) : Int), ?_, ?_⟩
      · rintro x' junk w4 ⟨rfl, rfl⟩
        rw [bin_remI (b := 16777216) (by decide)]
        refine app_OD oq u_s_int64 i_int64 (by simp only [maxLen]; omega) (by omega) e2.size fun v' w5 o5 g5 => ?_
        rw [bin_quoI (b := 16777216) (by omega) (by decide), bin_addI1 (b := 1) (by omega)]
        refine ⟨g - 1, by omega, i + 1, _, _, by omega, rfl, rfl, own_step e2 oq g5, o5, by simp [hq], Dig_snoc dq (Nat.mod_lt _ (by decide)), by omega, ?_, fun hlt => ?_⟩
        · rw [val_snoc, hq, val_take_succD, val_take_succD, pL]
          exact step_add24 hv rfl
        · have h3 : i = max l.length r.length := by omega
          rw [getD_ge (by omega : l.length ≤ i), getD_ge (by omega : r.length ≤ i)]
          omega
      · rw [(h2.ext e2).row.len u_s_int64, bin_lss]
        refine cnd_dec (fun h => ?_) (fun h => ?_)
        · have h' : i < r.length := by omega
          refine (h2.ext e2).at h' u_s_int64 i_int64 u_int64 ?_
          rw [getD_get h'] at gb ⊢
          rw [bin_addI (by omega)]
          exact ⟨rfl, rfl⟩
        · exact ⟨rfl, by rw [getD_ge (l := r) (by omega)]; rfl⟩
    · rw [(h1.ext e2).row.len u_s_int64, bin_lss]
      refine cnd_dec (fun h => ?_) (fun h => ?_)
      · have h' : i < l.length := by omega
        refine (h1.ext e2).at h' u_s_int64 i_int64 u_int64 ?_
        rw [getD_get h'] at ga ⊢
        rw [bin_addI (by omega)]
        exact ⟨rfl, rfl⟩
      · exact ⟨rfl, by rw [getD_ge (l := l) (by omega)]; rfl⟩
  refine ⟨fun x w' => w' = w2 ∧ (¬ (i : Int) < l.length → x = .bool (decide (i < r.length))), ?_, ?_⟩
  · rintro x' junk w3 ⟨rfl, hx⟩
    have hp : ∃ b1 : Bool, b1 = decide (i < l.length ∨ i < r.length) ∧ pick (.bool (decide ((i : Int) < l.length))) (.bool true) x' = fun K => K (.bool b1) := by
      refine ⟨_, rfl, ?_⟩
      funext K
      rw [pick_bool]
      by_cases h : (i : Int) < l.length
      · rw [decide_eq_true h, cond_true, decide_eq_true (by left; omega)]
      · rw [decide_eq_false h, cond_false, hx h]
        congr 2
        rw [decide_eq_decide]; omega
    obtain ⟨b1, hb1, hp⟩ := hp
    rw [hp]
    refine ⟨fun x w' => w' = w3 ∧ (b1 = false → x = .bool (decide (0 < c))), ?_, ?_⟩
    · rintro x'' junk w4 ⟨rfl, hx2⟩
      rw [pick_bool]
      cases hb : b1
      · rw [cond_false, hx2 hb]
        refine cnd_dec (fun hc0 => ?_) (fun hc0 => ?_)
        · exact more (.inr (.inr hc0))
        · rw [hb] at hb1
          have hb1 := (decide_eq_false_iff_not.1 hb1.symm)
          have hc0 : c = 0 := by omega
          subst hc0
          rw [List.take_of_length_le (by omega), List.take_of_length_le (by omega)] at hv
          exact H _ _ _ e2 oq dq (by simpa using hv) (by omega)
      · rw [cond_true, cnd_true]
        rw [hb] at hb1
        have hb1 := of_decide_eq_true hb1.symm
        exact more (by rcases hb1 with h | h; exact .inl h; exact .inr (.inl h))
    · refine grd_split (fun h => ?_) (fun h => ?_)
      · rw [bin_gtr]
        exact ⟨rfl, fun _ => by congr 1; rw [decide_eq_decide]; omega⟩
      · exact ⟨rfl, fun h2 => by rw [h2] at h; cases h⟩
  · refine grd_split (fun h => ?_) (fun h => ?_)
    · rw [(h2.ext e2).row.len u_s_int64, bin_lss]
      exact ⟨rfl, fun _ => by congr 1; rw [decide_eq_decide]; omega⟩
    · exact ⟨rfl, fun h2 => by rw [decide_eq_false h2] at h; cases h⟩
theorem step_sub24 {V L R p c a b s0 s1 : Nat} (hv : V + R = L + c * p) (hk : s0 + (c + b) = a + s1 * 16777216) : V + p * s0 + (R + p * b) = L + p * a + s1 * (p * 16777216) := by
  have h2 : p * (s0 + (c + b)) = p * (a + s1 * 16777216) := by rw [hk]
  grind
theorem c_l02Minus {u v : Value} {l r : List Nat} (h1 : IR .i64 w u l) (h2 : IR .i64 w v r) (n1 : Norm 16777216 l) (n2 : Norm 16777216 r) (hle : val 16777216 r ≤ val 16777216 l) (l1 : l.length ≤ 45812984491)
    (H : ∀ v' w' q, Ext w w' → OD .i64 t_int64 w' w.heap.size v' q → Dig 16777216 q → val 16777216 q = val 16777216 l - val 16777216 r → q.length ≤ 45812984492 → K v' w') : call P f_spec_l02Minus [u, v] w K := by
  have d1 := n1.1
  have d2 := n2.1
  have hlr := len_mono n1 n2 hle
  refine I_spec_l02Minus ?_
  unfold D_spec_l02Minus
  refine bsl_nil u_s_int64 i_int64 ?_
  have he := Ext_alloc w (.cells #[] t_int64)
  have hz : OD .i64 t_int64 (w.alloc (.cells #[] t_int64)) w.heap.size (.slice (some ⟨w.heap.size, 0, none⟩) 0 0) [] := owns_lit w [] t_int64
  generalize w.alloc (.cells #[] t_int64) = w1 at he hz ⊢
  refine ⟨fun g x y z w' => ∃ (i c : Nat) (q : List Nat), g + i = l.length ∧ y = .int .i64 (c : Int) ∧ z = .int .i64 (i : Int) ∧ Ext w w' ∧ OD .i64 t_int64 w' w.heap.size x q ∧ q.length = i ∧ Dig 16777216 q ∧ c ≤ 1 ∧
    val 16777216 q + val 16777216 (r.take i) = val 16777216 (l.take i) + c * 16777216 ^ i, ⟨l.length, 0, 0, [], rfl, rfl, rfl, he, hz, rfl, (by intro d hd; cases hd), by omega, by simp [val]⟩, ?_⟩
  rintro g x y z junk w2 ⟨i, c, q, hg, rfl, rfl, e2, oq, hq, dq, hc, hv⟩
  rw [(h1.ext e2).row.len u_s_int64, bin_lss]
  refine cnd_dec (fun hlt => ?_) (fun hge => ?_)
  · have hi : i < l.length := by omega
    refine (h1.ext e2).at hi u_s_int64 i_int64 u_int64 ?_
    have g1 := Dig_get d1 hi
    have gb : r.getD i 0 < 16777216 := by
      by_cases h : i < r.length
      · rw [getD_get h]; exact Dig_get d2 h
      · rw [getD_ge (by omega)]; decide
    rw [bin_sub, wrap_i64 (by omega) (by omega)]
    refine ⟨fun x w' => w' = w2 ∧ x = .int .i64 ((l[i] : Int) - c - (r.getD i 0 : Nat)), ?_, ?_⟩
    · rintro x' junk w3 ⟨rfl, rfl⟩
      rw [bin_lss]
      refine cnd_dec (fun hneg => ?_) (fun hpos => ?_)
      · rw [bin_add, wrap_i64 (by omega) (by omega), show (l[i] : Int) - c - (r.getD i 0 : Nat) + 16777216 = ((l[i] + 16777216 - (c + r.getD i 0) : Nat) : Int) by omega]
        refine app_OD oq u_s_int64 i_int64 (by simp only [maxLen]; omega) (by omega) e2.size fun v' w5 o5 g5 => ?_
        rw [bin_addI1 (b := 1) (by omega)]
        refine ⟨g - 1, by omega, i + 1, 1, _, by omega, rfl, rfl, own_step e2 oq g5, o5, by simp [hq], Dig_snoc dq (by omega), by omega, ?_⟩
        rw [val_snoc, hq, val_take_succD, val_take_succD, pL, getD_get hi]
        exact step_sub24 hv (by omega)
      · rw [show (l[i] : Int) - c - (r.getD i 0 : Nat) = ((l[i] - (c + r.getD i 0) : Nat) : Int) by omega]
        refine app_OD oq u_s_int64 i_int64 (by simp only [maxLen]; omega) (by omega) e2.size fun v' w5 o5 g5 => ?_
        rw [bin_addI1 (b := 1) (by omega)]
        refine ⟨g - 1, by omega, i + 1, 0, _, by omega, rfl, rfl, own_step e2 oq g5, o5, by simp [hq], Dig_snoc dq (by omega), by omega, ?_⟩
        rw [val_snoc, hq, val_take_succD, val_take_succD, pL, getD_get hi]
        exact step_sub24 hv (by omega)
    · rw [(h2.ext e2).row.len u_s_int64, bin_lss]
      refine cnd_dec (fun h => ?_) (fun h => ?_)
      · have h' : i < r.length := by omega
        refine (h2.ext e2).at h' u_s_int64 i_int64 u_int64 ?_
        rw [getD_get h'] at gb ⊢
        rw [bin_sub, wrap_i64 (by omega) (by omega)]
        exact ⟨rfl, rfl⟩
      · exact ⟨rfl, by rw [getD_ge (l := r) (by omega)]; simp⟩
  · have hi : i = l.length := by omega
    subst hi
    rw [List.take_of_length_le (by omega : l.length ≤ l.length), List.take_of_length_le (by omega : r.length ≤ l.length)] at hv
    have hc0 : c = 0 := by
      have h3 := val_lt dq
      rw [hq] at h3
      rcases Nat.eq_zero_or_pos c with h | h
      · exact h
      · have : 1 * 16777216 ^ l.length ≤ c * 16777216 ^ l.length := Nat.mul_le_mul_right _ h
        omega
    subst hc0
    exact H _ _ _ e2 oq dq (by omega) (by omega)
end Go.Proofs.YtjompmflommadaaGreatDoor


set_option linter.unusedVariables false
namespace Go.Proofs.YtjompmflommadaaGreatDoor
open Go Go.Vc
variable {w : World} {K : Value → World → Prop}
theorem sign_nz {m n : Int} (h : m.sign = n.sign) : (m < 0 ↔ n < 0) ∧ (0 < m ↔ 0 < n) := by
  rcases Int.lt_trichotomy m 0 with h1 | h1 | h1 <;> rcases Int.lt_trichotomy n 0 with h2 | h2 | h2 <;>
    simp_all [Int.sign_eq_neg_one_of_neg, Int.sign_eq_one_of_pos] <;> omega
theorem sign_neg {m : Int} (h : m < 0) : m.sign = -1 := Int.sign_eq_neg_one_of_neg h
theorem sign_pos {m : Int} (h : 0 < m) : m.sign = 1 := Int.sign_eq_one_of_pos h
theorem Wl.len {l : List Nat} {m : Int} (h : Wl l m) (hb : bl m.natAbs ≤ 1099511627776) : l.length ≤ 45812984491 := lim_len h.1 (by rw [h.2]; exact hb)
theorem c_l02Add {u v : Value} {m n : Int} (hu : Wr w u m) (hv : Wr w v n) (bm : bl m.natAbs ≤ 1099511627776) (bn : bl n.natAbs ≤ 1099511627776)
    (H : ∀ v' w', Ext w w' → Wo w' w.heap.size w'.heap.size v' (m + n) → K v' w') : call P f_spec_l02Add [u, v] w K := by
  obtain ⟨s, l, rfl, h1, wl⟩ := hu
  obtain ⟨t, r, rfl, h2, wr⟩ := hv
  have l1 := wl.len bm
  have l2 := wr.len bn
  obtain ⟨n1, v1⟩ := wl
  obtain ⟨n2, v2⟩ := wr
  refine I_spec_l02Add ?_
  unfold D_spec_l02Add
  refine bx_Wh fun x1 w1 b1 e1 => ?_
  refine bx_Wh fun x2 w2 b2 e2 => ?_
  refine alc_Wh fun x3 w3 ⟨cs, hcs, b3⟩ e3 => ?_
  have b1 := (b1.ext e2).ext e3
  have b2 := b2.ext e3
  have E2 := e1.trans e2
  have E3 := E2.trans e3
  have h1 := h1.ext E3
  have h2 := h2.ext E3
  refine wh_s b1 ?_
  rw [bin_eql]
  refine cnd_dec (fun h0 => ?_) (fun h0 => ?_)
  · have hm : m = 0 := Int.sign_eq_zero_iff_zero.1 h0
    refine wh_s b2 ?_
    refine wh_l b2 ?_
    refine wh_make (m := m + n) E3 b3 hcs E2.size h2 n2.1 (by rw [v2, hm, Int.zero_add]) (fun _ => by rw [hm, Int.zero_add]) (by omega) H
  · have hm : m ≠ 0 := by rintro rfl; exact h0 rfl
    refine wh_s b2 ?_
    rw [bin_eql]
    refine cnd_dec (fun h0' => ?_) (fun h0' => ?_)
    · have hn : n = 0 := Int.sign_eq_zero_iff_zero.1 h0'
      refine wh_s b1 ?_
      refine wh_l b1 ?_
      refine wh_make (m := m + n) E3 b3 hcs E2.size h1 n1.1 (by rw [v1, hn, Int.add_zero]) (fun _ => by rw [hn, Int.add_zero]) (by omega) H
    · have hn : n ≠ 0 := by rintro rfl; exact h0' rfl
      refine wh_s b1 ?_
      refine wh_s b2 ?_
      rw [bin_eql]
      refine cnd_dec (fun hs => ?_) (fun hs => ?_)
      · obtain ⟨q1, q2⟩ := sign_nz hs
        refine wh_s b1 ?_
        refine wh_l b1 ?_
        refine wh_l b2 ?_
        refine c_l02Plus h1 h2 n1.1 n2.1 l1 l2 fun v' w4 q e4 oq dq hq hl => ?_
        refine ⟨e4, ?_⟩
        refine wh_make (m := m + n) (E3.trans e4) (b3.ext e4) hcs E2.size (OD.IR oq) dq (by omega) (fun _ => ?_) (by omega) H
        rcases Int.lt_or_gt_of_ne hm with h | h
        · rw [sign_neg h, sign_neg (by omega)]
        · rw [sign_pos h, sign_pos (by omega)]
      · refine wh_l b1 ?_
        refine wh_l b2 ?_
        refine c_l02CompareLimbs h1 h2 n1 n2 ?_
        rw [bin_geq, v1, v2]
        have hopp : (m < 0 ∧ 0 < n) ∨ (0 < m ∧ n < 0) := by
          rcases Int.lt_or_gt_of_ne hm with h | h <;> rcases Int.lt_or_gt_of_ne hn with h' | h'
          · exact absurd (by rw [sign_neg h, sign_neg h']) hs
          · exact .inl ⟨h, h'⟩
          · exact .inr ⟨h, h'⟩
          · exact absurd (by rw [sign_pos h, sign_pos h']) hs
        refine cnd_dec (fun hc => ?_) (fun hc => ?_)
        · have hle : n.natAbs ≤ m.natAbs := by unfold cmpN at hc; split at hc <;> (try split at hc) <;> omega
          refine wh_s b1 ?_
          refine wh_l b1 ?_
          refine wh_l b2 ?_
          refine c_l02Minus h1 h2 n1 n2 (by rw [v1, v2]; exact hle) l1 fun v' w4 q e4 oq dq hq hl => ?_
          refine ⟨e4, ?_⟩
          refine wh_make (m := m + n) (E3.trans e4) (b3.ext e4) hcs E2.size (OD.IR oq) dq (by omega) (fun _ => ?_) (by omega) H
          rcases hopp with ⟨h, h'⟩ | ⟨h, h'⟩
          · rw [sign_neg h, sign_neg (by omega)]
          · rw [sign_pos h, sign_pos (by omega)]
        · have hle : m.natAbs ≤ n.natAbs := by unfold cmpN at hc; split at hc <;> (try split at hc) <;> omega
          refine wh_s b2 ?_
          refine wh_l b2 ?_
          refine wh_l b1 ?_
          refine c_l02Minus h2 h1 n2 n1 (by rw [v1, v2]; exact hle) l2 fun v' w4 q e4 oq dq hq hl => ?_
          refine ⟨e4, ?_⟩
          refine wh_make (m := m + n) (E3.trans e4) (b3.ext e4) hcs E2.size (OD.IR oq) dq (by omega) (fun _ => ?_) (by omega) H
          rcases hopp with ⟨h, h'⟩ | ⟨h, h'⟩
          · rw [sign_pos h', sign_pos (by omega)]
          · rw [sign_neg h', sign_neg (by omega)]
theorem c_l02Abs {v : Value} {m : Int} (h : Wr w v m) (bm : bl m.natAbs ≤ 1099511627776) (H : ∀ v' w', Ext w w' → Wo w' w.heap.size w'.heap.size v' (m.natAbs : Int) → K v' w') : call P f_spec_l02Abs [v] w K := by
  obtain ⟨s, l, rfl, h1, wl⟩ := h
  have l1 := wl.len bm
  refine I_spec_l02Abs ?_
  unfold D_spec_l02Abs
  refine bx_Wh fun x1 w1 b1 e1 => ?_
  refine alc_Wh fun x2 w2 ⟨cs, hcs, b2⟩ e2 => ?_
  have b1 := b1.ext e2
  have E2 := e1.trans e2
  refine wh_s b1 ?_
  refine wh_s b1 ?_
  have hsq : IntKind.i64.wrap (m.sign * m.sign) = (if m = 0 then 0 else 1) := by
    rcases Int.lt_trichotomy m 0 with h | h | h
    · rw [sign_neg h, if_neg (by omega)]; decide
    · rw [if_pos h, h]; decide
    · rw [sign_pos h, if_neg (by omega)]; decide
  rw [bin_mul, hsq]
  refine wh_l b1 ?_
  refine wh_make (m := (m.natAbs : Int)) E2 b2 hcs e1.size (h1.ext E2) wl.1.1 (by rw [wl.2, Int.natAbs_natCast]) (fun hne => ?_) (by omega) H
  rw [if_neg (by omega), sign_pos (by omega)]
theorem c_l02Length {v : Value} {m : Int} (h : Wr w v m) (bm : bl m.natAbs ≤ 1099511627776) (H : ∀ w', Ext w w' → K (.int .i64 (bl m.natAbs : Nat)) w') : call P f_spec_l02Length [v] w K := by
  obtain ⟨s, l, rfl, h1, wl⟩ := h
  have l1 := wl.len bm
  obtain ⟨n1, v1⟩ := wl
  refine I_spec_l02Length ?_
  unfold D_spec_l02Length
  refine bx_Wh fun x1 w1 b1 e1 => ?_
  have h1 := h1.ext e1
  refine wh_l b1 ?_
  rw [h1.row.len u_s_int64, bin_eql]
  refine cnd_dec (fun h0 => ?_) (fun h0 => ?_)
  · obtain rfl : l = [] := List.eq_nil_of_length_eq_zero (by omega)
    have := H w1 e1
    rw [← v1] at this
    exact this
  · have hl : 0 < l.length := by omega
    have hz : l[l.length - 1] ≠ 0 := by
      intro hz
      have := n1.2
      rw [List.getLast?_eq_getElem?, List.getElem?_eq_getElem (by omega), hz] at this
      exact this rfl
    have e : bl m.natAbs = 24 * (l.length - 1) + bl l[l.length - 1] := by
      have h1 := val_split 16777216 l (i := l.length - 1) (by omega)
      rw [List.drop_eq_getElem_cons (by omega), List.drop_eq_nil_of_le (by omega)] at h1
      simp only [val, Nat.mul_zero, Nat.add_zero] at h1
      have h2 := val_lt (n1.1.take (l.length - 1))
      rw [List.length_take, Nat.min_eq_left (by omega)] at h2
      have hp : (16777216 : Nat) ^ (l.length - 1) = 2 ^ (24 * (l.length - 1)) := by rw [Nat.pow_mul]
      rw [hp] at h1 h2
      rw [← v1, h1, bl_top h2 hz]
    rw [bin_subI1 (b := 1) (by omega) (by omega), bin_mul, wrap_i64 (by omega) (by omega)]
    refine wh_l b1 ?_
    rw [bin_subI1 (b := 1) (by omega) (by omega)]
    refine h1.at (i := l.length - 1) (by omega) u_s_int64 i_int64 u_int64 ?_
    have g1 := Dig_get n1.1 (show l.length - 1 < l.length by omega)
    refine ⟨fun g x y w' => w' = w1 ∧ ∃ d c : Nat, x = .int .i64 (c : Int) ∧ y = .int .i64 (d : Int) ∧ g = bl d ∧ c + bl d = bl m.natAbs ∧ d < 16777216, ⟨bl l[l.length - 1], rfl, l[l.length - 1], 24 * (l.length - 1), by congr 1; omega, rfl, rfl, by omega, g1⟩, ?_⟩
    rintro g x y junk w' ⟨rfl, d, c, rfl, rfl, rfl, hc, hd16⟩
    rw [bin_gtr]
    refine cnd_dec (fun hd => ?_) (fun hd => ?_)
    · rw [bin_addI1 (b := 1) (by omega), bin_quoI (b := 2) (by omega) (by decide)]
      have hb := bl_shr d 1
      rw [Nat.pow_one] at hb
      have hp := bl_pos (n := d) (by omega)
      exact ⟨_, by rw [hb]; omega, rfl, _, _, rfl, rfl, rfl, by rw [hb]; omega, by omega⟩
    · have : d = 0 := by omega
      subst this
      rw [bl_zero] at hc
      have := H w' e1
      rw [← hc] at this
      exact this
theorem bit_val24 {l : List Nat} (hd : Dig 16777216 l) (i : Nat) : val 16777216 l / 2 ^ i % 2 = l.getD (i / 24) 0 / 2 ^ (i % 24) % 2 := by
  have hn : 2 ^ i = 16777216 ^ (i / 24) * 2 ^ (i % 24) := by
    conv => lhs; rw [← Nat.div_add_mod i 24, Nat.pow_add, Nat.pow_mul]
  have hs : i % 24 < 24 := Nat.mod_lt _ (by decide)
  rw [hn, ← Nat.div_div_eq_div_mul]
  by_cases h : i / 24 < l.length
  · have hp : 0 < 16777216 ^ (i / 24) := Nat.pow_pos (by decide)
    have h1 : val 16777216 l / 16777216 ^ (i / 24) = val 16777216 (l.drop (i / 24)) := by
      rw [val_split _ l (Nat.le_of_lt h), Nat.add_mul_div_left _ _ hp, Nat.div_eq_of_lt, Nat.zero_add]
      have := val_lt (hd.take (i / 24))
      rw [List.length_take, Nat.min_eq_left (by omega)] at this
      exact this
    rw [h1, List.drop_eq_getElem_cons h, val, getD_get h]
    have h2 : (16777216 : Nat) = 2 ^ (i % 24) * (2 * 2 ^ (23 - i % 24)) := by
      rw [← Nat.pow_succ', ← Nat.pow_add, show i % 24 + (23 - i % 24).succ = 24 by omega]
    have h3 : ∀ X, 16777216 * X = 2 ^ (i % 24) * (2 * (2 ^ (23 - i % 24) * X)) := fun X => by
      conv => lhs; rw [h2]
      grind
    rw [h3, Nat.add_mul_div_left _ _ (Nat.two_pow_pos _), Nat.add_mul_mod_self_left]
  · have h1 : val 16777216 l / 16777216 ^ (i / 24) = 0 :=
      Nat.div_eq_of_lt (Nat.lt_of_lt_of_le (val_lt hd) (Nat.pow_le_pow_right (by decide) (by omega)))
    rw [h1, getD_ge (by omega)]
theorem bin_and1 {t : TypeId} {cx cy : Bool} {a : Nat} {K : Value → Prop} (ha : a ≤ 9223372036854775807) : bin P .and t cx cy (.int .i64 (a : Int)) (.int .i64 1) w K = K (.int .i64 ((a % 2 : Nat) : Int)) := by
  rw [bin_and, BitVec.toNat_and, toNat_word (by simp only [IntKind.bits]; omega)]
  have : (BitVec.ofInt IntKind.i64.bits 1).toNat = 1 := by decide
  rw [this, Nat.and_one_is_mod, wrap_i64 (by omega) (by omega)]
theorem c_l02Bit {v : Value} {m : Int} {i : Nat} (h : Wr w v m) (hi : i ≤ 9223372036854775807) (H : ∀ w', Ext w w' → K (.int .i64 ((m.natAbs / 2 ^ i % 2 : Nat) : Int)) w') : call P f_spec_l02Bit [v, .int .i64 (i : Int)] w K := by
  obtain ⟨s, l, rfl, h1, n1, v1⟩ := h
  have hv := bit_val24 n1.1 i
  rw [v1] at hv
  rw [hv] at H
  refine I_spec_l02Bit ?_
  unfold D_spec_l02Bit
  refine bx_Wh fun x1 w1 b1 e1 => ?_
  have h1 := h1.ext e1
  have H := H w1 e1
  rw [bin_quoI (b := 24) (by omega) (by decide)]
  refine wh_l b1 ?_
  rw [h1.row.len u_s_int64, bin_geq]
  refine cnd_dec (fun hge => ?_) (fun hlt => ?_)
  · rw [getD_ge (by omega)] at H
    simpa using H
  · have hlt : i / 24 < l.length := by omega
    refine wh_l b1 ?_
    rw [bin_quoI (b := 24) (by omega) (by decide)]
    refine h1.at hlt u_s_int64 i_int64 u_int64 ?_
    have g1 := Dig_get n1.1 hlt
    have hs : i % 24 < 24 := Nat.mod_lt _ (by decide)
    rw [bin_remI (b := 24) (by decide), cnv_int_int u_int64 u_uint64, w_u64' (by omega), bin_shrN (s := i % 24) (by simp only [IntKind.bits]; omega)]
    have := Nat.div_le_self l[i / 24] (2 ^ (i % 24))
    rw [bin_and1 (by omega)]
    rw [getD_get hlt] at H
    exact H
end Go.Proofs.YtjompmflommadaaGreatDoor


set_option linter.unusedVariables false
namespace Go.Proofs.YtjompmflommadaaGreatDoor
open Go Go.Vc
variable {w : World} {K : Value → World → Prop}
theorem wh_fa {base : Nat} {x s : Value} {m : Int} (h : Bx w base t_impl_Whole x [.int .i64 m, s]) :
    ∃ a, (∀ (w : World) (K : Value → Prop), fda P t_impl_Whole x 0 w K = K a) ∧ (∀ {w' : World} {base' : Nat} {m' : Int} {s' : Value}, Bx w' base' t_impl_Whole x [.int .i64 m', s'] → ∀ K, ld P t_int64 a w' K = K (.int .i64 m')) := by
  obtain ⟨a, h1, h2, _⟩ := Bx_fa (f := 0) (off := 0) (ty := t_int64) h u_impl_Whole rfl i_int64 u_int64 rfl
  exact ⟨a, h1, fun h' => h2 h' rfl⟩
theorem bin_shlI {t : TypeId} {cx cy : Bool} {yk : IntKind} {a s : Nat} {c : Int} {K : Value → Prop} (hs : s ≤ 64) (h : a * 2 ^ s ≤ 9223372036854775807) (hc : c = (s : Int) := by rfl) : bin P .shl t cx cy (.int .i64 (a : Int)) (.int yk c) w K = K (.int .i64 ((a * 2 ^ s : Nat) : Int)) :=
  bin_shlN hs (by rw [max_i64]; omega) hc
theorem p24 (k : Nat) : 2 ^ k = 16777216 ^ (k / 24) * 2 ^ (k % 24) := by
  conv => lhs; rw [← Nat.div_add_mod k 24, Nat.pow_add, Nat.pow_mul]
theorem left_step24 {V T c d s p x S F : Nat} (hv : V + c * p = T * S * F) (hs : x = c + d * S) (hp : p = s * F) : V + p * (x % 16777216) + x / 16777216 * (p * 16777216) = (T + s * d) * S * F := by
  have h := Nat.div_add_mod x 16777216
  have h2 : p * (16777216 * (x / 16777216) + x % 16777216) = p * (c + d * S) := by rw [h, hs]
  subst hp
  grind
theorem c_l02Left {v : Value} {m : Int} {k : Nat} (h : Wr w v m) (bm : bl m.natAbs ≤ 1099511627776) (bk : k ≤ 1099511627776) (H : ∀ v' w', Ext w w' → Wo w' w.heap.size w'.heap.size v' (m * 2 ^ k) → K v' w') : call P f_spec_l02Left [v, .int .i64 (k : Int)] w K := by
  obtain ⟨s, l, rfl, h1, wl⟩ := h
  have l1 := wl.len bm
  obtain ⟨n1, v1⟩ := wl
  have d1 := n1.1
  refine I_spec_l02Left ?_
  unfold D_spec_l02Left
  refine bx_Wh fun x1 w1 b1 e1 => ?_
  refine alc_Wh fun x2 w2 ⟨cs, hcs, b2⟩ e2 => ?_
  have b1 := b1.ext e2
  have E2 := e1.trans e2
  have h1 := h1.ext E2
  rw [bin_quoI (b := 24) (by omega) (by decide)]
  refine OD.make u_s_int64 i_int64 (by omega) (by simp only [maxLen]; omega) fun w3 o ho he => ?_
  have hs : k % 24 < 24 := Nat.mod_lt _ (by decide)
  have hps : 2 ^ (k % 24) ≤ 8388608 := Nat.pow_le_pow_right (n := 2) (by decide) (show k % 24 ≤ 23 by omega)
  have hpp := Nat.two_pow_pos (k % 24)
  refine ⟨fun g x y z w' => ∃ (i c : Nat) (q : List Nat), g + i = l.length ∧ y = .int .i64 (c : Int) ∧ z = .int .i64 (i : Int) ∧ Ext w2 w' ∧ OD .i64 t_int64 w' w2.heap.size x q ∧ q.length = k / 24 + i ∧ Dig 16777216 q ∧ c < 16777216 ∧
    val 16777216 q + c * 16777216 ^ (k / 24 + i) = val 16777216 (l.take i) * 2 ^ (k % 24) * 16777216 ^ (k / 24), ⟨l.length, 0, 0, _, rfl, rfl, rfl, he, ho, by simp, Dig_rep _ _ (by decide), by omega, by simp [val, val_replicate]⟩, ?_⟩
  rintro g x y z junk w4 ⟨i, c, q, hg, rfl, rfl, e4, oq, hq, dq, hc, hv⟩
  have E4 := E2.trans e4
  refine wh_l (b1.ext e4) ?_
  rw [(h1.ext e4).row.len u_s_int64, bin_lss]
  refine cnd_dec (fun hlt => ?_) (fun hge => ?_)
  · have hi : i < l.length := by omega
    have g1 := Dig_get d1 hi
    refine wh_l (b1.ext e4) ?_
    refine (h1.ext e4).at hi u_s_int64 i_int64 u_int64 ?_
    have hmul : l[i] * 2 ^ (k % 24) ≤ 16777215 * 8388608 := Nat.mul_le_mul (by omega) hps
    rw [bin_remI (b := 24) (by decide), cnv_int_int u_int64 u_uint64, w_u64' (by omega), bin_shlI (s := k % 24) (by omega) (by omega), bin_addI (by omega), bin_remI (b := 16777216) (by decide)]
    refine app_OD oq u_s_int64 i_int64 (by simp only [maxLen]; omega) (by omega) e4.size fun v' w5 o5 g5 => ?_
    rw [bin_quoI (b := 16777216) (by omega) (by decide), bin_addI1 (b := 1) (by omega)]
    refine ⟨g - 1, by omega, i + 1, _, _, by omega, rfl, rfl, own_step e4 oq g5, o5, by simp [hq]; omega, Dig_snoc dq (Nat.mod_lt _ (by decide)), ?_, ?_⟩
    · rw [Nat.div_lt_iff_lt_mul (by decide)]; omega
    · rw [val_snoc, hq, val_take_succ _ hi, show (16777216 : Nat) ^ (k / 24 + (i + 1)) = 16777216 ^ (k / 24 + i) * 16777216 from pL _]
      exact left_step24 hv rfl (by rw [Nat.pow_add, Nat.mul_comm])
  · have hi : i = l.length := by omega
    subst hi
    rw [List.take_of_length_le (Nat.le_refl _)] at hv
    have b14 := b1.ext e4
    obtain ⟨a, fa, la⟩ := wh_fa b14
    rw [fa, la b14]
    refine app_ODx oq u_s_int64 i_int64 (by simp only [maxLen]; omega) (by omega) e4.size fun v' w5 o5 g5 => ?_
    have e5 := own_step e4 oq g5
    rw [fa, la (b1.ext e5)]
    refine ⟨rfl, rfl, ?_⟩
    have hval : val 16777216 (q ++ [c]) = m.natAbs * 2 ^ k := by
      rw [val_snoc, hq, Nat.mul_comm, hv, v1, p24 k]
      grind
    refine wh_make (m := m * 2 ^ k) (E2.trans e5) (b2.ext e5) hcs e1.size (OD.IR o5) (Dig_snoc dq hc) (by rw [hval, Int.natAbs_mul, natAbs_two_pow]) (fun _ => ?_) (by simp; omega) H
    rw [Int.sign_mul, Int.sign_eq_one_of_pos (Int.pow_pos (by decide)), Int.mul_one]
theorem right_dig24 {l : List Nat} {i s : Nat} (hd : Dig 16777216 l) (hi : i < l.length) (hs : s < 24) :
    val 16777216 l / 2 ^ s / 16777216 ^ i % 16777216 = (l[i] / 2 ^ s + l.getD (i + 1) 0 * 2 ^ (24 - s)) % 16777216 := by
  have h1 : val 16777216 l / 2 ^ s / 16777216 ^ i = val 16777216 l / 16777216 ^ i / 2 ^ s := by
    rw [Nat.div_div_eq_div_mul, Nat.div_div_eq_div_mul, Nat.mul_comm]
  have h2 : val 16777216 l / 16777216 ^ i = val 16777216 (l.drop i) := by
    have hp : 0 < 16777216 ^ i := Nat.pow_pos (by decide)
    rw [val_split _ l (Nat.le_of_lt hi), Nat.add_mul_div_left _ _ hp, Nat.div_eq_of_lt, Nat.zero_add]
    have := val_lt (hd.take i)
    rw [List.length_take, Nat.min_eq_left (by omega)] at this
    exact this
  have h3 : ∃ X, val 16777216 (l.drop i) = l[i] + l.getD (i + 1) 0 * 16777216 + 281474976710656 * X := by
    rw [List.drop_eq_getElem_cons hi, val]
    by_cases h : i + 1 < l.length
    · rw [List.drop_eq_getElem_cons h, val, getD_get h]
      exact ⟨val 16777216 (l.drop (i + 1 + 1)), by grind⟩
    · rw [List.drop_eq_nil_of_le (by omega), val, getD_ge (by omega)]
      exact ⟨0, rfl⟩
  obtain ⟨X, hX⟩ := h3
  have hb : (16777216 : Nat) = 2 ^ s * 2 ^ (24 - s) := by rw [← Nat.pow_add, show s + (24 - s) = 24 by omega]
  rw [h1, h2, hX]
  have h4 : l[i] + l.getD (i + 1) 0 * 16777216 + 281474976710656 * X = l[i] + 2 ^ s * (l.getD (i + 1) 0 * 2 ^ (24 - s) + 16777216 * (2 ^ (24 - s) * X)) := by
    have h5 : (281474976710656 : Nat) = 16777216 * 16777216 := rfl
    have h6 : l.getD (i + 1) 0 * 16777216 = 2 ^ s * (l.getD (i + 1) 0 * 2 ^ (24 - s)) := by
      conv => lhs; rw [hb]
      grind
    have h7 : 281474976710656 * X = 2 ^ s * (16777216 * (2 ^ (24 - s) * X)) := by
      rw [h5]
      conv => lhs; rw [show (16777216 * 16777216 : Nat) = 16777216 * (2 ^ s * 2 ^ (24 - s)) by rw [← hb]]
      grind
    rw [h6, h7]; grind
  rw [h4, Nat.add_mul_div_left _ _ (Nat.two_pow_pos _), ← Nat.add_assoc, Nat.add_mul_mod_self_left]
theorem c_l02Cut {v : Value} {m m' : Int} {k : Nat} (h : Wr w v m) (bm : bl m.natAbs ≤ 1099511627776) (bk : k ≤ 9223372036854775807) (hm : m'.natAbs = m.natAbs / 2 ^ k) (hs : m' ≠ 0 → m'.sign = m.sign) (H : ∀ v' w', Ext w w' → Wo w' w.heap.size w'.heap.size v' m' → K v' w') : call P f_spec_l02Cut [v, .int .i64 (k : Int)] w K := by
  obtain ⟨s, l, rfl, h1, wl⟩ := h
  have l1 := wl.len bm
  obtain ⟨n1, v1⟩ := wl
  have d1 := n1.1
  refine I_spec_l02Cut ?_
  unfold D_spec_l02Cut
  refine bx_Wh fun x1 w1 b1 e1 => ?_
  refine alc_Wh fun x2 w2 ⟨cs, hcs, b2⟩ e2 => ?_
  have b1 := b1.ext e2
  have E2 := e1.trans e2
  have h1 := h1.ext E2
  refine bsl_nil u_s_int64 i_int64 ?_
  have he := Ext_alloc w2 (.cells #[] t_int64)
  have hz : OD .i64 t_int64 (w2.alloc (.cells #[] t_int64)) w2.heap.size (.slice (some ⟨w2.heap.size, 0, none⟩) 0 0) [] := owns_lit w2 [] t_int64
  generalize w2.alloc (.cells #[] t_int64) = w3 at he hz ⊢
  rw [bin_quoI (b := 24) (by omega) (by decide)]
  have hs24 : k % 24 < 24 := Nat.mod_lt _ (by decide)
  have hdiv : m.natAbs / 2 ^ k = val 16777216 (l.drop (k / 24)) / 2 ^ (k % 24) := by
    rw [p24 k, ← Nat.div_div_eq_div_mul, ← v1]
    congr 1
    by_cases hle : k / 24 ≤ l.length
    · have hp : 0 < 16777216 ^ (k / 24) := Nat.pow_pos (by decide)
      conv => lhs; rw [val_split _ l hle]
      rw [Nat.add_mul_div_left _ _ hp, Nat.div_eq_of_lt, Nat.zero_add]
      have := val_lt (d1.take (k / 24))
      rw [List.length_take, Nat.min_eq_left hle] at this
      exact this
    · rw [List.drop_eq_nil_of_le (by omega), val]
      exact Nat.div_eq_of_lt (Nat.lt_of_lt_of_le (val_lt d1) (Nat.pow_le_pow_right (by decide) (by omega)))
  have dr : Dig 16777216 (l.drop (k / 24)) := d1.drop _
  have hrl : (l.drop (k / 24)).length = l.length - k / 24 := List.length_drop
  have hget : ∀ j, (l.drop (k / 24)).getD j 0 = l.getD (k / 24 + j) 0 := fun j => by simp [List.getD_eq_getElem?_getD, List.getElem?_drop]
  generalize hR : l.drop (k / 24) = R at *
  refine ⟨fun g x y w' => ∃ (j : Nat) (q : List Nat), g + j = R.length ∧ y = .int .i64 ((k / 24 + j : Nat) : Int) ∧ Ext w2 w' ∧ OD .i64 t_int64 w' w2.heap.size x q ∧ q.length = j ∧ Dig 16777216 q ∧
    val 16777216 q = val 16777216 R / 2 ^ (k % 24) % 16777216 ^ j, ⟨R.length, 0, [], rfl, rfl, he, hz, rfl, (by intro d hd; cases hd), by simp [val, Nat.mod_one]⟩, ?_⟩
  rintro g x y junk w4 ⟨j, q, hg, rfl, e4, oq, hq, dq, hv⟩
  refine wh_l (b1.ext e4) ?_
  rw [(h1.ext e4).row.len u_s_int64, bin_lss]
  refine cnd_dec (fun hlt => ?_) (fun hge => ?_)
  · have hi : k / 24 + j < l.length := by omega
    have hj : j < R.length := by omega
    have g1 := Dig_get d1 hi
    have hRj : R[j] = l[k / 24 + j] := by
      have := hget j
      rw [getD_get hj, getD_get hi] at this; exact this
    refine wh_l (b1.ext e4) ?_
    refine (h1.ext e4).at hi u_s_int64 i_int64 u_int64 ?_
    have hle := Nat.div_le_self l[k / 24 + j] (2 ^ (k % 24))
    have key := right_dig24 dr hj hs24
    rw [hRj, hget] at key
    rw [bin_remI (b := 24) (by decide), cnv_int_int u_int64 u_uint64, w_u64' (by omega), bin_shrN (s := k % 24) (by simp only [IntKind.bits]; omega), bin_addI1 (b := 1) (by omega)]
    refine wh_l (b1.ext e4) ?_
    rw [(h1.ext e4).row.len u_s_int64, bin_lss]
    have app : ∀ d : Nat, d = (l[k / 24 + j] / 2 ^ (k % 24) + l.getD (k / 24 + (j + 1)) 0 * 2 ^ (24 - k % 24)) % 16777216 → bsl P t_s_int64 1 [(0, .int .i64 (d : Int))] w4 fun x49_41 w42 =>
        bl2 P .append #[t_s_int64, t_s_int64] t_s_int64 [x, x49_41] w42 fun x50_43 w44 =>
        bin P .add t_int64 false true (.int .i64 ((k / 24 + j : Nat) : Int)) (.int .i64 1) w44 fun x17_45 =>
        ∃ m46, m46 < g ∧ ∃ (j : Nat) (q : List Nat), m46 + j = R.length ∧ x17_45 = .int .i64 ((k / 24 + j : Nat) : Int) ∧ Ext w2 w44 ∧ OD .i64 t_int64 w44 w2.heap.size x50_43 q ∧ q.length = j ∧ Dig 16777216 q ∧ val 16777216 q = val 16777216 R / 2 ^ (k % 24) % 16777216 ^ j := by
      intro d hd
      refine app_OD oq u_s_int64 i_int64 (by simp only [maxLen]; omega) (by omega) e4.size fun v' w5 o5 g5 => ?_
      rw [bin_addI1 (b := 1) (by omega)]
      refine ⟨g - 1, by omega, j + 1, _, by omega, rfl, own_step e4 oq g5, o5, by simp [hq], Dig_snoc dq (by rw [hd]; exact Nat.mod_lt _ (by decide)), ?_⟩
      rw [val_snoc, hq, hv, hd, ← key, Nat.mod_pow_succ]
    refine cnd_dec (fun h2 => ?_) (fun h2 => ?_)
    · have hi2 : k / 24 + j + 1 < l.length := by omega
      have g2 := Dig_get d1 hi2
      refine wh_l (b1.ext e4) ?_
      rw [bin_addI1 (b := 1) (by omega)]
      refine (h1.ext e4).at hi2 u_s_int64 i_int64 u_int64 ?_
      have hp2 : 2 ^ (24 - k % 24) ≤ 16777216 := Nat.pow_le_pow_right (n := 2) (by decide) (show 24 - k % 24 ≤ 24 by omega)
      have hmul : l[k / 24 + j + 1] * 2 ^ (24 - k % 24) ≤ 16777215 * 16777216 := Nat.mul_le_mul (by omega) hp2
      rw [bin_remI (b := 24) (by decide), bin_sub, wrap_i64 (by omega) (by omega), show (24 : Int) - ((k % 24 : Nat) : Int) = ((24 - k % 24 : Nat) : Int) by omega, cnv_int_int u_int64 u_uint64, w_u64' (by omega),
        bin_shlI (s := 24 - k % 24) (by omega) (by omega), bin_addI (by omega), bin_remI (b := 16777216) (by decide)]
      exact app _ (by rw [show k / 24 + (j + 1) = k / 24 + j + 1 from rfl, getD_get hi2])
    · refine app _ ?_
      rw [getD_ge (by omega : l.length ≤ k / 24 + (j + 1)), Nat.zero_mul, Nat.add_zero]
      exact (Nat.mod_eq_of_lt (by omega)).symm
  · have hj : R.length ≤ j := by omega
    refine wh_s (b1.ext e4) ?_
    have hval : val 16777216 q = m'.natAbs := by
      rw [hm, hdiv, hv, Nat.mod_eq_of_lt]
      refine Nat.lt_of_le_of_lt (Nat.div_le_self _ _) (Nat.lt_of_lt_of_le (val_lt dr) (Nat.pow_le_pow_right (by decide) hj))
    exact wh_make (m := m') (E2.trans e4) (b2.ext e4) hcs e1.size (OD.IR oq) dq hval.symm hs (by omega) H
theorem c_l01In {n lo hi : Int} (H : K (.bool (decide (lo ≤ n ∧ n ≤ hi))) w) : call P f_spec_l01In [.int .i64 n, .int .i64 lo, .int .i64 hi] w K := by
  refine I_spec_l01In ?_
  unfold D_spec_l01In
  rw [bin_geq]
  refine ⟨_, fun _ _ _ h => h, ?_⟩
  refine grd_split (fun h => ?_) (fun h => ?_)
  · rw [bin_leq, pick_bool, h, cond_true]
    have h := of_decide_eq_true h
    have e : decide (lo ≤ n ∧ n ≤ hi) = decide (n ≤ hi) := by rw [decide_eq_decide]; exact ⟨fun q => q.2, fun q => ⟨h, q⟩⟩
    rw [e] at H; exact H
  · rw [h, pick_bool, Bool.not_true, cond_false]
    have h := of_decide_eq_false h
    have e : decide (lo ≤ n ∧ n ≤ hi) = false := by rw [decide_eq_false_iff_not]; exact fun q => h q.1
    rw [e] at H; exact H
theorem grd_both {v : Value} {want : Bool} {A B : Prop} (hA : A) (hB : B) : grd v want A B := by
  unfold grd
  split
  · generalize (_ == want) = c
    cases c
    · exact hB
    · exact hA
  · exact hB
theorem len100 {l : List Nat} (h : Norm 16777216 l) : l.length ≤ 100 ↔ bl (val 16777216 l) ≤ 2400 := by
  have h1 := (Norm.len_le (s := 24) (by decide) h)
  have e : val (2 ^ 24) l = val 16777216 l := rfl
  rw [e] at h1
  constructor
  · intro h2; omega
  · intro h2
    refine Nat.le_of_not_lt fun hc => ?_
    have := Norm.len_lt (s := 24) (by decide) h (by rintro rfl; simp at hc)
    rw [e] at this
    omega
theorem c_l02Is {v : Value} {m : Int} (h : Wr w v m) (H : ∀ w', Ext w w' → K (.bool (decide (bl m.natAbs ≤ 2400))) w') : call P f_spec_l02Is [v] w K := by
  obtain ⟨s, l, rfl, h1, n1, v1⟩ := h
  have hb := h1.bound
  refine I_spec_l02Is ?_
  unfold D_spec_l02Is
  refine bx_Wh fun x1 w1 b1 e1 => ?_
  have h1 := h1.ext e1
  have H1 := H w1 e1
  rw [← v1] at H1
  clear H
  refine wh_l b1 ?_
  rw [h1.row.len u_s_int64]
  refine ⟨fun g x w' => w' = w1 ∧ ∃ i : Nat, x = .int .i64 (i : Int) ∧ g + i = l.length, ⟨l.length, rfl, 0, rfl, by omega⟩, ?_⟩
  rintro g x junk w' ⟨rfl, i, rfl, hg⟩
  rw [bin_lss]
  refine cnd_dec (fun hlt => ?_) (fun hge => ?_)
  · have hi : i < l.length := by omega
    refine wh_l b1 ?_
    refine h1.at hi u_s_int64 i_int64 u_int64 ?_
    have g1 := Dig_get n1.1 hi
    refine c_l01In ?_
    rw [decide_eq_true (by omega), una_not, Bool.not_true, cnd_false, bin_addI1 (b := 1) (by omega)]
    exact ⟨g - 1, by omega, rfl, i + 1, rfl, by omega⟩
  · rw [bin_eql]
    refine cnd_dec (fun h0 => ?_) (fun h0 => ?_)
    · obtain rfl : l = [] := List.eq_nil_of_length_eq_zero (by omega)
      refine wh_s b1 ?_
      have hm : m = 0 := by simp only [val] at v1; omega
      subst hm
      rw [bin_eql]
      simpa [val, bl_zero] using H1
    · have hl : 0 < l.length := by omega
      have hz : l[l.length - 1] ≠ 0 := by
        intro hz
        have := n1.2
        rw [List.getLast?_eq_getElem?, List.getElem?_eq_getElem (by omega), hz] at this
        exact this rfl
      have hpos := n1.pos (by decide) (by rintro rfl; simp at hl : l ≠ [])
      have hm0 : m ≠ 0 := by omega
      rw [bin_leq]
      have e100 : decide ((l.length : Int) ≤ 100) = decide (bl (val 16777216 l) ≤ 2400) := by
        rw [decide_eq_decide, ← len100 n1]; omega
      rw [e100]
      generalize decide (bl (val 16777216 l) ≤ 2400) = B at H1 ⊢
      refine ⟨fun x w'' => w'' = w' ∧ (B = true → x = .bool true), ?_, ?_⟩
      · rintro x junk w2 ⟨rfl, hx⟩
        have hp : pick (.bool B) x (.bool false) = fun K => K (.bool B) := by
          funext K; rw [pick_bool]; cases B
          · rfl
          · rw [hx rfl]; rfl
        rw [hp]
        refine ⟨fun x w'' => w'' = w2 ∧ (B = true → x = .bool (decide (m.sign = 1))), ?_, ?_⟩
        · rintro x junk w3 ⟨rfl, hx⟩
          refine ⟨fun y w'' => w'' = w3 ∧ (B = true → m.sign ≠ 1 → y = .bool (decide (m.sign = -1))), ?_, ?_⟩
          · rintro y junk w4 ⟨rfl, hy⟩
            refine ⟨fun z w'' => w'' = w4 ∧ (B = true → z = .bool true), ?_, ?_⟩
            · rintro z junk w5 ⟨rfl, hz⟩
              rw [pick_bool]
              cases B
              · exact H1
              · rw [hz rfl]; exact H1
            · refine grd_split (fun hB => ?_) (fun hB => ?_)
              · rw [hx hB, pick_bool]
                refine ⟨rfl, fun _ => ?_⟩
                by_cases hs : m.sign = 1
                · rw [decide_eq_true hs]; rfl
                · rw [decide_eq_false hs, cond_false, hy hB hs]
                  have := sign_neg (m := m) (by
                    rcases Int.lt_trichotomy m 0 with h | h | h
                    · exact h
                    · exact absurd h hm0
                    · exact absurd (sign_pos h) hs)
                  rw [decide_eq_true this]
              · exact ⟨rfl, fun hB' => by rw [hB'] at hB; cases hB⟩
          · by_cases hB : B = true
            · rw [hx hB]
              refine grd_split (fun hs => ?_) (fun hs => ?_)
              · refine wh_s b1 ?_
                rw [bin_eql]
                exact ⟨rfl, fun _ _ => rfl⟩
              · exact ⟨rfl, fun _ hs' => absurd (of_decide_eq_true hs) hs'⟩
            · refine grd_both ?_ ⟨rfl, fun hB' => absurd hB' hB⟩
              refine wh_s b1 ?_
              rw [bin_eql]
              exact ⟨rfl, fun hB' => absurd hB' hB⟩
        · refine grd_split (fun hB => ?_) (fun hB => ?_)
          · refine wh_s b1 ?_
            rw [bin_eql]
            exact ⟨rfl, fun _ => rfl⟩
          · exact ⟨rfl, fun hB' => by rw [hB'] at hB; cases hB⟩
      · refine grd_split (fun hB => ?_) (fun hB => ?_)
        · refine wh_l b1 ?_
          rw [bin_subI1 (b := 1) (by omega) (by omega)]
          refine h1.at (i := l.length - 1) (by omega) u_s_int64 i_int64 u_int64 ?_
          rw [bin_neq]
          exact ⟨rfl, fun _ => by rw [decide_eq_true (by omega)]⟩
        · exact ⟨rfl, fun hB' => by rw [hB'] at hB; cases hB⟩
end Go.Proofs.YtjompmflommadaaGreatDoor


set_option linter.unusedVariables false
namespace Go.Proofs.YtjompmflommadaaGreatDoor
open Go Go.Vc
variable {w : World} {K : Value → World → Prop}
def Dr (w : World) (v : Value) (m e : Int) : Prop := ∃ s l, v = .agg #[.int .i64 m.sign, s, .int .i64 e] ∧ LR w s l ∧ Wl l m
def DQ (w : World) (v : Value) (lo hi : Nat) (q : Rat) : Prop := ∃ m e, Dr w v m e ∧ Cn lo hi q m e
theorem Dr.ext {w' : World} {v : Value} {m e : Int} (h : Dr w v m e) (he : Ext w w') : Dr w' v m e := let ⟨s, l, h1, h2, h3⟩ := h; ⟨s, l, h1, h2.ext he, h3⟩
theorem DQ.ext {w' : World} {v : Value} {lo hi : Nat} {q : Rat} (h : DQ w v lo hi q) (he : Ext w w') : DQ w' v lo hi q := let ⟨m, e, h1, h2⟩ := h; ⟨m, e, h1.ext he, h2⟩
theorem Cn.mono {lo hi lo' hi' : Nat} {q : Rat} {m e : Int} (h : Cn lo hi q m e) (h1 : lo ≤ lo') (h2 : hi ≤ hi') : Cn lo' hi' q m e := ⟨h.canon, h.bd.mono h1 h2, h.val⟩
theorem Dr.kt {w' : World} {v : Value} {m e : Int} {row : Option Nat} {e' : TypeId} (h : Dr w v m e) (hg : w.grownBy w' row) (ht : Ty w row e') (hne : t_int64 ≠ e') : Dr w' v m e := let ⟨s, l, h1, h2, h3⟩ := h; ⟨s, l, h1, h2.kt hg ht hne, h3⟩
theorem DQ.kt {w' : World} {v : Value} {lo hi : Nat} {q : Rat} {row : Option Nat} {e' : TypeId} (h : DQ w v lo hi q) (hg : w.grownBy w' row) (ht : Ty w row e') (hne : t_int64 ≠ e') : DQ w' v lo hi q := let ⟨m, e, h1, h2⟩ := h; ⟨m, e, h1.kt hg ht hne, h2⟩
theorem DQ.mono {v : Value} {lo hi lo' hi' : Nat} {q : Rat} (h : DQ w v lo hi q) (h1 : lo ≤ lo') (h2 : hi ≤ hi') : DQ w v lo' hi' q := let ⟨m, e, a, b⟩ := h; ⟨m, e, a, b.mono h1 h2⟩
theorem Do.Dr {lo hi : Nat} {v : Value} {m e : Int} (h : Do w lo hi v m e) : Dr w v m e := let ⟨s, l, h1, h2, h3⟩ := h; ⟨s, l, h1, LR.of h2.own, h3⟩
theorem Do.ext {w' : World} {lo hi : Nat} {v : Value} {m e : Int} (h : Do w lo hi v m e) (he : Ext w w') : Do w' lo hi v m e := let ⟨s, l, h1, h2, h3⟩ := h; ⟨s, l, h1, h2.ext he, h3⟩
theorem Do.mono {lo hi lo' hi' : Nat} {v : Value} {m e : Int} (h : Do w lo hi v m e) (h1 : lo' ≤ lo) (h2 : hi ≤ hi') : Do w lo' hi' v m e := let ⟨s, l, a, b, c⟩ := h; ⟨s, l, a, b.mono h1 h2, c⟩
theorem Dr.zero (w : World) : Dr w (.agg #[.int .i64 0, .slice none 0 0, .int .i64 0]) 0 0 := ⟨_, [], rfl, LR.nil _, Wl.zero⟩
theorem DQ.zero (w : World) : DQ w (.agg #[.int .i64 0, .slice none 0 0, .int .i64 0]) 0 0 0 := ⟨0, 0, Dr.zero w, .inl ⟨rfl, rfl⟩, Bd.zero _ _, (dy_zero 0).symm⟩
theorem Wr.sl {s : Value} {m : Int} {n : Int} (h : Wr w (.agg #[.int .i64 n, s]) m) : ∃ a l c, s = .slice a l c := by
  obtain ⟨s', l, e, h1, _⟩ := h
  simp only [Value.agg.injEq, Array.mk.injEq, List.cons.injEq, and_true] at e
  rw [e.2]
  exact IR.sl h1.toIR
def dv3 (n : Int) (s : Value) (e : Int) : List Value := [.int .i64 n, s, .int .i64 e]
section
variable {base : Nat} {x s : Value} {n e : Int} {K : Value → Prop}
theorem dy_all (h : Bx w base t_impl_Dyadic x (dv3 n s e)) (H : K (.agg #[.int .i64 n, s, .int .i64 e])) : ld P t_impl_Dyadic x w K :=
  h.get u_impl_Dyadic rfl i_impl_Dyadic rfl H
theorem dy_e (h : Bx w base t_impl_Dyadic x (dv3 n s e)) (H : K (.int .i64 e)) : fda P t_impl_Dyadic x 1 w (fun a => ld P t_int64 a w K) :=
  h.fld (off := 2) rfl u_impl_Dyadic rfl i_int64 u_int64 rfl H
theorem dy_w (h : Bx w base t_impl_Dyadic x (dv3 n s e)) (H : K (.agg #[.int .i64 n, s])) : fda P t_impl_Dyadic x 0 w (fun a => ld P t_impl_Whole a w K) := by
  obtain ⟨g, rfl, hc⟩ := h.cell
  rw [d_impl_Dyadic_0, addr_zero]
  refine (ld_agg (cs := [.int .i64 n, s]) u_impl_Whole rfl i_impl_Whole rfl (fun j u hu => ?_)) ▸ H
  rw [Addr.add_lit, Nat.zero_add]
  refine (hc j u ?_).1
  match j, hu with
  | 0, hu => exact hu
  | 1, hu => exact hu
  | _ + 2, hu => simp at hu
theorem dy_ws (h : Bx w base t_impl_Dyadic x (dv3 n s e)) (H : K (.int .i64 n)) : fda P t_impl_Dyadic x 0 w (fun a => fda P t_impl_Whole a 0 w (fun b => ld P t_int64 b w K)) := by
  obtain ⟨g, rfl, hc⟩ := h.cell
  rw [d_impl_Dyadic_0, addr_zero, d_impl_Whole_0, addr_zero, ld_scalar u_int64 rfl (hc 0 _ rfl).1]
  exact H
theorem dy_wl (h : Bx w base t_impl_Dyadic x (dv3 n s e)) (H : K s) : fda P t_impl_Dyadic x 0 w (fun a => fda P t_impl_Whole a 1 w (fun b => ld P t_s_int64 b w K)) := by
  obtain ⟨g, rfl, hc⟩ := h.cell
  rw [d_impl_Dyadic_0, addr_zero, d_impl_Whole_1, Addr.add_lit, ld_scalar u_s_int64 rfl (hc 1 _ rfl).1]
  exact H
theorem bx_Dy {KW : Value → World → Prop} (H : ∀ x w', Bx w' w.heap.size t_impl_Dyadic x (dv3 n s e) → Ext w w' → KW x w') : bx P t_impl_Dyadic (.agg #[.int .i64 n, s, .int .i64 e]) w KW :=
  bx_bx fun x w' b e _ => H x w' b e
theorem alc_Dy {KW : Value → World → Prop} (H : ∀ x w', (∃ cs, cs.length = 3 ∧ Bx w' w.heap.size t_impl_Dyadic x cs) → Ext w w' → KW x w') : alc P t_impl_Dyadic w KW :=
  alc_bx i_impl_Dyadic fun x w' b e _ => H x w' ⟨_, rfl, b⟩ e
end
theorem Dr.put {base : Nat} {x v : Value} {m e : Int} {cs : List Value} {KW : World → Prop} (h : Dr w v m e) (hb : Bx w base t_impl_Dyadic x cs) (hl : cs.length = 3) (H : ∀ w', (∃ s, v = .agg #[.int .i64 m.sign, s, .int .i64 e] ∧ Bx w' base t_impl_Dyadic x (dv3 m.sign s e)) → w.grownBy w' (blk x) → KW w') : sto P t_impl_Dyadic x v w KW := by
  obtain ⟨s, l, rfl, h1, hw⟩ := h
  exact hb.put i_impl_Dyadic (ds := dv3 m.sign s e) rfl hl (one_3 rfl (sl_one (IR.sl h1.toIR)) rfl) fun w' b' g' => H w' ⟨s, rfl, b'⟩ g'
end Go.Proofs.YtjompmflommadaaGreatDoor


set_option linter.unusedVariables false
namespace Go.Proofs.YtjompmflommadaaGreatDoor
open Go Go.Vc Ieee
variable {w : World} {K : Value → World → Prop}
theorem xor_split {a b x y k : Nat} (ha : a < 2 ^ k) (hb : b < 2 ^ k) : (2 ^ k * x + a) ^^^ (2 ^ k * y + b) = 2 ^ k * (x ^^^ y) + (a ^^^ b) := by
  have hab : a ^^^ b < 2 ^ k := Nat.xor_lt_two_pow ha hb
  apply Nat.eq_of_testBit_eq
  intro j
  rw [Nat.testBit_xor, Nat.testBit_two_pow_mul_add _ ha, Nat.testBit_two_pow_mul_add _ hb, Nat.testBit_two_pow_mul_add _ hab]
  split <;> rw [Nat.testBit_xor]
theorem neg32 (b : Nat) (h : b < 4294967296) : Op.negFloat .f32 b = if b < 2147483648 then b + 2147483648 else b - 2147483648 := by
  show b ^^^ 2 ^ 31 = _
  have h1 := xor_split (a := b % 2 ^ 31) (b := 0) (x := b / 2 ^ 31) (y := 1) (k := 31) (Nat.mod_lt _ (by decide)) (by decide)
  rw [Nat.div_add_mod, Nat.mul_one, Nat.add_zero, Nat.xor_zero] at h1
  rw [h1]
  have h31 : (2 : Nat) ^ 31 = 2147483648 := by decide
  rw [h31]
  split
  · rename_i hlt
    rw [Nat.div_eq_of_lt hlt, Nat.mod_eq_of_lt hlt]
    have : (0 ^^^ 1 : Nat) = 1 := by decide
    rw [this]; omega
  · have h2 : b / 2147483648 = 1 := by omega
    rw [h2]
    have : (1 ^^^ 1 : Nat) = 0 := by decide
    rw [this]; omega
abbrev W64 := W double
theorem two64 : (4611686018427387904 : Nat) = W double false 1 1 := by decide
theorem p2464 : (4715268809856909312 : Nat) = W double false 16777216 0 := by decide
theorem c_l01Twos {s : Bool} {m : Nat} {e k : Int} (h1 : bl m ≤ 53) (h2 : -1000 ≤ e) (h3 : e ≤ 900) (h4 : -1000 ≤ e + k) (h5 : e + k ≤ 900) (H : K (.float .f64 (W64 s m (e + k))) w) : call P f_spec_l01Twos [.float .f64 (W64 s m e), .int .i64 k] w K := by
  have hk : -2000 ≤ k ∧ k ≤ 2000 := by omega
  have has1 : Has double 1 1 := Has64 (by decide) (by decide) (by decide)
  refine I_spec_l01Twos ?_
  unfold D_spec_l01Twos
  refine ⟨fun g x y w' => w' = w ∧ ∃ j : Nat, x = .float .f64 (W64 s m (e + j)) ∧ y = .int .i64 (k - j) ∧ g + j = k.toNat, ⟨k.toNat, rfl, 0, by simp, by simp, rfl⟩, ?_⟩
  rintro g x y junk w' ⟨rfl, j, rfl, rfl, hg⟩
  rw [bin_gtr]
  refine cnd_dec (fun hpos => ?_) (fun hneg => ?_)
  · refine rbin_float (by simp) fun r hr => ?_
    have hm := mul_W (s := s) (t := false) hsd (Has64 (m := m) (e := e + j) h1 (by omega) (by omega)) has1
    rw [← two64] at hm
    have := FR_some hr (show floatBits .mul .f64 _ _ = some _ from hm)
    subst this
    rw [bin_sub, wrap_i64 (by omega) (by omega), Bool.xor_false, Nat.mul_one]
    exact ⟨g - 1, by omega, rfl, j + 1, by congr 2; omega, by congr 1; omega, by omega⟩
  · have hj : (j : Int) = max k 0 := by omega
    refine ⟨fun g x y w'' => w'' = w' ∧ ∃ i : Nat, x = .float .f64 (W64 s m (e + j - i)) ∧ y = .int .i64 (k - j + i) ∧ g + i = (-k).toNat, ⟨(-k).toNat, rfl, 0, by simp, by simp, rfl⟩, ?_⟩
    rintro g' x y junk w'' ⟨rfl, i, rfl, rfl, hg'⟩
    rw [bin_lss]
    refine cnd_dec (fun hlt => ?_) (fun hge => ?_)
    · refine rbin_float (by simp) fun r hr => ?_
      have hm := div_two (s := s) hsd (by decide) (Has64 (m := m) (e := e + j - i) h1 (by omega) (by omega)) has1
      rw [← two64] at hm
      have := FR_some hr (show floatBits .quo .f64 _ _ = some _ from hm)
      subst this
      rw [bin_add, wrap_i64 (by omega) (by omega)]
      exact ⟨g' - 1, by omega, rfl, i + 1, by congr 2; omega, by congr 1; omega, by omega⟩
    · rw [show e + (j : Int) - i = e + k by omega]
      exact H
theorem dy_le {m n e : Int} : dy m e ≤ dy n e ↔ m ≤ n := by
  rw [Rat.le_iff_sub_nonneg, Rat.sub_eq_add_neg, ← dy_neg, dy_add, dy_nonneg]; omega
end Go.Proofs.YtjompmflommadaaGreatDoor


set_option linter.unusedVariables false
namespace Go.Proofs.YtjompmflommadaaGreatDoor
open Go Go.Vc
variable {w : World} {K : Value → World → Prop} {g : Nat} {x v : Value} {lo hi : Nat} {q : Rat}
def NC (w : World) (g : Nat) (x : Value) : Prop := blk x = some g ∧ ∃ cs, cs.length = 2 ∧ Bx w g t_impl_num x cs
def NV (w : World) (g : Nat) (x : Value) (lo hi : Nat) (q : Rat) : Prop := blk x = some g ∧ ∃ p e, Bx w g t_impl_num x (nm p e) ∧ NQ w (.agg #[p, .int .i64 e]) lo hi q
theorem NQ.kt {w' : World} {row : Option Nat} {e' : TypeId} (h : NQ w v lo hi q) (hg : w.grownBy w' row) (ht : Ty w row e') (h1 : t_uint32 ≠ e') (h2 : t_impl_integer ≠ e') : NQ w' v lo hi q := by
  obtain ⟨m, e, ⟨p, a, b⟩, c⟩ := h
  exact ⟨m, e, ⟨p, a, b.kt hg ht h1 h2⟩, c⟩
theorem NC.ext {w' : World} (h : NC w g x) (he : Ext w w') : NC w' g x := let ⟨a, cs, b, c⟩ := h; ⟨a, cs, b, c.ext he⟩
theorem NV.ext {w' : World} (h : NV w g x lo hi q) (he : Ext w w') : NV w' g x lo hi q := let ⟨a, p, e, b, c⟩ := h; ⟨a, p, e, b.ext he, c.ext he⟩
theorem NV.NC (h : NV w g x lo hi q) : NC w g x := let ⟨a, _, _, b, _⟩ := h; ⟨a, _, rfl, b⟩
theorem NV.mono {lo' hi' : Nat} (h : NV w g x lo hi q) (h1 : lo ≤ lo') (h2 : hi ≤ hi') : NV w g x lo' hi' q := let ⟨a, p, e, b, c⟩ := h; ⟨a, p, e, b, c.mono h1 h2⟩
theorem NV.get {K : Value → Prop} (h : NV w g x lo hi q) (H : ∀ v, NQ w v lo hi q → K v) : ld P t_impl_num x w K := let ⟨_, _, _, b, c⟩ := h; num_all b (H _ c)
theorem NV.getc {K : Value → Prop} (h : NV w g x lo hi q) (H : ∀ v, NQ w v lo hi q → K v) : ldc P t_impl_num x w K := let ⟨_, _, _, b, c⟩ := h; b.getc u_impl_num rfl i_impl_num rfl (H _ c)
theorem NC.put {K : World → Prop} (h : NC w g x) (hv : NQ w v lo hi q) (H : ∀ w', NV w' g x lo hi q → w.grownBy w' (some g) → Ty w (some g) t_impl_num → K w') : sto P t_impl_num x v w K := by
  obtain ⟨hg, cs, hl, b⟩ := h
  have t := Ty.box b
  obtain ⟨m, e, ⟨p, rfl, ip⟩, hb, hq⟩ := hv
  refine b.put i_impl_num (ds := nm p e) rfl hl (one_2 ip.one rfl) fun w' b' g' => ?_
  rw [hg] at g' t
  exact H w' ⟨hg, p, e, b', m, e, ⟨p, rfl, ip.kt g' t (by decide) (by decide)⟩, hb, hq⟩ g' t
theorem NV.ty (h : NV w g x lo hi q) : Ty w (some g) t_impl_num := let ⟨a, _, _, b, _⟩ := h; a ▸ Ty.box b
theorem NV.lt (h : NV w g x lo hi q) : g < w.heap.size := let ⟨a, _, _, b, _⟩ := h; (b.blk_lt a).2
theorem NC.lt (h : NC w g x) : g < w.heap.size := let ⟨a, _, _, b⟩ := h; (b.blk_lt a).2
theorem ext_gr {w w' w'' : World} {g : Nat} (he : Ext w w') (hw : w.heap.size ≤ g) (hg : w'.grownBy w'' (some g)) : Ext w w'' :=
  ext_of_grown he (fun k hk => by cases hk; exact hw) hg
def DC (w : World) (g : Nat) (x : Value) : Prop := blk x = some g ∧ ∃ cs, cs.length = 3 ∧ Bx w g t_impl_Dyadic x cs
def DV (w : World) (g : Nat) (x : Value) (lo hi : Nat) (q : Rat) : Prop := blk x = some g ∧ ∃ n s e, Bx w g t_impl_Dyadic x (dv3 n s e) ∧ DQ w (.agg #[.int .i64 n, s, .int .i64 e]) lo hi q
theorem DC.ext {w' : World} (h : DC w g x) (he : Ext w w') : DC w' g x := let ⟨a, cs, b, c⟩ := h; ⟨a, cs, b, c.ext he⟩
theorem DV.ext {w' : World} (h : DV w g x lo hi q) (he : Ext w w') : DV w' g x lo hi q := let ⟨a, p, s, e, b, c⟩ := h; ⟨a, p, s, e, b.ext he, c.ext he⟩
theorem DV.DC (h : DV w g x lo hi q) : DC w g x := let ⟨a, _, _, _, b, _⟩ := h; ⟨a, _, rfl, b⟩
theorem DV.mono {lo' hi' : Nat} (h : DV w g x lo hi q) (h1 : lo ≤ lo') (h2 : hi ≤ hi') : DV w g x lo' hi' q := let ⟨a, p, s, e, b, c⟩ := h; ⟨a, p, s, e, b, c.mono h1 h2⟩
theorem DV.get {K : Value → Prop} (h : DV w g x lo hi q) (H : ∀ v, DQ w v lo hi q → K v) : ld P t_impl_Dyadic x w K := let ⟨_, _, _, _, b, c⟩ := h; dy_all b (H _ c)
theorem DV.getc {K : Value → Prop} (h : DV w g x lo hi q) (H : ∀ v, DQ w v lo hi q → K v) : ldc P t_impl_Dyadic x w K := let ⟨_, _, _, _, b, c⟩ := h; b.getc u_impl_Dyadic rfl i_impl_Dyadic rfl (H _ c)
theorem DC.put {K : World → Prop} (h : DC w g x) (hv : DQ w v lo hi q) (H : ∀ w', DV w' g x lo hi q → w.grownBy w' (some g) → Ty w (some g) t_impl_Dyadic → K w') : sto P t_impl_Dyadic x v w K := by
  obtain ⟨hg, cs, hl, b⟩ := h
  have t := Ty.box b
  obtain ⟨m, e, hd, hc⟩ := hv
  refine hd.put b hl fun w' ⟨s, hv, b'⟩ g' => ?_
  rw [hg] at g' t
  subst hv
  exact H w' ⟨hg, _, s, e, b', m, e, hd.kt g' t (by decide), hc⟩ g' t
theorem DV.ty (h : DV w g x lo hi q) : Ty w (some g) t_impl_Dyadic := let ⟨a, _, _, _, b, _⟩ := h; a ▸ Ty.box b
theorem DV.lt (h : DV w g x lo hi q) : g < w.heap.size := let ⟨a, _, _, _, b, _⟩ := h; (b.blk_lt a).2
theorem DC.lt (h : DC w g x) : g < w.heap.size := let ⟨a, _, _, b⟩ := h; (b.blk_lt a).2
end Go.Proofs.YtjompmflommadaaGreatDoor


set_option linter.unusedVariables false
set_option linter.unusedSimpArgs false
namespace Go.Proofs.YtjompmflommadaaGreatDoor
open Go Go.Vc
variable {w : World} {K : Value → World → Prop}
theorem Wr.zero0 (w : World) : Wr w (.agg #[.int .i64 0, .slice none 0 0]) 0 := ⟨_, [], rfl, LR.of (OD.nil .i64 t_int64 w 0), Wl.zero⟩
def selV (b : Bool) (v : Value) : Value := if b then v else undef
set_option maxRecDepth 20000 in
theorem c_l02Read {l : List UInt8} (hl : l.length ≤ 4611686018427387904)
    (H0 : isNum l = false → ∀ v w', Ext w w' → Wr w' v 0 → K (.tuple #[v, .bool false]) w')
    (H1 : isNum l = true → ∀ v w', Ext w w' → Wr w' v (numR l) → K (.tuple #[v, .bool true]) w') : call P f_spec_l02Read [str l] w K := by
  refine I_spec_l02Read ?_
  unfold D_spec_l02Read
  refine alc_Wh fun x w1 ⟨cs, hcs, b1⟩ e1 => ?_
  have hbl := body_le l
  have ret0 : isNum l = false → ∀ w2, Ext w1 w2 → bld P t_impl_Whole [] w2 fun x39_31 =>
                sto P t_impl_Whole x x39_31 w2 fun w33 =>
                ldc P t_impl_Whole x w33 fun r34 =>
                K (.tuple #[r34, (.bool false)]) w33 := fun h0 w2 e2 => by
    rw [bld_Whole0]
    have b2 := b1.ext e2
    refine b2.put i_impl_Whole (ds := [.int .i64 0, .slice none 0 0]) rfl hcs (one_2 rfl rfl) fun w3 b3 g3 => ?_
    refine b3.getc u_impl_Whole rfl i_impl_Whole rfl ?_
    exact H0 h0 _ _ (ext_of_grown (e1.trans e2) (fun g hg => (b2.blk_lt hg).1) g3) (Wr.zero0 _)
  refine ⟨fun x4 x5 w' => w' = w1 ∧ x4 = .int .i64 (if negB l then -1 else 1) ∧ x5 = str (body l), ?_, ?_⟩
  · rintro x4 x5 junk w5 ⟨rfl, rfl, rfl⟩
    rw [len_str u_string, bin_eql]
    generalize hr : body l = r at *
    have hb24 : decide (((r.length : Nat) : Int) = 0) = decide (r = []) := by
      rw [decide_eq_decide]
      constructor
      · intro h; exact List.length_eq_zero_iff.1 (by omega)
      · intro h; rw [h]; rfl
    rw [hb24]
    have hA : r ≠ [] → ∀ K : Value → Prop, idx P t_string (str r) (.int .i64 0) w5 K = K (.int .u8 ((r.headD 0).toNat : Nat)) := fun hne K => by
      cases r with
      | nil => exact absurd rfl hne
      | cons d r => exact idx_str (i := 0) u_string (by simp)
    generalize hE : decide (r = []) = bE at *
    refine ⟨fun x w' => w' = w5 ∧ x = selV (!bE) (.bool (decide ((((r.headD 0).toNat : Nat) : Int) = 48))), ?_, ?_⟩
    rotate_left
    · cases bE
      · rw [grd_false_false, hA (by simpa using hE), bin_eql]
        exact ⟨rfl, rfl⟩
      · exact ⟨rfl, rfl⟩
    rintro x29 junk w12 ⟨rfl, rfl⟩
    generalize hZ : decide ((((r.headD 0).toNat : Nat) : Int) = 48) = bZ
    refine ⟨fun x w' => w' = w12 ∧ x = selV (!bE && bZ) (.bool (decide (((r.length : Nat) : Int) > 1))), ?_, ?_⟩
    rotate_left
    · cases bE <;> cases bZ <;> simp only [-eq_self, selV, Bool.not_false, Bool.not_true, Bool.and_true, Bool.and_false, Bool.false_and, if_true, if_false, Bool.false_eq_true, grd_true_true, grd_false_true, grd_undef]
      · exact ⟨rfl, rfl⟩
      · rw [len_str u_string, bin_gtr]; exact ⟨rfl, rfl⟩
      · exact ⟨rfl, rfl⟩
      · exact ⟨rfl, rfl⟩
    rintro x33 junk w16 ⟨rfl, rfl⟩
    generalize hG : decide (((r.length : Nat) : Int) > 1) = bG
    refine ⟨fun x w' => w' = w16 ∧ x = selV (!bE && bZ && !bG) (.bool (negB l)), ?_, ?_⟩
    rotate_left
    · have hneg : ∀ K : Value → Prop, bin P .lss t_int64 false true (.int .i64 (if negB l = true then (-1 : Int) else 1)) (.int .i64 0) w16 K = K (.bool (negB l)) := fun K => by
        rw [bin_lss]; cases negB l <;> rfl
      cases bE <;> cases bZ <;> cases bG <;> simp only [-eq_self, selV, Bool.not_false, Bool.not_true, Bool.and_true, Bool.and_false, Bool.false_and, if_true, if_false, Bool.false_eq_true, grd_true_false, grd_false_false, grd_undef] <;> first | exact ⟨rfl, rfl⟩ | (rw [hneg]; exact ⟨rfl, rfl⟩)
    rintro x35 junk w20 ⟨rfl, rfl⟩
    refine ⟨fun x w' => w' = w20 ∧ x = selV (!bE && bZ) (.bool (bG || negB l)), ?_, ?_⟩
    rotate_left
    · cases bE <;> cases bZ <;> cases bG <;> simp only [-eq_self, selV, Bool.not_false, Bool.not_true, Bool.and_true, Bool.and_false, Bool.false_and, if_true, if_false, Bool.false_eq_true, grd_true_true, grd_false_true, grd_undef, pick_bool, cond_true, cond_false, Bool.true_or, Bool.false_or] <;> exact ⟨rfl, rfl⟩
    rintro x36 junk w24 ⟨rfl, rfl⟩
    refine ⟨fun x w' => w' = w24 ∧ x = selV (!bE) (.bool (bZ && (bG || negB l))), ?_, ?_⟩
    rotate_left
    · cases bE <;> cases bZ <;> simp only [-eq_self, selV, Bool.not_false, Bool.not_true, Bool.and_true, Bool.and_false, Bool.false_and, if_true, if_false, Bool.false_eq_true, grd_false_false, grd_true_false, grd_undef, pick_bool, cond_true, cond_false, Bool.true_and] <;> exact ⟨rfl, rfl⟩
    rintro x37 junk w28 ⟨rfl, rfl⟩
    by_cases hbad : (bE || (bZ && (bG || negB l))) = true
    · have h0 : isNum l = false := by
        refine Bool.eq_false_iff.2 fun h => ?_
        unfold isNum numB at h
        rw [hr] at h
        simp only [Bool.and_eq_true, Bool.or_eq_true, decide_eq_true_eq, Bool.not_eq_true', Bool.and_eq_false_iff, decide_eq_false_iff_not] at h
        obtain ⟨⟨⟨h1, h2⟩, h3⟩, h4⟩ := h
        have hE' : bE = false := by rw [← hE]; simpa using h1
        rw [hE', Bool.false_or, Bool.and_eq_true, Bool.or_eq_true] at hbad
        obtain ⟨h5, h6⟩ := hbad
        rw [← hZ] at h5
        rw [← hG] at h6
        simp only [decide_eq_true_eq] at h5 h6
        cases r with
        | nil => exact h1 rfl
        | cons d r =>
          simp only [List.headD_cons, List.head?_cons, List.length_cons] at *
          have hd : d = 48 := UInt8.toNat_inj.1 (show d.toNat = 48 by omega)
          subst hd
          rcases h3 with h3 | h3
          · exact h3 rfl
          · rcases h6 with h6 | h6
            · omega
            · have hr0 : r = [] := List.length_eq_zero_iff.1 (by omega)
              subst hr0
              rcases h4 with h4 | h4
              · rw [h4] at h6; cases h6
              · exact h4 rfl
      have : pick (.bool bE) (.bool true) (selV (!bE) (.bool (bZ && (bG || negB l)))) = fun (K : Value → Prop) => K (.bool true) := by
        funext K
        cases bE
        · simp only [Bool.false_or] at hbad
          simp only [selV, Bool.not_false, if_true, hbad]; rfl
        · rfl
      rw [this]
      refine cnd_yes rfl ?_
      exact ret0 h0 _ (Ext.refl _)
    · rw [Bool.not_eq_true] at hbad
      have hE0 : bE = false := by cases bE <;> simp_all
      subst hE0
      rw [Bool.false_or] at hbad
      have : pick (.bool false) (.bool true) (selV (!false) (.bool (bZ && (bG || negB l)))) = fun (K : Value → Prop) => K (.bool false) := by
        funext K
        simp only [selV, Bool.not_false, if_true, hbad]; rfl
      rw [this]
      refine cnd_no rfl ?_
      have hne : r ≠ [] := by simpa using hE
      have hnum : isNum l = r.all digB := by
        unfold isNum numB
        rw [hr]
        have h1 : decide (r ≠ []) = true := decide_eq_true hne
        have h2 : (decide (r.head? ≠ some 48) || decide (r.length ≤ 1)) = true := by
          cases r with
          | nil => exact absurd rfl hne
          | cons d r =>
            simp only [List.head?_cons, List.length_cons, List.headD_cons, Bool.or_eq_true, decide_eq_true_eq] at *
            by_cases hd : d = 48
            · right
              subst hd
              have : bZ = true := by rw [← hZ]; rfl
              rw [this, Bool.true_and] at hbad
              have hG0 : bG = false := by cases bG <;> simp_all
              rw [← hG] at hG0
              simp only [decide_eq_false_iff_not] at hG0
              omega
            · left; simpa using hd
        have h3 : (negB l && decide (r = [48])) = false := by
          refine Bool.eq_false_iff.2 fun h => ?_
          rw [Bool.and_eq_true, decide_eq_true_eq] at h
          obtain ⟨h4, h5⟩ := h
          subst h5
          have : bZ = true := by rw [← hZ]; rfl
          rw [this, h4, Bool.or_true] at hbad
          cases hbad
        rw [h1, h2, h3]; simp
      rw [hnum] at H0 H1 ret0
      refine ⟨fun m x w' => w' = w28 ∧ ∃ i : Nat, x = .int .i64 i ∧ m + i = r.length ∧ (r.take i).all digB = true, ⟨r.length, rfl, 0, rfl, by omega, by simp⟩, ?_⟩
      rintro m x' junk w2 ⟨rfl, i, rfl, hm, hall⟩
      rw [len_str u_string, bin_lss]
      refine cnd_dec (fun hlt => ?_) (fun hge => ?_)
      · have hi : i < r.length := by omega
        rw [idx_str u_string hi, bin_lss]
        have bad : digB r[i] = false → r.all digB = false := fun h => by
          refine Bool.eq_false_iff.2 fun hall => ?_
          have := List.all_eq_true.1 hall r[i] (List.getElem_mem hi)
          rw [h] at this; cases this
        refine orJ (fun h1 => ?_) (fun h1 => ?_)
        · rw [cnd_true]
          exact ret0 (bad (by unfold digB; simp only [decide_eq_true_eq] at h1; simp; omega)) _ (Ext.refl _)
        · rw [idx_str u_string hi, bin_gtr]
          refine cnd_dec (fun h2 => ?_) (fun h2 => ?_)
          · exact ret0 (bad (by unfold digB; simp; omega)) _ (Ext.refl _)
          · rw [bin_add, wrap_i64 (by omega) (by omega)]
            refine ⟨m - 1, by omega, rfl, i + 1, rfl, by omega, ?_⟩
            rw [List.take_succ_eq_append_getElem hi, List.all_append, hall]
            simp only [decide_eq_false_iff_not] at h1
            unfold digB; simp; omega
      · have ht : r.take i = r := List.take_of_length_le (by omega)
        rw [ht] at hall
        have H1 := H1 hall
        have hdig : ∀ d ∈ r, 48 ≤ d.toNat ∧ d.toNat ≤ 57 := fun d hd => by
          have := List.all_eq_true.1 hall d hd
          simpa [digB] using this
        refine bsl_nil u_s_int64 i_int64 ?_
        have he := Ext_alloc w2 (.cells #[] t_int64)
        have hz : OD .i64 t_int64 (w2.alloc (.cells #[] t_int64)) w2.heap.size (.slice (some ⟨w2.heap.size, 0, none⟩) 0 0) [] := owns_lit w2 [] t_int64
        generalize w2.alloc (.cells #[] t_int64) = w3 at he hz ⊢
        refine ⟨fun g y x w' => ∃ (i : Nat) (q : List Nat), x = .int .i64 i ∧ g + i = r.length ∧ i ≤ 1000 ∧ Ext w2 w' ∧ OD .i64 t_int64 w' w2.heap.size y q ∧ q.length ≤ i ∧ Dig 16777216 q ∧ val 16777216 q = decV (r.take i),
          ⟨r.length, 0, [], rfl, by omega, by omega, he, hz, Nat.le_refl _, (by intro d hd; cases hd), by simp [val, decV, decA]⟩, ?_⟩
        rintro g y x' junk w4 ⟨i, q, rfl, hg, hi1000, e4, oq, hql, dq, hv⟩
        rw [len_str u_string, bin_lss]
        have fin : ∀ wz, wz = w4 → r.take i = r.take 1000 → call P f_spec_l02Make [.int .i64 (if negB l then -1 else 1), y] wz fun x101_104 w105 =>
                          sto P t_impl_Whole x x101_104 w105 fun w107 =>
                          ldc P t_impl_Whole x w107 fun r108 =>
                          K (.tuple #[r108, (.bool true)]) w107 := by
          rintro wz rfl htk
          have hval : (numR l).natAbs = val 16777216 q := by rw [numR_abs, hr, hv, htk]
          refine wh_make (K := fun u w' => K (.tuple #[u, .bool true]) w') (e1.trans e4) (b1.ext e4) hcs (Nat.le_refl _) (OD.IR oq) dq hval (fun hn => ?_) (by omega) fun v' w' he' hw' => H1 v' w' he' hw'.Wr
          unfold numR at hn ⊢
          cases hneg : negB l
          · rw [hneg] at hn
            simp only [Bool.false_eq_true, if_false] at hn ⊢
            exact Int.sign_eq_one_of_pos (by omega)
          · rw [hneg] at hn
            simp only [if_true] at hn ⊢
            exact Int.sign_eq_neg_one_of_neg (by omega)
        refine andJ (fun h1 => ?_) (fun h1 => ?_)
        · simp only [decide_eq_true_eq] at h1
          have hi : i < r.length := by omega
          rw [bin_lss]
          refine cnd_dec (fun h2 => ?_) (fun h2 => ?_)
          · have hd := hdig r[i] (List.getElem_mem hi)
            rw [idx_str u_string hi, bin_sub, wrap_of (k := .u8) (by simp [IntKind.min, IntKind.signed]; omega) (by simp [IntKind.max, IntKind.signed, IntKind.bits]; omega)]
            rw [cnv_int_int u_uint8 u_int64, wrap_i64 (by omega) (by omega)]
            have hdv : decV (r.take (i + 1)) = decV (r.take i) * 10 + (r[i].toNat - 48) := by
              rw [List.take_succ_eq_append_getElem hi]; unfold decV; rw [decA_snoc]
            generalize hD : r[i].toNat - 48 = D at hdv
            have hD9 : D ≤ 9 := by omega
            rw [show ((r[i].toNat : Nat) : Int) - 48 = ((D : Nat) : Int) by omega]
            refine ⟨fun g2 cx kx w' => ∃ (k c : Nat) (s : List Nat), kx = .int .i64 k ∧ g2 + k = q.length ∧ cx = .int .i64 c ∧ c ≤ 10 ∧ Ext w2 w' ∧ OD .i64 t_int64 w' w2.heap.size y s ∧ s.length = q.length ∧ Dig 16777216 s ∧ s.drop k = q.drop k ∧ val 16777216 (s.take k) + 16777216 ^ k * c = val 16777216 (q.take k) * 10 + D,
              ⟨q.length, 0, D, q, rfl, by omega, rfl, by omega, e4, oq, rfl, dq, rfl, by simp [val]⟩, ?_⟩
            rintro g2 cx kx junk w5 ⟨k, c, s, rfl, hg2, rfl, hc10, e5, os, hsl, ds, hdrop, hval⟩
            rw [(OD.IR os).row.len u_s_int64, bin_lss]
            refine cnd_dec (fun h3 => ?_) (fun h3 => ?_)
            · have hk : k < s.length := by omega
              have hkq : k < q.length := by omega
              refine IR.at (OD.IR os) hk u_s_int64 i_int64 u_int64 ?_
              have hsk := ds s[k] (List.getElem_mem hk)
              have heq : s[k] = q[k] := by
                have h4 : s[k]? = q[k]? := by
                  have := congrArg (fun t : List Nat => t[0]?) hdrop
                  simpa using this
                rw [List.getElem?_eq_getElem hk, List.getElem?_eq_getElem hkq] at h4
                exact Option.some.inj h4
              rw [bin_mul, wrap_i64 (by omega) (by omega), bin_add, wrap_i64 (by omega) (by omega)]
              rw [show ((c : Nat) : Int) + 10 * ((s[k] : Nat) : Int) = ((c + 10 * s[k] : Nat) : Int) by omega]
              rw [bin_remI (b := 16777216) (by decide)]
              refine OD.set os hk u_s_int64 i_int64 fun w6 os6 g6 => ?_
              rw [bin_quoI (b := 16777216) (by omega) (by decide)]
              rw [bin_add, wrap_i64 (by omega) (by omega)]
              refine ⟨g2 - 1, by omega, k + 1, (c + 10 * s[k]) / 16777216, _, rfl, by omega, rfl, by omega, ext_of_grown e5 (fun g hg => (os.lt g hg).1) g6, os6, by simp [hsl], ?_, ?_, ?_⟩
              · intro d hd
                rcases List.mem_or_eq_of_mem_set hd with h | h
                · exact ds d h
                · rw [h]; exact Nat.mod_lt _ (by decide)
              · rw [List.drop_set_of_lt (by omega), ← List.drop_drop (i := 1) (j := k), ← List.drop_drop (i := 1) (j := k), hdrop]
              · rw [val_take_succ _ (by simpa using hk), val_take_succ _ hkq, List.take_set_of_le (Nat.le_refl _), List.getElem_set_self, Nat.pow_succ]
                have h5 := Nat.div_add_mod (c + 10 * s[k]) 16777216
                rw [← heq]
                have h6 : 16777216 ^ k * ((c + 10 * s[k]) % 16777216) + 16777216 ^ k * 16777216 * ((c + 10 * s[k]) / 16777216) = 16777216 ^ k * (c + 10 * s[k]) := by
                  rw [Nat.mul_assoc, ← Nat.mul_add, Nat.add_comm, h5]
                have h7 : 16777216 ^ k * (c + 10 * s[k]) = 16777216 ^ k * c + 16777216 ^ k * s[k] * 10 := by
                  rw [Nat.mul_add, Nat.mul_comm 10, ← Nat.mul_assoc]
                rw [Nat.add_mul]
                omega
            · have hk : k = q.length := by omega
              subst hk
              rw [← hsl, List.take_length] at hval
              rw [hsl, List.take_length, hv] at hval
              have hE4 := e5
              rw [bin_gtr]
              refine cnd_dec (fun h4 => ?_) (fun h4 => ?_)
              · refine app_OD os u_s_int64 i_int64 (by simp only [maxLen]; omega) (by omega) e5.size fun v' w6 o6 g6 => ?_
                rw [bin_add, wrap_i64 (by omega) (by omega)]
                refine ⟨g - 1, by omega, i + 1, _, rfl, by omega, by omega, ext_of_grown e5 (fun g hg => (os.lt g hg).1) g6, o6, by simp; omega, ?_, ?_⟩
                · intro d hd
                  rcases List.mem_append.1 hd with hd | hd
                  · exact ds d hd
                  · simp at hd; omega
                · rw [val_snoc, hsl, hval, hdv]
              · have hc0 : c = 0 := by omega
                subst hc0
                rw [bin_add, wrap_i64 (by omega) (by omega)]
                refine ⟨g - 1, by omega, i + 1, s, rfl, by omega, by omega, e5, os, by omega, ds, ?_⟩
                rw [hdv, ← hval]; simp
          · have : i = 1000 := by omega
            exact fin _ rfl (by rw [this])
        · simp only [decide_eq_false_iff_not] at h1
          have : r.take i = r.take 1000 := by
            rw [List.take_of_length_le (by omega), List.take_of_length_le (by omega)]
          exact fin _ rfl this
  · rw [len_str u_string, bin_gtr]
    refine andJ (fun h1 => ?_) (fun h1 => ?_)
    · simp only [decide_eq_true_eq] at h1
      cases l with
      | nil => simp at h1
      | cons d r =>
        have hidx : ∀ (w : World) (K : Value → Prop), idx P t_string (str (d :: r)) (.int .i64 0) w K = K (.int .u8 (d.toNat : Nat)) := fun w K => idx_str (i := 0) u_string (by simp)
        rw [hidx, bin_eql]
        refine cnd_dec (fun h2 => ?_) (fun h2 => ?_)
        · have hd : d = 45 := UInt8.toNat_inj.1 (show d.toNat = 45 by omega)
          subst hd
          rw [show (1 : Int) = ((1 : Nat) : Int) from rfl, sli_strL u_string (by simp)]
          exact ⟨rfl, rfl, rfl⟩
        · have hneg : negB (d :: r) = false := by
            unfold negB
            have : d ≠ 45 := by rintro rfl; exact h2 rfl
            simpa using this
          refine ⟨rfl, ?_, ?_⟩
          · rw [hneg]; rfl
          · unfold body; rw [hneg]; rfl
    · simp only [decide_eq_false_iff_not] at h1
      have : l = [] := List.length_eq_zero_iff.1 (by omega)
      subst this
      rw [cnd_false]
      exact ⟨rfl, rfl, rfl⟩
end Go.Proofs.YtjompmflommadaaGreatDoor


set_option linter.unusedVariables false
namespace Go.Proofs.YtjompmflommadaaGreatDoor
open Go Go.Vc Ieee
variable {w : World} {K : Value → World → Prop}
theorem and_split' {a b x y k : Nat} (ha : a < 2 ^ k) (hb : b < 2 ^ k) : (2 ^ k * x + a) &&& (2 ^ k * y + b) = 2 ^ k * (x &&& y) + (a &&& b) := by
  have hab : a &&& b < 2 ^ k := Nat.and_lt_two_pow _ hb
  apply Nat.eq_of_testBit_eq
  intro j
  rw [Nat.testBit_and, Nat.testBit_two_pow_mul_add _ ha, Nat.testBit_two_pow_mul_add _ hb, Nat.testBit_two_pow_mul_add _ hab]
  split <;> rw [Nat.testBit_and]
theorem or_split {a x k : Nat} (ha : a < 2 ^ k) : a ||| (2 ^ k * x) = 2 ^ k * x + a := by
  rw [Nat.or_comm, ← Nat.two_pow_add_eq_or_of_lt ha]
theorem bin_andNot0 {t : TypeId} {cx cy : Bool} {x y : Int} {K : Value → Prop} : bin P .andNot t cx cy (.int .u64 x) (.int .u64 y) w K = K (.int .u64 (IntKind.u64.wrap ((BitVec.ofInt 64 x &&& ~~~(BitVec.ofInt 64 y)).toNat : Nat))) :=
  bin_of (eqg_int ..) (by unfold binOp Op.intBits; rfl)
theorem andNot_nat {a b : Nat} (ha : a < 2 ^ 64) (hb : b < 2 ^ 64) : (BitVec.ofInt 64 (a : Int) &&& ~~~(BitVec.ofInt 64 (b : Int))).toNat = a &&& (2 ^ 64 - 1 - b) := by
  rw [BitVec.toNat_and, BitVec.toNat_not, BitVec.ofInt_natCast, BitVec.ofInt_natCast, BitVec.toNat_ofNat, BitVec.toNat_ofNat, Nat.mod_eq_of_lt ha, Nat.mod_eq_of_lt hb]
theorem wrap_u64 {n : Nat} (h : n < 2 ^ 64) : IntKind.u64.wrap (n : Int) = n := by
  rw [wrap_nat]
  have : n ≤ 18446744073709551615 := by have : (2 : Nat) ^ 64 = 18446744073709551616 := by decide
                                        omega
  rw [show IntKind.u64.max = 18446744073709551615 from rfl]
  omega
theorem bin_clear {t : TypeId} {cx cy : Bool} {a : Nat} {K : Value → Prop} (ha : a < 2 ^ 63) : bin P .andNot t cx cy (.int .u64 (a : Int)) (.int .u64 9223372036854775808) w K = K (.int .u64 (a : Int)) := by
  have h64 : a < 2 ^ 64 := Nat.lt_trans ha (by decide)
  rw [bin_andNot0]
  have e := andNot_nat (b := 9223372036854775808) h64 (by decide)
  rw [show ((9223372036854775808 : Nat) : Int) = (9223372036854775808 : Int) from rfl] at e
  rw [e, show (2 ^ 64 - 1 - 9223372036854775808 : Nat) = 2 ^ 63 - 1 from by decide, Nat.and_two_pow_sub_one_eq_mod, Nat.mod_eq_of_lt ha, wrap_u64 h64]
theorem bin_frac {t : TypeId} {cx cy : Bool} {n f : Nat} {K : Value → Prop} (hn : n < 2 ^ 11) (hf : f < 2 ^ 52) : bin P .andNot t cx cy (.int .u64 ((2 ^ 52 * n + f : Nat) : Int)) (.int .u64 9218868437227405312) w K = K (.int .u64 (f : Int)) := by
  have h63 : 2 ^ 52 * n + f < 2 ^ 63 := by
    have h1 : 2 ^ 52 * (n + 1) ≤ 2 ^ 52 * 2 ^ 11 := Nat.mul_le_mul_left _ hn
    rw [← Nat.pow_add] at h1
    rw [Nat.mul_succ] at h1
    exact Nat.lt_of_lt_of_le (Nat.add_lt_add_left hf _) h1
  have h64 : 2 ^ 52 * n + f < 2 ^ 64 := Nat.lt_trans h63 (by decide)
  rw [bin_andNot0]
  have e := andNot_nat (b := 9218868437227405312) h64 (by decide)
  rw [show ((9218868437227405312 : Nat) : Int) = (9218868437227405312 : Int) from rfl] at e
  rw [e, show (2 ^ 64 - 1 - 9218868437227405312 : Nat) = 2 ^ 52 * 2048 + (2 ^ 52 - 1) from by decide, and_split' hf (by decide), Nat.and_two_pow_sub_one_eq_mod, Nat.mod_eq_of_lt hf]
  have h0 : n &&& 2048 = 0 := by
    have h2 := and_split' (a := n) (b := 0) (x := 0) (y := 1) (k := 11) hn (by decide)
    rw [Nat.mul_zero, Nat.zero_add, Nat.and_zero, Nat.zero_and, Nat.mul_zero] at h2
    exact h2
  rw [h0, Nat.mul_zero, Nat.zero_add, wrap_u64 (Nat.lt_trans hf (by decide))]
theorem c_Float64bits {b : Nat} (H : K (.int .u64 b) w) : call P f_math_Float64bits [.float .f64 b] w K :=
  call_extern fun_math_Float64bits (by kernel_rfl) rfl (by kernel_rfl) (e := Extern.MathFloatBits.float64bits) (by kernel_rfl) (SemA_pure H)
theorem c_Float64frombits {b : Nat} (H : K (.float .f64 b) w) : call P f_math_Float64frombits [.int .u64 (b : Int)] w K :=
  call_extern fun_math_Float64frombits (by kernel_rfl) rfl (by kernel_rfl) (e := Extern.MathFloatBits.float64frombits) (by kernel_rfl) (SemA_pure H)
theorem c_Abs64 {b : Nat} (hb : b < 2 ^ 63) (H : K (.float .f64 b) w) : call P f_math_Abs [.float .f64 b] w K := by
  refine I_math_Abs ?_
  unfold D_math_Abs
  refine c_Float64bits ?_
  rw [bin_clear hb]
  exact c_Float64frombits H
set_option maxRecDepth 20000 in
theorem rcnv_narrow {s d : TypeId} {b : Nat} {sg : Bool} {k : Nat} {l : Int} {r : Nat} {K : Value → Prop} (hs : P.underlying s = some (.float .f64)) (hd : P.underlying d = some (.float .f32)) (hr : double.read b = .number sg k l) (hw : single.write (.number sg k l) = r) (hi : (single.read r).isInfinity = false) (H : K (.float .f32 r)) : rcnv P s d (.float .f64 b) w K := by
  unfold rcnv convert
  rw [rd_bind']
  refine rd_of_rv _ (rv_underlying hs) ?_
  rw [rd_bind']
  refine rd_of_rv _ (rv_underlying hd) ?_
  simp only [Conv.floatToFloat]
  rw [if_neg (by decide)]
  have hdec : FloatKind.f64.decode b = .number sg k l := hr
  rw [hdec]
  simp only []
  have hw' : FloatKind.f32.encode (.number sg k l) = r := hw
  have hi' : (FloatKind.f32.decode r).isInfinity = false := hi
  rw [hw', hi']
  exact H
set_option maxRecDepth 20000 in
theorem rcnv_inf {s d : TypeId} {b : Nat} {sg : Bool} {K : Value → Prop} (hs : P.underlying s = some (.float .f64)) (hd : P.underlying d = some (.float .f32)) (hr : double.read b = .infinity sg) (H : K (.float .f32 (single.write (.infinity sg)))) : rcnv P s d (.float .f64 b) w K := by
  unfold rcnv convert
  rw [rd_bind']
  refine rd_of_rv _ (rv_underlying hs) ?_
  rw [rd_bind']
  refine rd_of_rv _ (rv_underlying hd) ?_
  simp only [Conv.floatToFloat]
  rw [if_neg (by decide)]
  have hdec : FloatKind.f64.decode b = .infinity sg := hr
  rw [hdec]
  exact H
set_option maxRecDepth 20000 in
theorem rcnv_cut {s d : TypeId} {t : Nat} {q : Int} {sg : Bool} {K : Value → Prop} (hs : P.underlying s = some (.float .f64)) (hd : P.underlying d = some (.float .f32)) (h : Cut t q) (H : K (.float .f32 (W single sg t q))) : rcnv P s d (.float .f64 (W double sg t q)) w K := by
  obtain ⟨k, l, h1, h2, h3⟩ := narrow_W (s := sg) h
  exact rcnv_narrow hs hd h1 h2 h3 H
theorem order_W (s : Bool) {m n : Nat} {e g : Int} (h1 : Has double m e) (h2 : Has double n g) : ∃ x y : Int, double.order (W double false m e) (W double false n g) = some (compare x y) ∧ (x ≤ y ↔ dy m e ≤ dy n g) ∧ (y ≤ x ↔ dy n g ≤ dy m e) := by
  obtain ⟨k, l, r1, s1⟩ := read_any (s := false) hsd h1
  obtain ⟨k', l', r2, s2⟩ := read_any (s := false) hsd h2
  have a1 : dy ((k : Int) * 2 ^ (l - min l l').toNat) (min l l') = dy m e := by rw [s1.dy]; exact dy_shift' (by omega)
  have a2 : dy ((k' : Int) * 2 ^ (l' - min l l').toNat) (min l l') = dy n g := by rw [s2.dy]; exact dy_shift' (by omega)
  refine ⟨(k : Int) * 2 ^ (l - min l l').toNat, (k' : Int) * 2 ^ (l' - min l l').toNat, ?_, ?_, ?_⟩
  · unfold Format.order
    rw [r1, r2]
    simp only [Datum.order, signed_eq, Bool.false_eq_true, if_false, Int.one_mul]
  · rw [← a1, ← a2, dy_le]
  · rw [← a1, ← a2, dy_le]
theorem max64 : (9218868437227405311 : Nat) = W double false 9007199254740991 971 := by decide
theorem zero64 : (0 : Nat) = W double false 0 0 := by decide
theorem W64_lt {t : Nat} {e : Int} : W double false t e < 2 ^ 63 := by
  obtain ⟨r, hr⟩ := W_sign double t e
  have h1 := double.write_lt (.number true t e)
  have h2 : double.write (.number true t e) = double.word true r := hr true
  rw [h2] at h1
  rw [hr false, word_false]
  have e1 : double.word true r = 2 ^ 63 + r := rfl
  rw [e1] at h1
  have e2 : (2 : Nat) ^ double.width = 2 ^ 63 + 2 ^ 63 := by decide
  rw [e2] at h1
  exact Nat.lt_of_add_lt_add_left h1
theorem bin_and2047 {t : TypeId} {cx cy : Bool} {a : Nat} {K : Value → Prop} (h : a < 2048) : bin P .and t cx cy (.int .i64 (a : Int)) (.int .i64 2047) w K = K (.int .i64 (a : Int)) := by
  rw [bin_and, show (2047 : Int) = ((2047 : Nat) : Int) from rfl]
  have e : (BitVec.ofInt 64 (a : Int) &&& BitVec.ofInt 64 ((2047 : Nat) : Int)).toNat = a := by
    rw [BitVec.toNat_and, toNat_word (Nat.lt_trans h (by decide)), toNat_word (by decide), show (2047 : Nat) = 2 ^ 11 - 1 from by decide, Nat.and_two_pow_sub_one_eq_mod, Nat.mod_eq_of_lt h]
  show K (.int .i64 (IntKind.i64.wrap ((BitVec.ofInt 64 (a : Int) &&& BitVec.ofInt 64 ((2047 : Nat) : Int)).toNat : Nat))) = _
  rw [e, wrap_i64 (by omega) (by omega)]
theorem dy_le_up {t N k : Nat} (h : t ≤ N) : dy (t : Int) 0 ≤ dy (N : Int) (k : Int) := by
  rw [← dy_shift' (m := (N : Int)) (e := (k : Int)) (e' := 0) (k := k) (by omega), dy_le]
  have h1 : t ≤ N * 2 ^ k := Nat.le_trans h (Nat.le_mul_of_pos_right _ (Nat.two_pow_pos k))
  have h2 : ((N * 2 ^ k : Nat) : Int) = (N : Int) * 2 ^ k := by rw [Int.natCast_mul, Int.natCast_pow]; rfl
  rw [← h2]
  exact Int.ofNat_le.2 h1
theorem dy_ge_down {t k : Nat} (h : t ≠ 0) : dy ((1 : Nat) : Int) (-(k : Int)) ≤ dy (t : Int) 0 := by
  rw [← dy_shift' (m := (t : Int)) (e := 0) (e' := -(k : Int)) (k := k) (by omega), dy_le]
  have h1 : 1 ≤ t * 2 ^ k := Nat.mul_pos (Nat.pos_of_ne_zero h) (Nat.two_pow_pos k)
  have h2 : ((t * 2 ^ k : Nat) : Int) = (t : Int) * 2 ^ k := by rw [Int.natCast_mul, Int.natCast_pow]; rfl
  rw [← h2]
  exact Int.ofNat_le.2 h1
theorem one64 : (4607182418800017408 : Nat) = W double false 1 0 := by decide
theorem tiny64 : (4503599627370496 : Nat) = W double false 1 (-1022) := by decide
theorem c_Ldexp {t : Nat} {q : Int} (h : Cut t q) (H : K (.float .f64 (W double false t q)) w) : call P f_math_Ldexp [.float .f64 (W double false t 0), .int .i64 q] w K := by
  have hb25 : bl t ≤ 25 := bl_le.2 (by show t < 33554432; have := h.t_le; omega)
  have hq1 := h.q_ge
  have hq2 := h.top
  have ht := h.t_le
  have has0 : Has double t 0 := Has64 (by omega) (by omega) (by omega)
  refine I_math_Ldexp ?_
  unfold D_math_Ldexp
  rw [cnd_false]
  refine I_math_ldexp ?_
  unfold D_math_ldexp
  obtain ⟨x, y, ho, h1, h2⟩ := order_W false has0 (Has64 (m := 0) (e := 0) (by decide) (by decide) (by decide))
  rw [← zero64] at ho
  rw [bin_feql, show FloatKind.f64.format = double from rfl, ho]
  by_cases h0 : t = 0
  · subst h0
    have hxy : x = y := Int.le_antisymm (h1.2 (dy_le.2 (Int.le_refl _))) (h2.2 (dy_le.2 (Int.le_refl _)))
    subst hxy
    refine cnd_yes (by simp) ?_
    rw [W_zero] at H ⊢
    exact H
  have hb0 := bl_pos h0
  have hgt : compare x y = .gt := by
    rw [Int.compare_eq_gt]
    refine Int.not_le.1 fun hc => ?_
    have := dy_le.1 (h1.1 hc)
    omega
  rw [hgt]
  refine cnd_no (by decide) ?_
  refine I_math_IsInf ?_
  unfold D_math_IsInf
  rw [bin_eql]
  refine cnd_yes (by decide) ?_
  refine c_Abs64 W64_lt ?_
  obtain ⟨x1, y1, ho1, h3, h4⟩ := order_W false has0 (Has64 (m := 9007199254740991) (e := 971) (by decide) (by decide) (by decide))
  rw [← max64] at ho1
  rw [bin_fgtr, show FloatKind.f64.format = double from rfl, ho1]
  have hle : x1 ≤ y1 := by
    refine h3.2 ?_
    exact dy_le_up (k := 971) (by omega)
  have hng : (some (compare x1 y1) == some Ordering.gt) = false := by
    have : compare x1 y1 ≠ .gt := fun hc => by rw [Int.compare_eq_gt] at hc; omega
    simpa using this
  rw [hng]
  refine ⟨_, fun _ _ _ h => h, ?_⟩
  rw [grd_false_false]
  refine I_math_IsNaN ?_
  unfold D_math_IsNaN
  obtain ⟨x2, y2, ho2, h5, h6⟩ := order_W false has0 has0
  have hxy2 : x2 = y2 := Int.le_antisymm (h5.2 (dy_le.2 (Int.le_refl _))) (h6.2 (dy_le.2 (Int.le_refl _)))
  subst hxy2
  rw [bin_fneq, show FloatKind.f64.format = double from rfl, ho2]
  rw [show (some (compare x2 x2) != some Ordering.eq) = false by simp]
  dsimp only
  rw [pick_bool, cond_false, cnd_false]
  refine I_math_normalize ?_
  unfold D_math_normalize
  refine c_Abs64 W64_lt ?_
  obtain ⟨x3, y3, ho3, h7, h8⟩ := order_W false has0 (Has64 (m := 1) (e := -1022) (by decide) (by decide) (by decide))
  rw [← tiny64] at ho3
  rw [bin_flss, show FloatKind.f64.format = double from rfl, ho3]
  have hge : y3 ≤ x3 := by
    refine h8.2 ?_
    exact dy_ge_down (k := 1022) h0
  have hnl : (some (compare x3 y3) == some Ordering.lt) = false := by
    have : compare x3 y3 ≠ .lt := fun hc => by rw [Int.compare_eq_lt] at hc; omega
    simpa using this
  rw [hnl, cnd_false]
  dsimp only
  rw [xtr_0, xtr_1, bin_add, wrap_i64 (by omega) (by omega)]
  refine c_Float64bits ?_
  obtain ⟨n, hn⟩ : ∃ n : Nat, (bl t : Int) + 0 + 1022 = n := ⟨bl t + 1022, by omega⟩
  obtain ⟨n', hn'⟩ : ∃ n' : Nat, (bl t : Int) + q + 1022 = n' := ⟨((bl t : Int) + q + 1022).toNat, by omega⟩
  obtain ⟨w1, w2, w3⟩ := W64_bits h0 (by omega) hn (by omega) (by omega)
  obtain ⟨w4, _, _⟩ := W64_bits h0 (by omega) hn' (by omega) (by omega)
  have hf : t * 2 ^ (53 - bl t) - B52 < 2 ^ 52 := by
    show _ < B52
    omega
  generalize t * 2 ^ (53 - bl t) - B52 = f at *
  rw [w1, show n * B52 + f = 2 ^ 52 * n + f by rw [Nat.mul_comm]; rfl]
  rw [bin_shrN (s := 52) (by decide), Nat.mul_add_div (Nat.two_pow_pos 52), Nat.div_eq_of_lt hf, Nat.add_zero]
  rw [cnv_int_int u_uint64 u_int, wrap_i64 (by omega) (by omega), bin_and2047 (by omega), bin_sub, wrap_i64 (by omega) (by omega), bin_add, wrap_i64 (by omega) (by omega)]
  rw [bin_lss]
  refine cnd_no (by simp; omega) ?_
  rw [bin_gtr]
  refine cnd_no (by simp; omega) ?_
  refine ⟨fun a b w' => w' = w ∧ a = .int .i64 (q + 0 + ((n : Int) - 1023)) ∧ b = .float .f64 (W double false 1 0), ?_, ?_⟩
  · rintro a b junk w' ⟨rfl, rfl, rfl⟩
    rw [bin_frac (by omega) hf, bin_add, wrap_i64 (by omega) (by omega)]
    rw [show q + 0 + ((n : Int) - 1023) + 1023 = ((n' : Nat) : Int) by omega]
    have hu : (n' : Int) ≤ IntKind.u64.max := by rw [max_u64]; omega
    rw [cnv_int_int u_int u_uint64, wrap_nat hu]
    have hsh : n' * 2 ^ 52 < 2 ^ 63 := by
      have h1 : n' * 2 ^ 52 < 2 ^ 11 * 2 ^ 52 := Nat.mul_lt_mul_of_pos_right (show n' < 2 ^ 11 by omega) (Nat.two_pow_pos 52)
      rw [← Nat.pow_add] at h1
      exact h1
    have hsh64 : n' * 2 ^ 52 < 2 ^ 64 := Nat.lt_trans hsh (by decide)
    rw [bin_shlN (s := 52) (by decide) (by
      rw [max_u64]
      have h64 : (2 : Nat) ^ 64 = 18446744073709551616 := by decide
      rw [h64] at hsh64
      omega)]
    rw [bin_orN (Nat.lt_trans hf (by decide)) hsh64 rfl, Nat.mul_comm n', or_split hf]
    refine c_Float64frombits ?_
    have e4 : 2 ^ 52 * n' + f = W double false t q := by rw [w4, Nat.mul_comm]; rfl
    rw [e4]
    refine rbin_float (by simp) fun r hr => ?_
    have hm := mul_W (s := false) (t := false) hsd (Has64 (m := 1) (e := 0) (by decide) (by decide) (by decide)) h.has64
    have := FR_some hr (show floatBits .mul .f64 _ _ = some _ from hm)
    subst this
    rw [Bool.xor_false, Nat.one_mul, Int.zero_add]
    exact H
  · rw [bin_lss]
    refine cnd_no (by simp; omega) ?_
    exact ⟨rfl, rfl, by rw [← one64]⟩
end Go.Proofs.YtjompmflommadaaGreatDoor


set_option linter.unusedVariables false
set_option linter.unusedSimpArgs false
namespace Go.Proofs.YtjompmflommadaaGreatDoor
open Go Go.Vc
variable {w : World} {K : Value → World → Prop}
theorem c_IndexByteString {l : List UInt8} {c : UInt8} (H : K (.int .i64 (Lib.indexByte l c)) w) : call P f_internal_bytealg_IndexByteString [str l, .int .u8 (c.toNat : Nat)] w K :=
  call_extern fun_internal_bytealg_IndexByteString (by kernel_rfl) rfl (by kernel_rfl) (e := Extern.BytealgIndexByte.indexByte) (by kernel_rfl) (fun c' hc => by
    refine ⟨_, c', Lib.run_indexByteString ⟨l.toArray⟩ _ c', ?_⟩
    rw [hc, u8_nat]; exact H)
theorem c_IndexByte {l : List UInt8} {c : UInt8} (H : K (.int .i64 (Lib.indexByte l c)) w) : call P f_internal_stringslite_IndexByte [str l, .int .u8 (c.toNat : Nat)] w K := by
  refine I_internal_stringslite_IndexByte ?_
  unfold D_internal_stringslite_IndexByte
  exact c_IndexByteString H
theorem c_Index1 {l : List UInt8} {c : UInt8} (H : K (.int .i64 (Lib.indexByte l c)) w) : call P f_internal_stringslite_Index [str l, str [c]] w K := by
  refine I_internal_stringslite_Index ?_
  unfold D_internal_stringslite_Index
  rw [len_str u_string, bin_eql]
  refine orJ (fun h => by simp at h) (fun _ => ?_)
  rw [eql_str]
  refine cnd_dec (fun h => ?_) (fun h => ?_)
  · have : Lib.indexByte l c = 0 := by
      rw [← h]
      exact indexByte_some (a := []) (b := []) (by simp)
    rw [this] at H; exact H
  · rw [bin_eql]
    refine cnd_yes rfl ?_
    rw [show (0 : Int) = ((0 : Nat) : Int) from rfl, idx_str (i := 0) u_string (by simp)]
    exact c_IndexByte H
theorem c_Cut {l : List UInt8} {c : UInt8} (hl : l.length ≤ 4611686018427387904)
    (H0 : c ∉ l → K (.tuple #[str l, str [], .bool false]) w) (H1 : ∀ a b, l = a ++ c :: b → c ∉ a → K (.tuple #[str a, str b, .bool true]) w) : call P f_strings_Cut [str l, str [c]] w K := by
  refine I_strings_Cut ?_
  unfold D_strings_Cut
  refine I_internal_stringslite_Cut ?_
  unfold D_internal_stringslite_Cut
  refine c_Index1 ?_
  rw [bin_geq]
  by_cases hc : c ∈ l
  · obtain ⟨a, b, rfl, hn⟩ := split_first hc
    rw [indexByte_some hn]
    refine cnd_yes (by simp) ?_
    rw [List.length_append] at hl
    rw [sli_strH u_string (by simp), len_str u_string, bin_add, List.length_singleton, wrap_i64 (by omega) (by omega), show ((a.length : Nat) : Int) + ((1 : Nat) : Int) = ((a.length + 1 : Nat) : Int) by omega, sli_strL u_string (by simp)]
    dsimp only
    rw [xtr_0, xtr_1, xtr_2]
    have e1 : (a ++ c :: b).take a.length = a := by simp
    have e2 : (a ++ c :: b).drop (a.length + 1) = b := by
      rw [← List.drop_drop]; simp
    rw [e1, e2]
    exact H1 a b rfl hn
  · rw [indexByte_none hc]
    refine cnd_no (by decide) ?_
    dsimp only
    rw [xtr_0, xtr_1, xtr_2]
    exact H0 hc
theorem bytes_at {v : Value} {l : List UInt8} {k : IntKind} {i : Nat} {K : Value → Prop} (h : Row 1 w v l.length (l.map fun b => .int .u8 (b.toNat : Nat))) (hi : i < l.length) (H : K (.int .u8 (l[i].toNat : Nat))) :
    ixa P t_s_uint8 v (.int k (i : Int)) w (fun a => ld P t_uint8 a w K) :=
  h.at1 (by rw [List.getElem?_map, List.getElem?_eq_getElem hi]; rfl) u_s_uint8 i_uint8 u_uint8 rfl H
theorem dig10 {l : List UInt8} (h : l.all digB = true) (hl : l.length ≤ 6) (i : Nat) : decV (l.take i) < 1000000 := by
  have h1 : (l.take i).all digB = true := by
    rw [List.all_eq_true] at h ⊢
    exact fun x hx => h x (List.mem_of_mem_take hx)
  have h2 := decV_lt h1
  have h3 : (10 : Nat) ^ (l.take i).length ≤ 10 ^ 6 := Nat.pow_le_pow_right (by decide) (by rw [List.length_take]; omega)
  exact Nat.lt_of_lt_of_le h2 h3
set_option maxRecDepth 20000 in
theorem c_ParseUint {l : List UInt8} (hd : l.all digB = true) (h0 : l ≠ []) (hl : l.length ≤ 6) (H : ∀ w', Ext w w' → K (.tuple #[.int .u64 (decV l : Nat), .nilIface]) w') : call P f_internal_strconv_ParseUint [str l, .int .i64 10, .int .i64 64] w K := by
  refine I_internal_strconv_ParseUint ?_
  unfold D_internal_strconv_ParseUint
  rw [eql_str (b := [])]
  refine cnd_no (by simpa using h0) ?_
  rw [bin_eql]
  refine ⟨fun x y w' => w' = w ∧ x = str l ∧ y = .int .i64 10, ?_, ?_⟩
  rotate_left
  · rw [bin_leq]
    refine andJ (fun _ => ?_) (fun h => by cases h)
    rw [bin_leq]
    exact cnd_yes (by decide) ⟨rfl, rfl, rfl⟩
  rintro x0 x1 junk w6 ⟨rfl, rfl, rfl⟩
  refine ⟨fun x w' => w' = w6 ∧ x = .int .i64 64, ?_, ?_⟩
  rotate_left
  · rw [bin_eql]
    refine cnd_no (by decide) ?_
    rw [bin_lss]
    refine orJ (fun h => by simp at h) (fun _ => ?_)
    rw [bin_gtr]
    exact cnd_no (by decide) ⟨rfl, rfl⟩
  rintro x2 junk w11 ⟨rfl, rfl⟩
  refine ⟨fun x w' => w' = w11 ∧ x = .int .u64 1844674407370955162, ?_, ?_⟩
  rotate_left
  · rw [bin_eql]
    exact cnd_yes (by decide) ⟨rfl, rfl⟩
  rintro x10 junk w15 ⟨rfl, rfl⟩
  rw [cnv_int_int u_int u_uint, show IntKind.u64.wrap 64 = 64 from by decide]
  rw [bin_shl _ _ _ _ _ _ _ _ (by decide), show IntKind.u64.wrap (1 * 2 ^ min (Int.toNat 64) IntKind.u64.bits) = 0 from by decide]
  rw [bin_sub, show IntKind.u64.wrap (0 - 1) = 18446744073709551615 from by decide]
  refine cnv2_bytes u_string u_s_uint8 u_uint8 (by simp only [maxLen]; omega) fun v w1 e1 hrow => ?_
  rw [hrow.len u_s_uint8]
  have hdig : ∀ (i : Nat) (h : i < l.length), 48 ≤ l[i].toNat ∧ l[i].toNat ≤ 57 := fun i hi => by
    have := List.all_eq_true.1 hd l[i] (List.getElem_mem hi)
    simpa [digB] using this
  refine ⟨fun m x12 x13 x w' => w' = w1 ∧ x12 = .bool false ∧ ∃ i : Nat, x = .int .i64 i ∧ m + i = l.length ∧ x13 = .int .u64 (decV (l.take i) : Nat), ⟨l.length, rfl, rfl, 0, rfl, by omega, by simp [decV, decA]⟩, ?_⟩
  rintro m x12 x13 x junk w2 ⟨rfl, rfl, i, rfl, hm, rfl⟩
  rw [bin_lss]
  refine cnd_dec (fun hlt => ?_) (fun hge => ?_)
  · have hi : i < l.length := by omega
    obtain ⟨d1, d2⟩ := hdig i hi
    have hv := dig10 hd hl i
    refine bytes_at hrow hi ?_
    refine ⟨fun x12 x16 w' => w' = w2 ∧ x12 = .bool false ∧ x16 = .int .u8 ((l[i].toNat - 48 : Nat) : Int), ?_, ?_⟩
    rotate_left
    · rw [bin_eql]
      refine andJ (fun h => by simp only [decide_eq_true_eq] at h; omega) (fun _ => ?_)
      refine cnd_no rfl ?_
      rw [bin_leq]
      refine andJ (fun _ => ?_) (fun h => by simp only [decide_eq_false_iff_not] at h; omega)
      rw [bin_leq]
      refine cnd_yes (by simp; omega) ?_
      rw [bin_sub, wrap_of (k := .u8) (by simp [IntKind.min, IntKind.signed]; omega) (by simp [IntKind.max, IntKind.signed, IntKind.bits]; omega)]
      exact ⟨rfl, rfl, by congr 1; omega⟩
    rintro x12 x16 junk w3 ⟨rfl, rfl, rfl⟩
    generalize hD : l[i].toNat - 48 = D
    have hD9 : D ≤ 9 := by omega
    have hdv : decV (l.take (i + 1)) = decV (l.take i) * 10 + D := by
      rw [List.take_succ_eq_append_getElem hi]; unfold decV; rw [decA_snoc, hD]
    generalize decV (l.take i) = V at hv hdv ⊢
    rw [cnv_int_int u_int u_uint8, show IntKind.u8.wrap 10 = 10 from by decide, bin_geq]
    refine cnd_no (by simp; omega) ?_
    rw [bin_geq]
    refine cnd_no (by simp; omega) ?_
    rw [cnv_int_int u_int u_uint64, show IntKind.u64.wrap 10 = 10 from by decide, show (10 : Int) = ((10 : Nat) : Int) from rfl, bin_mulN (by omega)]
    rw [cnv_int_int u_uint8 u_uint64, wrap_u64 (Nat.lt_of_le_of_lt hD9 (by decide)), bin_addN (by omega), bin_lss]
    refine orJ (fun h => by simp only [decide_eq_true_eq] at h; omega) (fun _ => ?_)
    rw [bin_gtr]
    refine cnd_no (by simp; omega) ?_
    rw [bin_add, wrap_i64 (by omega) (by omega)]
    exact ⟨m - 1, by omega, rfl, rfl, i + 1, rfl, by omega, by rw [hdv]⟩
  · have ht : l.take i = l := List.take_of_length_le (by omega)
    rw [ht]
    refine andJ (fun h => by cases h) (fun _ => ?_)
    exact cnd_no rfl (H _ e1)
set_option maxRecDepth 20000 in
theorem c_ParseInt {l : List UInt8} (hn : isNum l = true) (hl : l.length ≤ 6) (H : ∀ w', Ext w w' → K (.tuple #[.int .i64 (numI l), .nilIface]) w') : call P f_strconv_ParseInt [str l, .int .i64 10, .int .i64 64] w K := by
  refine I_strconv_ParseInt ?_
  unfold D_strconv_ParseInt
  refine I_internal_strconv_ParseInt ?_
  unfold D_internal_strconv_ParseInt
  have hb := isNum_parts hn
  have hbody : (body l).all digB = true ∧ body l ≠ [] := by
    unfold numB at hb
    simp only [Bool.and_eq_true, decide_eq_true_eq] at hb
    exact ⟨hb.1.2, hb.1.1⟩
  have hne : l ≠ [] := by
    rintro rfl
    exact hbody.2 rfl
  have hbl := body_le l
  rw [eql_str (b := [])]
  refine cnd_no (by simpa using hne) ?_
  have hdv : decV (body l) < 1000000 := by
    have := dig10 hbody.1 (by omega) (body l).length
    rwa [List.take_length] at this
  refine ⟨fun x y w' => w' = w ∧ x = str (body l) ∧ y = .bool (negB l), ?_, ?_⟩
  · rintro x y junk w1 ⟨rfl, rfl, rfl⟩
    refine c_ParseUint hbody.1 hbody.2 (by omega) fun w2 e2 => ?_
    rw [xtr_0, xtr_1, nil_err u_error]
    refine andJ (fun h => by cases h) (fun _ => ?_)
    refine cnd_no rfl ?_
    refine ⟨fun x w' => w' = w2 ∧ x = .int .i64 64, ?_, ?_⟩
    rotate_left
    · rw [bin_eql]
      exact cnd_no (by decide) ⟨rfl, rfl⟩
    rintro x2 junk w3 ⟨rfl, rfl⟩
    rw [bin_sub, show IntKind.i64.wrap (64 - 1) = 63 from by decide, cnv_int_int u_int u_uint, show IntKind.u64.wrap 63 = 63 from by decide]
    rw [bin_shl _ _ _ _ _ _ _ _ (by decide), show IntKind.u64.wrap (1 * 2 ^ min (Int.toNat 63) IntKind.u64.bits) = 9223372036854775808 from by decide]
    have hI : numI l = if negB l then -(decV (body l) : Int) else decV (body l) := rfl
    have fin : cnv P t_uint64 t_int64 (.int .u64 (decV (body l) : Nat)) w3 fun x68_42 =>
                    cnd (.bool (negB l))
                      (una P .neg x68_42 w3 fun x71_43 =>
                      xtr P (.tuple #[x71_43, .nilIface]) 0 w3 fun x14_3 => xtr P (.tuple #[x71_43, .nilIface]) 1 w3 fun x15_4 => bin P .neq t_error false true x15_4 .nilIface w3 fun x17_5 => cnd x17_5 (call P f_strconv_toError [(.string ⟨#[80, 97, 114, 115, 101, 73, 110, 116]⟩), str l, .int .i64 10, .int .i64 64, x15_4] w3 fun x23_6 w7 => K (.tuple #[x14_3, x23_6]) w7) (K (.tuple #[x14_3, .nilIface]) w3))
                      (xtr P (.tuple #[x68_42, .nilIface]) 0 w3 fun x14_3 => xtr P (.tuple #[x68_42, .nilIface]) 1 w3 fun x15_4 => bin P .neq t_error false true x15_4 .nilIface w3 fun x17_5 => cnd x17_5 (call P f_strconv_toError [(.string ⟨#[80, 97, 114, 115, 101, 73, 110, 116]⟩), str l, .int .i64 10, .int .i64 64, x15_4] w3 fun x23_6 w7 => K (.tuple #[x14_3, x23_6]) w7) (K (.tuple #[x14_3, .nilIface]) w3)) := by
      rw [cnv_int_int u_uint64 u_int64, wrap_i64 (by omega) (by omega)]
      have HH := H w3 e2
      rw [hI] at HH
      cases hneg : negB l
      · rw [hneg] at HH
        rw [cnd_false, xtr_0, xtr_1, nil_err u_error, cnd_false]
        exact HH
      · rw [hneg] at HH
        rw [cnd_true, una_neg_int, wrap_i64 (by omega) (by omega), xtr_0, xtr_1, nil_err u_error, cnd_false]
        simp only [if_true] at HH
        rw [Int.zero_sub]; exact HH
    rw [una_not]
    have big1 : decide ((9223372036854775808 : Int) ≤ ((decV (body l) : Nat) : Int)) = false := by simp; omega
    have big2 : decide (((decV (body l) : Nat) : Int) > (9223372036854775808 : Int)) = false := by simp; omega
    cases hneg : negB l
    · rw [hneg] at fin
      refine andJ (fun _ => ?_) (fun h => by cases h)
      rw [bin_geq]
      refine cnd_no big1 ?_
      refine andJ (fun h => by cases h) (fun _ => ?_)
      exact cnd_no rfl fin
    · rw [hneg] at fin
      refine andJ (fun h => by cases h) (fun _ => ?_)
      refine cnd_no rfl ?_
      refine andJ (fun _ => ?_) (fun h => by cases h)
      rw [bin_gtr]
      exact cnd_no big2 fin
  · cases l with
    | nil => exact absurd rfl hne
    | cons d r =>
      have hidx : ∀ (w : World) (K : Value → Prop), idx P t_string (str (d :: r)) (.int .i64 0) w K = K (.int .u8 (d.toNat : Nat)) := fun w K => idx_str (i := 0) u_string (by simp)
      rw [hidx, bin_eql]
      have hnot : ¬ ((d.toNat : Int) = 43) := by
        intro h
        have hd : d = 43 := UInt8.toNat_inj.1 (show d.toNat = 43 by omega)
        subst hd
        have hn' : negB (43 :: r) = false := rfl
        unfold body at hbody
        rw [hn'] at hbody
        simp [digB] at hbody
      refine cnd_no (by simpa using hnot) ?_
      rw [bin_eql]
      refine cnd_dec (fun h2 => ?_) (fun h2 => ?_)
      · have hd : d = 45 := UInt8.toNat_inj.1 (show d.toNat = 45 by omega)
        subst hd
        rw [show (1 : Int) = ((1 : Nat) : Int) from rfl, sli_strL u_string (by simp)]
        exact ⟨rfl, rfl, rfl⟩
      · have hneg : negB (d :: r) = false := by
          unfold negB
          have : d ≠ 45 := by rintro rfl; exact h2 rfl
          simpa using this
        refine ⟨rfl, ?_, ?_⟩
        · unfold body; rw [hneg]; rfl
        · rw [hneg]
end Go.Proofs.YtjompmflommadaaGreatDoor


set_option linter.unusedVariables false
namespace Go.Proofs.YtjompmflommadaaGreatDoor
open Go Go.Vc
variable {w : World} {K : Value → World → Prop}
def swapL {α : Type} (l : List α) (i j : Nat) (d : α) : List α := (l.set i (l.getD j d)).set j (l.getD i d)
@[simp] theorem swapL_length {α : Type} (l : List α) (i j : Nat) (d : α) : (swapL l i j d).length = l.length := by simp [swapL]
structure Good (n : Nat) (m : List (List Nat)) : Prop where
  sq : square n m
  fin : ∀ r ∈ m, r.all finB = true
  lt : bits m
theorem Good.len {n : Nat} {m : List (List Nat)} (h : Good n m) : m.length = n := h.sq.1
theorem Good.row {n : Nat} {m : List (List Nat)} (h : Good n m) {i : Nat} (hi : i < m.length) : m[i].length = n := h.sq.row hi
theorem Good.set {n : Nat} {m : List (List Nat)} (h : Good n m) (i : Nat) {r : List Nat} (h1 : r.length = n) (h2 : r.all finB = true) (h3 : ∀ b ∈ r, b < 4294967296) : Good n (m.set i r) := by
  refine ⟨⟨by rw [List.length_set]; exact h.sq.1, fun x hx => ?_⟩, fun x hx => ?_, fun x hx => ?_⟩
  all_goals
    rcases List.mem_or_eq_of_mem_set hx with hx | rfl
    · first | exact h.sq.2 x hx | exact h.fin x hx | exact h.lt x hx
    · first | exact h1 | exact h2 | exact h3
end Go.Proofs.YtjompmflommadaaGreatDoor


set_option linter.unusedVariables false
namespace Go.Proofs.YtjompmflommadaaGreatDoor
open Go Go.Vc
variable {w : World} {K : Value → World → Prop}
section
variable {lo hi : Nat} {v : Value} {m : List (List Nat)} {vs : List Value}
theorem OM.keep {w' : World} {row : Option Nat} {e : TypeId} (h : OM w lo hi v m vs) (hg : w.grownBy w' row) (ht : Ty w row e) (h1 : t_s_float32 ≠ e) (h2 : t_float32 ≠ e) : OM w' lo hi v m vs :=
  ⟨keep_row h.outer hg ht h1, fun i hi => let ⟨x, hx, ho, hk⟩ := h.rows i hi; ⟨x, hx, keep_row ho hg ht h2, hk⟩, h.apart, h.top⟩
theorem OM.bound (h : OM w lo hi v m vs) : m.length ≤ maxLen := owns_bound h.outer
end
section
variable {B : Nat} {p q ov tv : Value} {o : List Nat} {m : List (List Nat)} {vs : List Value}
end
end Go.Proofs.YtjompmflommadaaGreatDoor


set_option linter.unusedVariables false
namespace Go.Proofs.YtjompmflommadaaGreatDoor
open Go Go.Vc
variable {w : World} {K : Value → World → Prop}
theorem Good.of {m : List (List Nat)} (h : matB m = true) (hb : bits m) : Good m.length m := by
  obtain ⟨h1, h2, h3⟩ := matB_parts h
  exact ⟨⟨rfl, fun r hr => (h1 r hr).1⟩, fun r hr => (h1 r hr).2, hb⟩
end Go.Proofs.YtjompmflommadaaGreatDoor


set_option linter.unusedVariables false
namespace Go.Proofs.YtjompmflommadaaGreatDoor
open Go Go.Vc
variable {w : World} {K : Value → World → Prop}
end Go.Proofs.YtjompmflommadaaGreatDoor


set_option linter.unusedVariables false
namespace Go.Proofs.YtjompmflommadaaGreatDoor
open Go Go.Vc
variable {w : World} {K : Value → World → Prop} {lo hi : Nat} {v : Value}
abbrev vI (n : Int) : Value := .int .i64 n
def FI (w : World) (v : Value) (l : List Int) : Prop := Row 1 w v l.length (l.map vI)
theorem FI.ext {w' : World} {l : List Int} (h : FI w v l) (he : Ext w w') : FI w' v l := Row.ext h he
abbrev OIR (w : World) (lo hi : Nat) (v : Value) (l : List Int) : Prop := OwnR w lo hi t_int64 1 v l.length (l.map vI)
theorem OIR.FI {l : List Int} (h : OIR w lo hi v l) : FI w v l := owns_Row h.own
def mkI (k : Int) (n : Nat) : List Int := (List.range n).map (fun j => k + (j : Nat))
@[simp] theorem mkI_length (k : Int) (n : Nat) : (mkI k n).length = n := by simp [mkI]
abbrev DE := List Int × List (List Nat)
def I_Elimination (w : World) (v : Value) (d : DE) : Prop := ∃ ov tv, v = .agg #[ov, tv] ∧ FI w ov d.1 ∧ I_Float32SS w tv d.2
theorem I_Elimination.ext {w' : World} {d : DE} (h : I_Elimination w v d) (he : Ext w w') : I_Elimination w' v d := by
  obtain ⟨ov, tv, h1, h2, h3⟩ := h
  exact ⟨ov, tv, h1, h2.ext he, A_Float32SS.ext h3 he⟩
def O_Elimination (w : World) (lo hi : Nat) (v : Value) (d : DE) : Prop := ∃ ov tv vs, v = .agg #[ov, tv] ∧ OIR w lo hi ov d.1 ∧ OM w lo hi tv d.2 vs ∧ bits d.2
theorem O_Elimination.ext {w' : World} {d : DE} (h : O_Elimination w lo hi v d) (he : Ext w w') : O_Elimination w' lo hi v d := by
  obtain ⟨ov, tv, vs, h1, h2, h3, h4⟩ := h
  exact ⟨ov, tv, vs, h1, h2.ext he, h3.ext he, h4⟩
theorem O_Elimination.chg {w' : World} {d : DE} {lo' hi' : Nat} (h : O_Elimination w lo hi v d) (hc : Chg lo' hi' w w') (hd : hi ≤ lo' ∨ hi' ≤ lo) : O_Elimination w' lo hi v d := by
  obtain ⟨ov, tv, vs, h1, h2, h3, h4⟩ := h
  exact ⟨ov, tv, vs, h1, h2.chg hc hd, h3.chg hc hd, h4⟩
theorem O_Elimination.I {d : DE} (h : O_Elimination w lo hi v d) : I_Elimination w v d := by
  obtain ⟨ov, tv, vs, h1, h2, h3, h4⟩ := h
  exact ⟨ov, tv, h1, OIR.FI h2, h3.FSS h4, h4⟩
theorem FI.one {l : List Int} (h : FI w v l) : v.oneCell' = true := by
  obtain ⟨_, _, a, cap, rfl, _⟩ := h
  rfl
theorem FSS.one {m : List (List Nat)} (h : FSS w v m) : v.oneCell' = true := by
  obtain ⟨vs, h, _⟩ := h.ex
  obtain ⟨_, _, a, cap, rfl, _⟩ := h
  rfl
end Go.Proofs.YtjompmflommadaaGreatDoor


set_option linter.unusedVariables false
namespace Go.Proofs.YtjompmflommadaaGreatDoor
open Go Go.Vc
variable {w : World} {K : Value → World → Prop}
end Go.Proofs.YtjompmflommadaaGreatDoor


set_option linter.unusedVariables false
set_option linter.unusedSimpArgs false
namespace Go.Proofs.YtjompmflommadaaGreatDoor
open Go Go.Vc Ieee
variable {w : World} {K : Value → World → Prop}
theorem callv_call0 {f : FuncId} {cap : Array Value} (H : call P f cap.toList w K) : callv P (.func (.func f) #[] cap) [] w K := by
  unfold callv
  have e : (do let d ← Deferred.ofValue (.func (.func f) #[] cap) ([] : List Value).toArray; invoke d.target d.args) = callFunc f cap.toList.toArray := by
    show callFunc f ((#[] ++ ([] : List Value).toArray) ++ cap) = _
    congr 1
    simp
  rw [e]; exact H
theorem c_Float32frombits' {b : Nat} (H : K (fl b) w) : call P f_math_Float32frombits [.int .u32 (b : Int)] w K :=
  call_extern fun_math_Float32frombits (by kernel_rfl) rfl (by kernel_rfl) (e := Extern.MathFloatBits.float32frombits) (by kernel_rfl) (SemA_pure H)
theorem cnv_i64_u32 {n : Nat} {K : Value → Prop} (h : n ≤ 4294967295) : cnv P t_int64 t_uint32 (.int .i64 (n : Int)) w K = K (.int .u32 (n : Int)) := by
  rw [cnv_int_int u_int64 u_uint32, wrap_nat (by rw [max_u32]; omega)]
theorem c_atPlace_max (H : K (fl 2139095039) w) : call P f_impl_atPlace [.int .i64 2139095039] w K := by
  refine I_impl_atPlace ?_
  unfold D_impl_atPlace
  rw [bin_lss]
  refine cnd_no (by decide) ?_
  rw [show (2139095039 : Int) = ((2139095039 : Nat) : Int) from rfl, cnv_i64_u32 (by decide)]
  exact c_Float32frombits' H
theorem c_atPlace_min (H : K (fl 4286578687) w) : call P f_impl_atPlace [.int .i64 (-2139095039)] w K := by
  refine I_impl_atPlace ?_
  unfold D_impl_atPlace
  rw [bin_lss]
  refine cnd_yes (by decide) ?_
  rw [una_neg_int, wrap_i64 (by decide) (by decide), show (0 : Int) - -2139095039 = ((2139095039 : Nat) : Int) from rfl, cnv_i64_u32 (by decide)]
  rw [bin_orN (b := 2147483648) (by decide) (by decide) rfl, show (2139095039 ||| 2147483648 : Nat) = 4286578687 from by decide]
  exact c_Float32frombits' H
set_option maxRecDepth 20000 in
theorem c_infinite_pos (H : K (fl 2139095040) w) : call P f_impl_infinite [.int .i64 1] w K := by
  refine I_impl_infinite ?_
  unfold D_impl_infinite
  refine I_math_Inf ?_
  unfold D_math_Inf
  rw [bin_geq]
  refine cnd_yes (by decide) ?_
  rw [show (9218868437227405312 : Int) = ((9218868437227405312 : Nat) : Int) from rfl]
  refine c_Float64frombits ?_
  refine rcnv_inf (sg := false) u_float64 u_float32 (by decide) ?_
  exact H
set_option maxRecDepth 20000 in
theorem c_infinite_neg (H : K (fl 4286578688) w) : call P f_impl_infinite [.int .i64 (-1)] w K := by
  refine I_impl_infinite ?_
  unfold D_impl_infinite
  refine I_math_Inf ?_
  unfold D_math_Inf
  rw [bin_geq]
  refine cnd_no (by decide) ?_
  rw [show (18442240474082181120 : Int) = ((18442240474082181120 : Nat) : Int) from rfl]
  refine c_Float64frombits ?_
  refine rcnv_inf (sg := true) u_float64 u_float32 (by decide) ?_
  exact H
theorem overB_pos (md : Int) : overB md (decide ((1 : Int) < 0)) = if md = 3 ∨ md = 1 then 2139095039 else 2139095040 := by
  unfold overB; simp
theorem overB_neg (md : Int) : overB md (decide ((-1 : Int) < 0)) = if md = 3 ∨ md = 2 then 4286578687 else 4286578688 := by
  unfold overB; simp; split <;> rfl
theorem c_round_1 {b b' : Nat} {x3 x6 : Value} {md sg : Int} (h3 : Bx w b t_int64 x3 [.int .i64 md]) (h6 : Bx w b' t_int x6 [.int .i64 sg]) (hs : sg = 1 ∨ sg = -1)
    (H : K (.tuple #[fl (overB md (decide (sg < 0))), .int .i64 5]) w) : call P f_impl_num_round_1 [x3, x6] w K := by
  have e3 : ∀ K, ld P t_int64 x3 w K = K (.int .i64 md) := fun K => by
    obtain ⟨g, rfl, hc⟩ := h3.cell
    exact ld_scalar u_int64 rfl (hc 0 _ rfl).1
  have e6 : ∀ K, ld P t_int x6 w K = K (.int .i64 sg) := fun K => by
    obtain ⟨g, rfl, hc⟩ := h6.cell
    exact ld_scalar u_int rfl (hc 0 _ rfl).1
  refine I_impl_num_round_1 ?_
  unfold D_impl_num_round_1
  by_cases m3 : md = 3
  · have d3 : decide (md = 3) = true := decide_eq_true m3
    rw [e3, bin_eql, d3]
    rcases hs with rfl | rfl
    · repeat (first | (refine ⟨_, fun _ _ _ h => h, ?_⟩) | simp only [e3, e6, bin_eql, bin_gtr, bin_lss, d3, grd_true_true, grd_true_false, grd_false_false, grd_false_true, pick_bool, cond_true, cond_false, cnd_true, cnd_false])
      rw [bin_mul, wrap_i64 (by decide) (by decide), show (1 : Int) * 2139095039 = 2139095039 from rfl]
      refine c_atPlace_max ?_
      have : overB md (decide ((1 : Int) < 0)) = 2139095039 := by rw [overB_pos]; first | rw [if_pos (by omega)] | rw [if_neg (by omega)]
      rw [this] at H; exact H
    · repeat (first | (refine ⟨_, fun _ _ _ h => h, ?_⟩) | simp only [e3, e6, bin_eql, bin_gtr, bin_lss, d3, grd_true_true, grd_true_false, grd_false_false, grd_false_true, pick_bool, cond_true, cond_false, cnd_true, cnd_false])
      rw [bin_mul, wrap_i64 (by decide) (by decide), show (-1 : Int) * 2139095039 = -2139095039 from rfl]
      refine c_atPlace_min ?_
      have : overB md (decide ((-1 : Int) < 0)) = 4286578687 := by rw [overB_neg]; first | rw [if_pos (by omega)] | rw [if_neg (by omega)]
      rw [this] at H; exact H
  · have d3 : decide (md = 3) = false := decide_eq_false m3
    rw [e3, bin_eql, d3]
    by_cases m1 : md = 1
    · have d1 : decide (md = 1) = true := decide_eq_true m1
      have d2 : decide (md = 2) = false := decide_eq_false (by omega)
      have p1 : decide (0 < (1 : Int)) = true := rfl
      have p2 : decide (0 < (-1 : Int)) = false := rfl
      rcases hs with rfl | rfl
      · repeat (first | (refine ⟨_, fun _ _ _ h => h, ?_⟩) | simp only [e3, e6, bin_eql, bin_gtr, bin_lss, d1, d2, d3, p1, grd_true_true, grd_true_false, grd_false_false, grd_false_true, pick_bool, cond_true, cond_false, cnd_true, cnd_false])
        rw [bin_mul, wrap_i64 (by decide) (by decide), show (1 : Int) * 2139095039 = 2139095039 from rfl]
        refine c_atPlace_max ?_
        have : overB md (decide ((1 : Int) < 0)) = 2139095039 := by rw [overB_pos]; first | rw [if_pos (by omega)] | rw [if_neg (by omega)]
        rw [this] at H; exact H
      · repeat (first | (refine ⟨_, fun _ _ _ h => h, ?_⟩) | simp only [e3, e6, bin_eql, bin_gtr, bin_lss, d1, d2, d3, p2, grd_true_true, grd_true_false, grd_false_false, grd_false_true, pick_bool, cond_true, cond_false, cnd_true, cnd_false])
        refine c_infinite_neg ?_
        have : overB md (decide ((-1 : Int) < 0)) = 4286578688 := by rw [overB_neg]; first | rw [if_pos (by omega)] | rw [if_neg (by omega)]
        rw [this] at H; exact H
    · have d1 : decide (md = 1) = false := decide_eq_false m1
      by_cases m2 : md = 2
      · have d2 : decide (md = 2) = true := decide_eq_true m2
        have p1 : decide ((1 : Int) < 0) = false := rfl
        have p2 : decide ((-1 : Int) < 0) = true := rfl
        rcases hs with rfl | rfl
        · repeat (first | (refine ⟨_, fun _ _ _ h => h, ?_⟩) | simp only [e3, e6, bin_eql, bin_gtr, bin_lss, d1, d2, d3, p1, grd_true_true, grd_true_false, grd_false_false, grd_false_true, pick_bool, cond_true, cond_false, cnd_true, cnd_false])
          refine c_infinite_pos ?_
          have : overB md (decide ((1 : Int) < 0)) = 2139095040 := by rw [overB_pos]; first | rw [if_pos (by omega)] | rw [if_neg (by omega)]
          rw [this] at H; exact H
        · repeat (first | (refine ⟨_, fun _ _ _ h => h, ?_⟩) | simp only [e3, e6, bin_eql, bin_gtr, bin_lss, d1, d2, d3, p2, grd_true_true, grd_true_false, grd_false_false, grd_false_true, pick_bool, cond_true, cond_false, cnd_true, cnd_false])
          rw [bin_mul, wrap_i64 (by decide) (by decide), show (-1 : Int) * 2139095039 = -2139095039 from rfl]
          refine c_atPlace_min ?_
          have : overB md (decide ((-1 : Int) < 0)) = 4286578687 := by rw [overB_neg]; first | rw [if_pos (by omega)] | rw [if_neg (by omega)]
          rw [this] at H; exact H
      · have d2 : decide (md = 2) = false := decide_eq_false m2
        have no : ∀ b, ¬ (md = 3 ∨ (md = 1 ∧ b = false) ∨ (md = 2 ∧ b = true)) := by
          rintro b (h | ⟨h, _⟩ | ⟨h, _⟩)
          · exact m3 h
          · exact m1 h
          · exact m2 h
        rcases hs with rfl | rfl
        · repeat (first | (refine ⟨_, fun _ _ _ h => h, ?_⟩) | simp only [e3, e6, bin_eql, bin_gtr, bin_lss, d1, d2, d3, grd_true_true, grd_true_false, grd_false_false, grd_false_true, pick_bool, cond_true, cond_false, cnd_true, cnd_false])
          refine c_infinite_pos ?_
          have : overB md (decide ((1 : Int) < 0)) = 2139095040 := by rw [overB_pos]; first | rw [if_pos (by omega)] | rw [if_neg (by omega)]
          rw [this] at H; exact H
        · repeat (first | (refine ⟨_, fun _ _ _ h => h, ?_⟩) | simp only [e3, e6, bin_eql, bin_gtr, bin_lss, d1, d2, d3, grd_true_true, grd_true_false, grd_false_false, grd_false_true, pick_bool, cond_true, cond_false, cnd_true, cnd_false])
          refine c_infinite_neg ?_
          have : overB md (decide ((-1 : Int) < 0)) = 4286578688 := by rw [overB_neg]; first | rw [if_pos (by omega)] | rw [if_neg (by omega)]
          rw [this] at H; exact H
end Go.Proofs.YtjompmflommadaaGreatDoor


set_option linter.unusedVariables false
set_option linter.unusedSimpArgs false
namespace Go.Proofs.YtjompmflommadaaGreatDoor
open Go Go.Vc Ieee
variable {w : World} {K : Value → World → Prop}
open Classical in
noncomputable def rndQ (md : Int) (q : Rat) : Nat × Int := if h : ∃ p : Int × Int, q = dy p.1 p.2 then roundF md (Classical.choose h).1 (Classical.choose h).2 else (0, 0)
theorem rndQ_dy (md m e : Int) : rndQ md (dy m e) = roundF md m e := by
  have hx : ∃ p : Int × Int, dy m e = dy p.1 p.2 := ⟨(m, e), rfl⟩
  unfold rndQ
  rw [dif_pos hx]
  exact roundF_same md (Classical.choose_spec hx).symm
theorem c_nsign' {p : Value} {m e : Int} (h : IntR w p m) (H : ∀ w', Ext w w' → K (.int .i64 m.sign) w') : call P f_impl_num_sign [.agg #[p, .int .i64 e]] w K := c_nsign ⟨p, rfl, h⟩ H
theorem alc_int {KW : Value → World → Prop} (H : ∀ x w', Bx w' w.heap.size t_int x [.int .i64 0] → Ext w w' → KW x w') : alc P t_int w KW :=
  alc_bx i_int fun x w' b e _ => H x w' b e
theorem IntR.notnew {p : Value} {m : Int} {base : Nat} {z : Value} (h : IntR w p m) (hz : ∀ k, blk z = some k → w.heap.size ≤ k) (hb : ∃ k, blk z = some k) : p ≠ z := by
  rintro rfl
  obtain ⟨s, h1, _⟩ := h
  obtain ⟨k, hk⟩ := hb
  have := hz k hk
  have := (h1.blk_lt hk).2
  omega
theorem ZO.some {base : Nat} {z : Value} (h : ZO w base z) : ∃ k, blk z = some k := by
  obtain ⟨b, s, ⟨g, rfl, _⟩, _⟩ := h
  exact ⟨g, rfl⟩
theorem IntR.ne_new {p z : Value} {m : Int} {w' : World} (h : IntR w p m) (hz : ZO w' w.heap.size z) : p ≠ z := h.notnew (base := 0) (fun k hk => hz.blk_ge hk) hz.some
set_option maxRecDepth 20000 in
theorem round_end {t : Nat} {q : Int} {sg fl' : Int} {b : Nat} {x6 x46 : Value} {neg : Bool} (hi : IntR w x46 (t : Int)) (hc : Cut t q) (h6 : Bx w b t_int x6 [.int .i64 sg]) (hn : neg = decide (sg < 0))
    (H : K (.tuple #[fl (W single neg t q), .int .i64 fl']) w) :
    call P f_impl_integer_Int64 [x46] w fun x131 w48 => cnv P t_int64 t_float64 x131 w48 fun x132 => call P f_math_Ldexp [x132, .int .i64 q] w48 fun x134 w51 => rcnv P t_float64 t_float32 x134 w51 fun x135 =>
      ld P t_int x6 w51 fun x136 => bin P .lss t_int false true x136 (.int .i64 0) w51 fun x137 => cnd x137 (una P .neg x135 w51 fun x139 => K (.tuple #[x139, .int .i64 fl']) w51) (K (.tuple #[x135, .int .i64 fl']) w51) := by
  have ht := hc.t_le
  refine c_Int64 hi (by omega) ?_
  rw [cnv_int_float u_int64 u_float64]
  have hf : floatOfInt .f64 (t : Int) = W double false t 0 := by
    show double.write (.number (decide ((t : Int) < 0)) (t : Int).natAbs 0) = _
    rw [decide_eq_false (by omega), Int.natAbs_natCast]
    rfl
  rw [hf]
  refine c_Ldexp hc ?_
  refine rcnv_cut u_float64 u_float32 hc ?_
  refine h6.get1 u_int rfl ?_
  rw [bin_lss]
  obtain ⟨h1, h2⟩ := W32_true t q
  refine cnd_dec (fun hlt => ?_) (fun hge => ?_)
  · rw [una_neg_float, neg32 _ (Nat.lt_trans h1 (by decide)), if_pos h1, ← h2]
    rw [hn, decide_eq_true hlt] at H
    exact H
  · rw [hn, decide_eq_false hge] at H
    exact H
theorem sign_cases {m : Int} (h : m ≠ 0) : m.sign = 1 ∨ m.sign = -1 := by
  rcases Int.lt_trichotomy m 0 with h1 | h1 | h1
  · exact .inr (Int.sign_eq_neg_one_of_neg h1)
  · exact absurd h1 h
  · exact .inl (Int.sign_eq_one_of_pos h1)
theorem dec_sign (m : Int) : decide (m.sign < 0) = decide (m < 0) := by
  rw [decide_eq_decide]
  exact Int.sign_neg_iff
theorem round_up {r half : Value} {x3 x6 x46 : Value} {md sg : Int} {b b' : Nat} {a g d : Nat} {KB : Value → World → Prop} (h3 : Bx w b t_int64 x3 [.int .i64 md]) (h6 : Bx w b' t_int x6 [.int .i64 sg]) (hs : sg = 1 ∨ sg = -1)
    (h46 : IntR w x46 ((a / g : Nat) : Int)) (hg : g = 2 ^ d * 2)
    (H : KB (.bool (upB md (decide (sg < 0)) (a / g) (a % g) g)) w) :
    ∃ J95 : Value → World → Prop, (∀ (x16_98 : Value) (junk96 : Env) (w97 : World), J95 x16_98 w97 → KB x16_98 w97) ∧
                  (ld P 2 x3 w fun x92_103 =>
                  bin P .eql 2 false true x92_103 (.int .i64 0) w fun x94_104 =>
                  cnd x94_104
                    (bin P .gtr 3 false true (.int .i64 (cmpI ((a % g : Nat) : Int) (2 ^ d))) (.int .i64 0) w fun x96_105 =>
                    ∃ J106 : Value → World → Prop, (∀ (x100_107 : Value) (junk109 : Env) (w108 : World), J106 x100_107 w108 →
                      ∃ J110 : Value → World → Prop, (∀ (x103_111 : Value) (junk113 : Env) (w112 : World), J110 x103_111 w112 →
                      ∃ J114 : Value → World → Prop, (∀ (x104_115 : Value) (junk117 : Env) (w116 : World), J114 x104_115 w116 →
                      pick x96_105 (.bool true) x104_115 fun x105_118 =>
                          J95 x105_118 w116) ∧
                      grd x96_105 false
                        (pick x100_107 x103_111 (.bool false) fun x104_119 =>
                            J114 x104_119 w112)
                        (J114 undef w112)) ∧
                      grd x100_107 true
                        (call P f_impl_integer_Bit [x46, (.int .i64 0)] w108 fun x102_120 w121 =>
                          bin P .eql t_uint false true x102_120 (.int .u64 1) w121 fun x103_122 =>
                          J110 x103_122 w121)
                        (J110 undef w108)) ∧
                      grd x96_105 false
                        (bin P .eql 3 false true (.int .i64 (cmpI ((a % g : Nat) : Int) (2 ^ d))) (.int .i64 0) w fun x99_123 =>
                        J106 x99_123 w)
                        (J106 undef w))
                    (bin P .eql 2 false true x92_103 (.int .i64 1) w fun x107_124 =>
                    cnd x107_124
                      (ld P 3 x6 w fun x108_125 =>
                      bin P .lss 3 false true x108_125 (.int .i64 0) w fun x109_126 =>
                      J95 x109_126 w)
                      (bin P .eql 2 false true x92_103 (.int .i64 2) w fun x111_127 =>
                      cnd x111_127
                        (ld P 3 x6 w fun x112_128 =>
                        bin P .gtr 3 false true x112_128 (.int .i64 0) w fun x113_129 =>
                        J95 x113_129 w)
                        (bin P .eql 2 false true x92_103 (.int .i64 4) w fun x115_130 =>
                        cnd x115_130
                          (J95 (.bool true) w)
                          (J95 (.bool false) w))))) := by
  refine ⟨_, fun _ _ _ h => h, ?_⟩
  have hpow : ((2 ^ d : Nat) : Int) = 2 ^ d := by rw [Int.natCast_pow]; rfl
  refine h3.get1 u_int64 rfl ?_
  rw [bin_eql]
  unfold upB at H
  by_cases m0 : md = 0
  · rw [if_pos m0] at H
    rw [decide_eq_true m0, cnd_true, bin_gtr]
    rw [← hpow]
    by_cases c1 : g < 2 * (a % g)
    · have hc : cmpI ((a % g : Nat) : Int) ((2 ^ d : Nat) : Int) = 1 := by unfold cmpI; rw [if_neg (by omega), if_pos (by omega)]
      rw [hc]
      rw [decide_eq_true c1, Bool.true_or] at H
      have p1 : decide (0 < (1 : Int)) = true := rfl
      rw [p1]
      repeat (first | (refine ⟨_, fun _ _ _ h => h, ?_⟩) | simp only [bin_eql, bin_gtr, bin_lss, grd_true_true, grd_true_false, grd_false_false, grd_false_true, pick_bool, cond_true, cond_false, cnd_true, cnd_false])
      exact H
    · rw [decide_eq_false c1, Bool.false_or] at H
      by_cases c2 : 2 * (a % g) = g
      · have hc : cmpI ((a % g : Nat) : Int) ((2 ^ d : Nat) : Int) = 0 := by unfold cmpI; rw [if_neg (by omega), if_neg (by omega)]
        rw [hc]
        rw [decide_eq_true c2, Bool.true_and] at H
        have p1 : decide (0 < (0 : Int)) = false := rfl
        have p2 : decide ((0 : Int) = 0) = true := rfl
        rw [p1]
        repeat (first | (refine ⟨_, fun _ _ _ h => h, ?_⟩) | simp only [bin_eql, bin_gtr, bin_lss, p2, grd_true_true, grd_true_false, grd_false_false, grd_false_true, pick_bool, cond_true, cond_false, cnd_true, cnd_false])
        refine c_Bit (i := 0) h46 (by decide) ?_
        rw [Int.natAbs_natCast, Nat.pow_zero, Nat.div_one]
        have e : (((a / g % 2 : Nat) : Int) = 1) = (a / g % 2 = 1) := propext ⟨fun h => by omega, fun h => by omega⟩
        simp only [bin_eql, e]
        repeat (first | (refine ⟨_, fun _ _ _ h => h, ?_⟩) | simp only [grd_true_true, grd_true_false, grd_false_false, grd_false_true, pick_bool, cond_true, cond_false, cnd_true, cnd_false])
        exact H
      · have hc : cmpI ((a % g : Nat) : Int) ((2 ^ d : Nat) : Int) = -1 := by unfold cmpI; rw [if_pos (by omega)]
        rw [hc]
        rw [decide_eq_false c2, Bool.false_and] at H
        have p1 : decide (0 < (-1 : Int)) = false := rfl
        have p2 : decide ((-1 : Int) = 0) = false := rfl
        rw [p1]
        repeat (first | (refine ⟨_, fun _ _ _ h => h, ?_⟩) | simp only [bin_eql, bin_gtr, bin_lss, p2, grd_true_true, grd_true_false, grd_false_false, grd_false_true, pick_bool, cond_true, cond_false, cnd_true, cnd_false])
        exact H
  · rw [if_neg m0] at H
    rw [decide_eq_false m0, cnd_false, bin_eql]
    by_cases m1 : md = 1
    · rw [if_pos m1] at H
      rw [decide_eq_true m1, cnd_true]
      refine h6.get1 u_int rfl ?_
      rw [bin_lss]
      exact H
    · rw [if_neg m1] at H
      rw [decide_eq_false m1, cnd_false, bin_eql]
      by_cases m2 : md = 2
      · rw [if_pos m2] at H
        rw [decide_eq_true m2, cnd_true]
        refine h6.get1 u_int rfl ?_
        rw [bin_gtr]
        rcases hs with rfl | rfl
        · exact H
        · exact H
      · rw [if_neg m2] at H
        rw [decide_eq_false m2, cnd_false, bin_eql]
        by_cases m4 : md = 4
        · rw [if_pos m4] at H
          rw [decide_eq_true m4, cnd_true]
          exact H
        · rw [if_neg m4] at H
          rw [decide_eq_false m4, cnd_false]
          exact H
end Go.Proofs.YtjompmflommadaaGreatDoor


set_option linter.unusedVariables false
namespace Go.Proofs.YtjompmflommadaaGreatDoor
open Go Go.Vc Ieee
variable {w : World} {K : Value → World → Prop}
theorem roundF_over {md m e : Int} (h : m ≠ 0) (ho : 128 < (bl (cutT md (decide (m < 0)) m.natAbs e).1 : Int) + qOf m.natAbs e) : roundF md m e = (overB md (decide (m < 0)), 5) := by
  unfold roundF
  rw [if_neg h]
  simp only
  rw [if_pos ho]
theorem roundF_in {md m e : Int} (h : m ≠ 0) (ho : ¬ 128 < (bl (cutT md (decide (m < 0)) m.natAbs e).1 : Int) + qOf m.natAbs e) :
    roundF md m e = (W single (decide (m < 0)) (cutT md (decide (m < 0)) m.natAbs e).1 (qOf m.natAbs e), if (cutT md (decide (m < 0)) m.natAbs e).2 then 0 else if (bl m.natAbs : Int) + e ≤ -126 then 3 else 1) := by
  unfold roundF
  rw [if_neg h]
  simp only
  rw [if_neg ho]
  rfl
theorem cutT_exact {md : Int} {neg : Bool} {a : Nat} {e : Int} (h : qOf a e ≤ e) : cutT md neg a e = (a * 2 ^ (e - qOf a e).toNat, true) := by
  unfold cutT; simp only; rw [if_pos h]
theorem cutT_rest {md : Int} {neg : Bool} {a : Nat} {e : Int} (h : ¬ qOf a e ≤ e) : cutT md neg a e = if a % 2 ^ (qOf a e - e).toNat = 0 then (a / 2 ^ (qOf a e - e).toNat, true) else (a / 2 ^ (qOf a e - e).toNat + (upB md neg (a / 2 ^ (qOf a e - e).toNat) (a % 2 ^ (qOf a e - e).toNat) (2 ^ (qOf a e - e).toNat)).toNat, false) := by
  unfold cutT; simp only; rw [if_neg h]
theorem sub_one_u64 {t : TypeId} {cx cy : Bool} {d : Nat} {K : Value → Prop} (h : d ≤ 1099511627776) : bin P .sub t cx cy (.int .u64 ((d + 1 : Nat) : Int)) (.int .u64 1) w K = K (.int .u64 (d : Int)) := by
  rw [bin_sub, show ((d + 1 : Nat) : Int) - 1 = (d : Int) by omega, wrap_nat (by rw [max_u64]; omega)]
theorem c_num_round {v : Value} {lo hi : Nat} {q : Rat} {md : Int} (h : NQ w v lo hi q) (hl : lo ≤ 1000000000) (hh : hi ≤ 1000000000)
    (H : ∀ w', Ext w w' → K (.tuple #[fl (rndQ md q).1, .int .i64 (rndQ md q).2]) w') : call P f_impl_num_round [v, .int .i64 md] w K := by
  obtain ⟨m, e, ⟨p, rfl, ip⟩, hb, rfl⟩ := h
  rw [rndQ_dy] at H
  have hbl := hb.bl
  have := hb.low; have := hb.top
  refine I_impl_num_round ?_
  unfold D_impl_num_round
  refine bx_num (x := undef) fun x2 w1 b2 e1 => ?_
  refine bx_bx fun x3 w2 b3 e2 _ => ?_
  have b3 : Bx w2 w1.heap.size t_int64 x3 [.int .i64 md] := b3
  have b2 := b2.ext e2
  have E2 := e1.trans e2
  refine num_all b2 ?_
  refine c_nsign' (ip.ext E2) fun w3 e3 => ?_
  have E3 := E2.trans e3
  rw [bin_eql]
  refine cnd_dec (fun h0 => ?_) (fun h0 => ?_)
  · have hm : m = 0 := Int.sign_eq_zero_iff_zero.1 h0
    have : roundF md m e = (0, 0) := by unfold roundF; rw [if_pos hm]
    rw [this] at H
    exact H _ E3
  have hm : m ≠ 0 := by rintro rfl; exact h0 rfl
  have ha : m.natAbs ≠ 0 := by omega
  have hsg := sign_cases hm
  have b2 := b2.ext e3
  have b3 := b3.ext e3
  have ip3 := ip.ext E3
  refine ⟨fun x6 x7 w' => Ext w3 w' ∧ x7 = .int .i64 (bl m.natAbs : Nat) ∧ Bx w' w3.heap.size t_int x6 [.int .i64 m.sign], ?_, ?_⟩
  · rintro x6 x7 junk w4 ⟨e4, rfl, b6⟩
    have E4 := E3.trans e4
    have b2 := b2.ext e4
    have b3 := b3.ext e4
    have ip4 := ip3.ext e4
    refine num_e b2 ?_
    rw [bin_add, wrap_i64 (by omega) (by omega), bin_gtr]
    have over : ∀ (w' : World), Ext w w' → Bx w' w3.heap.size t_int x6 [.int .i64 m.sign] → Bx w' w1.heap.size t_int64 x3 [.int .i64 md] → 128 < (bl (cutT md (decide (m < 0)) m.natAbs e).1 : Int) + qOf m.natAbs e →
        callv P (.func (.func f_impl_num_round_1) #[] #[x3, x6]) [] w' fun x33 w19 => xtr P x33 0 w19 fun x34 => xtr P x33 1 w19 fun x35 => K (.tuple #[x34, x35]) w19 := by
      intro w' he h6 h3 ho
      refine callv_call0 ?_
      refine c_round_1 h3 h6 hsg ?_
      rw [xtr_0, xtr_1, dec_sign]
      have := H w' he
      rw [roundF_over hm ho] at this
      exact this
    refine cnd_dec (fun hbig => over w4 E4 b6 b3 (over_early ha hbig)) (fun hsm => ?_)
    refine num_e b2 ?_
    rw [bin_add, wrap_i64 (by omega) (by omega), bin_sub, wrap_i64 (by omega) (by omega), bl0_max_i64]
    rw [show max (((bl m.natAbs : Nat) : Int) + e - 24) (-149) = qOf m.natAbs e from rfl]
    have hq1 : -149 ≤ qOf m.natAbs e ∧ qOf m.natAbs e ≤ 104 ∧ (bl m.natAbs : Int) + e - 24 ≤ qOf m.natAbs e := by unfold qOf; omega
    generalize hqd : qOf m.natAbs e = Q at *
    refine alc_Z fun x42 w5 z42 _ e5 => ?_
    have b2 := b2.ext e5
    have ip5 := ip4.ext e5
    refine num_m b2 ?_
    refine c_Abs z42 ip5 (by omega) fun w6 z42 i42 g6 => ?_
    have e6 : Ext w4 w6 := ext_of_grown e5 (fun k hk => z42.blk_ge hk) g6
    refine alc_Z fun x46 w7 z46 _ e7 => ?_
    have e7' : Ext w4 w7 := e6.trans e7
    have n1 : x42 ≠ x46 := i42.ne_new z46
    have i42 := i42.ext e7
    have b2 : Bx w7 w.heap.size t_impl_num x2 (nm p e) := (((‹Bx w4 w.heap.size t_impl_num x2 (nm p e)›).ext e7'))
    generalize ham : m.natAbs = a at *
    refine ⟨fun x11 w' => Ext w4 w' ∧ IntR w' x46 ((cutT md (decide (m < 0)) a e).1 : Int) ∧ x11 = .int .i64 (if (cutT md (decide (m < 0)) a e).2 then 0 else if (bl a : Int) + e ≤ -126 then 3 else 1), ?_, ?_⟩
    · rintro x11 junk w8 ⟨e8, i46, rfl⟩
      have hcl := cutT_le md (decide (m < 0)) a e
      have hc25 : bl (cutT md (decide (m < 0)) a e).1 ≤ 25 := bl_le.2 (by show _ < 33554432; omega)
      refine c_BitLen i46 (by rw [Int.natAbs_natCast]; omega) ?_
      rw [Int.natAbs_natCast, bin_add, wrap_i64 (by omega) (by omega), bin_gtr]
      refine cnd_dec (fun hbig => over w8 (E4.trans e8) (b6.ext e8) (b3.ext e8) hbig) (fun hin => ?_)
      have HH := H w8 (E4.trans e8)
      rw [roundF_in hm (by rw [ham, hqd]; exact hin), ham, hqd] at HH
      refine round_end (neg := decide (m < 0)) i46 ⟨hcl, hq1.1, by omega⟩ (b6.ext e8) (dec_sign m).symm ?_
      exact HH
    · refine num_e b2 ?_
      rw [bin_geq]
      refine cnd_dec (fun hge => ?_) (fun hlt => ?_)
      · refine num_e b2 ?_
        rw [bin_sub, wrap_i64 (by omega) (by omega), show e - Q = (((e - Q).toNat : Nat) : Int) by omega, cnv_int_uint (by omega)]
        refine c_Lsh z46 i42 (by rw [Int.natAbs_natCast]; omega) (by omega) fun w8 z8 i8 g8 => ?_
        refine ⟨ext_of_grown e7' (fun k hk => Nat.le_trans e6.size (z46.blk_ge hk)) g8, ?_, ?_⟩
        · rw [cutT_exact (by rw [hqd]; omega), hqd]
          rw [Int.natCast_mul, Int.natCast_pow]; exact i8
        · rw [cutT_exact (by rw [hqd]; omega)]; rfl
      · have hd : 1 ≤ (Q - e).toNat := by omega
        obtain ⟨d, hdd⟩ : ∃ d, (Q - e).toNat = d + 1 := ⟨(Q - e).toNat - 1, by omega⟩
        have hcut := cutT_rest (md := md) (neg := decide (m < 0)) (a := a) (e := e) (by rw [hqd]; omega)
        rw [hqd, hdd] at hcut
        refine num_e b2 ?_
        rw [bin_sub, wrap_i64 (by omega) (by omega), show Q - e = ((d + 1 : Nat) : Int) by omega, cnv_int_uint (by omega)]
        refine c_Rsh z46 i42 (by rw [Int.natAbs_natCast]; omega) (by omega) fun w8 z8 i8 g8 => ?_
        have e8 : Ext w4 w8 := ext_of_grown e7' (fun k hk => Nat.le_trans e6.size (z46.blk_ge hk)) g8
        have i42' := i42.kept z46 g8 n1
        have hdiv : (a : Int) / 2 ^ (d + 1) = ((a / 2 ^ (d + 1) : Nat) : Int) := by rw [Int.natCast_ediv, Int.natCast_pow]; rfl
        rw [hdiv] at i8
        refine alc_Z fun x68 w9 z68 _ e9 => ?_
        refine alc_Z fun x70 w10 z70 _ e10 => ?_
        have E10 := e9.trans e10
        have hb2 : bl (a / 2 ^ (d + 1)) ≤ bl a := bl_mono (Nat.div_le_self _ _)
        have n70 : x46 ≠ x70 := (i8.ext e9).ne_new z70
        have n70' : x42 ≠ x70 := (i42'.ext e9).ne_new z70
        refine c_Lsh z70 (i8.ext E10) (by rw [Int.natAbs_natCast]; omega) (by omega) fun w11 z70' i70 g11 => ?_
        have e11 : Ext w8 w11 := ext_of_grown E10 (fun k hk => Nat.le_trans e9.size (z70.blk_ge hk)) g11
        have z68' : ZO w11 w8.heap.size x68 := by
          have h68 := (z68.ext e10)
          obtain ⟨b, s, ⟨g, rfl, hg0, hg1⟩, hs⟩ := h68
          refine ⟨b, s, ⟨g, rfl, hg0, ?_⟩, hs⟩
          have hlt : g < w10.heap.size := by
            rcases Nat.lt_or_ge g w10.heap.size with h | h
            · exact h
            · rw [Array.getElem?_eq_none h] at hg1; cases hg1
          have hlt9 : g < w9.heap.size := by
            obtain ⟨b', s', ⟨g', hp, _, hg1'⟩, _⟩ := z68
            cases hp
            rcases Nat.lt_or_ge g w9.heap.size with h | h
            · exact h
            · rw [Array.getElem?_eq_none h] at hg1'; cases hg1'
          rw [g11.block g hlt (fun hc => by
            have := z70.blk_ge hc.symm
            omega)]
          exact hg1
        have hsub : (a : Int) - ((a / 2 ^ (d + 1) : Nat) : Int) * 2 ^ (d + 1) = ((a % 2 ^ (d + 1) : Nat) : Int) := by
          have h1 := Nat.div_add_mod a (2 ^ (d + 1))
          have h2 : ((2 ^ (d + 1) * (a / 2 ^ (d + 1)) + a % 2 ^ (d + 1) : Nat) : Int) = (a : Int) := by rw [h1]
          rw [Int.natCast_add, Int.natCast_mul, Int.natCast_pow] at h2
          rw [Int.mul_comm]
          show (a : Int) - (((2 : Nat) : Int)) ^ (d + 1) * _ = _
          omega
        have hb70 : bl (((a / 2 ^ (d + 1) : Nat) : Int) * 2 ^ (d + 1)).natAbs ≤ bl a := by
          refine bl_mono ?_
          have h1 : (((a / 2 ^ (d + 1) : Nat) : Int) * 2 ^ (d + 1)).natAbs = a / 2 ^ (d + 1) * 2 ^ (d + 1) := by rw [Int.natAbs_mul, Int.natAbs_natCast, natAbs_two_pow]
          rw [h1]
          exact Nat.div_mul_le_self _ _
        refine c_Sub z68' (i42'.ext e11) i70 (by rw [Int.natAbs_natCast]; omega) (by omega) fun w12 z12 i12 g12 => ?_
        rw [hsub] at i12
        have e12 : Ext w8 w12 := ext_of_grown e11 (fun k hk => z68'.blk_ge hk) g12
        have E12 : Ext w4 w12 := e8.trans e12
        refine c_Sign i12 ?_
        rw [bin_neq]
        have i46 := i8.ext e12
        refine cnd_dec (fun hne => ?_) (fun heq => ?_)
        · have hr : a % 2 ^ (d + 1) ≠ 0 := fun hc => hne (by rw [hc]; rfl)
          rw [if_neg hr] at hcut
          have b2' : Bx w12 w.heap.size t_impl_num x2 (nm p e) := (‹Bx w4 w.heap.size t_impl_num x2 (nm p e)›).ext E12
          refine ⟨fun x11 w' => w' = w12 ∧ x11 = .int .i64 (if (bl a : Int) + e ≤ -126 then 3 else 1), ?_, ?_⟩
          · rintro x11 junk w13 ⟨rfl, rfl⟩
            refine alc_Z fun x86 w14 z86 _ e14 => ?_
            refine c_newInt (by decide) (by decide) fun x87 w15 e15 z87 i87 => ?_
            rw [sub_one_u64 (by omega)]
            refine c_Lsh (z86.ext e15) i87 (by decide) (by omega) fun w16 z16 i16 g16 => ?_
            have e16 : Ext w13 w16 := ext_of_grown (e14.trans e15) (fun k hk => z86.blk_ge hk) g16
            rw [Int.one_mul] at i16
            refine c_Cmp (i12.ext e16) i16 ?_
            have b3' := b3.ext (E12.trans e16)
            have b6' := b6.ext (E12.trans e16)
            refine round_up (r := x68) (half := x86) (a := a) (g := 2 ^ (d + 1)) (d := d) (KB := fun x16_98 w97 => cnd x16_98 (call P f_impl_newInt [(.int .i64 1)] w97 fun x119_99 w100 => call P f_impl_integer_Add [x46, x46, x119_99] w100 fun x120_101 w102 => _) _) b3' b6' hsg (i46.ext e16) (Nat.pow_succ ..) ?_
            rw [dec_sign]
            refine cnd_split (fun hup => ?_) (fun hup => ?_)
            · refine c_newInt (by decide) (by decide) fun x119 w17 e17 z119 i119 => ?_
              have E17 := e12.trans (e16.trans e17)
              refine c_Add (base := w4.heap.size) ((z8.low (by have := e6.size; omega)).ext E17) (i8.ext E17) i119 (by rw [Int.natAbs_natCast]; omega) (by decide) fun w18 z18 i18 g18 => ?_
              have e18 : Ext w4 w18 := ext_of_grown (e8.trans E17) (fun k hk => Nat.le_trans e6.size (z8.blk_ge hk)) g18
              refine ⟨e18, ?_, ?_⟩
              · rw [hcut, hup]; exact i18
              · rw [hcut]; rfl
            · refine ⟨E12.trans e16, ?_, ?_⟩
              · rw [hcut, hup]; exact i46.ext e16
              · rw [hcut]; rfl
          · refine num_e b2' ?_
            rw [bin_add, wrap_i64 (by omega) (by omega), bin_leq]
            refine cnd_dec (fun hle => ?_) (fun hgt => ?_)
            · rw [if_pos hle]
              have e12 : ∀ KK : Value → Prop, bin P .or 2 false true (.int .i64 1) (.int .i64 2) w12 KK = KK (.int .i64 3) := fun KK => by rw [bin_or]; rfl
              rw [e12]
              exact ⟨rfl, rfl⟩
            · rw [if_neg hgt]
              exact ⟨rfl, rfl⟩
        · have hr : a % 2 ^ (d + 1) = 0 := by
            have h1 : ((a % 2 ^ (d + 1) : Nat) : Int).sign = 0 := by
              refine Classical.byContradiction fun hc => heq hc
            have := Int.sign_eq_zero_iff_zero.1 h1
            omega
          rw [if_pos hr] at hcut
          refine ⟨E12, ?_, ?_⟩
          · rw [hcut]; exact i46
          · rw [hcut]; rfl
  · -- the sign, the length and its variable, in any order
    refine num_all b2 ?_
    refine num_m b2 ?_
    have fin : ∀ (x6 : Value) (w' : World) (g : Nat), Ext w3 w' → w3.heap.size ≤ g → Bx w' g t_int x6 [.int .i64 0] → ∀ (KJ : World → Prop), (∀ w'', Ext w3 w'' → Bx w'' w3.heap.size t_int x6 [.int .i64 m.sign] → KJ w'') → sto P t_int x6 (.int .i64 m.sign) w' KJ := by
      intro x6 w' g he hg hbx KJ hK
      refine hbx.put1 i_int rfl fun w'' b'' g'' => ?_
      exact hK _ (ext_of_grown he (fun k hk => Nat.le_trans hg (hbx.blk_lt hk).1) g'') (b''.low hg)
    refine ⟨?_, ?_⟩
    · refine c_nsign' ip3 fun w4 e4 => ?_
      refine ⟨e4, ?_, ?_⟩
      · refine c_BitLen (ip3.ext e4) (by omega) ?_
        refine alc_int fun x6 w5 b6 e5 => ?_
        refine ⟨e5, ?_⟩
        exact fin x6 w5 _ (e4.trans e5) e4.size b6 _ fun w'' he hb => ⟨he, rfl, hb⟩
      · refine alc_int fun x6 w5 b6 e5 => ?_
        refine ⟨e5, ?_⟩
        refine c_BitLen ((ip3.ext e4).ext e5) (by omega) ?_
        exact fin x6 w5 _ (e4.trans e5) e4.size b6 _ fun w'' he hb => ⟨he, rfl, hb⟩
    · refine alc_int fun x6 w4 b6 e4 => ?_
      refine ⟨e4, ?_⟩
      refine c_nsign' (ip3.ext e4) fun w5 e5 => ?_
      refine ⟨e5, ?_⟩
      refine c_BitLen ((ip3.ext e4).ext e5) (by omega) ?_
      exact fin x6 w5 _ (e4.trans e5) (Nat.le_refl _) (b6.ext e5) _ fun w'' he hb => ⟨he, rfl, hb⟩
end Go.Proofs.YtjompmflommadaaGreatDoor


set_option linter.unusedVariables false
set_option linter.unusedSimpArgs false
namespace Go.Proofs.YtjompmflommadaaGreatDoor
open Go Go.Vc Ieee
variable {w : World} {K : Value → World → Prop} {g : Nat} {x v : Value} {m : Int}
def WC (w : World) (g : Nat) (x : Value) : Prop := blk x = some g ∧ ∃ cs, cs.length = 2 ∧ Bx w g t_impl_Whole x cs
def WV (w : World) (g : Nat) (x : Value) (m : Int) : Prop := blk x = some g ∧ ∃ s, Bx w g t_impl_Whole x [.int .i64 m.sign, s] ∧ Wr w (.agg #[.int .i64 m.sign, s]) m
theorem WC.ext {w' : World} (h : WC w g x) (he : Ext w w') : WC w' g x := let ⟨a, cs, b, c⟩ := h; ⟨a, cs, b, c.ext he⟩
theorem Wr.kt {w' : World} {row : Option Nat} {e' : TypeId} (h : Wr w v m) (hg : w.grownBy w' row) (ht : Ty w row e') (h1 : t_int64 ≠ e') : Wr w' v m := let ⟨s, l, a, b, c⟩ := h; ⟨s, l, a, b.kt hg ht h1, c⟩
theorem WV.ext {w' : World} (h : WV w g x m) (he : Ext w w') : WV w' g x m := let ⟨a, s, b, c⟩ := h; ⟨a, s, b.ext he, c.ext he⟩
theorem WV.WC (h : WV w g x m) : WC w g x := let ⟨a, _, b, _⟩ := h; ⟨a, _, rfl, b⟩
theorem WV.get {K : Value → Prop} (h : WV w g x m) (H : ∀ v, Wr w v m → K v) : ld P t_impl_Whole x w K := let ⟨_, _, b, c⟩ := h; wh_all b (H _ c)
theorem WV.getc {K : Value → Prop} (h : WV w g x m) (H : ∀ v, Wr w v m → K v) : ldc P t_impl_Whole x w K := let ⟨_, _, b, c⟩ := h; b.getc u_impl_Whole rfl i_impl_Whole rfl (H _ c)
theorem WC.put {K : World → Prop} (h : WC w g x) (hv : Wr w v m) (H : ∀ w', WV w' g x m → w.grownBy w' (some g) → Ty w (some g) t_impl_Whole → K w') : sto P t_impl_Whole x v w K := by
  obtain ⟨hg, cs, hl, b⟩ := h
  have t := Ty.box b
  obtain ⟨s, l, rfl, hr, hw⟩ := hv
  refine b.put i_impl_Whole (ds := [.int .i64 m.sign, s]) rfl hl (one_2 rfl (sl_one (IR.sl hr.toIR))) fun w' b' g' => ?_
  rw [hg] at g' t
  exact H w' ⟨hg, s, b', s, l, rfl, hr.kt g' t (by decide), hw⟩ g' t
theorem alc_WC {KW : Value → World → Prop} (H : ∀ x w', WC w' w.heap.size x → Ext w w' → KW x w') : alc P t_impl_Whole w KW :=
  alc_bx i_impl_Whole fun x w' b e hp => H x w' ⟨hp, _, rfl, b⟩ e
theorem WV.ty (h : WV w g x m) : Ty w (some g) t_impl_Whole := let ⟨a, _, b, _⟩ := h; a ▸ Ty.box b
theorem up_canon {neg : Bool} {a d : Nat} (ha : a % 2 = 1) : upB 0 neg (a / 2 ^ (d + 1)) (a % 2 ^ (d + 1)) (2 ^ (d + 1)) = (decide (a / 2 ^ d % 2 = 1) && (decide (1 < d + 1) || decide (a / 2 ^ (d + 1) % 2 = 1))) := by
  unfold upB
  rw [if_pos rfl]
  have hp := Nat.two_pow_pos d
  have h1 : 2 ^ (d + 1) = 2 ^ d * 2 := Nat.pow_succ ..
  have hm := Nat.mod_mul (x := a) (a := 2 ^ d) (b := 2)
  rw [← h1] at hm
  have hr := Nat.mod_lt a hp
  have hb := Nat.mod_lt (a / 2 ^ d) (show 0 < 2 by decide)
  generalize hB : a / 2 ^ d % 2 = B at *
  generalize hR : a % 2 ^ d = R at *
  rw [hm, h1]
  by_cases hB1 : B = 1
  · subst hB1
    have e1 : decide ((1 : Nat) = 1) = true := rfl
    rw [e1, Bool.true_and, Nat.mul_one]
    by_cases hd : d = 0
    · subst hd
      have : R = 0 := by have : R < 1 := hr; omega
      subst this
      rfl
    · have h2 : decide (1 < d + 1) = true := decide_eq_true (by omega)
      have hRp : 0 < R := by
        obtain ⟨k, rfl⟩ : ∃ k, d = k + 1 := ⟨d - 1, by omega⟩
        have h3 := Nat.mod_mul (x := a) (a := 2) (b := 2 ^ k)
        rw [show 2 * 2 ^ k = 2 ^ (k + 1) by rw [Nat.pow_succ, Nat.mul_comm], hR, ha] at h3
        omega
      have h3 : decide (2 ^ d * 2 < 2 * (R + 2 ^ d)) = true := decide_eq_true (by omega)
      rw [h2, h3, Bool.true_or, Bool.true_or]
  · have hB0 : B = 0 := by omega
    subst hB0
    have e1 : decide ((0 : Nat) = 1) = false := rfl
    rw [e1, Bool.false_and, Nat.mul_zero, Nat.add_zero]
    have h3 : decide (2 ^ d * 2 < 2 * R) = false := decide_eq_false (by omega)
    have h4 : decide (2 * R = 2 ^ d * 2) = false := decide_eq_false (by omega)
    rw [h3, h4]; rfl
theorem natAbs_odd {m : Int} (h : m % 2 = 1) : m.natAbs % 2 = 1 := by omega
theorem c_l03Multiple {m e : Int} {lo hi : Nat} {md : Int} (h : Dr w v m e) (hb : Bd lo hi m e) (hl : lo ≤ 1000000000) (hh : hi ≤ 1000000000) (hodd : m % 2 = 1)
    (H : ∀ u w', Ext w w' → Wr w' u ((cutT md (decide (m < 0)) m.natAbs e).1 : Int) → K (.tuple #[u, .int .i64 (qOf m.natAbs e), .bool (cutT md (decide (m < 0)) m.natAbs e).2]) w') : call P f_spec_l03Multiple [v, .int .i64 md] w K := by
  obtain ⟨s, l, rfl, h1, wl⟩ := h
  have hbl := hb.bl
  have := hb.low; have := hb.top
  have hm : m ≠ 0 := by rintro rfl; cases hodd
  have hao := natAbs_odd hodd
  refine I_spec_l03Multiple ?_
  unfold D_spec_l03Multiple
  refine bx_Dy fun x1 w1 b1 e1 => ?_
  refine alc_WC fun x4 w2 c4 e2 => ?_
  have b1 := b1.ext e2
  have E2 := e1.trans e2
  refine dy_w b1 ?_
  refine c_l02Abs ⟨s, l, rfl, h1.ext E2, wl⟩ (by omega) fun u3 w3 e3 h3 => ?_
  refine alc_WC fun x7 w4 c7 e4 => ?_
  refine c7.put (h3.Wr.ext e4) fun w5 v7 g5 _ => ?_
  have e5 : Ext w2 w5 := ext_gr (e3.trans e4) e3.size g5
  have b1 := b1.ext e5
  have c4 := c4.ext e5
  refine v7.get fun u7 hu7 => ?_
  refine dy_e b1 ?_
  refine c_l02Length hu7 (by rw [Int.natAbs_natCast]; omega) fun w6 e6 => ?_
  refine ⟨e6, ?_⟩
  have b1 := b1.ext e6
  have c4 := c4.ext e6
  have v7 := v7.ext e6
  have E6 := E2.trans (e5.trans e6)
  have s1 := e1.size
  have s3 := e3.size
  rw [Int.natAbs_natCast, bin_add, wrap_i64 (by omega) (by omega), bin_sub, wrap_i64 (by omega) (by omega), bl0_max_i64]
  rw [show max (((bl m.natAbs : Nat) : Int) + e - 24) (-149) = qOf m.natAbs e from rfl]
  have hq1 : -149 ≤ qOf m.natAbs e ∧ qOf m.natAbs e ≤ 3000000000 := by unfold qOf; omega
  generalize hqd : qOf m.natAbs e = Q at *
  refine dy_e b1 ?_
  rw [bin_sub, wrap_i64 (by omega) (by omega), bin_leq]
  refine cnd_dec (fun hle => ?_) (fun hgt => ?_)
  · refine v7.get fun u8 hu8 => ?_
    rw [una_neg_int, wrap_i64 (by omega) (by omega), show (0 : Int) - (Q - e) = (((e - Q).toNat : Nat) : Int) by omega]
    refine c_l02Left hu8 (by rw [Int.natAbs_natCast]; omega) (by omega) fun u9 w9 e9 h9 => ?_
    refine (c4.ext e9).put h9.Wr fun w10 v4 g10 _ => ?_
    refine v4.getc fun u10 hu10 => ?_
    have := H u10 w10 (ext_gr (E6.trans e9) e1.size g10)
    rw [cutT_exact (by rw [hqd]; omega), hqd] at this
    refine this ?_
    rw [Int.natCast_mul, Int.natCast_pow]; exact hu10
  · obtain ⟨d, hdd⟩ : ∃ d : Nat, Q - e = ((d + 1 : Nat) : Int) := ⟨(Q - e).toNat - 1, by omega⟩
    have hcut := cutT_rest (md := md) (neg := decide (m < 0)) (a := m.natAbs) (e := e) (by rw [hqd]; omega)
    rw [hqd, show (Q - e).toNat = d + 1 by omega] at hcut
    have hr : m.natAbs % 2 ^ (d + 1) ≠ 0 := by
      intro hc
      have : m.natAbs % 2 = m.natAbs % 2 ^ (d + 1) % 2 := by rw [Nat.mod_mod_of_dvd _ ⟨2 ^ d, by rw [Nat.pow_succ, Nat.mul_comm]⟩]
      rw [hc] at this; omega
    rw [if_neg hr] at hcut
    refine v7.get fun u8 hu8 => ?_
    rw [hdd]
    refine c_l02Cut (m' := ((m.natAbs / 2 ^ (d + 1) : Nat) : Int)) hu8 (by rw [Int.natAbs_natCast]; omega) (by omega) (by rw [Int.natAbs_natCast, Int.natAbs_natCast]) (fun hne => ?_) fun u9 w9 e9 h9 => ?_
    · have hp : 0 < m.natAbs / 2 ^ (d + 1) := Nat.pos_of_ne_zero fun hc => hne (by rw [hc]; rfl)
      rw [Int.sign_eq_one_of_pos (Int.natCast_pos.2 hp), Int.sign_eq_one_of_pos (Int.natCast_pos.2 (by omega))]
    refine alc_WC fun x10 w10 c10 e10 => ?_
    refine c10.put (h9.Wr.ext e10) fun w11 v10 g11 _ => ?_
    have e11 : Ext w6 w11 := ext_gr (e9.trans e10) e9.size g11
    have s9 := e9.size
    have hbt : bl (m.natAbs / 2 ^ (d + 1)) ≤ bl m.natAbs := bl_mono (Nat.div_le_self _ _)
    have fin : ∀ (up : Bool) (w12 : World), up = upB md (decide (m < 0)) (m.natAbs / 2 ^ (d + 1)) (m.natAbs % 2 ^ (d + 1)) (2 ^ (d + 1)) → Ext w11 w12 →
        cnd (.bool up)
        (ld P t_impl_Whole x10 w12 fun x68_43 =>
        call P f_spec_l02Of [(.int .i64 1)] w12 fun x69_44 w45 =>
        Ext w12 w45 ∧ call P f_spec_l02Add [x68_43, x69_44] w45 fun x70_46 w47 =>
        sto P t_impl_Whole x10 x70_46 w47 fun w49 =>
        ld P t_impl_Whole x10 w49 fun x71_50 =>
        sto P t_impl_Whole x4 x71_50 w49 fun w52 =>
        ldc P t_impl_Whole x4 w52 fun r53 =>
        K (.tuple #[r53, .int .i64 Q, (.bool false)]) w52)
        (ld P t_impl_Whole x10 w12 fun x71_54 =>
        sto P t_impl_Whole x4 x71_54 w12 fun w56 =>
        ldc P t_impl_Whole x4 w56 fun r57 =>
        K (.tuple #[r57, .int .i64 Q, (.bool false)]) w56) := by
      intro up w12 hup e12
      have v10 := v10.ext e12
      have c4 := (c4.ext e11).ext e12
      have E12 := E6.trans (e11.trans e12)
      have H := H
      rw [hcut] at H
      refine cnd_split (fun hu => ?_) (fun hu => ?_)
      · refine v10.get fun u12 hu12 => ?_
        refine c_l02Of (by decide) (by decide) fun u13 w13 e13 h13 => ?_
        refine ⟨e13, ?_⟩
        refine c_l02Add (hu12.ext e13) h13.Wr (by rw [Int.natAbs_natCast]; omega) (by decide) fun u14 w14 e14 h14 => ?_
        refine ((v10.WC.ext e13).ext e14).put h14.Wr fun w15 v15 g15 _ => ?_
        have e15 : Ext w6 w15 := ext_gr (e11.trans (e12.trans (e13.trans e14))) e9.size g15
        refine v15.get fun u15 hu15 => ?_
        refine (((‹WC w6 w1.heap.size x4›).ext e15)).put hu15 fun w16 v16 g16 _ => ?_
        refine v16.getc fun u16 hu16 => ?_
        have := H u16 w16 (ext_gr (E6.trans e15) e1.size g16)
        rw [← hup, hu] at this
        exact this hu16
      · refine v10.get fun u12 hu12 => ?_
        refine c4.put hu12 fun w16 v16 g16 _ => ?_
        refine v16.getc fun u16 hu16 => ?_
        have := H u16 w16 (ext_gr E12 e1.size g16)
        rw [← hup, hu] at this
        exact this hu16
    refine ⟨fun x11 w' => Ext w11 w' ∧ x11 = .bool (upB md (decide (m < 0)) (m.natAbs / 2 ^ (d + 1)) (m.natAbs % 2 ^ (d + 1)) (2 ^ (d + 1))), ?_, ?_⟩
    · rintro x11 junk w12 ⟨e12, rfl⟩
      exact fin _ w12 rfl e12
    · rw [bin_eql]
      have b1 := b1.ext e11
      have v7 := v7.ext e11
      by_cases m0 : md = 0
      · rw [decide_eq_true m0, cnd_true, m0, up_canon hao]
        refine v7.get fun u12 hu12 => ?_
        rw [bin_sub, wrap_i64 (by omega) (by omega), show ((d + 1 : Nat) : Int) - 1 = (d : Int) by omega]
        refine c_l02Bit hu12 (by omega) fun w12 e12 => ?_
        rw [Int.natAbs_natCast, bin_eql]
        have e : (((m.natAbs / 2 ^ d % 2 : Nat) : Int) = 1) = (m.natAbs / 2 ^ d % 2 = 1) := propext ⟨fun h => by omega, fun h => by omega⟩
        simp only [e]
        by_cases c1 : m.natAbs / 2 ^ d % 2 = 1
        · rw [decide_eq_true c1, Bool.true_and]
          by_cases c2 : 1 < d + 1
          · have p1 : decide (1 < ((d + 1 : Nat) : Int)) = true := decide_eq_true (by omega)
            rw [decide_eq_true c2, Bool.true_or]
            repeat (first | (refine ⟨_, fun _ _ _ h => h, ?_⟩) | simp only [bin_gtr, p1, grd_true_true, grd_true_false, grd_false_false, grd_false_true, pick_bool, cond_true, cond_false])
            exact ⟨e12, trivial⟩
          · have p1 : decide (1 < ((d + 1 : Nat) : Int)) = false := decide_eq_false (by omega)
            rw [decide_eq_false c2, Bool.false_or]
            repeat (first | (refine ⟨_, fun _ _ _ h => h, ?_⟩) | simp only [bin_gtr, p1, grd_true_true, grd_true_false, grd_false_false, grd_false_true, pick_bool, cond_true, cond_false])
            refine (v10.ext e12).get fun u13 hu13 => ?_
            refine c_l02Bit (i := 0) hu13 (by decide) fun w13 e13 => ?_
            rw [Int.natAbs_natCast, Nat.pow_zero, Nat.div_one]
            have e' : (((m.natAbs / 2 ^ (d + 1) % 2 : Nat) : Int) = 1) = (m.natAbs / 2 ^ (d + 1) % 2 = 1) := propext ⟨fun h => by omega, fun h => by omega⟩
            simp only [bin_eql, e']
            repeat (first | (refine ⟨_, fun _ _ _ h => h, ?_⟩) | simp only [bin_gtr, p1, grd_true_true, grd_true_false, grd_false_false, grd_false_true, pick_bool, cond_true, cond_false])
            exact ⟨e12.trans e13, trivial⟩
        · rw [decide_eq_false c1, Bool.false_and]
          repeat (first | (refine ⟨_, fun _ _ _ h => h, ?_⟩) | simp only [bin_gtr, grd_true_true, grd_true_false, grd_false_false, grd_false_true, pick_bool, cond_true, cond_false])
          exact ⟨e12, trivial⟩
      · rw [decide_eq_false m0, cnd_false, bin_eql]
        unfold upB
        rw [if_neg m0]
        by_cases m1 : md = 1
        · rw [decide_eq_true m1, cnd_true, if_pos m1]
          refine dy_ws b1 ?_
          rw [bin_lss, dec_sign]
          exact ⟨Ext.refl _, rfl⟩
        · rw [decide_eq_false m1, cnd_false, if_neg m1, bin_eql]
          by_cases m2 : md = 2
          · rw [decide_eq_true m2, cnd_true, if_pos m2]
            refine dy_ws b1 ?_
            rw [bin_gtr]
            refine ⟨Ext.refl _, ?_⟩
            congr 1
            rcases sign_cases hm with hs | hs
            · rw [hs, ← dec_sign, hs]; rfl
            · rw [hs, ← dec_sign, hs]; rfl
          · rw [decide_eq_false m2, cnd_false, if_neg m2, bin_eql]
            by_cases m4 : md = 4
            · rw [decide_eq_true m4, cnd_true, if_pos m4]
              exact ⟨Ext.refl _, rfl⟩
            · rw [decide_eq_false m4, cnd_false, if_neg m4]
              exact ⟨Ext.refl _, rfl⟩
end Go.Proofs.YtjompmflommadaaGreatDoor


set_option linter.unusedVariables false
set_option linter.unusedSimpArgs false
namespace Go.Proofs.YtjompmflommadaaGreatDoor
open Go Go.Vc Ieee
variable {w : World} {K : Value → World → Prop}
theorem c_l01Huge (H : K (fl 2139095040) w) : call P f_spec_l01Huge [] w K := by
  refine I_spec_l01Huge ?_
  unfold D_spec_l01Huge
  refine rbin_float (by simp) fun r hr => ?_
  have := FR_some hr (r' := 2139095040) (by decide +kernel)
  subst this
  exact H
set_option maxRecDepth 20000 in
theorem c_l01At_max (H : K (fl 2139095039) w) : call P f_spec_l01At [.int .i64 2139095039] w K := by
  refine I_spec_l01At ?_
  unfold D_spec_l01At
  rw [bin_lss]
  refine cnd_no (by decide) ?_
  have e1 : ∀ KK : Value → Prop, bin P .shr 2 false true (.int .i64 2139095039) (.int .u64 23) w KK = KK (.int .i64 254) := fun KK => by
    have := bin_shrN (w := w) (t := t_int64) (cx := false) (cy := true) (k := .i64) (yk := .u64) (a := 2139095039) (s := 23) (K := KK) (by decide)
    exact this
  have e2 : ∀ KK : Value → Prop, bin P .and 2 false true (.int .i64 2139095039) (.int .i64 8388607) w KK = KK (.int .i64 8388607) := fun KK => by rw [bin_and]; rfl
  rw [e1, e2, bin_eql]
  refine cnd_no (by decide) ?_
  rw [bin_eql]
  refine cnd_no (by decide) ?_
  have hf : floatOfInt .f64 (8388607 + 8388608) = W64 false 16777215 0 := by decide
  rw [bin_add, wrap_i64 (by decide) (by decide), cnv_int_float u_int64 u_float64, hf, bin_sub, wrap_i64 (by decide) (by decide), show (254 : Int) - 150 = 104 from rfl]
  refine c_l01Twos (by decide) (by decide) (by decide) (by decide) (by decide) ?_
  refine rcnv_cut (t := 16777215) (q := 104) (sg := false) u_float64 u_float32 ⟨by decide, by decide, by decide⟩ ?_
  have : W single false 16777215 104 = 2139095039 := by decide
  rw [this]
  exact H
theorem c_l03Over {md sg : Int} (hs : sg = 1 ∨ sg = -1) (H : K (fl (overB md (decide (sg < 0)))) w) : call P f_spec_l03Over [.int .i64 sg, .int .i64 md] w K := by
  refine I_spec_l03Over ?_
  unfold D_spec_l03Over
  refine c_l01Huge ?_
  have fin : ∀ (b : Nat) (hb : b = 2139095039 ∨ b = 2139095040), (overB md (decide (sg < 0)) = if sg < 0 then b + 2147483648 else b) → bin P .lss 2 false true (.int .i64 sg) (.int .i64 0) w fun x27_7 =>
      cnd x27_7 (una P .neg (fl b) w fun x29_8 => K x29_8 w) (K (fl b) w) := by
    intro b hb ho
    rw [bin_lss]
    refine cnd_dec (fun hlt => ?_) (fun hge => ?_)
    · rw [una_neg_float, neg32 b (by omega), if_pos (by omega)]
      rw [if_pos hlt] at ho
      rw [ho] at H; exact H
    · rw [if_neg hge] at ho
      rw [ho] at H; exact H
  refine ⟨fun x w' => w' = w ∧ ∃ b, x = fl b ∧ (b = 2139095039 ∨ b = 2139095040) ∧ (overB md (decide (sg < 0)) = if sg < 0 then b + 2147483648 else b), ?_, ?_⟩
  · rintro x junk w' ⟨rfl, b, rfl, hb, ho⟩
    exact fin b hb ho
  · have yes : (md = 3 ∨ (md = 1 ∧ sg = 1) ∨ (md = 2 ∧ sg = -1)) → overB md (decide (sg < 0)) = if sg < 0 then 2139095039 + 2147483648 else 2139095039 := by
      intro h
      rcases hs with rfl | rfl
      · rw [overB_pos, if_pos (by omega)]; rfl
      · rw [overB_neg, if_pos (by omega)]; rfl
    have no : ¬ (md = 3 ∨ (md = 1 ∧ sg = 1) ∨ (md = 2 ∧ sg = -1)) → overB md (decide (sg < 0)) = if sg < 0 then 2139095040 + 2147483648 else 2139095040 := by
      intro h
      rcases hs with rfl | rfl
      · rw [overB_pos, if_neg (by omega)]; rfl
      · rw [overB_neg, if_neg (by omega)]; rfl
    rw [bin_eql]
    by_cases m3 : md = 3
    · have d3 : decide (md = 3) = true := decide_eq_true m3
      rw [d3]
      repeat (first | (refine ⟨_, fun _ _ _ h => h, ?_⟩) | simp only [bin_eql, bin_gtr, bin_lss, d3, grd_true_true, grd_true_false, grd_false_false, grd_false_true, pick_bool, cond_true, cond_false, cnd_true, cnd_false])
      refine c_l01At_max ⟨rfl, _, rfl, .inl rfl, yes (.inl m3)⟩
    · have d3 : decide (md = 3) = false := decide_eq_false m3
      rw [d3]
      by_cases m1 : md = 1
      · have d1 : decide (md = 1) = true := decide_eq_true m1
        have d2 : decide (md = 2) = false := decide_eq_false (by omega)
        have p1 : decide (0 < (1 : Int)) = true := rfl
        have p2 : decide (0 < (-1 : Int)) = false := rfl
        rcases hs with rfl | rfl
        · repeat (first | (refine ⟨_, fun _ _ _ h => h, ?_⟩) | simp only [bin_eql, bin_gtr, bin_lss, d1, d2, d3, p1, grd_true_true, grd_true_false, grd_false_false, grd_false_true, pick_bool, cond_true, cond_false, cnd_true, cnd_false])
          refine c_l01At_max ⟨rfl, _, rfl, .inl rfl, yes (.inr (.inl ⟨m1, rfl⟩))⟩
        · repeat (first | (refine ⟨_, fun _ _ _ h => h, ?_⟩) | simp only [bin_eql, bin_gtr, bin_lss, d1, d2, d3, p2, grd_true_true, grd_true_false, grd_false_false, grd_false_true, pick_bool, cond_true, cond_false, cnd_true, cnd_false])
          exact ⟨trivial, _, rfl, .inr rfl, no (by omega)⟩
      · have d1 : decide (md = 1) = false := decide_eq_false m1
        by_cases m2 : md = 2
        · have d2 : decide (md = 2) = true := decide_eq_true m2
          have p1 : decide ((1 : Int) < 0) = false := rfl
          have p2 : decide ((-1 : Int) < 0) = true := rfl
          rcases hs with rfl | rfl
          · repeat (first | (refine ⟨_, fun _ _ _ h => h, ?_⟩) | simp only [bin_eql, bin_gtr, bin_lss, d1, d2, d3, p1, grd_true_true, grd_true_false, grd_false_false, grd_false_true, pick_bool, cond_true, cond_false, cnd_true, cnd_false])
            exact ⟨trivial, _, rfl, .inr rfl, no (by omega)⟩
          · repeat (first | (refine ⟨_, fun _ _ _ h => h, ?_⟩) | simp only [bin_eql, bin_gtr, bin_lss, d1, d2, d3, p2, grd_true_true, grd_true_false, grd_false_false, grd_false_true, pick_bool, cond_true, cond_false, cnd_true, cnd_false])
            refine c_l01At_max ⟨rfl, _, rfl, .inl rfl, yes (.inr (.inr ⟨m2, rfl⟩))⟩
        · have d2 : decide (md = 2) = false := decide_eq_false m2
          repeat (first | (refine ⟨_, fun _ _ _ h => h, ?_⟩) | simp only [bin_eql, bin_gtr, bin_lss, d1, d2, d3, grd_true_true, grd_true_false, grd_false_false, grd_false_true, pick_bool, cond_true, cond_false, cnd_true, cnd_false])
          exact ⟨trivial, _, rfl, .inr rfl, no (by omega)⟩
theorem c_l01Turned {t : Nat} {q : Int} (h : Cut t q) (H : K (fl (W single true t q)) w) : call P f_spec_l01Turned [fl (W single false t q)] w K := by
  refine I_spec_l01Turned ?_
  unfold D_spec_l01Turned
  have e1 : (3212836864 : Nat) = W single true 1 0 := by decide
  refine rbin_float (by simp) fun r hr => ?_
  have hm := mul_W (s := false) (t := true) hss h.has (Has32 (m := 1) (e := 0) (by decide) (by decide) (by decide))
  rw [← e1] at hm
  have := FR_some hr (show floatBits .mul .f32 _ _ = some _ from hm)
  subst this
  rw [Bool.false_xor, Nat.mul_one, Int.add_zero]
  exact H
theorem val_drop_le {l : List Nat} {t : Nat} (h : val 16777216 l = t) (i : Nat) : val 16777216 (l.drop i) * 16777216 ^ i ≤ t := by
  induction i generalizing l t with
  | zero => rw [List.drop_zero, Nat.pow_zero, Nat.mul_one, h]; exact Nat.le_refl _
  | succ i ih =>
    cases l with
    | nil => simp [val]
    | cons a l =>
      rw [List.drop_succ_cons, Nat.pow_succ, ← Nat.mul_assoc]
      have := ih (l := l) rfl
      simp only [val] at h
      have h2 := Nat.mul_le_mul_right 16777216 this
      omega
set_option maxRecDepth 20000 in
theorem c_l03Round {v : Value} {m e : Int} {lo hi : Nat} {md : Int} (h : Dr w v m e) (hb : Bd lo hi m e) (hl : lo ≤ 1000000000) (hh : hi ≤ 1000000000) (hcn : Canon m e)
    (H : ∀ w', Ext w w' → K (.tuple #[fl (roundF md m e).1, .int .i64 (roundF md m e).2]) w') : call P f_spec_l03Round [v, .int .i64 md] w K := by
  obtain ⟨s, l, rfl, h1, wl⟩ := h
  have hbl := hb.bl
  have := hb.low; have := hb.top
  refine I_spec_l03Round ?_
  unfold D_spec_l03Round
  refine bx_Dy fun x1 w1 b1 e1 => ?_
  refine dy_ws b1 ?_
  rw [bin_eql]
  refine cnd_dec (fun h0 => ?_) (fun h0 => ?_)
  · have hm : m = 0 := Int.sign_eq_zero_iff_zero.1 h0
    have : roundF md m e = (0, 0) := by unfold roundF; rw [if_pos hm]
    rw [this] at H
    exact H _ e1
  have hm : m ≠ 0 := by rintro rfl; exact h0 rfl
  have hodd : m % 2 = 1 := by rcases hcn with ⟨h, _⟩ | h <;> omega
  refine dy_all b1 ?_
  refine c_l03Multiple (md := md) ⟨s, l, rfl, h1.ext e1, wl⟩ hb hl hh hodd fun u2 w2 e2 h2 => ?_
  rw [xtr_0, xtr_1, xtr_2]
  have hcl := cutT_le md (decide (m < 0)) m.natAbs e
  have hq1 : -149 ≤ qOf m.natAbs e ∧ qOf m.natAbs e ≤ 3000000000 := by unfold qOf; omega
  have H1 := fun ho => roundF_over (md := md) (e := e) hm ho
  have H2 := fun ho => roundF_in (md := md) (e := e) hm ho
  generalize hqd : qOf m.natAbs e = Q at *
  generalize hT : cutT md (decide (m < 0)) m.natAbs e = T at *
  obtain ⟨t, ex⟩ := T
  simp only at h2 hcl H1 H2
  have hc25 : bl t ≤ 25 := bl_le.2 (by show _ < 33554432; omega)
  refine alc_WC fun x6 w3 c6 e3 => ?_
  refine c6.put (h2.ext e3) fun w4 v6 g4 _ => ?_
  have e4 : Ext w2 w4 := ext_gr e3 (Nat.le_refl _) g4
  have E4 := e1.trans (e2.trans e4)
  have b1 := (b1.ext e2).ext e4
  refine v6.get fun u6 hu6 => ?_
  refine c_l02Length hu6 (by rw [Int.natAbs_natCast]; omega) fun w5 e5 => ?_
  have b1 := b1.ext e5
  have v6 := v6.ext e5
  have E5 := E4.trans e5
  rw [Int.natAbs_natCast, bin_add, wrap_i64 (by omega) (by omega), bin_gtr]
  refine cnd_dec (fun hbig => ?_) (fun hin => ?_)
  · refine dy_ws b1 ?_
    have HH := H w5 E5
    rw [H1 hbig] at HH
    refine c_l03Over (sign_cases hm) ?_
    rw [dec_sign]
    exact HH
  · have HH := fun w' he => H w' he
    rw [H2 hin] at HH
    have cut : Cut t Q := ⟨hcl, hq1.1, by omega⟩
    obtain ⟨hblk, s6, b6, s6', l6, hv6, hr6, hw6⟩ := v6
    simp only [Value.agg.injEq, Array.mk.injEq, List.cons.injEq, true_and, and_true] at hv6
    subst hv6
    have hval : val 16777216 l6 = t := by have := hw6.2; rw [Int.natAbs_natCast] at this; exact this
    have hlen : l6.length ≤ 45812984491 := hw6.len (by rw [Int.natAbs_natCast]; omega)
    refine wh_l b6 ?_
    rw [hr6.row.len u_s_int64]
    rw [bin_sub, wrap_i64 (by omega) (by omega)]
    refine ⟨fun k x y w' => w' = w5 ∧ k ≤ l6.length ∧ x = .float .f64 (W64 false (val 16777216 (l6.drop k)) 0) ∧ y = .int .i64 ((k : Int) - 1), ⟨l6.length, rfl, Nat.le_refl _, ?_, rfl⟩, ?_⟩
    · rw [List.drop_of_length_le (Nat.le_refl _)]
      exact congrArg (Value.float .f64) zero64
    rintro k x y junk w6 ⟨rfl, hk, rfl, rfl⟩
    rw [bin_geq]
    refine cnd_dec (fun hge => ?_) (fun hlt => ?_)
    · obtain ⟨i, rfl⟩ : ∃ i, k = i + 1 := ⟨k - 1, by omega⟩
      have hi : i < l6.length := by omega
      have hdrop : val 16777216 (l6.drop i) = l6[i] + 16777216 * val 16777216 (l6.drop (i + 1)) := by
        rw [List.drop_eq_getElem_cons hi]; rfl
      have hle1 := val_drop_le hval i
      have hle2 := val_drop_le hval (i + 1)
      have hp1 : 1 ≤ 16777216 ^ i := Nat.pow_pos (by decide)
      have hp2 : 16777216 ≤ 16777216 ^ (i + 1) := by rw [Nat.pow_succ]; omega
      have hvi : val 16777216 (l6.drop i) ≤ t := Nat.le_trans (Nat.le_mul_of_pos_right _ hp1) hle1
      have hlim := hw6.1.1 l6[i] (List.getElem_mem hi)
      generalize hP : val 16777216 (l6.drop (i + 1)) = p at *
      have hp : 16777216 * p ≤ t := by omega
      have bp : bl p ≤ 25 := bl_le.2 (by show p < 33554432; omega)
      have bp2 : bl (p * 16777216) ≤ 25 := bl_le.2 (by show p * 16777216 < 33554432; omega)
      have bl1 : bl l6[i] ≤ 25 := bl_le.2 (by show l6[i] < 33554432; omega)
      refine rbin_float (by simp) fun r hr => ?_
      have hm1 := mul_W (s := false) (t := false) hsd (Has64 (m := p) (e := 0) (by omega) (by omega) (by omega)) (Has64 (m := 16777216) (e := 0) (by decide) (by decide) (by decide))
      rw [← p2464] at hm1
      have := FR_some hr (show floatBits .mul .f64 _ _ = some _ from hm1)
      subst this
      refine wh_l b6 ?_
      rw [show (((i + 1 : Nat) : Int) - 1) = (i : Int) by omega]
      refine IR.at (i := i) hr6.toIR hi u_s_int64 i_int64 u_int64 ?_
      rw [cnv_int_float u_int64 u_float64]
      have hf : floatOfInt .f64 ((l6[i] : Nat) : Int) = W64 false l6[i] 0 := by
        show double.write (.number (decide (((l6[i] : Nat) : Int) < 0)) ((l6[i] : Nat) : Int).natAbs 0) = _
        rw [decide_eq_false (by omega), Int.natAbs_natCast]
        rfl
      rw [hf]
      refine rbin_float (by simp) fun r hr => ?_
      have hm2 := add_W (f := double) hsd (Has64 (m := p * 16777216) (e := 0 + 0) (by omega) (by omega) (by omega)) (Has64 (m := l6[i]) (e := 0) (by omega) (by omega) (by omega)) (val 16777216 (l6.drop i)) 0 (by
        rw [hdrop, Int.add_zero, dy_add]
        congr 1
        rw [Int.natCast_add, Int.natCast_mul, Int.natCast_mul, Int.add_comm, Int.mul_comm])
      rw [Bool.xor_false] at hr
      have := FR_some hr (show floatBits .add .f64 _ _ = some _ from hm2)
      subst this
      rw [bin_sub, wrap_i64 (by omega) (by omega)]
      exact ⟨i, by omega, rfl, by omega, rfl, rfl⟩
    · have hk0 : k = 0 := by omega
      subst hk0
      rw [List.drop_zero, hval]
      refine c_l01Twos (by omega) (by omega) (by omega) (by omega) (by have := cut.top; have := bl_pos (n := t); omega) ?_
      rw [Int.zero_add]
      refine rcnv_cut u_float64 u_float32 cut ?_
      have fin : ∀ (f : Int) (w7 : World), Ext w w7 → f = (if ex then 0 else if (bl m.natAbs : Int) + e ≤ -126 then 3 else 1) → Bx w7 w.heap.size t_impl_Dyadic x1 (dv3 m.sign s e) →
          fda P t_impl_Dyadic x1 0 w7 fun x66_54 => fda P t_impl_Whole x66_54 0 w7 fun x67_55 => ld P t_int64 x67_55 w7 fun x68_56 => bin P .lss 2 false true x68_56 (.int .i64 0) w7 fun x69_57 =>
            cnd x69_57 (call P f_spec_l01Turned [.float .f32 (W single false t Q)] w7 fun x71_58 w59 => K (.tuple #[x71_58, .int .i64 f]) w59) (K (.tuple #[.float .f32 (W single false t Q), .int .i64 f]) w7) := by
        intro f w7 he hf hb7
        have HH := HH w7 he
        rw [← hf] at HH
        refine dy_ws hb7 ?_
        rw [bin_lss, dec_sign]
        refine cnd_dec (fun hlt => ?_) (fun hge => ?_)
        · refine c_l01Turned cut ?_
          rw [decide_eq_true hlt] at HH
          exact HH
        · rw [decide_eq_false hge] at HH
          exact HH
      refine ⟨fun x w' => Ext w6 w' ∧ x = .int .i64 (if ex then 0 else if (bl m.natAbs : Int) + e ≤ -126 then 3 else 1), ?_, ?_⟩
      · rintro x junk w7 ⟨e7, rfl⟩
        exact fin _ w7 (E5.trans e7) rfl (b1.ext e7)
      · rw [una_not]
        cases ex with
        | true => exact ⟨Ext.refl _, rfl⟩
        | false =>
          rw [Bool.not_false, cnd_true]
          refine dy_w b1 ?_
          refine dy_e b1 ?_
          refine c_l02Length ⟨s, l, rfl, h1.ext E5, wl⟩ (by omega) fun w7 e7 => ?_
          refine ⟨e7, ?_⟩
          rw [bin_add, wrap_i64 (by omega) (by omega), bin_leq]
          refine cnd_dec (fun hle => ?_) (fun hgt => ?_)
          · rw [bin_add, wrap_i64 (by decide) (by decide)]
            refine ⟨e7, ?_⟩
            rw [if_pos hle]; rfl
          · refine ⟨e7, ?_⟩
            rw [if_neg hgt]; rfl
end Go.Proofs.YtjompmflommadaaGreatDoor


set_option linter.unusedVariables false
namespace Go.Proofs.YtjompmflommadaaGreatDoor
open Go Go.Vc
variable {w : World} {K : Value → World → Prop}
theorem c_dq_round {v : Value} {lo hi : Nat} {q : Rat} {md : Int} (h : DQ w v lo hi q) (hl : lo ≤ 1000000000) (hh : hi ≤ 1000000000)
    (H : ∀ w', Ext w w' → K (.tuple #[fl (rndQ md q).1, .int .i64 (rndQ md q).2]) w') : call P f_spec_l03Round [v, .int .i64 md] w K := by
  obtain ⟨m, e, hd, hc⟩ := h
  rw [hc.val, rndQ_dy] at H
  exact c_l03Round hd hc.bd hl hh hc.canon H
end Go.Proofs.YtjompmflommadaaGreatDoor


set_option linter.unusedVariables false
set_option linter.unusedSimpArgs false
namespace Go.Proofs.YtjompmflommadaaGreatDoor
open Go Go.Vc
variable {w : World} {K : Value → World → Prop}
theorem c_l03IsG {v : Value} {m e : Int} (h : Dr w v m e) (H : ∀ w', Ext w w' → K (.bool (isDyB m e)) w') : call P f_spec_l03Is [v] w K := by
  obtain ⟨s, l, rfl, h1, wl⟩ := h
  refine I_spec_l03Is ?_
  unfold D_spec_l03Is
  refine bx_Dy fun x1 w1 b1 e1 => ?_
  refine dy_w b1 ?_
  refine c_l02Is ⟨s, l, rfl, h1.ext e1, wl⟩ fun w2 e2 => ?_
  have b1 := b1.ext e2
  have h1 := h1.ext (e1.trans e2)
  have HH := H w2 (e1.trans e2)
  unfold isDyB at HH
  rw [una_not]
  refine orJ (fun hb => ?_) (fun hb => ?_)
  · have hb : ¬ bl m.natAbs ≤ 2400 := by simpa using hb
    rw [decide_eq_false hb] at HH
    rw [cnd_true]; exact HH
  have hb : bl m.natAbs ≤ 2400 := by simpa using hb
  rw [decide_eq_true hb, Bool.true_and] at HH
  refine dy_e b1 ?_
  refine c_l01In ?_
  rw [una_not]
  by_cases he : -3000 ≤ e ∧ e ≤ 3000
  · rw [decide_eq_true he]
    refine cnd_no rfl ?_
    rw [decide_eq_true he.1, decide_eq_true he.2, Bool.true_and, Bool.true_and] at HH
    refine dy_ws b1 ?_
    rw [bin_eql]
    refine cnd_dec (fun h0 => ?_) (fun h0 => ?_)
    · have hm : m = 0 := Int.sign_eq_zero_iff_zero.1 h0
      subst hm
      refine dy_e b1 ?_
      rw [bin_eql]
      have : (decide ((0 : Int) = 0 ∧ e = 0) || decide ((0 : Int) % 2 = 1)) = decide (e = 0) := by simp
      rw [this] at HH; exact HH
    · have hm : m ≠ 0 := by rintro rfl; exact h0 rfl
      have hl0 : 0 < l.length := by
        refine Nat.pos_of_ne_zero fun hz => ?_
        have hlnil : l = [] := List.length_eq_zero_iff.1 hz
        have hv := wl.2
        rw [hlnil] at hv
        simp only [val] at hv
        omega
      refine dy_wl b1 ?_
      refine IR.at (i := 0) h1.toIR hl0 u_s_int64 i_int64 u_int64 ?_
      rw [bin_remI (b := 2) (by decide)]
      rw [bin_eql]
      have hv := wl.2
      have h5 : (decide (m = 0 ∧ e = 0) || decide (m % 2 = 1)) = decide (((l[0] % 2 : Nat) : Int) = 1) := by
        rw [decide_eq_false (fun h => hm h.1), Bool.false_or, decide_eq_decide]
        cases l with
        | nil => cases hl0
        | cons a t =>
          simp only [val] at hv
          simp only [List.getElem_cons_zero]
          omega
      rw [h5] at HH; exact HH
  · have h6 : (decide (-3000 ≤ e) && decide (e ≤ 3000)) = false := by
      refine Bool.eq_false_iff.2 fun h => he ?_
      simpa using h
    rw [decide_eq_false he]
    refine cnd_yes rfl ?_
    rw [h6, Bool.false_and] at HH; exact HH
theorem c_l02Read' {l : List UInt8} (hl : l.length ≤ 4611686018427387904)
    (H : ∀ (m : Int) v w', Ext w w' → Wr w' v m → (isNum l = true → m = numR l) → K (.tuple #[v, .bool (isNum l)]) w') : call P f_spec_l02Read [str l] w K := by
  refine c_l02Read hl (fun h v w' he hv => ?_) (fun h v w' he hv => ?_)
  · have := H 0 v w' he hv (fun q => by rw [q] at h; cases h)
    rw [h] at this; exact this
  · have := H _ v w' he hv (fun _ => rfl)
    rw [h] at this; exact this
theorem Wl.short {l : List Nat} {m : Int} (h : Wl l m) : (l.length ≤ 1 ↔ m.natAbs < 16777216) := by
  obtain ⟨hn, hv⟩ := h
  constructor
  · intro h1
    have := val_lt hn.1
    have h2 : 16777216 ^ l.length ≤ 16777216 ^ 1 := Nat.pow_le_pow_right (by decide) h1
    rw [Nat.pow_one] at h2
    omega
  · intro h1
    refine Nat.le_of_not_lt fun hc => ?_
    have h2 := Norm.ge hn (by intro e; rw [e] at hc; simp at hc)
    have h3 : 16777216 ^ 1 ≤ 16777216 ^ (l.length - 1) := Nat.pow_le_pow_right (by decide) (by omega)
    rw [Nat.pow_one] at h3
    omega
theorem Dr.zero0 (w : World) : Dr w (.agg #[.int .i64 0, .slice none 0 0, .int .i64 0]) 0 0 := Dr.zero w
theorem bld_Dy1 {n : Int} {s : Value} {K : Value → Prop} (hs : ∃ a l c, s = .slice a l c) : bld P t_impl_Dyadic [(0, .agg #[.int .i64 n, s])] w K = K (.agg #[.int .i64 n, s, .int .i64 0]) := by
  obtain ⟨a, l, c, rfl⟩ := hs
  exact bld_of (by kernel_rfl)
theorem sto_dye {base : Nat} {x s : Value} {n e e' : Int} {KW : World → Prop} (h : Bx w base t_impl_Dyadic x (dv3 n s e)) (H : ∀ w', Bx w' base t_impl_Dyadic x (dv3 n s e') → w.grownBy w' (blk x) → KW w') :
    fda P t_impl_Dyadic x 1 w (fun a => sto P t_int64 a (.int .i64 e') w KW) :=
  h.fput (off := 2) (show 2 < 3 by decide) u_impl_Dyadic rfl i_int64 rfl H
set_option maxRecDepth 20000 in
theorem c_l03Read {l : List UInt8} (hl : l.length ≤ 4611686018427387904)
    (H0 : parseD l = none → ∀ v w', Ext w w' → (∃ m e, Dr w' v m e) → K (.tuple #[v, .bool false]) w')
    (H1 : ∀ m e, parseD l = some (m, e) → ∀ v w', Ext w w' → Dr w' v m e → K (.tuple #[v, .bool true]) w') : call P f_spec_l03Read [str l] w K := by
  refine I_spec_l03Read ?_
  unfold D_spec_l03Read
  refine alc_Dy fun x w1 ⟨cs, hcs, b1⟩ e1 => ?_
  have ret0 : parseD l = none → ∀ w2, Ext w1 w2 → bld P t_impl_Dyadic [] w2 fun x59_58 =>
                  sto P t_impl_Dyadic x x59_58 w2 fun w60 =>
                  ldc P t_impl_Dyadic x w60 fun r61 =>
                  K (.tuple #[r61, (.bool false)]) w60 := fun h0 w2 e2 => by
    rw [bld_Dyadic0]
    have b2 := b1.ext e2
    refine b2.put i_impl_Dyadic (ds := [.int .i64 0, .slice none 0 0, .int .i64 0]) rfl hcs (one_3 rfl rfl rfl) fun w3 b3 g3 => ?_
    refine b3.getc u_impl_Dyadic rfl i_impl_Dyadic rfl ?_
    exact H0 h0 _ _ (ext_of_grown (e1.trans e2) (fun g hg => (b2.blk_lt hg).1) g3) ⟨0, 0, Dr.zero0 _⟩
  refine ⟨fun m y w' => w' = w1 ∧ ∃ i : Nat, y = .int .i64 i ∧ m + i = l.length ∧ 112 ∉ l.take i, ⟨l.length, rfl, 0, rfl, by omega, by simp⟩, ?_⟩
  rintro m y junk w5 ⟨rfl, i, rfl, hm, hno⟩
  rw [len_str u_string, bin_lss]
  refine andJ (fun h1 => ?_) (fun h1 => ?_)
  rotate_left
  · simp only [decide_eq_false_iff_not] at h1
    have hi : i = l.length := by omega
    rw [cnd_false, len_str u_string, bin_eql]
    refine cnd_yes (by simp [hi]) ?_
    refine ret0 (parse_none ?_) _ (Ext.refl _)
    rw [hi, List.take_length] at hno
    exact hno
  simp only [decide_eq_true_eq] at h1
  have hi : i < l.length := by omega
  rw [idx_str u_string hi, bin_neq]
  refine cnd_dec (fun h2 => ?_) (fun h2 => ?_)
  · rw [bin_add, wrap_i64 (by omega) (by omega)]
    refine ⟨m - 1, by omega, rfl, i + 1, rfl, by omega, ?_⟩
    rw [List.take_succ_eq_append_getElem hi]
    intro hmem
    rcases List.mem_append.1 hmem with h | h
    · exact hno h
    · simp only [List.mem_singleton] at h
      rw [← h] at h2
      exact h2 rfl
  have hp : l[i] = 112 := UInt8.toNat_inj.1 (show l[i].toNat = 112 by omega)
  have hsplit : l = l.take i ++ 112 :: l.drop (i + 1) := by
    conv => lhs; rw [← List.take_append_drop i l, List.drop_eq_getElem_cons hi, hp]
  have hpar := parse_of (a := l.take i) (b := l.drop (i + 1)) hno
  rw [← hsplit] at hpar
  rw [len_str u_string, bin_eql]
  refine cnd_no (by simp; omega) ?_
  rw [sli_strH u_string (by omega)]
  have la : (l.take i).length ≤ 4611686018427387904 := by rw [List.length_take]; omega
  have lb : (l.drop (i + 1)).length ≤ 4611686018427387904 := by rw [List.length_drop]; omega
  refine c_l02Read' la fun m1 v1 w2 e2 r1 hm1 => ?_
  rw [xtr_0, xtr_1]
  refine alc_Wh fun x5 w3 ⟨cs3, hcs3, b3⟩ e3 => ?_
  obtain ⟨s1, q1, rfl, lr1, wl1⟩ := r1
  refine b3.put i_impl_Whole (ds := [.int .i64 m1.sign, s1]) rfl hcs3 (one_2 rfl (sl_one (IR.sl lr1.toIR))) fun w4 b4 g4 => ?_
  have e4 : Ext w2 w4 := ext_of_grown e3 (fun g hg => (b3.blk_lt hg).1) g4
  have lr1 := lr1.ext e4
  rw [bin_add, wrap_i64 (by omega) (by omega), show ((i : Nat) : Int) + 1 = ((i + 1 : Nat) : Int) by omega, sli_strL u_string (by omega)]
  generalize l.take i = a at *
  generalize l.drop (i + 1) = b at *
  refine c_l02Read' lb fun m2 v2 w6 e6 r2 hm2 => ?_
  rw [xtr_0, xtr_1]
  refine alc_Wh fun x7 w7 ⟨cs7, hcs7, b7⟩ e7 => ?_
  obtain ⟨s2, q2, rfl, lr2, wl2⟩ := r2
  refine b7.put i_impl_Whole (ds := [.int .i64 m2.sign, s2]) rfl hcs7 (one_2 rfl (sl_one (IR.sl lr2.toIR))) fun w8 b8 g8 => ?_
  have e8 : Ext w6 w8 := ext_of_grown e7 (fun g hg => (b7.blk_lt hg).1) g8
  have lr1 := (lr1.ext e6).ext e8
  have lr2 := lr2.ext e8
  have b4 := (b4.ext e6).ext e8
  have E8 : Ext w5 w8 := e2.trans (e4.trans (e6.trans e8))
  have sz := wl2.short
  rw [una_not]
  refine orJ (fun hn => ?_) (fun hn => ?_)
  · have ha : isNum a = false := by simpa using hn
    refine orJ (fun _ => ?_) (fun h => by cases h)
    refine orJ (fun _ => ?_) (fun h => by cases h)
    rw [cnd_true]
    exact ret0 (by rw [hpar, ha]; rfl) _ E8
  have ha : isNum a = true := by simpa using hn
  rw [una_not]
  refine orJ (fun hn => ?_) (fun hn => ?_)
  · have hb : isNum b = false := by simpa using hn
    refine orJ (fun _ => ?_) (fun h => by cases h)
    rw [cnd_true]
    exact ret0 (by rw [hpar, ha, hb]; rfl) _ E8
  have hb : isNum b = true := by simpa using hn
  have hm1 := hm1 ha
  have hm2 := hm2 hb
  refine wh_all b4 ?_
  refine c_l02Is ⟨s1, q1, rfl, lr1, wl1⟩ fun w9 e9 => ?_
  have E9 := E8.trans e9
  have lr1 := lr1.ext e9
  have lr2 := lr2.ext e9
  have lr9 := lr1
  have b4 := b4.ext e9
  have b8 := b8.ext e9
  rw [una_not]
  refine orJ (fun hn => ?_) (fun hn => ?_)
  · have hbig : 2400 < bl (numR a).natAbs := by rw [← hm1]; simp at hn; omega
    rw [cnd_true]
    exact ret0 (by rw [hpar, ha, hb, isDyB_not ha hb (.inl hbig)]; rfl) _ E9
  have hsm : bl (numR a).natAbs ≤ 2400 := by rw [← hm1]; simp at hn; omega
  refine wh_l b8 ?_
  rw [lr2.toIR.row.len u_s_int64, bin_gtr]
  refine cnd_dec (fun h3 => ?_) (fun h3 => ?_)
  · have hbig : 16777216 ≤ (numR b).natAbs := by
      rw [← hm2]
      exact Nat.le_of_not_lt fun h => by have := sz.2 h; omega
    exact ret0 (by rw [hpar, ha, hb, isDyB_not ha hb (.inr hbig)]; rfl) _ E9
  have hq2 : q2.length ≤ 1 := by omega
  obtain ⟨n1, n2⟩ := parseD_alt ha hb hsm (by rw [← hm2]; exact sz.1 hq2)
  rw [n1] at hm1
  rw [n2] at hm2
  rw [ha, hb, Bool.true_and, Bool.true_and, ← hm1, ← hm2] at hpar
  refine wh_all b4 ?_
  rw [bld_Dy1 (IR.sl lr1.toIR)]
  refine alc_Dy fun x9 w10 ⟨cs10, hcs10, b10⟩ e10 => ?_
  refine b10.put i_impl_Dyadic (ds := dv3 m1.sign s1 0) rfl hcs10 (one_3 rfl (sl_one (IR.sl lr1.toIR)) rfl) fun w11 b11 g11 => ?_
  have e11 : Ext w9 w11 := ext_of_grown e10 (fun g hg => (b10.blk_lt hg).1) g11
  have E11 := E9.trans e11
  have lr1 := lr1.ext e11
  have lr2 := lr2.ext e11
  have b8 := b8.ext e11
  have fin : ∀ w12, Ext w9 w12 → Bx w12 w9.heap.size t_impl_Dyadic x9 (dv3 m1.sign s1 m2) → ld P t_impl_Dyadic x9 w12 fun x74_89 =>
                    ld P t_impl_Dyadic x9 w12 fun x75_90 =>
                    call P f_spec_l03Is [x75_90] w12 fun x76_91 w92 =>
                    Ext w12 w92 ∧ sto P t_impl_Dyadic x x74_89 w92 fun w94 =>
                    ldc P t_impl_Dyadic x w94 fun r95 =>
                    K (.tuple #[r95, x76_91]) w94 := fun w12 e12 b12 => by
    have lr1' := lr9
    have hd : Dr w12 (.agg #[.int .i64 m1.sign, s1, .int .i64 m2]) m1 m2 := ⟨s1, q1, rfl, lr9.ext e12, wl1⟩
    refine dy_all b12 ?_
    refine dy_all b12 ?_
    refine c_l03IsG hd fun w13 e13 => ?_
    refine ⟨e13, ?_⟩
    have E13 := E9.trans (e12.trans e13)
    have b1 := b1.ext E13
    have hd := hd.ext e13
    obtain ⟨s', l', hv, h1', h2'⟩ := hd
    refine b1.put i_impl_Dyadic (ds := dv3 m1.sign s1 m2) rfl hcs (one_3 rfl (sl_one (IR.sl lr1'.toIR)) rfl) fun w14 b14 g14 => ?_
    refine b14.getc u_impl_Dyadic rfl i_impl_Dyadic rfl ?_
    have e14 : Ext w w14 := ext_of_grown (e1.trans E13) (fun g hg => (b1.blk_lt hg).1) g14
    have hd14 : Dr w14 (.agg #[.int .i64 m1.sign, s1, .int .i64 m2]) m1 m2 := Dr.kt ⟨s', l', hv, h1', h2'⟩ g14 (Ty.box b1) (by decide)
    cases hdy : isDyB m1 m2
    · rw [hdy] at hpar
      exact H0 hpar _ _ e14 ⟨m1, m2, hd14⟩
    · rw [hdy] at hpar
      exact H1 m1 m2 hpar _ _ e14 hd14
  refine wh_l b8 ?_
  rw [lr2.toIR.row.len u_s_int64, bin_eql]
  refine cnd_dec (fun h4 => ?_) (fun h4 => ?_)
  · refine wh_s b8 ?_
    refine wh_l b8 ?_
    have hq : 0 < q2.length := by omega
    refine IR.at (i := 0) lr2.toIR hq u_s_int64 i_int64 u_int64 ?_
    have hval : m2.natAbs = q2[0] := by
      have := wl2.2
      match q2, hq2, hq with
      | [d], _, _ => simp only [val] at this; simpa using this.symm
    have hmul : m2.sign * ((q2[0] : Nat) : Int) = m2 := by rw [← hval]; exact Int.sign_mul_natAbs m2
    have hsz := sz.1 hq2
    rw [bin_mul, hmul, wrap_i64 (by omega) (by omega)]
    refine sto_dye b11 fun w12 b12 g12 => ?_
    exact fin w12 (ext_of_grown e11 (fun g hg => (b11.blk_lt hg).1) g12) b12
  · have hq0 : q2 = [] := List.length_eq_zero_iff.1 (by omega)
    have hm0 : m2 = 0 := by
      have := wl2.2
      rw [hq0] at this
      simp only [val] at this
      omega
    refine fin w11 e11 ?_
    rw [hm0]; exact b11
noncomputable def pF (l : List UInt8) : Option Nat := match parseD l with
  | none => none
  | some p => if (rndQ 0 (dy p.1 p.2)).2 = 0 then some (rndQ 0 (dy p.1 p.2)).1 else none
theorem c_l06Float {l : List UInt8} (hl : l.length ≤ 4611686018427387904) (H : ∀ b w', Ext w w' → (∀ x, pF l = some x → b = x) → K (.tuple #[fl b, .bool (pF l).isSome]) w') : call P f_spec_l06Float [str l] w K := by
  refine I_spec_l06Float ?_
  unfold D_spec_l06Float
  refine c_l03Read hl (fun h0 v w1 e1 ⟨m, e, hd⟩ => ?_) (fun m e hp v w1 e1 hd => ?_)
  · rw [xtr_0, xtr_1]
    refine alc_Dy fun x4 w2 ⟨cs, hcs, b2⟩ e2 => ?_
    refine (hd.ext e2).put b2 hcs fun w3 ⟨s, hv, b3⟩ g3 => ?_
    have e3 : Ext w1 w3 := ext_of_grown e2 (fun g hg => (b2.blk_lt hg).1) g3
    rw [una_not, Bool.not_false, cnd_true]
    have hpf : pF l = none := by unfold pF; rw [h0]
    have := H 0 w3 (e1.trans e3) (fun x hx => by rw [hpf] at hx; cases hx)
    rw [hpf] at this; exact this
  · rw [xtr_0, xtr_1]
    have hdy := parse_some hp
    refine alc_Dy fun x4 w2 ⟨cs, hcs, b2⟩ e2 => ?_
    refine (hd.ext e2).put b2 hcs fun w3 ⟨s, hv, b3⟩ g3 => ?_
    have hd3 := (hd.ext e2).kt g3 (Ty.box b2) (by decide)
    have e3 : Ext w1 w3 := ext_of_grown e2 (fun g hg => (b2.blk_lt hg).1) g3
    rw [una_not, Bool.not_true, cnd_false]
    rw [hv] at hd3
    refine dy_all b3 ?_
    refine c_dq_round (q := dy m e) (lo := 3000) (hi := 5400) ⟨m, e, hd3, isDyB_canon hdy, isDyB_bd hdy, rfl⟩ (by decide) (by decide) fun w4 e4 => ?_
    rw [xtr_0, xtr_1, bin_eql]
    have hpf : pF l = if (rndQ 0 (dy m e)).2 = 0 then some (rndQ 0 (dy m e)).1 else none := by unfold pF; rw [hp]
    have := H (rndQ 0 (dy m e)).1 w4 (e1.trans (e3.trans e4)) (fun x hx => by
      rw [hpf] at hx
      split at hx
      · exact Option.some.inj hx
      · cases hx)
    rw [hpf] at this
    have hs : (if (rndQ 0 (dy m e)).2 = 0 then some (rndQ 0 (dy m e)).1 else none).isSome = decide ((rndQ 0 (dy m e)).2 = 0) := by
      split
      · rename_i h; rw [h]; rfl
      · rename_i h; simp [h]
    rw [hs] at this; exact this
end Go.Proofs.YtjompmflommadaaGreatDoor


set_option linter.unusedVariables false
set_option linter.unusedSimpArgs false
namespace Go.Proofs.YtjompmflommadaaGreatDoor
open Go Go.Vc
variable {w : World} {K : Value → World → Prop}
theorem or_both {a b x y k : Nat} (ha : a < 2 ^ k) (hb : b < 2 ^ k) : (a + 2 ^ k * x) ||| (b + 2 ^ k * y) = (a ||| b) + 2 ^ k * (x ||| y) := by
  have hab : a ||| b < 2 ^ k := Nat.or_lt_two_pow ha hb
  apply Nat.eq_of_testBit_eq
  intro j
  rw [Nat.testBit_or, Nat.add_comm a, Nat.add_comm b, Nat.add_comm (a ||| b), Nat.testBit_two_pow_mul_add _ ha, Nat.testBit_two_pow_mul_add _ hb, Nat.testBit_two_pow_mul_add _ hab]
  split <;> rw [Nat.testBit_or]
set_option maxRecDepth 20000 in
theorem c_Or {z x y : Value} {a b : Int} {base : Nat} (hz : ZO w base z) (hx : IntR w x a) (hy : IntR w y b) (ba : bl a.natAbs ≤ 1099511627776) (bb : bl b.natAbs ≤ 1099511627776)
    (H : ∀ w', ZO w' base z → IntR w' z (a.natAbs ||| b.natAbs : Nat) → w.grownBy w' (blk z) → K z w') : call P f_impl_integer_Or [z, x, y] w K := by
  obtain ⟨s1, hb1, l, h1, n1, v1, _⟩ := hx
  obtain ⟨s2, hb2, r, h2, n2, v2, _⟩ := hy
  have d1 := n1.1
  have d2 := n2.1
  have l1 := dig_len n1 (by rw [v1]; exact ba)
  have l2 := dig_len n2 (by rw [v2]; exact bb)
  refine I_impl_integer_Or ?_
  unfold D_impl_integer_Or
  rw [nch_bx hb1]
  refine IntR.mag hb1 ?_
  rw [h1.row.len u_s_uint32, nch_bx hb2]
  refine IntR.mag hb2 ?_
  rw [h2.row.len u_s_uint32, bl0_max_i64, show max (l.length : Int) (r.length : Int) = ((max l.length r.length : Nat) : Int) by omega]
  generalize hn : max l.length r.length = n
  refine OD.make (k := .u32) u_s_uint32 i_uint32 (by omega) (by simp only [maxLen]; omega) fun w1 v o1 e1 => ?_
  rw [nch_bx hb1]
  refine IntR.mag (hb1.ext e1) ?_
  refine copy_intro (n := n) (m := l.length) (by simpa [OD] using o1) (h1.ext e1).row (by omega) (by
    intro u hu
    simp only [List.mem_map] at hu
    obtain ⟨d, _, rfl⟩ := hu; rfl) u_s_uint32 i_uint32 fun w2 o2 g2 => ?_
  have e2 : Ext w w2 := ext_of_grown e1 (fun g hg => (o1.lt g hg).1) g2
  rw [nch_bx hb2]
  refine IntR.mag (hb2.ext e2) ?_
  rw [(h2.ext e2).row.len u_s_uint32]
  generalize hL : l ++ List.replicate (n - l.length) 0 = L
  have hLl : L.length = n := by rw [← hL]; simp; omega
  have hLv : val 4294967296 L = val 4294967296 l := by rw [← hL, val_append, val_replicate]; simp
  have hLd : Dig 4294967296 L := by
    intro d hd
    rw [← hL] at hd
    rcases List.mem_append.1 hd with h | h
    · exact d1 d h
    · rw [List.eq_of_mem_replicate h]; decide
  have o2 : OD .u32 t_uint32 w2 w.heap.size v L := by
    unfold OD
    rw [hLl, ← hL, List.map_append]
    rw [List.drop_replicate] at o2
    rw [List.map_replicate]
    exact o2
  refine ⟨fun g x w' => ∃ (i : Nat) (q : List Nat), g + i = r.length ∧ x = .int .i64 (i : Int) ∧ Ext w w' ∧ OD .u32 t_uint32 w' w.heap.size v q ∧ q.length = n ∧ Dig 4294967296 q ∧ q.drop i = L.drop i ∧
    val 4294967296 (q.take i) = val 4294967296 (L.take i) ||| val 4294967296 (r.take i), ⟨r.length, 0, L, rfl, rfl, e2, o2, hLl, hLd, rfl, by simp [val]⟩, ?_⟩
  rintro g x' junk w3 ⟨i, q, hg, rfl, e3, oq, hq, dq, hdrop, hv⟩
  rw [bin_lss]
  refine cnd_dec (fun hlt => ?_) (fun hge => ?_)
  · have hi2 : i < r.length := by omega
    have hiq : i < q.length := by omega
    have hiL : i < L.length := by omega
    have heq : q[i] = L[i] := by
      have := congrArg (fun t : List Nat => t[0]?) hdrop
      simp only [List.getElem?_drop, Nat.add_zero] at this
      rw [List.getElem?_eq_getElem hiq, List.getElem?_eq_getElem hiL] at this
      exact Option.some.inj this
    refine (h2.ext e3).at hi2 u_s_uint32 i_uint32 u_uint32 ?_
    refine oq.IR.at hiq u_s_uint32 i_uint32 u_uint32 ?_
    have g1 := Dig_get dq hiq
    have g2 := Dig_get d2 hi2
    rw [bin_orN (b := r[i]) (by simpa [IntKind.bits] using g1) (by simpa [IntKind.bits] using g2) rfl]
    refine OD.set oq hiq u_s_uint32 i_uint32 fun w4 o4 g4 => ?_
    rw [bin_addI1 (b := 1) (by omega)]
    have hor : q[i] ||| r[i] < 4294967296 := Nat.or_lt_two_pow (n := 32) g1 g2
    refine ⟨g - 1, by omega, i + 1, _, by omega, rfl, ext_of_grown e3 (fun g hg => (oq.lt g hg).1) g4, o4, by simp [hq], fun d hd => ?_, ?_, ?_⟩
    · rcases List.mem_or_eq_of_mem_set hd with h | h
      · exact dq d h
      · rw [h]; exact hor
    · rw [List.drop_set_of_lt (by omega), ← List.drop_drop (i := 1) (j := i), ← List.drop_drop (i := 1) (j := i), hdrop]
    · rw [val_take_succ _ (by simpa using hiq), List.take_set_of_le (Nat.le_refl _), List.getElem_set_self, val_take_succ _ hiL, val_take_succ _ hi2, hv, heq, p32]
      refine (or_both ?_ ?_).symm
      · have := val_lt (hLd.take i)
        rw [List.length_take, Nat.min_eq_left (by omega), p32] at this; exact this
      · have := val_lt (d2.take i)
        rw [List.length_take, Nat.min_eq_left (by omega), p32] at this; exact this
  · have hi : i = r.length := by omega
    have e : val 4294967296 q = a.natAbs ||| b.natAbs := by
      have s1 := val_split 4294967296 q (i := i) (by omega)
      have s2 := val_split 4294967296 L (i := i) (by omega)
      rw [s1, hdrop, hv, ← v1, ← v2, ← hLv, s2]
      have t1 := val_lt (hLd.take i)
      rw [List.length_take, Nat.min_eq_left (by omega), p32] at t1
      have t2 := val_lt (d2.take i)
      rw [List.length_take, Nat.min_eq_left (by omega), p32] at t2
      have hr : r.take i = r := by rw [hi, List.take_length]
      have := or_both (x := val 4294967296 (L.drop i)) (y := 0) t1 t2
      rw [Nat.mul_zero, Nat.add_zero, Nat.or_zero, hr] at this
      rw [p32, hr, this]
    have hz2 := hz.ext e3
    refine c_put hz2 oq.IR (Ty.owns oq) dq fun w3 z3 i3 g3 => H w3 z3 ?_ (grown_ext e3 g3)
    rw [e] at i3; exact i3
set_option maxRecDepth 20000 in
theorem c_toBig {v : Value} {m : Int} (h : Wr w v m) (hb : bl m.natAbs ≤ 2400) (H : ∀ p w', Ext w w' → IntR w' p m → K p w') : call P f_impl_toBig [v] w K := by
  obtain ⟨s, l, rfl, h1, n1, v1⟩ := h
  have hlen : l.length ≤ 100 := (len100 n1).2 (by rw [v1]; exact hb)
  refine I_impl_toBig ?_
  unfold D_impl_toBig
  refine bx_Wh fun x1 w1 b1 e1 => ?_
  refine alc_Z fun z w2 z2 i2 e2 => ?_
  have b1 := b1.ext e2
  have E2 := e1.trans e2
  refine wh_l b1 ?_
  rw [(h1.ext E2).row.len u_s_int64, bin_sub, wrap_i64 (by omega) (by omega)]
  refine ⟨fun g x w' => g ≤ l.length ∧ x = .int .i64 ((g : Int) - 1) ∧ Ext w1 w' ∧ ZO w' w1.heap.size z ∧ IntR w' z (val 16777216 (l.drop g) : Nat), ⟨l.length, Nat.le_refl _, rfl, e2, z2, by rw [List.drop_length]; exact i2⟩, ?_⟩
  rintro g x junk w3 ⟨hg, rfl, e3, z3, i3⟩
  have b1' : Bx w3 w.heap.size t_impl_Whole x1 [.int .i64 m.sign, s] := by
    have := (‹Bx w1 w.heap.size t_impl_Whole x1 [.int .i64 m.sign, s]›).ext e3
    exact this
  have E3 := e1.trans e3
  have hbl : bl (val 16777216 (l.drop g)) ≤ 2400 := by
    refine Nat.le_trans (bl_mono ?_) hb
    have := val_drop_le v1 g
    exact Nat.le_trans (Nat.le_mul_of_pos_right _ (Nat.pow_pos (by decide))) this
  rw [bin_geq]
  refine cnd_dec (fun hge => ?_) (fun hlt => ?_)
  · obtain ⟨k, rfl⟩ : ∃ k, g = k + 1 := ⟨g - 1, by omega⟩
    have hk : k < l.length := by omega
    have hd := Dig_get n1.1 hk
    rw [show (24 : Int) = ((24 : Nat) : Int) from rfl]
    refine c_Lsh z3 i3 (by rw [Int.natAbs_natCast]; omega) (by decide) fun w4 z4 i4 g4 => ?_
    have e4 : Ext w1 w4 := ext_of_grown e3 (fun g hg => z3.blk_ge hg) g4
    have b4 := (‹Bx w1 w.heap.size t_impl_Whole x1 [.int .i64 m.sign, s]›).ext e4
    refine wh_l b4 ?_
    rw [show (((k + 1 : Nat) : Int) - 1) = ((k : Nat) : Int) by omega]
    refine (h1.ext (e1.trans e4)).toIR.at hk u_s_int64 i_int64 u_int64 ?_
    refine c_newInt (by omega) (by omega) fun p w5 e5 z5 i5 => ?_
    have hv2 : (((val 16777216 (l.drop (k + 1)) : Nat) : Int) * 2 ^ 24).natAbs = 2 ^ 24 * val 16777216 (l.drop (k + 1)) := by
      rw [Int.natAbs_mul, Int.natAbs_natCast]
      rw [Nat.mul_comm]; rfl
    have hbl2 : bl (((val 16777216 (l.drop (k + 1)) : Nat) : Int) * 2 ^ 24).natAbs ≤ 2424 := by
      have := ibl_shl_le (val 16777216 (l.drop (k + 1)) : Nat) 24
      rw [Int.natAbs_natCast] at this
      omega
    refine c_Or (z4.ext e5) (i4.ext e5) i5 (by omega) (by rw [Int.natAbs_natCast]; have : bl l[k] ≤ 24 := bl_le.2 hd; omega) fun w6 z6 i6 g6 => ?_
    rw [hv2, Int.natAbs_natCast, ← Nat.two_pow_add_eq_or_of_lt (i := 24) hd] at i6
    rw [bin_sub, wrap_i64 (by omega) (by omega)]
    refine ⟨k, by omega, by omega, rfl, ext_of_grown (e4.trans e5) (fun g hg => (z4.ext e5).blk_ge hg) g6, z6, ?_⟩
    rw [List.drop_eq_getElem_cons hk]
    show IntR w6 z (((l[k] + 16777216 * val 16777216 (l.drop (k + 1)) : Nat)) : Int)
    rw [Nat.add_comm]; exact i6
  · have hg0 : g = 0 := by omega
    subst hg0
    rw [List.drop_zero, v1] at i3
    refine wh_s b1' ?_
    rw [bin_lss]
    refine cnd_dec (fun hneg => ?_) (fun hpos => ?_)
    · have hm : m < 0 := Int.sign_neg_iff.1 hneg
      refine c_Neg z3 i3 (by rw [Int.natAbs_natCast]; omega) fun w4 z4 i4 g4 => ?_
      refine H z w4 (ext_of_grown (e1.trans e3) (fun g hg => Nat.le_trans e1.size (z3.blk_ge hg)) g4) ?_
      rw [show -((m.natAbs : Nat) : Int) = m by omega] at i4; exact i4
    · have hm : ¬ m < 0 := fun h => hpos (Int.sign_neg_iff.2 h)
      refine H z w3 E3 ?_
      rw [show ((m.natAbs : Nat) : Int) = m by omega] at i3; exact i3
theorem c_numberOf {v : Value} {m e : Int} (h : Dr w v m e) (hd : isDyB m e = true) (H : ∀ v' w', Ext w w' → NQ w' v' 3000 5400 (dy m e) → K v' w') : call P f_impl_numberOf [v] w K := by
  obtain ⟨s, l, rfl, h1, wl⟩ := h
  have hbd := isDyB_bd hd
  have hb : bl m.natAbs ≤ 2400 := by
    simp only [isDyB, Bool.and_eq_true, decide_eq_true_eq] at hd; exact hd.1.1.1
  refine I_impl_numberOf ?_
  unfold D_impl_numberOf
  refine bx_Dy fun x1 w1 b1 e1 => ?_
  refine alc_num fun x2 w2 ⟨cs, hcs, b2⟩ e2 => ?_
  have b1 := b1.ext e2
  refine dy_w b1 ?_
  refine dy_e b1 ?_
  refine c_toBig ⟨s, l, rfl, h1.ext (e1.trans e2), wl⟩ hb fun p w3 e3 i3 => ?_
  refine ⟨e3, ?_⟩
  rw [bld_num i3.ptr]
  have b2 := b2.ext e3
  refine num_ret b2 hcs i3.one fun w4 g4 => ?_
  have e4 : Ext w w4 := ext_of_grown (e1.trans (e2.trans e3)) (fun g hg => Nat.le_trans e1.size (b2.blk_lt hg).1) g4
  exact H _ _ e4 ⟨m, e, ⟨p, rfl, Nm.grown i3 b2 g4⟩, hbd, rfl⟩
set_option maxRecDepth 20000 in
theorem c_impl_IsWhole {v : Value} {m : Int} (h : Wr w v m) (H : ∀ w', Ext w w' → K (.bool (decide (bl m.natAbs ≤ 2400))) w') : call P f_impl_IsWhole [v] w K := by
  obtain ⟨s, l, rfl, h1, n1, v1⟩ := h
  have hb := h1.bound
  refine I_impl_IsWhole ?_
  unfold D_impl_IsWhole
  refine bx_Wh fun x1 w1 b1 e1 => ?_
  have h1 := h1.ext e1
  have H1 := H w1 e1
  have hl100 := len100 n1
  rw [v1] at hl100
  have hsg : m.sign = 0 ∨ m.sign = 1 ∨ m.sign = -1 := by
    rcases Int.lt_trichotomy m 0 with h | h | h
    · exact .inr (.inr (Int.sign_eq_neg_one_of_neg h))
    · exact .inl (by rw [h]; rfl)
    · exact .inr (.inl (Int.sign_eq_one_of_pos h))
  have hz0 : (m.sign = 0) ↔ l = [] := by
    rw [Int.sign_eq_zero_iff_zero]
    constructor
    · intro h
      refine (n1.eq_nil (by decide)).2 ?_
      rw [v1, h]; rfl
    · intro h
      rw [h] at v1
      simp only [val] at v1
      omega
  refine wh_l b1 ?_
  rw [h1.row.len u_s_int64, bin_gtr]
  refine orJ (fun hbig => ?_) (fun hsm => ?_)
  · have hbig : ¬ bl m.natAbs ≤ 2400 := fun h => by
      have := hl100.2 h
      simp only [decide_eq_true_eq] at hbig
      omega
    rw [decide_eq_false hbig] at H1
    refine orJ (fun _ => ?_) (fun h => by cases h)
    refine orJ (fun _ => ?_) (fun h => by cases h)
    exact cnd_yes rfl H1
  have hsm : bl m.natAbs ≤ 2400 := hl100.1 (by simp only [decide_eq_false_iff_not] at hsm; omega)
  rw [decide_eq_true hsm] at H1
  refine wh_s b1 ?_
  rw [bin_lss]
  refine orJ (fun h => by simp only [decide_eq_true_eq] at h; omega) (fun _ => ?_)
  refine wh_s b1 ?_
  rw [bin_gtr]
  refine orJ (fun h => by simp only [decide_eq_true_eq] at h; omega) (fun _ => ?_)
  refine wh_s b1 ?_
  rw [bin_eql, bin_eql, bin_bneq _ _ _ _ _ _ u_bool]
  have hsame : decide (m.sign = 0) = decide (((l.length : Nat) : Int) = 0) := by
    rw [decide_eq_decide, hz0]
    constructor
    · rintro rfl; rfl
    · intro h; exact List.length_eq_zero_iff.1 (by omega)
  rw [hsame]
  refine cnd_no (by simp) ?_
  refine wh_l b1 ?_
  rw [h1.row.len u_s_int64]
  refine ⟨fun g x w' => w' = w1 ∧ ∃ i : Nat, x = .int .i64 (i : Int) ∧ g + i = l.length, ⟨l.length, rfl, 0, rfl, by omega⟩, ?_⟩
  rintro g x junk w' ⟨rfl, i, rfl, hg⟩
  rw [bin_lss]
  refine cnd_dec (fun hlt => ?_) (fun hge => ?_)
  · have hi : i < l.length := by omega
    refine h1.at hi u_s_int64 i_int64 u_int64 ?_
    have g1 := Dig_get n1.1 hi
    rw [bin_lss]
    refine orJ (fun h => by simp only [decide_eq_true_eq] at h; omega) (fun _ => ?_)
    rw [bin_gtr]
    refine cnd_no (by simp; omega) ?_
    rw [bin_addI1 (b := 1) (by omega)]
    exact ⟨g - 1, by omega, rfl, i + 1, rfl, by omega⟩
  · rw [bin_eql]
    refine orJ (fun h0 => H1) (fun h0 => ?_)
    have hl : 0 < l.length := by simp only [decide_eq_false_iff_not] at h0; omega
    have hz : l[l.length - 1] ≠ 0 := by
      intro hz
      have := n1.2
      rw [List.getLast?_eq_getElem?, List.getElem?_eq_getElem (by omega), hz] at this
      exact this rfl
    refine wh_l b1 ?_
    rw [bin_sub, wrap_i64 (by omega) (by omega), show ((l.length : Nat) : Int) - 1 = ((l.length - 1 : Nat) : Int) by omega]
    refine h1.at (i := l.length - 1) (by omega) u_s_int64 i_int64 u_int64 ?_
    rw [bin_neq]
    have : decide (((l[l.length - 1] : Nat) : Int) ≠ 0) = true := decide_eq_true (by omega)
    rw [this]; exact H1
theorem c_impl_IsDyadic {v : Value} {m e : Int} (h : Dr w v m e) (H : ∀ w', Ext w w' → K (.bool (isDyB m e)) w') : call P f_impl_IsDyadic [v] w K := by
  obtain ⟨s, l, rfl, h1, wl⟩ := h
  refine I_impl_IsDyadic ?_
  unfold D_impl_IsDyadic
  refine bx_Dy fun x1 w1 b1 e1 => ?_
  refine dy_w b1 ?_
  refine c_impl_IsWhole ⟨s, l, rfl, h1.ext e1, wl⟩ fun w2 e2 => ?_
  have b1 := b1.ext e2
  have h1 := h1.ext (e1.trans e2)
  have HH := H w2 (e1.trans e2)
  unfold isDyB at HH
  rw [una_not]
  refine cnd_split (fun hb => ?_) (fun hb => ?_)
  · have hb : ¬ bl m.natAbs ≤ 2400 := by simpa using hb
    rw [decide_eq_false hb] at HH
    exact HH
  have hb : bl m.natAbs ≤ 2400 := by simpa using hb
  rw [decide_eq_true hb, Bool.true_and] at HH
  refine dy_ws b1 ?_
  rw [bin_eql]
  refine cnd_dec (fun h0 => ?_) (fun h0 => ?_)
  · have hm : m = 0 := Int.sign_eq_zero_iff_zero.1 h0
    subst hm
    refine dy_e b1 ?_
    rw [bin_eql]
    have : (decide (-3000 ≤ e) && decide (e ≤ 3000) && (decide ((0 : Int) = 0 ∧ e = 0) || decide ((0 : Int) % 2 = 1))) = decide (e = 0) := by
      by_cases he : e = 0
      · subst he; rfl
      · simp [he]
    rw [this] at HH; exact HH
  · have hm : m ≠ 0 := by rintro rfl; exact h0 rfl
    have hl0 : 0 < l.length := by
      refine Nat.pos_of_ne_zero fun hz => ?_
      have hlnil : l = [] := List.length_eq_zero_iff.1 hz
      have hv := wl.2
      rw [hlnil] at hv
      simp only [val] at hv
      omega
    refine dy_wl b1 ?_
    refine IR.at (i := 0) h1.toIR hl0 u_s_int64 i_int64 u_int64 ?_
    rw [bin_remI (b := 2) (by decide)]
    rw [bin_eql]
    have hv := wl.2
    have h5 : (decide (m = 0 ∧ e = 0) || decide (m % 2 = 1)) = decide (((l[0] % 2 : Nat) : Int) = 1) := by
      rw [decide_eq_false (fun h => hm h.1), Bool.false_or, decide_eq_decide]
      cases l with
      | nil => cases hl0
      | cons a t =>
        simp only [val] at hv
        simp only [List.getElem_cons_zero]
        omega
    rw [h5] at HH
    generalize decide (((l[0] % 2 : Nat) : Int) = 1) = B at HH
    refine andJ (fun hB => ?_) (fun hB => ?_)
    · rw [hB, Bool.and_true] at HH
      refine dy_e b1 ?_
      rw [bin_geq]
      refine andJ (fun h6 => ?_) (fun h6 => ?_)
      · rw [h6, Bool.true_and] at HH
        refine dy_e b1 ?_
        rw [bin_leq]; exact HH
      · rw [h6, Bool.false_and] at HH; exact HH
    · rw [hB, Bool.and_false] at HH
      refine andJ (fun h => by cases h) (fun _ => ?_)
      exact HH
end Go.Proofs.YtjompmflommadaaGreatDoor


set_option linter.unusedVariables false
set_option linter.unusedSimpArgs false
namespace Go.Proofs.YtjompmflommadaaGreatDoor
open Go Go.Vc
variable {w : World} {K : Value → World → Prop}
theorem Wr.put {v x : Value} {m : Int} {base : Nat} {cs : List Value} {KW : World → Prop} (h : Wr w v m) (hb : Bx w base t_impl_Whole x cs) (hcs : cs.length = 2) (H : ∀ w', w.grownBy w' (blk x) → Wr w' v m → (∃ s, v = .agg #[.int .i64 m.sign, s] ∧ Bx w' base t_impl_Whole x [.int .i64 m.sign, s]) → KW w') : sto P t_impl_Whole x v w KW := by
  obtain ⟨s, l, rfl, h1, wl⟩ := h
  exact hb.put i_impl_Whole (ds := [.int .i64 m.sign, s]) rfl hcs (one_2 rfl (sl_one (IR.sl h1.toIR))) fun w' b' g' => H w' g' ⟨s, l, rfl, h1.kt g' (Ty.box hb) (by decide), wl⟩ ⟨s, rfl, b'⟩
theorem c_whole {p : Value} {m : Int} (h : IntR w p m) (hb : bl m.natAbs ≤ 1099511627775) (H : ∀ v c w', Ext w w' → (bl m.natAbs ≤ 2400 → c = 0 ∧ Wr w' v m) → (2400 < bl m.natAbs → c = 3 ∧ Wr w' v 0) → K (.tuple #[v, .int .i64 c]) w') : call P f_impl_whole [p] w K := by
  refine I_impl_whole ?_
  unfold D_impl_whole
  refine alc_Wh fun x w1 ⟨cs, hcs, b1⟩ e1 => ?_
  refine c_fromBig (h.ext e1) hb (fun hbig w2 e2 => ?_) (fun hsm v w2 e2 hv => ?_)
  · rw [xtr_0, xtr_1]
    refine alc_Wh fun y w3 ⟨cs3, hcs3, b3⟩ e3 => ?_
    refine (Wr.zero w3).put b3 hcs3 fun w4 g4 _ _ => ?_
    have e4 : Ext w2 w4 := ext_of_grown e3 (fun g hg => (b3.blk_lt hg).1) g4
    rw [una_not, Bool.not_false, cnd_true, bld_Whole0]
    have b1 := b1.ext (e2.trans e4)
    refine (Wr.zero w4).put b1 hcs fun w5 g5 h5 ⟨s, hs, b5⟩ => ?_
    refine b5.getc u_impl_Whole rfl i_impl_Whole rfl ?_
    have := H _ 3 w5 (ext_of_grown (e1.trans (e2.trans e4)) (fun g hg => (b1.blk_lt hg).1) g5) (fun h => by omega) (fun _ => ⟨rfl, h5⟩)
    rw [hs] at this; exact this
  · rw [xtr_0, xtr_1]
    have hv := hv.Wr
    refine alc_Wh fun y w3 ⟨cs3, hcs3, b3⟩ e3 => ?_
    refine (hv.ext e3).put b3 hcs3 fun w4 g4 h4 ⟨s, hs, b4⟩ => ?_
    have e4 : Ext w2 w4 := ext_of_grown e3 (fun g hg => (b3.blk_lt hg).1) g4
    rw [una_not, Bool.not_true, cnd_false]
    subst hs
    refine wh_all b4 ?_
    have b1 := b1.ext (e2.trans e4)
    refine h4.put b1 hcs fun w5 g5 h5 ⟨s', hs', b5⟩ => ?_
    refine b5.getc u_impl_Whole rfl i_impl_Whole rfl ?_
    have := H _ 0 w5 (ext_of_grown (e1.trans (e2.trans e4)) (fun g hg => (b1.blk_lt hg).1) g5) (fun _ => ⟨rfl, h5⟩) (fun h => by omega)
    rw [hs'] at this; exact this
def okW (l : List UInt8) : Bool := isNum l && decide (l.length ≤ 800) && decide (bl (numI l).natAbs ≤ 2400)
theorem c_ParseWhole {l : List UInt8} (hl : l.length ≤ 4611686018427387904) (H : ∀ v c m w', Ext w w' → Wr w' v m → (okW l = true → c = 0 ∧ m = numI l) → (okW l = false → c ≠ 0) → K (.tuple #[v, .int .i64 c]) w') : call P f_impl_ParseWhole [str l] w K := by
  refine I_impl_ParseWhole ?_
  unfold D_impl_ParseWhole
  refine alc_Wh fun x w1 ⟨cs, hcs, b1⟩ e1 => ?_
  have bad : okW l = false → ∀ c : Int, c ≠ 0 → bld P t_impl_Whole [] w1 fun x9_6 =>
      sto P t_impl_Whole x x9_6 w1 fun w8 =>
      ldc P t_impl_Whole x w8 fun r9 =>
      K (.tuple #[r9, (.int .i64 c)]) w8 := fun h0 c hc => by
    rw [bld_Whole0]
    refine (Wr.zero w1).put b1 hcs fun w5 g5 h5 ⟨s, hs, b5⟩ => ?_
    refine b5.getc u_impl_Whole rfl i_impl_Whole rfl ?_
    have := H _ c 0 w5 (ext_of_grown e1 (fun g hg => (b1.blk_lt hg).1) g5) h5 (fun h => by rw [h0] at h; cases h) (fun _ => hc)
    rw [hs] at this; exact this
  refine c_isNumeral hl ?_
  rw [una_not]
  refine cnd_split (fun hn => ?_) (fun hn => ?_)
  · have : isNum l = false := by simpa using hn
    exact bad (by unfold okW; rw [this]; rfl) 6 (by decide)
  have hn : isNum l = true := by simpa using hn
  rw [len_str u_string, bin_gtr]
  refine cnd_dec (fun h8 => ?_) (fun h8 => ?_)
  · exact bad (by unfold okW; rw [decide_eq_false (by omega : ¬ l.length ≤ 800)]; simp) 3 (by decide)
  have h8 : l.length ≤ 800 := by omega
  refine alc_Z fun z w2 z2 i2 e2 => ?_
  refine c_SetString z2 hn h8 fun w2' w3 e2' z2' g3 z3 i3 => ?_
  rw [xtr_0, xtr_1]
  have e3 : Ext w1 w3 := ext_of_grown (e2.trans e2') (fun g hg => z2'.blk_ge hg) g3
  have hbig : bl (numI l).natAbs ≤ 3200 := by
    rw [numI_abs]
    have hb := isNum_parts hn
    unfold numB at hb
    simp only [Bool.and_eq_true] at hb
    have := dec_bl hb.1.2 (body l).length
    rw [List.take_length] at this
    have := body_le l
    omega
  refine c_whole i3 (by omega) fun v c w4 e4 h1 h2 => ?_
  rw [xtr_0, xtr_1]
  have b1 := b1.ext (e3.trans e4)
  by_cases hb : bl (numI l).natAbs ≤ 2400
  · obtain ⟨rfl, hv⟩ := h1 hb
    refine hv.put b1 hcs fun w5 g5 h5 ⟨s, hs, b5⟩ => ?_
    refine b5.getc u_impl_Whole rfl i_impl_Whole rfl ?_
    have := H _ 0 _ w5 (ext_of_grown (e1.trans (e3.trans e4)) (fun g hg => (b1.blk_lt hg).1) g5) h5 (fun _ => ⟨rfl, rfl⟩) (fun h => by unfold okW at h; rw [hn, decide_eq_true h8, decide_eq_true hb] at h; cases h)
    rw [hs] at this; exact this
  · obtain ⟨rfl, hv⟩ := h2 (by omega)
    refine hv.put b1 hcs fun w5 g5 h5 ⟨s, hs, b5⟩ => ?_
    refine b5.getc u_impl_Whole rfl i_impl_Whole rfl ?_
    have := H _ 3 _ w5 (ext_of_grown (e1.trans (e3.trans e4)) (fun g hg => (b1.blk_lt hg).1) g5) h5 (fun h => by unfold okW at h; rw [decide_eq_false hb] at h; simp at h) (fun _ => by decide)
    rw [hs] at this; exact this
theorem bld_Dy2 {n e : Int} {s : Value} {K : Value → Prop} (hs : ∃ a l c, s = .slice a l c) : bld P t_impl_Dyadic [(0, .agg #[.int .i64 n, s]), (1, .int .i64 e)] w K = K (.agg #[.int .i64 n, s, .int .i64 e]) := by
  obtain ⟨a, l, c, rfl⟩ := hs
  exact bld_of (by kernel_rfl)
theorem okW_dy {a b : List UInt8} (ha : okW a = false) (hb : isNum b = true) : (isNum a && isNum b && isDyB (numI a) (numI b)) = false := by
  refine Bool.eq_false_iff.2 fun h => ?_
  rw [Bool.and_eq_true, Bool.and_eq_true] at h
  obtain ⟨⟨h1, _⟩, h3⟩ := h
  have h4 := h3
  simp only [isDyB, Bool.and_eq_true, decide_eq_true_eq] at h4
  have h5 := num_short h1 h4.1.1.1
  unfold okW at ha
  rw [h1, decide_eq_true h5, decide_eq_true h4.1.1.1] at ha
  cases ha
set_option maxRecDepth 20000 in
theorem c_ParseDyadic {l : List UInt8} (hl : l.length ≤ 4611686018427387904)
    (H0 : parseD l = none → ∀ v w', Ext w w' → (∃ m e, Dr w' v m e) → K (.tuple #[v, .int .i64 6]) w')
    (H1 : ∀ m e, parseD l = some (m, e) → ∀ v w', Ext w w' → Dr w' v m e → K (.tuple #[v, .int .i64 0]) w') : call P f_impl_ParseDyadic [str l] w K := by
  refine I_impl_ParseDyadic ?_
  unfold D_impl_ParseDyadic
  refine alc_Dy fun x w1 ⟨cs, hcs, b1⟩ e1 => ?_
  have ret0 : parseD l = none → ∀ w2, Ext w1 w2 → bld P t_impl_Dyadic [] w2 fun x59_58 =>
                  sto P t_impl_Dyadic x x59_58 w2 fun w60 =>
                  ldc P t_impl_Dyadic x w60 fun r61 =>
                  K (.tuple #[r61, (.int .i64 6)]) w60 := fun h0 w2 e2 => by
    rw [bld_Dyadic0]
    have b2 := b1.ext e2
    refine b2.put i_impl_Dyadic (ds := [.int .i64 0, .slice none 0 0, .int .i64 0]) rfl hcs (one_3 rfl rfl rfl) fun w3 b3 g3 => ?_
    refine b3.getc u_impl_Dyadic rfl i_impl_Dyadic rfl ?_
    exact H0 h0 _ _ (ext_of_grown (e1.trans e2) (fun g hg => (b2.blk_lt hg).1) g3) ⟨0, 0, Dr.zero0 _⟩
  refine c_Cut (c := 112) hl (fun hno => ?_) (fun a b hab hno => ?_)
  · rw [xtr_0, xtr_1, xtr_2, una_not]
    refine orJ (fun _ => ?_) (fun h => by cases h)
    refine orJ (fun _ => ?_) (fun h => by cases h)
    exact cnd_yes rfl (ret0 (parse_none hno) _ (Ext.refl _))
  have hpar := parse_of (b := b) hno
  rw [← hab] at hpar
  have hla : a.length ≤ 4611686018427387904 ∧ b.length ≤ 4611686018427387904 := by
    rw [hab, List.length_append, List.length_cons] at hl; omega
  rw [xtr_0, xtr_1, xtr_2, una_not, Bool.not_true]
  refine orJ (fun h => by cases h) (fun _ => ?_)
  refine c_isNumeral hla.2 ?_
  rw [una_not]
  refine orJ (fun hn => ?_) (fun hn => ?_)
  · have hb : isNum b = false := by simpa using hn
    exact cnd_yes rfl (ret0 (by rw [hpar, hb]; simp) _ (Ext.refl _))
  have hb : isNum b = true := by simpa using hn
  rw [len_str u_string, bin_gtr]
  refine cnd_dec (fun h6 => ?_) (fun h6 => ?_)
  · refine ret0 ?_ _ (Ext.refl _)
    rw [hpar]
    refine if_neg fun h => ?_
    rw [Bool.and_eq_true, Bool.and_eq_true] at h
    have h3 := h.2
    simp only [isDyB, Bool.and_eq_true, decide_eq_true_eq] at h3
    have := exp_short hb h3.1.1.2 h3.1.2
    omega
  have h6 : b.length ≤ 6 := by omega
  refine c_ParseWhole hla.1 fun v c m w2 e2 hv h1 h2 => ?_
  rw [xtr_0, xtr_1]
  refine alc_Wh fun y w3 ⟨cs3, hcs3, b3⟩ e3 => ?_
  refine (hv.ext e3).put b3 hcs3 fun w4 g4 h4 ⟨s, hs, b4⟩ => ?_
  subst hs
  have e4 : Ext w2 w4 := ext_of_grown e3 (fun g hg => (b3.blk_lt hg).1) g4
  refine c_ParseInt hb h6 fun w5 e5 => ?_
  rw [xtr_0, xtr_1]
  refine wh_all (b4.ext e5) ?_
  have h5 := h4.ext e5
  obtain ⟨s', q, hs', lr, wl⟩ := h5
  simp only [Value.agg.injEq, Array.mk.injEq, List.cons.injEq, true_and, and_true] at hs'
  subst hs'
  rw [bld_Dy2 (IR.sl lr.toIR)]
  have hd5 : Dr w5 (.agg #[.int .i64 m.sign, s, .int .i64 (numI b)]) m (numI b) := ⟨s, q, rfl, lr, wl⟩
  refine alc_Dy fun z w6 ⟨cs6, hcs6, b6⟩ e6 => ?_
  refine (hd5.ext e6).put b6 hcs6 fun w7 ⟨s7, hs7, b7⟩ g7 => ?_
  have hd7 := (hd5.ext e6).kt g7 (Ty.box b6) (by decide)
  rw [hs7] at hd7
  have e7 : Ext w5 w7 := ext_of_grown e6 (fun g hg => (b6.blk_lt hg).1) g7
  have E7 : Ext w1 w7 := e2.trans (e4.trans (e5.trans e7))
  rw [bin_neq]
  by_cases hok : okW a = true
  · obtain ⟨rfl, rfl⟩ := h1 hok
    refine orJ (fun h => by simp at h) (fun _ => ?_)
    rw [nil_err u_error]
    refine orJ (fun h => by cases h) (fun _ => ?_)
    refine dy_all b7 ?_
    refine c_impl_IsDyadic hd7 fun w8 e8 => ?_
    have hna : isNum a = true := by unfold okW at hok; rw [Bool.and_eq_true, Bool.and_eq_true] at hok; exact hok.1.1
    rw [hna, hb, Bool.true_and, Bool.true_and] at hpar
    rw [una_not]
    have E8 := E7.trans e8
    cases hdy : isDyB (numI a) (numI b)
    · rw [hdy] at hpar
      exact cnd_yes rfl (ret0 hpar _ E8)
    · rw [hdy] at hpar
      refine cnd_no rfl ?_
      refine dy_all (b7.ext e8) ?_
      have b1 := b1.ext E8
      have hd8 := hd7.ext e8
      refine hd8.put b1 hcs fun w9 ⟨s9, hs9, b9⟩ g9 => ?_
      have hd9 := hd8.kt g9 (Ty.box b1) (by decide)
      refine b9.getc u_impl_Dyadic rfl i_impl_Dyadic rfl ?_
      rw [hs9] at hd9
      exact H1 _ _ hpar _ _ (ext_of_grown (e1.trans E8) (fun g hg => (b1.blk_lt hg).1) g9) hd9
  · rw [Bool.not_eq_true] at hok
    have hc := h2 hok
    refine orJ (fun _ => ?_) (fun h => by simp at h; exact absurd h hc)
    refine orJ (fun _ => ?_) (fun h => by cases h)
    exact cnd_yes rfl (ret0 (by rw [hpar, okW_dy hok hb]; rfl) _ E7)
theorem c_isMode0 (H : K (.bool true) w) : call P f_impl_isMode [.int .i64 0] w K := by
  refine I_impl_isMode ?_
  unfold D_impl_isMode
  rw [bin_geq]
  refine andJ (fun _ => ?_) (fun h => by simp at h)
  rw [bin_leq]; exact H
theorem c_RoundDyadic {v : Value} {m e : Int} (h : Dr w v m e) (hd : isDyB m e = true) (H : ∀ w', Ext w w' → K (.tuple #[fl (rndQ 0 (dy m e)).1, .int .i64 (rndQ 0 (dy m e)).2, .int .i64 0]) w') : call P f_impl_RoundDyadic [v, .int .i64 0] w K := by
  obtain ⟨s, l, rfl, h1, wl⟩ := h
  refine I_impl_RoundDyadic ?_
  unfold D_impl_RoundDyadic
  refine bx_Dy fun x1 w1 b1 e1 => ?_
  have hd1 : Dr w1 (.agg #[.int .i64 m.sign, s, .int .i64 e]) m e := ⟨s, l, rfl, h1.ext e1, wl⟩
  refine dy_all b1 ?_
  refine c_impl_IsDyadic hd1 fun w2 e2 => ?_
  rw [hd, una_not, Bool.not_true, cnd_false]
  refine c_isMode0 ?_
  rw [una_not, Bool.not_true, cnd_false]
  refine dy_all (b1.ext e2) ?_
  refine c_numberOf (hd1.ext e2) hd fun u w3 e3 n3 => ?_
  refine c_num_round n3 (by decide) (by decide) fun w4 e4 => ?_
  rw [xtr_0, xtr_1]
  exact H _ (e1.trans (e2.trans (e3.trans e4)))
theorem c_parseFloat {l : List UInt8} (hl : l.length ≤ 4611686018427387904) (H : ∀ b w', Ext w w' → (∀ x, pF l = some x → b = x) → K (.tuple #[fl b, .bool (pF l).isSome]) w') : call P f_impl_parseFloat [str l] w K := by
  refine I_impl_parseFloat ?_
  unfold D_impl_parseFloat
  refine c_ParseDyadic hl (fun h0 v w1 e1 ⟨m, e, hd⟩ => ?_) (fun m e hp v w1 e1 hd => ?_)
  · rw [xtr_0, xtr_1]
    refine alc_Dy fun x4 w2 ⟨cs, hcs, b2⟩ e2 => ?_
    refine (hd.ext e2).put b2 hcs fun w3 ⟨s, hv, b3⟩ g3 => ?_
    have e3 : Ext w1 w3 := ext_of_grown e2 (fun g hg => (b2.blk_lt hg).1) g3
    rw [bin_neq]
    refine cnd_yes rfl ?_
    have hpf : pF l = none := by unfold pF; rw [h0]
    have := H 0 w3 (e1.trans e3) (fun x hx => by rw [hpf] at hx; cases hx)
    rw [hpf] at this; exact this
  · rw [xtr_0, xtr_1]
    have hdy := parse_some hp
    refine alc_Dy fun x4 w2 ⟨cs, hcs, b2⟩ e2 => ?_
    refine (hd.ext e2).put b2 hcs fun w3 ⟨s, hv, b3⟩ g3 => ?_
    have hd3 := (hd.ext e2).kt g3 (Ty.box b2) (by decide)
    have e3 : Ext w1 w3 := ext_of_grown e2 (fun g hg => (b2.blk_lt hg).1) g3
    rw [bin_neq]
    refine cnd_no rfl ?_
    rw [hv] at hd3
    refine dy_all b3 ?_
    refine c_RoundDyadic hd3 hdy fun w4 e4 => ?_
    rw [xtr_0, xtr_1, xtr_2, bin_eql]
    have hpf : pF l = if (rndQ 0 (dy m e)).2 = 0 then some (rndQ 0 (dy m e)).1 else none := by unfold pF; rw [hp]
    have := H (rndQ 0 (dy m e)).1 w4 (e1.trans (e3.trans e4)) (fun x hx => by
      rw [hpf] at hx
      split at hx
      · exact Option.some.inj hx
      · cases hx)
    rw [hpf] at this
    have hs : (if (rndQ 0 (dy m e)).2 = 0 then some (rndQ 0 (dy m e)).1 else none).isSome = decide ((rndQ 0 (dy m e)).2 = 0) := by
      split
      · rename_i h; rw [h]; rfl
      · rename_i h; simp [h]
    rw [hs] at this; exact this
end Go.Proofs.YtjompmflommadaaGreatDoor
