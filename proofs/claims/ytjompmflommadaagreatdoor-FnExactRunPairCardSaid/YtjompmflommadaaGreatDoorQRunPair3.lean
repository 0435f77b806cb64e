import Derived.Test.YtjompmflommadaaGreatDoorQRunPairVU2
import Derived.Test.YtjompmflommadaaGreatDoorQRunPairVU1
import Derived.Test.YtjompmflommadaaGreatDoorQRunPairVU3
import Derived.Test.YtjompmflommadaaGreatDoorQRunPairVU12
import Derived.Test.YtjompmflommadaaGreatDoorQRunPairVVcM
import Derived.Test.YtjompmflommadaaGreatDoorQRunPair2
set_option linter.unusedSimpArgs false
set_option linter.unusedVariables false

set_option linter.unusedVariables false
namespace Go.Proofs.YtjompmflommadaaGreatDoor
open Go Go.Vc
variable {w : World} {K : Value → World → Prop}
theorem val_take_succD (b : Nat) (l : List Nat) (i : Nat) : val b (l.take (i + 1)) = val b (l.take i) + b ^ i * l.getD i 0 := by
  by_cases h : i < l.length
  · rw [val_take_succ b h, List.getD_eq_getElem?_getD]; simp [h]
  · rw [List.take_of_length_le (by omega), List.take_of_length_le (by omega), List.getD_eq_getElem?_getD]; simp [show l.length ≤ i by omega]
theorem take_set {l : List Nat} {i x : Nat} (h : i < l.length) : (l.set i x).take (i + 1) = l.take i ++ [x] := by
  rw [List.take_succ_eq_append_getElem (by simpa using h)]
  simp [List.take_set_of_le]
theorem val_set_take (b : Nat) {l : List Nat} {i x : Nat} (h : i < l.length) : val b ((l.set i x).take (i + 1)) = val b (l.take i) + b ^ i * x := by
  rw [take_set h, val_snoc, List.length_take, Nat.min_eq_left (by omega)]
theorem Dig_set {b : Nat} {l : List Nat} {i x : Nat} (h : Dig b l) (hx : x < b) : Dig b (l.set i x) := fun d hd => by
  rcases List.mem_or_eq_of_mem_set hd with h1 | h1
  · exact h d h1
  · omega
theorem Dig_rep (b n : Nat) (hb : 0 < b) : Dig b (List.replicate n 0) := fun d hd => by rw [List.mem_replicate] at hd; omega
theorem Dig_get {b : Nat} {l : List Nat} (h : Dig b l) {i : Nat} (hi : i < l.length) : l[i] < b := h _ (List.getElem_mem hi)
theorem getD_get {l : List Nat} {i : Nat} (hi : i < l.length) : l.getD i 0 = l[i] := by rw [List.getD_eq_getElem?_getD]; simp [hi]
theorem len_mono {b : Nat} {l r : List Nat} (hl : Norm b l) (hr : Norm b r) (h : val b r ≤ val b l) : r.length ≤ l.length := by
  rw [← Nat.not_lt]
  intro hc
  have := val_lt_len hl.1 hr hc
  omega
theorem pB (i : Nat) : (4294967296 : Nat) ^ (i + 1) = 4294967296 ^ i * 4294967296 := Nat.pow_succ ..
theorem step_add {V L R p c a b s : Nat} (hv : V + c * p = L + R) (hs : s = c + a + b) : V + p * (s % 4294967296) + s / 4294967296 * (p * 4294967296) = L + p * a + (R + p * b) := by
  have h := Nat.div_add_mod s 4294967296
  have h2 : p * (4294967296 * (s / 4294967296) + s % 4294967296) = p * (c + a + b) := by rw [h, hs]
  grind
theorem step_sub32 {V L R p c a b s s0 s1 : Nat} (hv : V + R = L + c * p) (hs : s = c + b) (hk : s0 + s = a + s1 * 4294967296) : V + p * s0 + (R + p * b) = L + p * a + s1 * (p * 4294967296) := by
  have h2 : p * (s0 + s) = p * (a + s1 * 4294967296) := by rw [hk]
  rw [hs] at h2
  grind
theorem own_step {k : IntKind} {e : TypeId} {w w1 w2 : World} {v : Value} {l : List Nat} (he : Ext w w1) (ho : OD k e w1 w.heap.size v l) (hg : w1.grownBy w2 v.ownBlock) : Ext w w2 :=
  ext_of_grown he (fun g hg' => (ho.lt g hg').1) hg
theorem c_magAdd {u v : Value} {a b : Nat} (ha : Mg w u a) (hb : Mg w v b) (ba : bl a ≤ 1099511627776) (bb : bl b ≤ 1099511627776)
    (H : ∀ v' w', Ext w w' → MgO w' w.heap.size v' (a + b) → K v' w') : call P f_impl_magAdd [u, v] w K := by
  have main : ∀ {u v : Value} {l r : List Nat}, IR .u32 w u l → IR .u32 w v r → Dig 4294967296 l → Dig 4294967296 r → r.length ≤ l.length → l.length ≤ 34359738369 → (∀ v' w', Ext w w' → MgO w' w.heap.size v' (val 4294967296 l + val 4294967296 r) → K v' w') →
      (bl0 P .len #[t_s_uint32] t_int [u] w fun x17_6 =>
      bin P .add t_int false true x17_6 (.int .i64 1) w fun x18_7 =>
      mks P t_s_uint32 x18_7 x18_7 w fun x19_8 w9 =>
      bl0 P .len #[t_s_uint32] t_int [u] w9 fun x21_10 =>
      ∃ I11 : Nat → Value → Value → World → Prop, (∃ m46, I11 m46 (.int .u64 0) (.int .i64 0) w9) ∧ ∀ (m14 : Nat) (x6_15 : Value) (x22_16 : Value) (junk12 : Env) (w13 : World), I11 m14 x6_15 x22_16 w13 →
        bin P .lss t_int false false x22_16 x21_10 w13 fun x23_17 =>
        cnd x23_17
          (ixa P t_s_uint32 u x22_16 w13 fun x25_18 =>
          ld P t_uint32 x25_18 w13 fun x26_19 =>
          cnv P t_uint32 t_uint64 x26_19 w13 fun x29_20 =>
          bin P .add t_uint64 false false x6_15 x29_20 w13 fun x30_21 =>
          ∃ J22 : Value → World → Prop, (∀ (x6_25 : Value) (junk23 : Env) (w24 : World), J22 x6_25 w24 →
            cnv P t_uint64 t_uint32 x6_25 w24 fun x45_26 =>
            ixa P t_s_uint32 x19_8 x22_16 w24 fun x46_27 =>
            sto P t_uint32 x46_27 x45_26 w24 fun w29 =>
            bin P .shr t_uint64 false true x6_25 (.int .u64 32) w29 fun x48_30 =>
            bin P .add t_int false true x22_16 (.int .i64 1) w29 fun x49_31 =>
            ∃ m32, m32 < m14 ∧ I11 m32 x48_30 x49_31 w29) ∧
            (bl0 P .len #[t_s_uint32] t_int [v] w13 fun x33_33 =>
            bin P .lss t_int false false x22_16 x33_33 w13 fun x34_34 =>
            cnd x34_34
              (ixa P t_s_uint32 v x22_16 w13 fun x38_35 =>
              ld P t_uint32 x38_35 w13 fun x39_36 =>
              cnv P t_uint32 t_uint64 x39_36 w13 fun x40_37 =>
              bin P .add t_uint64 false false x30_21 x40_37 w13 fun x41_38 =>
              J22 x41_38 w13)
              (J22 x30_21 w13)))
          (bl0 P .len #[t_s_uint32] t_int [u] w13 fun x52_39 =>
          cnv P t_uint64 t_uint32 x6_15 w13 fun x54_40 =>
          ixa P t_s_uint32 x19_8 x52_39 w13 fun x55_41 =>
          sto P t_uint32 x55_41 x54_40 w13 fun w43 =>
          call P f_impl_magTrim [x19_8] w43 fun x57_44 w45 =>
          K x57_44 w45)) := by
    intro u v l r h1 h2 d1 d2 hlr hlen H
    rw [h1.row.len u_s_uint32, bin_addI1 (b := 1) (by omega)]
    refine OD.make u_s_uint32 i_uint32 (by omega) (by simp only [maxLen]; omega) fun w1 o ho he => ?_
    rw [(h1.ext he).row.len u_s_uint32]
    refine ⟨fun m x y w' => ∃ (i c : Nat) (q : List Nat), m + i = l.length ∧ x = .int .u64 (c : Int) ∧ y = .int .i64 (i : Int) ∧ Ext w w' ∧ OD .u32 t_uint32 w' w.heap.size o q ∧ q.length = l.length + 1 ∧ Dig 4294967296 q ∧ c ≤ 1 ∧
      val 4294967296 (q.take i) + c * 4294967296 ^ i = val 4294967296 (l.take i) + val 4294967296 (r.take i), ⟨l.length, 0, 0, _, rfl, rfl, rfl, he, ho, by simp, Dig_rep _ _ (by decide), by omega, by simp [val]⟩, ?_⟩
    rintro m x y junk w2 ⟨i, c, q, hm, rfl, rfl, e2, oq, hq, dq, hc, hv⟩
    rw [bin_lss]
    refine cnd_dec (fun hlt => ?_) (fun hge => ?_)
    · have hi : i < l.length := by omega
      refine (h1.ext e2).at hi u_s_uint32 i_uint32 u_uint32 ?_
      have g1 := Dig_get d1 hi
      rw [cnv_32_64' g1, bin_addN (by omega)]
      refine ⟨fun x w' => w' = w2 ∧ ∃ s : Nat, x = .int .u64 (s : Int) ∧ s = c + l[i] + r.getD i 0 ∧ r.getD i 0 < 4294967296, ?_, ?_⟩
      · rintro x junk w3 ⟨rfl, s, rfl, hs, hr⟩
        rw [cnv_64_32]
        refine OD.set oq (by omega) u_s_uint32 i_uint32 fun w4 oq' hg => ?_
        rw [bin_shrN (s := 32) (by decide), bin_addI1 (b := 1) (by omega)]
        refine ⟨m - 1, by omega, i + 1, s / 2 ^ 32, _, by omega, rfl, rfl, own_step e2 oq hg, oq', by simpa using hq, Dig_set dq (Nat.mod_lt _ (by decide)), by omega, ?_⟩
        rw [val_set_take _ (by omega), val_take_succD, val_take_succD, getD_get hi, pB]
        exact step_add hv hs
      · rw [(h2.ext e2).row.len u_s_uint32, bin_lss]
        refine cnd_dec (fun h => ?_) (fun h => ?_)
        · have hi2 : i < r.length := by omega
          refine (h2.ext e2).at hi2 u_s_uint32 i_uint32 u_uint32 ?_
          have g2 := Dig_get d2 hi2
          rw [cnv_32_64' g2, bin_addN (by omega)]
          exact ⟨rfl, _, rfl, by rw [getD_get hi2], by rw [getD_get hi2]; exact g2⟩
        · have : r.getD i 0 = 0 := by rw [List.getD_eq_getElem?_getD]; simp [show r.length ≤ i by omega]
          exact ⟨rfl, _, rfl, by omega, by omega⟩
    · have hi : i = l.length := by omega
      subst hi
      rw [(h1.ext e2).row.len u_s_uint32, cnv_64_32]
      refine OD.set oq (by omega) u_s_uint32 i_uint32 fun w4 oq' hg => ?_
      have hcm : c % 4294967296 = c := Nat.mod_eq_of_lt (by omega)
      rw [hcm] at oq'
      refine c_trimO oq' (Dig_set dq (by omega)) fun v' hv' => ?_
      have e : val 4294967296 (q.set l.length c) = val 4294967296 l + val 4294967296 r := by
        have h3 := val_set_take 4294967296 (l := q) (i := l.length) (x := c) (by omega)
        rw [List.take_of_length_le (by rw [List.length_set]; omega)] at h3
        rw [List.take_of_length_le (by omega : l.length ≤ l.length), List.take_of_length_le (by omega : r.length ≤ l.length)] at hv
        rw [h3, ← hv, Nat.mul_comm]
      rw [e] at hv'
      exact H _ _ (own_step e2 oq hg) hv'
  obtain ⟨l, h1, n1, rfl, _⟩ := ha
  obtain ⟨r, h2, n2, rfl, _⟩ := hb
  have l1 := dig_len n1 ba
  have l2 := dig_len n2 bb
  refine I_impl_magAdd ?_
  unfold D_impl_magAdd
  refine ⟨_, fun _ _ _ _ h => h, ?_⟩
  rw [h1.row.len u_s_uint32, h2.row.len u_s_uint32, bin_lss]
  refine cnd_dec (fun h => ?_) (fun h => ?_)
  · exact main h2 h1 n2.1 n1.1 (by omega) l2 (by rw [Nat.add_comm]; exact H)
  · exact main h1 h2 n1.1 n2.1 (by omega) l1 H
theorem wrap_u64_neg {x : Nat} (h0 : 0 < x) (h : x < 18446744073709551616) : IntKind.u64.wrap (-(x : Int)) = ((18446744073709551616 - x : Nat) : Int) := by
  simp [IntKind.wrap, IntKind.bits, IntKind.signed]; omega
theorem bin_subN {t : TypeId} {cx cy : Bool} {a b : Nat} {K : Value → Prop} (ha : a < 18446744073709551616) (hb : b < 18446744073709551616) : bin P .sub t cx cy (.int .u64 (a : Int)) (.int .u64 (b : Int)) w K = K (.int .u64 (((a + 18446744073709551616 - b) % 18446744073709551616 : Nat) : Int)) := by
  rw [bin_sub]
  congr 2
  by_cases h : b ≤ a
  · rw [show (a : Int) - b = ((a - b : Nat) : Int) by omega, w_u64' (by omega)]; omega
  · rw [show (a : Int) - b = -((b - a : Nat) : Int) by omega, wrap_u64_neg (by omega) (by omega)]; omega
theorem c_magSub {u v : Value} {a b : Nat} (ha : Mg w u a) (hb : Mg w v b) (hle : b ≤ a) (ba : bl a ≤ 1099511627776)
    (H : ∀ v' w', Ext w w' → MgO w' w.heap.size v' (a - b) → K v' w') : call P f_impl_magSub [u, v] w K := by
  obtain ⟨l, h1, n1, rfl, _⟩ := ha
  obtain ⟨r, h2, n2, rfl, _⟩ := hb
  have l1 := dig_len n1 ba
  have hlr := len_mono n1 n2 hle
  have d1 := n1.1
  have d2 := n2.1
  refine I_impl_magSub ?_
  unfold D_impl_magSub
  rw [h1.row.len u_s_uint32]
  refine OD.make u_s_uint32 i_uint32 (by omega) (by simp only [maxLen]; omega) fun w1 o ho he => ?_
  rw [(h1.ext he).row.len u_s_uint32]
  refine ⟨fun m x y w' => ∃ (i c : Nat) (q : List Nat), m + i = l.length ∧ x = .int .u64 (c : Int) ∧ y = .int .i64 (i : Int) ∧ Ext w w' ∧ OD .u32 t_uint32 w' w.heap.size o q ∧ q.length = l.length ∧ Dig 4294967296 q ∧ c ≤ 1 ∧
    val 4294967296 (q.take i) + val 4294967296 (r.take i) = val 4294967296 (l.take i) + c * 4294967296 ^ i, ⟨l.length, 0, 0, _, rfl, rfl, rfl, he, ho, by simp, Dig_rep _ _ (by decide), by omega, by simp [val]⟩, ?_⟩
  rintro m x y junk w2 ⟨i, c, q, hm, rfl, rfl, e2, oq, hq, dq, hc, hv⟩
  rw [bin_lss]
  refine cnd_dec (fun hlt => ?_) (fun hge => ?_)
  · have hi : i < l.length := by omega
    refine (h1.ext e2).at hi u_s_uint32 i_uint32 u_uint32 ?_
    have g1 := Dig_get d1 hi
    refine ⟨fun x w' => w' = w2 ∧ ∃ s : Nat, x = .int .u64 (s : Int) ∧ s = c + r.getD i 0 ∧ r.getD i 0 < 4294967296, ?_, ?_⟩
    · rintro x junk w3 ⟨rfl, s, rfl, hs, hr⟩
      rw [cnv_32_64' g1, bin_subN (by omega) (by omega), cnv_64_32]
      refine OD.set oq (by omega) u_s_uint32 i_uint32 fun w4 oq' hg => ?_
      rw [bin_shrN (s := 63) (by decide), bin_addI1 (b := 1) (by omega)]
      have key : (l[i] + 18446744073709551616 - s) % 18446744073709551616 % 4294967296 + s = l[i] + (l[i] + 18446744073709551616 - s) % 18446744073709551616 / 2 ^ 63 * 4294967296 ∧ (l[i] + 18446744073709551616 - s) % 18446744073709551616 / 2 ^ 63 ≤ 1 := by
        simp only [show (2 : Nat) ^ 63 = 9223372036854775808 from rfl]
        omega
      obtain ⟨k1, k2⟩ := key
      refine ⟨m - 1, by omega, i + 1, _, _, by omega, rfl, rfl, own_step e2 oq hg, oq', by simpa using hq, Dig_set dq (Nat.mod_lt _ (by decide)), k2, ?_⟩
      rw [val_set_take _ (by omega), val_take_succD, val_take_succD, getD_get hi, pB]
      exact step_sub32 hv hs k1
    · rw [(h2.ext e2).row.len u_s_uint32, bin_lss]
      refine cnd_dec (fun h => ?_) (fun h => ?_)
      · have hi2 : i < r.length := by omega
        refine (h2.ext e2).at hi2 u_s_uint32 i_uint32 u_uint32 ?_
        have g2 := Dig_get d2 hi2
        rw [cnv_32_64' g2, bin_addN (by omega)]
        exact ⟨rfl, _, rfl, by rw [getD_get hi2], by rw [getD_get hi2]; exact g2⟩
      · have : r.getD i 0 = 0 := by rw [List.getD_eq_getElem?_getD]; simp [show r.length ≤ i by omega]
        exact ⟨rfl, _, rfl, by omega, by omega⟩
  · have hi : i = l.length := by omega
    subst hi
    rw [List.take_of_length_le (by omega : l.length ≤ l.length), List.take_of_length_le (by omega : r.length ≤ l.length), List.take_of_length_le (by omega : q.length ≤ l.length)] at hv
    have hc0 : c = 0 := by
      have h3 := val_lt dq
      rw [hq] at h3
      rcases Nat.eq_zero_or_pos c with h | h
      · exact h
      · have : 1 * 4294967296 ^ l.length ≤ c * 4294967296 ^ l.length := Nat.mul_le_mul_right _ h
        omega
    subst hc0
    refine c_trimO oq dq fun v' hv' => ?_
    have e : val 4294967296 q = val 4294967296 l - val 4294967296 r := by omega
    rw [e] at hv'
    exact H _ _ e2 hv'
theorem bin_snil {t e : TypeId} {cx cy : Bool} {a : Option Addr} {n c : Nat} {K : Value → Prop} (hu : P.underlying t = some (.slice e)) : bin P .eql t cx cy (.slice a n c) (.slice none 0 0) w K = K (.bool a.isNone) := by
  refine bin_of (by unfold eqg eqGuard; rfl) ?_
  show rv P (do pure (Value.bool (← Op.equal t _ _))) w = _
  rw [rv_bind']
  have : rv P (Op.equal t (.slice a n c) (.slice none 0 0)) w = some a.isNone := by
    show rv P (Op.equalIn (9999 + 1) t _ _) w = _
    rw [Op.equalIn, rv_bind', rv_underlying hu]
    cases a <;> rfl
  rw [this]; rfl
theorem c_Clone {v : Value} {n : Nat} (h : Mg w v n) (hn : bl n ≤ 1099511627776) (H : ∀ v' w', Ext w w' → MgO w' w.heap.size v' n → K v' w') : call P f_slices_Clone_uint32_uint32 [v] w K := by
  obtain ⟨l, h1, n1, rfl, _⟩ := h
  have l1 := dig_len n1 hn
  refine I_slices_Clone_uint32_uint32 ?_
  unfold D_slices_Clone_uint32_uint32
  have hrow := h1.row
  obtain ⟨_, _, a, cap, rfl, hcell⟩ := hrow
  rw [bin_snil u_s_uint32]
  cases a with
  | none =>
    have hl0 : l.length = 0 := by
      refine Classical.byContradiction fun hne => ?_
      obtain ⟨_, _, h, _⟩ := hcell hne
      cases h
    obtain rfl : l = [] := List.eq_nil_of_length_eq_zero hl0
    exact cnd_yes rfl (H _ _ (Ext.refl _) (MgO.nil _ _))
  | some a =>
    refine cnd_no rfl ?_
    refine bsl_nil u_s_uint32 i_uint32 ?_
    have he := Ext_alloc w (.cells #[] t_uint32)
    have hz : (w.alloc (.cells #[] t_uint32)).ownsRow w.heap.size t_uint32 1 (.slice (some ⟨w.heap.size, 0, none⟩) 0 0) 0 [] := owns_lit w [] t_uint32
    generalize w.alloc (.cells #[] t_uint32) = w1 at he hz ⊢
    by_cases hl0 : l.length = 0
    · obtain rfl : l = [] := List.eq_nil_of_length_eq_zero hl0
      refine append_intro hz (h1.ext he).row (by simp) u_s_uint32 i_uint32 rfl (by decide) (Nat.zero_le _) (by decide) he.size fun v' w2 ho hg => ?_
      exact H _ _ (ext_of_grown he (fun g hq => (hz.lt g hq).1) hg) ⟨[], ho, n1, rfl⟩
    · refine append_fresh (h1.ext he).row (by simp [Value.oneCell']) u_s_uint32 i_uint32 rfl (by decide) (by omega) (by omega) fun v' w2 ho he2 => ?_
      exact H _ _ (he.trans he2) ⟨l, owns_base ho he.size, n1, rfl⟩
theorem val_set_all (b : Nat) {l : List Nat} {i x : Nat} (h : i < l.length) : val b (l.set i x) + b ^ i * l[i] = val b l + b ^ i * x := by
  have h1 := val_split b l (i := i) (by omega)
  have h2 := val_split b (l.set i x) (i := i) (by simp; omega)
  rw [List.take_set_of_le (by omega)] at h2
  have h3 : (l.set i x).drop i = x :: l.drop (i + 1) := by
    rw [List.drop_eq_getElem_cons (by simpa using h), List.getElem_set_self, List.drop_set_of_lt (by omega)]
  have h4 : l.drop i = l[i] :: l.drop (i + 1) := List.drop_eq_getElem_cons h
  rw [h3] at h2
  rw [h4] at h1
  simp only [val] at h1 h2
  grind
theorem mul_step {V V' Q L p pi pk c x y o s : Nat} (hp : p = pi * pk) (hv : V + c * p = Q + x * L * pi) (hs : s = c + (x * y + o)) (hq : V' + p * o = V + p * (s % 4294967296)) :
    V' + s / 4294967296 * (p * 4294967296) = Q + x * (L + pk * y) * pi := by
  have h := Nat.div_add_mod s 4294967296
  have h2 : p * (4294967296 * (s / 4294967296) + s % 4294967296) = p * (c + (x * y + o)) := by rw [h, hs]
  subst hp
  grind
theorem mul_last {V V' A x y p pi pk c : Nat} (hp : p = pi * pk) (hv : V + c * p = A * y + x * y * pi) (hq : V' + p * 0 = V + p * c) : V' = (A + pi * x) * y := by
  subst hp
  grind
theorem mul_word {x y : Nat} (hx : x < 4294967296) (hy : y < 4294967296) : x * y ≤ 18446744065119617025 := by
  have : x * y ≤ 4294967295 * 4294967295 := Nat.mul_le_mul (by omega) (by omega)
  omega
theorem getD_set {l : List Nat} {i j x : Nat} (h : i < l.length) : (l.set i x).getD j 0 = if i = j then x else l.getD j 0 := by
  simp only [List.getD_eq_getElem?_getD, List.getElem?_set]
  by_cases e : i = j
  · subst e; simp [h]
  · simp [e]
theorem c_magMul {u v : Value} {a b : Nat} (ha : Mg w u a) (hb : Mg w v b) (ba : bl a ≤ 1099511627776) (bb : bl b ≤ 1099511627776)
    (H : ∀ v' w', Ext w w' → MgO w' w.heap.size v' (a * b) → K v' w') : call P f_impl_magMul [u, v] w K := by
  obtain ⟨l, h1, n1, rfl, _⟩ := ha
  obtain ⟨r, h2, n2, rfl, _⟩ := hb
  have l1 := dig_len n1 ba
  have l2 := dig_len n2 bb
  have d1 := n1.1
  have d2 := n2.1
  refine I_impl_magMul ?_
  unfold D_impl_magMul
  rw [h1.row.len u_s_uint32, h2.row.len u_s_uint32, bin_addI (by omega)]
  refine OD.make u_s_uint32 i_uint32 (by omega) (by simp only [maxLen]; omega) fun w1 o ho he => ?_
  rw [(h1.ext he).row.len u_s_uint32]
  refine ⟨fun m y w' => ∃ (i : Nat) (q : List Nat), m + i = l.length ∧ y = .int .i64 (i : Int) ∧ Ext w w' ∧ OD .u32 t_uint32 w' w.heap.size o q ∧ q.length = l.length + r.length ∧ Dig 4294967296 q ∧ (∀ j, i + r.length ≤ j → q.getD j 0 = 0) ∧
    val 4294967296 q = val 4294967296 (l.take i) * val 4294967296 r, ⟨l.length, 0, _, rfl, rfl, he, ho, by simp, Dig_rep _ _ (by decide), fun j _ => by simp [List.getElem?_replicate]; split <;> rfl, by simp [val, val_replicate]⟩, ?_⟩
  rintro m y junk w2 ⟨i, q, hm, rfl, e2, oq, hq, dq, hz, hv⟩
  rw [bin_lss]
  refine cnd_dec (fun hlt => ?_) (fun hge => ?_)
  · have hi : i < l.length := by omega
    refine (h1.ext e2).at hi u_s_uint32 i_uint32 u_uint32 ?_
    have g1 := Dig_get d1 hi
    rw [(h2.ext e2).row.len u_s_uint32]
    refine ⟨fun m' x y w' => ∃ (k c : Nat) (q' : List Nat), m' + k = r.length ∧ x = .int .u64 (c : Int) ∧ y = .int .i64 (k : Int) ∧ Ext w w' ∧ OD .u32 t_uint32 w' w.heap.size o q' ∧ q'.length = l.length + r.length ∧ Dig 4294967296 q' ∧ (∀ j, i + r.length ≤ j → q'.getD j 0 = 0) ∧ c < 4294967296 ∧
      val 4294967296 q' + c * 4294967296 ^ (i + k) = val 4294967296 (l.take i) * val 4294967296 r + l[i] * val 4294967296 (r.take k) * 4294967296 ^ i,
      ⟨r.length, 0, 0, q, rfl, rfl, rfl, e2, oq, hq, dq, hz, by omega, by simp [val, hv]⟩, ?_⟩
    rintro m' x y junk w3 ⟨k, c, q', hm', rfl, rfl, e3, oq', hq', dq', hz', hc, hv'⟩
    rw [bin_lss]
    refine cnd_dec (fun hlt' => ?_) (fun hge' => ?_)
    · have hk : k < r.length := by omega
      refine (h2.ext e3).at hk u_s_uint32 i_uint32 u_uint32 ?_
      have g2 := Dig_get d2 hk
      have hik : i + k < q'.length := by omega
      have g3 := Dig_get dq' hik
      have hw := mul_word g1 g2
      rw [cnv_32_64' g1, cnv_32_64' g2, bin_mulN (by omega), bin_addI (by omega)]
      refine oq'.IR.at hik u_s_uint32 i_uint32 u_uint32 ?_
      rw [cnv_32_64' g3, bin_addN (by omega), bin_addN (by omega), bin_addI (by omega), cnv_64_32]
      refine OD.set oq' hik u_s_uint32 i_uint32 fun w4 oq4 hg => ?_
      rw [bin_shrN (s := 32) (by decide), bin_addI1 (b := 1) (by omega)]
      refine ⟨m' - 1, by omega, k + 1, _, _, by omega, rfl, rfl, own_step e3 oq' hg, oq4, by simpa using hq', Dig_set dq' (Nat.mod_lt _ (by decide)), fun j hj => ?_, ?_, ?_⟩
      · rw [getD_set hik, if_neg (by omega)]; exact hz' j hj
      · have : c + (l[i] * r[k] + q'[i + k]) < 18446744073709551616 := by omega
        simp only [show (2 : Nat) ^ 32 = 4294967296 from rfl]
        omega
      · rw [val_take_succD, getD_get hk, show (4294967296 : Nat) ^ (i + (k + 1)) = 4294967296 ^ (i + k) * 4294967296 from pB (i + k)]
        exact mul_step (Nat.pow_add ..) hv' rfl (val_set_all _ hik)
    · have hk : k = r.length := by omega
      subst hk
      have hik : i + r.length < q'.length := by omega
      rw [(h2.ext e3).row.len u_s_uint32, bin_addI (by omega), cnv_64_32]
      refine OD.set oq' hik u_s_uint32 i_uint32 fun w4 oq4 hg => ?_
      rw [bin_addI1 (b := 1) (by omega)]
      have hcm : c % 4294967296 = c := Nat.mod_eq_of_lt (by omega)
      rw [hcm] at oq4
      refine ⟨m - 1, by omega, i + 1, _, by omega, rfl, own_step e3 oq' hg, oq4, by simpa using hq', Dig_set dq' (by omega), fun j hj => ?_, ?_⟩
      · rw [getD_set hik, if_neg (by omega)]; exact hz' j (by omega)
      · rw [val_take_succD, getD_get hi]
        rw [List.take_of_length_le (Nat.le_refl _)] at hv'
        refine mul_last (Nat.pow_add ..) hv' ?_
        have h3 := val_set_all 4294967296 (l := q') (x := c) hik
        have h4 := hz' (i + r.length) (Nat.le_refl _)
        rw [getD_get hik] at h4
        rw [h4] at h3
        exact h3
  · have hi : i = l.length := by omega
    subst hi
    rw [List.take_of_length_le (Nat.le_refl _)] at hv
    refine c_trimO oq dq fun v' hv' => ?_
    rw [hv] at hv'
    exact H _ _ e2 hv'
end Go.Proofs.YtjompmflommadaaGreatDoor


set_option linter.unusedVariables false
namespace Go.Proofs.YtjompmflommadaaGreatDoor
open Go Go.Vc
variable {w : World} {K : Value → World → Prop}
section
variable {t : TypeId} {cx cy : Bool} {k yk : IntKind} {a b s : Nat} {c : Int} {K : Value → Prop}
theorem kmin_le (k : IntKind) : k.min ≤ 0 := by cases k <;> decide
theorem wrap_nat {k : IntKind} {x : Nat} (h : (x : Int) ≤ k.max) : k.wrap (x : Int) = (x : Int) := wrap_of (Int.le_trans (kmin_le k) (Int.natCast_nonneg _)) h
theorem bin_quoN (h : (a : Int) ≤ k.max) (hb : b ≠ 0) (hc : c = (b : Int) := by rfl) : bin P .quo t cx cy (.int k (a : Int)) (.int k c) w K = K (.int k ((a / b : Nat) : Int)) := by
  subst hc
  rw [bin_quo _ _ _ _ _ _ _ (by omega)]
  have e : Int.tdiv (a : Int) (b : Int) = ((a / b : Nat) : Int) := by rw [Int.ofNat_tdiv]
  rw [e, wrap_nat (Int.le_trans (by
    have := Nat.div_le_self a b
    omega) h)]
theorem bin_remN (hb : b ≠ 0) (hc : c = (b : Int) := by rfl) : bin P .rem t cx cy (.int k (a : Int)) (.int k c) w K = K (.int k ((a % b : Nat) : Int)) := by
  subst hc
  rw [bin_rem _ _ _ _ _ _ _ (by omega)]
  have e : Int.tmod (a : Int) (b : Int) = ((a % b : Nat) : Int) := by rw [Int.ofNat_tmod]
  rw [e]
theorem bin_shlN (hs : s ≤ k.bits) (h : ((a * 2 ^ s : Nat) : Int) ≤ k.max) (hc : c = (s : Int) := by rfl) : bin P .shl t cx cy (.int k (a : Int)) (.int yk c) w K = K (.int k ((a * 2 ^ s : Nat) : Int)) := by
  subst hc
  rw [bin_shl _ _ _ _ _ _ _ _ (by omega)]
  have e : min ((s : Int).toNat) k.bits = s := by rw [Int.toNat_natCast]; omega
  rw [e]
  have : (a : Int) * 2 ^ s = ((a * 2 ^ s : Nat) : Int) := by simp
  rw [this, wrap_nat h]
theorem toNat_word {n a : Nat} (h : a < 2 ^ n) : (BitVec.ofInt n (a : Int)).toNat = a := by
  rw [BitVec.ofInt_natCast, BitVec.toNat_ofNat, Nat.mod_eq_of_lt h]
theorem bin_orN (ha : a < 2 ^ k.bits) (hb : b < 2 ^ k.bits) (hk : k.signed = false) (hc : c = (b : Int) := by rfl) : bin P .or t cx cy (.int k (a : Int)) (.int k c) w K = K (.int k ((a ||| b : Nat) : Int)) := by
  subst hc
  rw [bin_or, BitVec.toNat_or, toNat_word ha, toNat_word hb]
  have h := Nat.or_lt_two_pow ha hb
  rw [wrap_nat]
  cases k <;> simp [IntKind.signed] at hk <;> simp [IntKind.max, IntKind.signed, IntKind.bits] at h ⊢ <;> omega
theorem bin_andN (ha : a < 2 ^ k.bits) (hb : b < 2 ^ k.bits) (hk : k.signed = false) (hc : c = (b : Int) := by rfl) : bin P .and t cx cy (.int k (a : Int)) (.int k c) w K = K (.int k ((a &&& b : Nat) : Int)) := by
  subst hc
  rw [bin_and, BitVec.toNat_and, toNat_word ha, toNat_word hb]
  have h : a &&& b ≤ a := Nat.and_le_left
  rw [wrap_nat]
  cases k <;> simp [IntKind.signed] at hk <;> simp [IntKind.max, IntKind.signed, IntKind.bits] at ha ⊢ <;> omega
theorem max_u64 : IntKind.u64.max = 18446744073709551615 := rfl
theorem max_u32 : IntKind.u32.max = 4294967295 := rfl
theorem max_i64 : IntKind.i64.max = 9223372036854775807 := rfl
theorem cnv_uint_int (h : a ≤ 9223372036854775807) : cnv P t_uint t_int (.int .u64 (a : Int)) w K = K (.int .i64 (a : Int)) := by
  rw [cnv_int_int u_uint u_int, wrap_i64 (by omega) (by omega)]
theorem cnv_int_uint (h : a ≤ 9223372036854775807) : cnv P t_int t_uint (.int .i64 (a : Int)) w K = K (.int .u64 (a : Int)) := by
  rw [cnv_int_int u_int u_uint, w_u64' (by omega)]
end
theorem left_or {d s old : Nat} (hs : s < 32) (hd : d < 4294967296) (ho : old < 2 ^ s) : old ||| (d * 2 ^ s % 4294967296) = old + d * 2 ^ s % 4294967296 := by
  have e : d * 2 ^ s % 4294967296 = 2 ^ s * (d % 2 ^ (32 - s)) := by
    have h32 : (4294967296 : Nat) = 2 ^ s * 2 ^ (32 - s) := by rw [← Nat.pow_add, show s + (32 - s) = 32 by omega]
    rw [h32, Nat.mul_comm d, Nat.mul_mod_mul_left]
  rw [e, Nat.or_comm, ← Nat.two_pow_add_eq_or_of_lt ho, Nat.add_comm]
theorem left_step {V V1 V2 T x p q2 old wd f d p0 : Nat} (hV : V = T * f) (h1 : V1 + p * old = V + p * (old + wd % 4294967296)) (h2 : V2 + p * 4294967296 * 0 = V1 + p * 4294967296 * (wd / 4294967296)) (hp : p * wd = p0 * d * f) : V2 = (T + p0 * d) * f := by
  have h := Nat.div_add_mod wd 4294967296
  have h3 : p * (4294967296 * (wd / 4294967296) + wd % 4294967296) = p0 * d * f := by rw [h, hp]
  subst hV
  grind
theorem c_magLeft {u : Value} {a n : Nat} (ha : Mg w u a) (ba : bl a ≤ 1099511627776) (bn : n ≤ 1099511627776)
    (H : ∀ v' w', Ext w w' → MgO w' w.heap.size v' (a * 2 ^ n) → K v' w') : call P f_impl_magLeft [u, .int .u64 (n : Int)] w K := by
  obtain ⟨l, h1, n1, rfl, _⟩ := ha
  have l1 := dig_len n1 ba
  have d1 := n1.1
  refine I_impl_magLeft ?_
  unfold D_impl_magLeft
  rw [h1.row.len u_s_uint32, bin_eql]
  refine cnd_dec (fun h0 => ?_) (fun h0 => ?_)
  · obtain rfl : l = [] := List.eq_nil_of_length_eq_zero (by omega)
    have := H _ _ (Ext.refl _) (by
      have := MgO.nil w w.heap.size
      simpa [val] using this)
    exact this
  · rw [bin_quoN (b := 32) (by rw [max_u64]; omega) (by decide), cnv_uint_int (by omega), h1.row.len u_s_uint32, bin_addI (by omega), bin_addI1 (b := 1) (by omega)]
    refine OD.make u_s_uint32 i_uint32 (by omega) (by simp only [maxLen]; omega) fun w1 o ho he => ?_
    rw [(h1.ext he).row.len u_s_uint32]
    refine ⟨fun m y w' => ∃ (i : Nat) (q : List Nat), m + i = l.length ∧ y = .int .i64 (i : Int) ∧ Ext w w' ∧ OD .u32 t_uint32 w' w.heap.size o q ∧ q.length = n / 32 + l.length + 1 ∧ Dig 4294967296 q ∧ (∀ j, n / 32 + i < j → q.getD j 0 = 0) ∧ q.getD (n / 32 + i) 0 < 2 ^ (n % 32) ∧
      val 4294967296 q = val 4294967296 (l.take i) * 2 ^ n, ⟨l.length, 0, _, rfl, rfl, he, ho, by simp, Dig_rep _ _ (by decide), fun j _ => by simp [List.getElem?_replicate]; split <;> rfl, by
        have : (List.replicate (n / 32 + l.length + 1) 0).getD (n / 32 + 0) 0 = 0 := by simp [List.getElem?_replicate]; split <;> rfl
        rw [this]; exact Nat.two_pow_pos _, by simp [val, val_replicate]⟩, ?_⟩
    rintro m y junk w2 ⟨i, q, hm, rfl, e2, oq, hq, dq, hz, hold, hv⟩
    rw [bin_lss]
    refine cnd_dec (fun hlt => ?_) (fun hge => ?_)
    · have hi : i < l.length := by omega
      refine (h1.ext e2).at hi u_s_uint32 i_uint32 u_uint32 ?_
      have g1 := Dig_get d1 hi
      have hs : n % 32 < 32 := Nat.mod_lt _ (by decide)
      have hps : 2 ^ (n % 32) ≤ 2147483648 := by
        have := Nat.pow_le_pow_right (n := 2) (by decide) (show n % 32 ≤ 31 by omega)
        exact this
      have hwd : l[i] * 2 ^ (n % 32) ≤ 4294967295 * 2147483648 := Nat.mul_le_mul (by omega) hps
      have hi1 : n / 32 + i < q.length := by omega
      have hi2 : n / 32 + i + 1 < q.length := by omega
      rw [cnv_32_64' g1, bin_remN (b := 32) (by decide), bin_shlN (s := n % 32) (by simp only [IntKind.bits]; omega) (by rw [max_u64]; omega)]
      rw [bin_quoN (b := 32) (by rw [max_u64]; omega) (by decide), cnv_uint_int (by omega), bin_addI (by omega)]
      refine oq.IR.at hi1 u_s_uint32 i_uint32 u_uint32 ?_
      have g3 := Dig_get dq hi1
      rw [cnv_64_32, bin_orN (by simpa [IntKind.bits] using g3) (by have := Nat.mod_lt (l[i] * 2 ^ (n % 32)) (show 0 < 4294967296 by decide); simpa [IntKind.bits] using this) rfl]
      rw [getD_get hi1] at hold
      rw [left_or hs g1 hold]
      refine OD.set oq hi1 u_s_uint32 i_uint32 fun w3 oq3 hg3 => ?_
      have e3 := own_step e2 oq hg3
      rw [bin_quoN (b := 32) (by rw [max_u64]; omega) (by decide), cnv_uint_int (by omega), bin_addI (by omega), bin_addI1 (b := 1) (by omega), bin_shrN (s := 32) (by decide), cnv_64_32]
      refine OD.set oq3 (by simpa using hi2) u_s_uint32 i_uint32 fun w4 oq4 hg4 => ?_
      rw [bin_addI1 (b := 1) (by omega)]
      have hhi : l[i] * 2 ^ (n % 32) / 2 ^ 32 < 2 ^ (n % 32) := by
        rw [Nat.div_lt_iff_lt_mul (Nat.two_pow_pos _), Nat.mul_comm]
        exact Nat.mul_lt_mul_of_pos_left g1 (Nat.two_pow_pos _)
      have hmod : l[i] * 2 ^ (n % 32) / 2 ^ 32 % 4294967296 = l[i] * 2 ^ (n % 32) / 2 ^ 32 := Nat.mod_eq_of_lt (by omega)
      rw [hmod] at oq4
      have hlo : q[n / 32 + i] + l[i] * 2 ^ (n % 32) % 4294967296 < 4294967296 := by
        rw [← left_or hs g1 hold]
        exact Nat.or_lt_two_pow (n := 32) g3 (Nat.mod_lt _ (by decide))
      refine ⟨m - 1, by omega, i + 1, _, by omega, rfl, own_step e3 oq3 hg4, oq4, by simpa using hq, Dig_set (Dig_set dq hlo) (by omega), fun j hj => ?_, ?_, ?_⟩
      · rw [getD_set (by simpa using hi2), if_neg (by omega), getD_set hi1, if_neg (by omega)]
        exact hz j (by omega)
      · rw [show n / 32 + (i + 1) = n / 32 + i + 1 from rfl, getD_set (by simpa using hi2), if_pos rfl]; exact hhi
      · rw [val_take_succD, getD_get hi]
        have a1 := val_set_all 4294967296 (l := q) (x := q[n / 32 + i] + l[i] * 2 ^ (n % 32) % 4294967296) hi1
        have hi2' : n / 32 + i + 1 < (q.set (n / 32 + i) (q[n / 32 + i] + l[i] * 2 ^ (n % 32) % 4294967296)).length := by simpa using hi2
        have a2 := val_set_all 4294967296 (x := l[i] * 2 ^ (n % 32) / 2 ^ 32) hi2'
        have hz0 : (q.set (n / 32 + i) (q[n / 32 + i] + l[i] * 2 ^ (n % 32) % 4294967296))[n / 32 + i + 1] = 0 := by
          have := hz (n / 32 + i + 1) (by omega)
          rw [getD_get hi2] at this
          rw [List.getElem_set_ne (by omega)]; exact this
        rw [hz0, pB] at a2
        refine left_step (x := 0) (q2 := 0) hv a1 a2 ?_
        have hn : 2 ^ n = 4294967296 ^ (n / 32) * 2 ^ (n % 32) := by
          conv => lhs; rw [← Nat.div_add_mod n 32, Nat.pow_add, Nat.pow_mul]
        rw [hn, Nat.pow_add]
        grind
    · have hi : i = l.length := by omega
      subst hi
      rw [List.take_of_length_le (Nat.le_refl _)] at hv
      refine c_trimO oq dq fun v' hv' => ?_
      rw [hv] at hv'
      exact H _ _ e2 hv'
theorem right_or {d x : Nat} (hd : d < 4294967296) : d ||| x * 4294967296 = d + x * 4294967296 := by
  have := Nat.two_pow_add_eq_or_of_lt (i := 32) hd x
  rw [Nat.or_comm, Nat.mul_comm x, show (4294967296 : Nat) = 2 ^ 32 from rfl, ← this, Nat.add_comm]
theorem right_dig {l : List Nat} {i s : Nat} (hd : Dig 4294967296 l) (hi : i < l.length) (hs : s < 32) :
    val 4294967296 l / 2 ^ s / 4294967296 ^ i % 4294967296 = (l[i] + l.getD (i + 1) 0 * 4294967296) / 2 ^ s % 4294967296 := by
  have h1 : val 4294967296 l / 2 ^ s / 4294967296 ^ i = val 4294967296 l / 4294967296 ^ i / 2 ^ s := by
    rw [Nat.div_div_eq_div_mul, Nat.div_div_eq_div_mul, Nat.mul_comm]
  have h2 : val 4294967296 l / 4294967296 ^ i = val 4294967296 (l.drop i) := by
    have hp : 0 < 4294967296 ^ i := Nat.pow_pos (by decide)
    rw [val_split _ l (Nat.le_of_lt hi), Nat.add_mul_div_left _ _ hp, Nat.div_eq_of_lt, Nat.zero_add]
    have := val_lt (hd.take i)
    rw [List.length_take, Nat.min_eq_left (by omega)] at this
    exact this
  have h3 : ∃ X, val 4294967296 (l.drop i) = l[i] + l.getD (i + 1) 0 * 4294967296 + 18446744073709551616 * X := by
    rw [List.drop_eq_getElem_cons hi, val]
    by_cases h : i + 1 < l.length
    · rw [List.drop_eq_getElem_cons h, val, getD_get h]
      exact ⟨val 4294967296 (l.drop (i + 1 + 1)), by grind⟩
    · rw [List.drop_eq_nil_of_le (by omega), val]
      have : l.getD (i + 1) 0 = 0 := by rw [List.getD_eq_getElem?_getD]; simp [show l.length ≤ i + 1 by omega]
      exact ⟨0, by rw [this]⟩
  obtain ⟨X, hX⟩ := h3
  rw [h1, h2, hX]
  have h4 : 18446744073709551616 * X = 2 ^ s * (4294967296 * (2 ^ (32 - s) * X)) := by
    have : (4294967296 : Nat) = 2 ^ s * 2 ^ (32 - s) := by rw [← Nat.pow_add, show s + (32 - s) = 32 by omega]
    have h5 : (18446744073709551616 : Nat) = 4294967296 * (2 ^ s * 2 ^ (32 - s)) := by rw [← this]
    rw [h5]; grind
  rw [h4, Nat.add_mul_div_left _ _ (Nat.two_pow_pos _), Nat.add_mul_mod_self_left]
theorem c_magRight {u : Value} {a n : Nat} (ha : Mg w u a) (ba : bl a ≤ 1099511627776) (bn : n ≤ 9223372036854775807)
    (H : ∀ v' w', Ext w w' → MgO w' w.heap.size v' (a / 2 ^ n) → K v' w') : call P f_impl_magRight [u, .int .u64 (n : Int)] w K := by
  obtain ⟨l, h1, n1, rfl, _⟩ := ha
  have l1 := dig_len n1 ba
  have d1 := n1.1
  have hn : 2 ^ n = 4294967296 ^ (n / 32) * 2 ^ (n % 32) := by
    conv => lhs; rw [← Nat.div_add_mod n 32, Nat.pow_add, Nat.pow_mul]
  refine I_impl_magRight ?_
  unfold D_impl_magRight
  rw [h1.row.len u_s_uint32, cnv_int_uint (by omega), bin_quoN (b := 32) (by rw [max_u64]; omega) (by decide), bin_leq]
  refine cnd_dec (fun h0 => ?_) (fun h0 => ?_)
  · have e : val 4294967296 l / 2 ^ n = 0 := by
      refine Nat.div_eq_of_lt (Nat.lt_of_lt_of_le (val_lt d1) ?_)
      rw [hn]
      refine Nat.le_trans (Nat.pow_le_pow_right (by decide) (by omega : l.length ≤ n / 32)) (Nat.le_mul_of_pos_right _ (Nat.two_pow_pos _))
    rw [e] at H
    exact H _ _ (Ext.refl _) (MgO.nil _ _)
  · have hle : n / 32 < l.length := by omega
    rw [bin_quoN (b := 32) (by rw [max_u64]; omega) (by decide)]
    refine Row.sli_l h1.row h1.cap u_s_uint32 i_uint32 (by omega) fun v' r1 r2 => ?_
    have hl' : (l.drop (n / 32)).length = l.length - n / 32 := List.length_drop
    have hm : IR .u32 w v' (l.drop (n / 32)) := ⟨by rw [hl', List.map_drop]; exact r1, r2⟩
    have hdiv : val 4294967296 l / 2 ^ n = val 4294967296 (l.drop (n / 32)) / 2 ^ (n % 32) := by
      rw [hn, ← Nat.div_div_eq_div_mul]
      congr 1
      have hp : 0 < 4294967296 ^ (n / 32) := Nat.pow_pos (by decide)
      conv => lhs; rw [val_split _ l (Nat.le_of_lt hle)]
      rw [Nat.add_mul_div_left _ _ hp, Nat.div_eq_of_lt, Nat.zero_add]
      have := val_lt (d1.take (n / 32))
      rw [List.length_take, Nat.min_eq_left (by omega)] at this
      exact this
    have dm : Dig 4294967296 (l.drop (n / 32)) := d1.drop _
    rw [hdiv] at H
    generalize l.drop (n / 32) = r at *
    have hs : n % 32 < 32 := Nat.mod_lt _ (by decide)
    rw [hm.row.len u_s_uint32]
    refine OD.make u_s_uint32 i_uint32 (by omega) (by simp only [maxLen]; omega) fun w1 o ho he => ?_
    rw [(hm.ext he).row.len u_s_uint32]
    refine ⟨fun m y w' => ∃ (i : Nat) (q : List Nat), m + i = r.length ∧ y = .int .i64 (i : Int) ∧ Ext w w' ∧ OD .u32 t_uint32 w' w.heap.size o q ∧ q.length = r.length ∧ Dig 4294967296 q ∧
      val 4294967296 (q.take i) = val 4294967296 r / 2 ^ (n % 32) % 4294967296 ^ i, ⟨r.length, 0, _, rfl, rfl, he, ho, by simp, Dig_rep _ _ (by decide), by simp [val, Nat.mod_one]⟩, ?_⟩
    rintro m y junk w2 ⟨i, q, hmi, rfl, e2, oq, hq, dq, hv⟩
    rw [bin_lss]
    refine cnd_dec (fun hlt => ?_) (fun hge => ?_)
    · have hi : i < r.length := by omega
      refine (hm.ext e2).at hi u_s_uint32 i_uint32 u_uint32 ?_
      have g1 := Dig_get dm hi
      rw [cnv_32_64' g1]
      refine ⟨fun x w' => w' = w2 ∧ x = .int .u64 ((r[i] + r.getD (i + 1) 0 * 4294967296 : Nat) : Int) ∧ r.getD (i + 1) 0 < 4294967296, ?_, ?_⟩
      · rintro x junk w3 ⟨rfl, rfl, hx⟩
        rw [bin_remN (b := 32) (by decide), bin_shrN (s := n % 32) (by simp only [IntKind.bits]; omega), cnv_64_32]
        refine OD.set oq (by omega) u_s_uint32 i_uint32 fun w4 oq4 hg => ?_
        rw [bin_addI1 (b := 1) (by omega)]
        refine ⟨m - 1, by omega, i + 1, _, by omega, rfl, own_step e2 oq hg, oq4, by simpa using hq, Dig_set dq (Nat.mod_lt _ (by decide)), ?_⟩
        rw [val_set_take _ (by omega), hv, ← right_dig dm hi hs, Nat.mod_pow_succ]
      · rw [bin_addI1 (b := 1) (by omega), (hm.ext e2).row.len u_s_uint32, bin_lss]
        refine cnd_dec (fun h => ?_) (fun h => ?_)
        · have hi2 : i + 1 < r.length := by omega
          have g2 := Dig_get dm hi2
          rw [bin_addI1 (b := 1) (by omega)]
          refine (hm.ext e2).at hi2 u_s_uint32 i_uint32 u_uint32 ?_
          rw [cnv_32_64' g2, bin_shlN (s := 32) (by decide) (by rw [max_u64]; simp only [show (2 : Nat) ^ 32 = 4294967296 from rfl]; omega)]
          rw [show (2 : Nat) ^ 32 = 4294967296 from rfl]
          rw [bin_orN (b := r[i + 1] * 4294967296) (by simp only [IntKind.bits]; omega) (by simp only [IntKind.bits]; omega) rfl, right_or g1, getD_get hi2]
          exact ⟨rfl, rfl, g2⟩
        · have : r.getD (i + 1) 0 = 0 := by rw [List.getD_eq_getElem?_getD]; simp [show r.length ≤ i + 1 by omega]
          rw [this]
          exact ⟨rfl, by simp, by decide⟩
    · have hi : i = r.length := by omega
      subst hi
      rw [List.take_of_length_le (by omega), Nat.mod_eq_of_lt (Nat.lt_of_le_of_lt (Nat.div_le_self _ _) (val_lt dm))] at hv
      refine c_trimO oq dq fun v' hv' => ?_
      rw [hv] at hv'
      exact H _ _ e2 hv'
theorem bl_top {k low top : Nat} (hl : low < 2 ^ k) (ht : top ≠ 0) : bl (low + 2 ^ k * top) = k + bl top := by
  have h1 := two_bl_le ht
  have h2 := lt_two_bl top
  have h3 := bl_pos ht
  have := bl_eq (n := low + 2 ^ k * top) (k := k + (bl top - 1)) (by
    rw [Nat.pow_add]
    have := Nat.mul_le_mul_left (2 ^ k) h1
    omega) (by
    rw [show k + (bl top - 1) + 1 = k + bl top by omega, Nat.pow_add]
    have h4 : 2 ^ k * (top + 1) ≤ 2 ^ k * 2 ^ bl top := Nat.mul_le_mul_left _ h2
    rw [Nat.mul_add] at h4
    omega)
  omega
theorem bl_val {l : List Nat} (h : Norm 4294967296 l) (hl : 0 < l.length) : bl (val 4294967296 l) = 32 * (l.length - 1) + bl (l[l.length - 1]) ∧ l[l.length - 1] ≠ 0 := by
  have hz : l[l.length - 1] ≠ 0 := by
    intro hz
    have := h.2
    rw [List.getLast?_eq_getElem?, List.getElem?_eq_getElem (by omega), hz] at this
    exact this rfl
  refine ⟨?_, hz⟩
  have h1 := val_split 4294967296 l (i := l.length - 1) (by omega)
  rw [List.drop_eq_getElem_cons (by omega), List.drop_eq_nil_of_le (by omega)] at h1
  simp only [val, Nat.mul_zero, Nat.add_zero] at h1
  have h2 := val_lt (h.1.take (l.length - 1))
  rw [List.length_take, Nat.min_eq_left (by omega)] at h2
  have hp : (4294967296 : Nat) ^ (l.length - 1) = 2 ^ (32 * (l.length - 1)) := by rw [Nat.pow_mul]
  rw [hp] at h1 h2
  rw [h1, bl_top h2 hz]
theorem c_magBits {u : Value} {a : Nat} (ha : Mg w u a) (ba : bl a ≤ 1099511627776) (H : K (.int .i64 (bl a : Nat)) w) : call P f_impl_magBits [u] w K := by
  obtain ⟨l, h1, n1, rfl, _⟩ := ha
  have l1 := dig_len n1 ba
  refine I_impl_magBits ?_
  unfold D_impl_magBits
  rw [h1.row.len u_s_uint32, bin_eql]
  refine cnd_dec (fun h0 => ?_) (fun h0 => ?_)
  · obtain rfl : l = [] := List.eq_nil_of_length_eq_zero (by omega)
    exact H
  · have hl : 0 < l.length := by omega
    obtain ⟨e1, e2⟩ := bl_val n1 hl
    rw [h1.row.len u_s_uint32, bin_subI1 (b := 1) (by omega) (by omega), bin_mul, wrap_i64 (by omega) (by omega), h1.row.len u_s_uint32, bin_subI1 (b := 1) (by omega) (by omega)]
    refine h1.at (by omega) u_s_uint32 i_uint32 u_uint32 ?_
    have g1 := Dig_get n1.1 (show l.length - 1 < l.length by omega)
    refine ⟨fun m x y w' => w' = w ∧ ∃ d c : Nat, x = .int .i64 (c : Int) ∧ y = .int .u32 (d : Int) ∧ m = bl d ∧ c + bl d = bl (val 4294967296 l), ⟨bl l[l.length - 1], rfl, l[l.length - 1], 32 * (l.length - 1), by congr 1, rfl, rfl, by omega⟩, ?_⟩
    rintro m x y junk w' ⟨rfl, d, c, rfl, rfl, rfl, hc⟩
    rw [bin_gtr]
    refine cnd_dec (fun hd => ?_) (fun hd => ?_)
    · rw [bin_addI1 (b := 1) (by omega), bin_shrN (s := 1) (by decide)]
      have hb := bl_shr d 1
      have hp := bl_pos (n := d) (by omega)
      exact ⟨_, by rw [hb]; omega, rfl, _, _, rfl, rfl, rfl, by rw [hb]; omega⟩
    · have : d = 0 := by omega
      subst this
      rw [bl_zero] at hc
      rw [← hc] at H
      exact H
end Go.Proofs.YtjompmflommadaaGreatDoor


set_option linter.unusedVariables false
namespace Go.Proofs.YtjompmflommadaaGreatDoor
open Go Go.Vc
variable {w : World} {K : Value → World → Prop}
def isSl : Value → Prop
  | .slice _ _ _ => True
  | _ => False
def IntR (w : World) (p : Value) (m : Int) : Prop := ∃ s, Bx w 0 t_impl_integer p [.bool (decide (m < 0)), s] ∧ Mg w s m.natAbs
def ZO (w : World) (base : Nat) (z : Value) : Prop := ∃ b s, Bx w base t_impl_integer z [.bool b, s] ∧ isSl s
theorem IntR.ext {w' : World} {p : Value} {m : Int} (h : IntR w p m) (he : Ext w w') : IntR w' p m := let ⟨s, h1, h2⟩ := h; ⟨s, h1.ext he, h2.ext he⟩
theorem ZO.ext {w' : World} {base : Nat} {z : Value} (h : ZO w base z) (he : Ext w w') : ZO w' base z := let ⟨b, s, h1, h2⟩ := h; ⟨b, s, h1.ext he, h2⟩
theorem ZO.low {base base' : Nat} {z : Value} (h : ZO w base z) (hb : base' ≤ base) : ZO w base' z := let ⟨b, s, h1, h2⟩ := h; ⟨b, s, h1.low hb, h2⟩
theorem Mg.isSl {v : Value} {n : Nat} (h : Mg w v n) : isSl v := by
  obtain ⟨l, h1, _⟩ := h
  obtain ⟨_, _, a, cap, rfl, _⟩ := h1.row
  trivial
theorem isSl.one {v : Value} (h : isSl v) : v.oneCell' = true := by
  unfold isSl at h
  split at h
  · rfl
  · exact h.elim
theorem nch_bx {base : Nat} {t : TypeId} {p : Value} {cs : List Value} {K : Value → Prop} (h : Bx w base t p cs) : nch p K = K p := by
  obtain ⟨g, rfl, _⟩ := h
  rfl
theorem IR_kept {k : IntKind} {w' : World} {v z : Value} {l : List Nat} {base : Nat} (h : IR k w v l) (hz : ZO w base z) (hg : w.grownBy w' (blk z)) : IR k w' v l := by
  obtain ⟨b, s, ⟨g, rfl, _, hb⟩, hs⟩ := hz
  refine ⟨?_, h.cap⟩
  obtain ⟨r1, r2, a, cap, rfl, r3⟩ := h.row
  refine ⟨r1, r2, a, cap, rfl, fun hn => ?_⟩
  obtain ⟨bb, o, rfl, q⟩ := r3 hn
  refine ⟨bb, o, rfl, fun j u hu => ?_⟩
  have hq := q j u hu
  have hne : bb ≠ g := by
    rintro rfl
    obtain ⟨d, hd⟩ : ∃ d : Nat, u = iv k d := by
      rw [List.getElem?_map] at hu
      cases hl : l[j]? with
      | none => rw [hl] at hu; cases hu
      | some d => rw [hl] at hu; cases hu; exact ⟨d, rfl⟩
    subst hd
    unfold World.cell? at hq
    simp only [hb] at hq
    have : [Value.bool b, s][o + j]? = some (iv k d) := by simpa using hq
    match o + j, this with
    | 0, h => simp at h
    | 1, h => simp at h; subst h; exact hs
    | _ + 2, h => simp at h
  have hlt : bb < w.heap.size := by
    unfold World.cell? at hq
    rcases Nat.lt_or_ge bb w.heap.size with h | h
    · exact h
    · rw [Array.getElem?_eq_none h] at hq; simp at hq
  unfold World.cell? at hq ⊢
  rw [hg.block bb hlt (by simp [blk]; omega)]
  exact hq
theorem Mg.kept_box {w' : World} {v z : Value} {n : Nat} {base : Nat} (h : Mg w v n) (hz : ZO w base z) (hg : w.grownBy w' (blk z)) : Mg w' v n :=
  let ⟨l, h1, h2, h3, h4⟩ := h; ⟨l, IR_kept h1 hz hg, h2, h3, by
    obtain ⟨b, s, hb, _⟩ := hz
    intro k hk
    obtain ⟨c, f, hc⟩ := h4 k hk
    have hne : some k ≠ blk z := by
      intro e
      obtain ⟨c', f', hc'⟩ := Ty.box hb k e.symm
      rw [hc] at hc'
      simp only [Option.some.injEq, Obj.cells.injEq] at hc'
      exact absurd hc'.2.1 (by decide)
    exact ⟨c, f, by rw [hg.block k (heap_lt hc) hne]; exact hc⟩⟩
theorem IntR.kept {w' : World} {x z : Value} {m : Int} {base : Nat} (h : IntR w x m) (hz : ZO w base z) (hg : w.grownBy w' (blk z)) (hne : x ≠ z) : IntR w' x m := by
  obtain ⟨s, h1, h2⟩ := h
  refine ⟨s, h1.kept hg ?_, h2.kept_box hz hg⟩
  obtain ⟨b, s', ⟨g, rfl, _⟩, _⟩ := hz
  obtain ⟨g', rfl, _⟩ := h1
  right
  simp [blk] at hne ⊢
  omega
theorem IR.kept_at {k : IntKind} {w' : World} {v : Value} {l : List Nat} {row : Option Nat} (h : IR k w v l) (hg : w.grownBy w' row) (hne : v.ownBlock = none ∨ v.ownBlock ≠ row) : IR k w' v l := by
  refine ⟨?_, h.cap⟩
  obtain ⟨r1, r2, a, cap, rfl, r3⟩ := h.row
  refine ⟨r1, r2, a, cap, rfl, fun hn => ?_⟩
  obtain ⟨bb, o, rfl, q⟩ := r3 hn
  refine ⟨bb, o, rfl, fun j u hu => ?_⟩
  have hq := q j u hu
  have hlt : bb < w.heap.size := by
    unfold World.cell? at hq
    rcases Nat.lt_or_ge bb w.heap.size with h | h
    · exact h
    · rw [Array.getElem?_eq_none h] at hq; simp at hq
  unfold World.cell? at hq ⊢
  rw [hg.block bb hlt (by
    rcases hne with h | h
    · simp [Value.ownBlock] at h
    · simpa [Value.ownBlock] using h)]
  exact hq
theorem Ty_kept {w' : World} {k row : Option Nat} {e e' : TypeId} (h : Ty w k e) (hg : w.grownBy w' row) (ht : Ty w row e') (hne : e ≠ e') : Ty w' k e := fun b hb => by
  obtain ⟨c, f, hc⟩ := h b hb
  refine ⟨c, f, ?_⟩
  rw [hg.block b (heap_lt hc) (fun e1 => by
    obtain ⟨c', f', hc'⟩ := ht b e1.symm
    rw [hc] at hc'
    simp only [Option.some.injEq, Obj.cells.injEq] at hc'
    exact hne hc'.2.1)]
  exact hc
theorem Mg.kt {w' : World} {v : Value} {n : Nat} {row : Option Nat} {e' : TypeId} (h : Mg w v n) (hg : w.grownBy w' row) (ht : Ty w row e') (hne : t_uint32 ≠ e') : Mg w' v n :=
  let ⟨l, h1, h2, h3, h4⟩ := h; ⟨l, IR.kept_at h1 hg (h4.apart ht hne), h2, h3, Ty_kept h4 hg ht hne⟩
theorem IntR.kt {w' : World} {p : Value} {m : Int} {row : Option Nat} {e' : TypeId} (h : IntR w p m) (hg : w.grownBy w' row) (ht : Ty w row e') (h1 : t_uint32 ≠ e') (h2 : t_impl_integer ≠ e') : IntR w' p m :=
  let ⟨s, a, b⟩ := h; ⟨s, keep_box a hg ht h2, b.kt hg ht h1⟩
theorem ZO.kt {w' : World} {base : Nat} {p : Value} {row : Option Nat} {e' : TypeId} (h : ZO w base p) (hg : w.grownBy w' row) (ht : Ty w row e') (h2 : t_impl_integer ≠ e') : ZO w' base p :=
  let ⟨b, s, a, c⟩ := h; ⟨b, s, keep_box a hg ht h2, c⟩
theorem ZO.ty {base : Nat} {p : Value} (h : ZO w base p) : Ty w (blk p) t_impl_integer := let ⟨_, _, a, _⟩ := h; Ty.box a
theorem ZO.blk_ge {base : Nat} {z : Value} (h : ZO w base z) {k : Nat} (hk : blk z = some k) : base ≤ k := by
  obtain ⟨b, s, h1, _⟩ := h
  exact (h1.blk_lt hk).1
theorem alc_Z {KW : Value → World → Prop} (H : ∀ p w', ZO w' w.heap.size p → IntR w' p 0 → Ext w w' → KW p w') : alc P t_impl_integer w KW :=
  alc_bx i_impl_integer fun p w' hb he _ => H p w' ⟨false, .slice none 0 0, hb, trivial⟩ ⟨.slice none 0 0, hb.low (Nat.zero_le _), Mg.nil _⟩ he
section
variable {p : Value} {m : Int} {K : Value → Prop}
theorem IntR.neg {base : Nat} {s : Value} {b : Bool} (h : Bx w base t_impl_integer p [.bool b, s]) (H : K (.bool b)) : fda P t_impl_integer p 0 w (fun a => ld P t_bool a w K) :=
  h.fld (off := 0) rfl u_impl_integer rfl i_bool u_bool rfl H
theorem IntR.mag {base : Nat} {s : Value} {b : Bool} (h : Bx w base t_impl_integer p [.bool b, s]) (H : K s) : fda P t_impl_integer p 1 w (fun a => ld P t_s_uint32 a w K) :=
  h.fld (off := 1) rfl u_impl_integer rfl i_s_uint32 u_s_uint32 rfl H
end
def sgnI (neg : Bool) (n : Nat) : Int := if neg then -(n : Int) else n
theorem sgnI_abs (neg : Bool) (n : Nat) : (sgnI neg n).natAbs = n := by unfold sgnI; split <;> simp
theorem sgnI_neg (neg : Bool) (n : Nat) : decide (sgnI neg n < 0) = (neg && decide (0 < n)) := by
  unfold sgnI
  cases neg
  · simp
  · simp
theorem c_put {z s : Value} {neg : Bool} {l : List Nat} {base : Nat} (hz : ZO w base z) (hs : IR .u32 w s l) (hty : Ty w s.ownBlock t_uint32) (hd : Dig 4294967296 l)
    (H : ∀ w', ZO w' base z → IntR w' z (sgnI neg (val 4294967296 l)) → w.grownBy w' (blk z) → K z w') : call P f_impl_integer_put [z, .bool neg, s] w K := by
  refine I_impl_integer_put ?_
  unfold D_impl_integer_put
  refine c_magTrim hs fun s' hs' _ hbk => ?_
  obtain ⟨b, s0, hb, hs0⟩ := hz
  have hz : ZO w base z := ⟨b, s0, hb, hs0⟩
  rw [nch_bx hb]
  have hM : Mg w s' (val 4294967296 l) := ⟨_, hs', Norm.trim hd, val_trim _ _, by
    rcases hbk with e | e
    · rw [e]; exact Ty_none _ _
    · rw [e]; exact hty⟩
  refine hb.fput (off := 1) (by simp) u_impl_integer rfl i_s_uint32 hM.isSl.one fun w1 hb1 g1 => ?_
  have hM1 := hM.kept_box hz g1
  have hs1 := IR_kept hs' hz g1
  have hb1 : Bx w1 base t_impl_integer z [.bool b, s'] := hb1
  refine ⟨fun x w' => w' = w1 ∧ (x = .bool (decide (0 < val 4294967296 l)) ∨ neg = false), ?_, ?_⟩
  · rintro x junk w' ⟨rfl, hx⟩
    have hp : ∃ y, y = (neg && decide (0 < val 4294967296 l)) ∧ pick (.bool neg) x (.bool false) = fun K => K (.bool y) := by
      refine ⟨_, rfl, ?_⟩
      funext K
      rw [pick_bool]
      rcases hx with rfl | rfl
      · cases neg <;> simp
      · simp
    obtain ⟨y, hy, hp⟩ := hp
    rw [hp]
    show nch z _
    rw [nch_bx hb1]
    refine hb1.fput (off := 0) (by simp) u_impl_integer rfl i_bool rfl fun w2 hb2 g2 => ?_
    have hb2 : Bx w2 base t_impl_integer z [.bool y, s'] := hb2
    have hz1 : ZO w' base z := ⟨b, s', hb1, hM.isSl⟩
    refine H w2 ⟨y, s', hb2, hM.isSl⟩ ⟨s', ?_, ?_⟩ (grown_trans g1 g2)
    · rw [sgnI_neg, ← hy]
      exact hb2.low (Nat.zero_le _)
    · rw [sgnI_abs]
      exact hM1.kept_box hz1 g2
  · refine grd_split (fun hn => ?_) (fun hn => ?_)
    · rw [nch_bx hb1]
      refine IntR.mag hb1 ?_
      rw [hs1.row.len u_s_uint32, bin_gtr]
      refine ⟨rfl, .inl ?_⟩
      congr 1
      rw [decide_eq_decide]
      have h1 := (Norm.trim hd).eq_nil (by decide)
      rw [val_trim] at h1
      have h2 : (trim l).length = 0 ↔ val 4294967296 l = 0 := List.length_eq_zero_iff.trans h1
      omega
    · exact ⟨rfl, .inr (by simpa using hn)⟩
theorem c_putM {z s : Value} {neg : Bool} {n : Nat} {base : Nat} (hz : ZO w base z) (hs : Mg w s n)
    (H : ∀ w', ZO w' base z → IntR w' z (sgnI neg n) → w.grownBy w' (blk z) → K z w') : call P f_impl_integer_put [z, .bool neg, s] w K := by
  obtain ⟨l, h1, h2, rfl, h4⟩ := hs
  exact c_put hz h1 h4 h2.1 H
theorem grown_ext {a b c : World} {row : Option Nat} (he : Ext a b) (hg : b.grownBy c row) : a.grownBy c row := ext_grown he hg
theorem c_Sign {p : Value} {m : Int} (h : IntR w p m) (H : K (.int .i64 m.sign) w) : call P f_impl_integer_Sign [p] w K := by
  obtain ⟨s, hb, hm⟩ := h
  refine I_impl_integer_Sign ?_
  unfold D_impl_integer_Sign
  rw [nch_bx hb]
  refine IntR.neg hb ?_
  refine cnd_dec (fun hn => ?_) (fun hn => ?_)
  · rw [Int.sign_eq_neg_one_of_neg hn] at H; exact H
  · rw [nch_bx hb]
    refine IntR.mag hb ?_
    obtain ⟨l, h1, h2, h3, _⟩ := hm
    rw [h1.row.len u_s_uint32, bin_gtr]
    have e := h2.eq_nil (by decide)
    rw [h3] at e
    have e2 : l.length = 0 ↔ m.natAbs = 0 := List.length_eq_zero_iff.trans e
    refine cnd_dec (fun hp => ?_) (fun hp => ?_)
    · have : 0 < m := by omega
      rw [Int.sign_eq_one_of_pos this] at H; exact H
    · have : m = 0 := by omega
      subst this; exact H
theorem c_BitLen {p : Value} {m : Int} (h : IntR w p m) (hb : bl m.natAbs ≤ 1099511627776) (H : K (.int .i64 (bl m.natAbs : Nat)) w) : call P f_impl_integer_BitLen [p] w K := by
  obtain ⟨s, hx, hm⟩ := h
  refine I_impl_integer_BitLen ?_
  unfold D_impl_integer_BitLen
  rw [nch_bx hx]
  exact IntR.mag hx (c_magBits hm hb H)
def cmpI (a b : Int) : Int := if a < b then -1 else if b < a then 1 else 0
theorem c_Cmp {p q : Value} {a b : Int} (h1 : IntR w p a) (h2 : IntR w q b) (H : K (.int .i64 (cmpI a b)) w) : call P f_impl_integer_Cmp [p, q] w K := by
  obtain ⟨s, b1, m1⟩ := h1
  obtain ⟨t, b2, m2⟩ := h2
  refine I_impl_integer_Cmp ?_
  unfold D_impl_integer_Cmp
  rw [nch_bx b1]
  refine IntR.neg b1 ?_
  refine ⟨fun x w' => w' = w ∧ (a < 0 → x = .bool (decide (b < 0))), ?_, ?_⟩
  · rintro x junk w' ⟨rfl, hx⟩
    rw [pick_bool]
    by_cases ha : a < 0
    · rw [hx ha, decide_eq_true ha, cond_true]
      refine cnd_dec (fun hb => ?_) (fun hb => ?_)
      · rw [nch_bx b2]
        refine IntR.mag b2 ?_
        rw [nch_bx b1]
        refine IntR.mag b1 ?_
        refine c_magCmp m2 m1 ?_
        have : cmpN b.natAbs a.natAbs = cmpI a b := by unfold cmpN cmpI; split <;> split <;> (try split) <;> (try split) <;> omega
        rw [this]; exact H
      · rw [nch_bx b1]
        refine IntR.neg b1 ?_
        refine cnd_yes (decide_eq_true ha) ?_
        have : cmpI a b = -1 := by unfold cmpI; rw [if_pos (by omega)]
        rw [this] at H; exact H
    · rw [decide_eq_false ha, cond_false, cnd_false, nch_bx b1]
      refine IntR.neg b1 ?_
      refine cnd_no (decide_eq_false ha) ?_
      rw [nch_bx b2]
      refine IntR.neg b2 ?_
      refine cnd_dec (fun hb => ?_) (fun hb => ?_)
      · have : cmpI a b = 1 := by unfold cmpI; rw [if_neg (by omega), if_pos (by omega)]
        rw [this] at H; exact H
      · rw [nch_bx b1]
        refine IntR.mag b1 ?_
        rw [nch_bx b2]
        refine IntR.mag b2 ?_
        refine c_magCmp m1 m2 ?_
        have : cmpN a.natAbs b.natAbs = cmpI a b := by unfold cmpN cmpI; split <;> split <;> (try split) <;> (try split) <;> omega
        rw [this]; exact H
  · refine grd_split (fun hn => ?_) (fun hn => ?_)
    · rw [nch_bx b2]
      exact IntR.neg b2 ⟨rfl, fun _ => rfl⟩
    · exact ⟨rfl, fun ha => by rw [decide_eq_true ha] at hn; cases hn⟩
section
variable {z x y : Value} {a b : Int} {base : Nat}
theorem c_Neg (hz : ZO w base z) (hx : IntR w x a) (ba : bl a.natAbs ≤ 1099511627776) (H : ∀ w', ZO w' base z → IntR w' z (-a) → w.grownBy w' (blk z) → K z w') : call P f_impl_integer_Neg [z, x] w K := by
  obtain ⟨s, hb, hm⟩ := hx
  refine I_impl_integer_Neg ?_
  unfold D_impl_integer_Neg
  rw [nch_bx hb]
  refine IntR.neg hb ?_
  rw [una_not, nch_bx hb]
  refine IntR.mag hb ?_
  refine c_Clone hm ba fun v w1 e1 h1 => ?_
  refine ⟨e1, c_putM (hz.ext e1) h1.Mg fun w2 z2 i2 g2 => H w2 z2 ?_ (grown_ext e1 g2)⟩
  have : sgnI (!decide (a < 0)) a.natAbs = -a := by unfold sgnI; by_cases h : a < 0 <;> simp [h] <;> omega
  rw [this] at i2; exact i2
theorem c_Abs (hz : ZO w base z) (hx : IntR w x a) (ba : bl a.natAbs ≤ 1099511627776) (H : ∀ w', ZO w' base z → IntR w' z a.natAbs → w.grownBy w' (blk z) → K z w') : call P f_impl_integer_Abs [z, x] w K := by
  obtain ⟨s, hb, hm⟩ := hx
  refine I_impl_integer_Abs ?_
  unfold D_impl_integer_Abs
  rw [nch_bx hb]
  refine IntR.mag hb ?_
  refine c_Clone hm ba fun v w1 e1 h1 => ?_
  exact c_putM (hz.ext e1) h1.Mg fun w2 z2 i2 g2 => H w2 z2 i2 (grown_ext e1 g2)
theorem c_plus {s : Value} {neg : Bool} {n : Nat} (hz : ZO w base z) (hx : IntR w x a) (hs : Mg w s n) (ba : bl a.natAbs ≤ 1099511627776) (bb : bl n ≤ 1099511627776)
    (hn : n = 0 → True) (H : ∀ w', ZO w' base z → IntR w' z (a + sgnI neg n) → w.grownBy w' (blk z) → K z w') : call P f_impl_integer_plus [z, x, .bool neg, s] w K := by
  obtain ⟨s1, hb, hm⟩ := hx
  refine I_impl_integer_plus ?_
  unfold D_impl_integer_plus
  rw [nch_bx hb]
  refine IntR.neg hb ?_
  rw [bin_beql _ _ _ _ _ _ u_bool]
  refine cnd_split (fun h => ?_) (fun h => ?_)
  · have h : decide (a < 0) = neg := by simpa using h
    rw [nch_bx hb]
    refine IntR.mag hb ?_
    refine c_magAdd hm hs ba bb fun v w1 e1 h1 => ?_
    refine c_putM (hz.ext e1) h1.Mg fun w2 z2 i2 g2 => H w2 z2 ?_ (grown_ext e1 g2)
    have : sgnI neg (a.natAbs + n) = a + sgnI neg n := by unfold sgnI; subst h; by_cases h : a < 0 <;> simp [h] <;> omega
    rw [this] at i2; exact i2
  · have h : (decide (a < 0)) = !neg := by
      cases neg <;> by_cases ha : a < 0 <;> simp [ha] at h ⊢
    rw [nch_bx hb]
    refine IntR.mag hb ?_
    refine c_magCmp hm hs ?_
    rw [bin_geq]
    refine cnd_dec (fun hc => ?_) (fun hc => ?_)
    · have hle : n ≤ a.natAbs := by unfold cmpN at hc; split at hc <;> (try split at hc) <;> omega
      rw [nch_bx hb]
      refine IntR.neg hb ?_
      rw [nch_bx hb]
      refine IntR.mag hb ?_
      refine c_magSub hm hs hle ba fun v w1 e1 h1 => ?_
      refine ⟨e1, c_putM (hz.ext e1) h1.Mg fun w2 z2 i2 g2 => H w2 z2 ?_ (grown_ext e1 g2)⟩
      have : sgnI (decide (a < 0)) (a.natAbs - n) = a + sgnI neg n := by unfold sgnI; rw [h]; cases neg <;> simp at h ⊢ <;> omega
      rw [this] at i2; exact i2
    · have hle : a.natAbs ≤ n := by unfold cmpN at hc; split at hc <;> (try split at hc) <;> omega
      rw [nch_bx hb]
      refine IntR.mag hb ?_
      refine c_magSub hs hm hle bb fun v w1 e1 h1 => ?_
      refine c_putM (hz.ext e1) h1.Mg fun w2 z2 i2 g2 => H w2 z2 ?_ (grown_ext e1 g2)
      have : sgnI neg (n - a.natAbs) = a + sgnI neg n := by unfold sgnI; cases neg <;> simp at h ⊢ <;> omega
      rw [this] at i2; exact i2
theorem c_Add (hz : ZO w base z) (hx : IntR w x a) (hy : IntR w y b) (ba : bl a.natAbs ≤ 1099511627776) (bb : bl b.natAbs ≤ 1099511627776)
    (H : ∀ w', ZO w' base z → IntR w' z (a + b) → w.grownBy w' (blk z) → K z w') : call P f_impl_integer_Add [z, x, y] w K := by
  obtain ⟨s, hb, hm⟩ := hy
  refine I_impl_integer_Add ?_
  unfold D_impl_integer_Add
  rw [nch_bx hb]
  refine IntR.neg hb ?_
  rw [nch_bx hb]
  refine IntR.mag hb ?_
  refine c_plus hz hx hm ba bb (fun _ => trivial) fun w2 z2 i2 g2 => H w2 z2 ?_ g2
  have : sgnI (decide (b < 0)) b.natAbs = b := by unfold sgnI; by_cases h : b < 0 <;> simp [h] <;> omega
  rw [this] at i2; exact i2
theorem c_Sub (hz : ZO w base z) (hx : IntR w x a) (hy : IntR w y b) (ba : bl a.natAbs ≤ 1099511627776) (bb : bl b.natAbs ≤ 1099511627776)
    (H : ∀ w', ZO w' base z → IntR w' z (a - b) → w.grownBy w' (blk z) → K z w') : call P f_impl_integer_Sub [z, x, y] w K := by
  obtain ⟨s, hb, hm⟩ := hy
  refine I_impl_integer_Sub ?_
  unfold D_impl_integer_Sub
  rw [nch_bx hb]
  refine IntR.neg hb ?_
  rw [una_not, nch_bx hb]
  refine IntR.mag hb ?_
  refine c_plus hz hx hm ba bb (fun _ => trivial) fun w2 z2 i2 g2 => H w2 z2 ?_ g2
  have : a + sgnI (!decide (b < 0)) b.natAbs = a - b := by unfold sgnI; by_cases h : b < 0 <;> simp [h] <;> omega
  rw [this] at i2; exact i2
theorem c_Mul (hz : ZO w base z) (hx : IntR w x a) (hy : IntR w y b) (ba : bl a.natAbs ≤ 1099511627776) (bb : bl b.natAbs ≤ 1099511627776)
    (H : ∀ w', ZO w' base z → IntR w' z (a * b) → w.grownBy w' (blk z) → K z w') : call P f_impl_integer_Mul [z, x, y] w K := by
  obtain ⟨s, hb, hm⟩ := hx
  obtain ⟨s', hb', hm'⟩ := hy
  refine I_impl_integer_Mul ?_
  unfold D_impl_integer_Mul
  rw [nch_bx hb]
  refine IntR.neg hb ?_
  rw [nch_bx hb']
  refine IntR.neg hb' ?_
  rw [bin_bneq _ _ _ _ _ _ u_bool, nch_bx hb]
  refine IntR.mag hb ?_
  rw [nch_bx hb']
  refine IntR.mag hb' ?_
  refine c_magMul hm hm' ba bb fun v w1 e1 h1 => ?_
  refine ⟨e1, c_putM (hz.ext e1) h1.Mg fun w2 z2 i2 g2 => H w2 z2 ?_ (grown_ext e1 g2)⟩
  have : sgnI (!(decide (a < 0) == decide (b < 0))) (a.natAbs * b.natAbs) = a * b := by
    rw [← Int.natAbs_mul]
    unfold sgnI
    by_cases h1 : a < 0 <;> by_cases h2 : b < 0 <;> simp [h1, h2]
    · exact Int.le_of_lt (Int.mul_pos_of_neg_of_neg h1 h2) |> fun h => by omega
    · have := Int.mul_nonpos_of_nonpos_of_nonneg (Int.le_of_lt h1) (Int.not_lt.1 h2); omega
    · have := Int.mul_nonpos_of_nonneg_of_nonpos (Int.not_lt.1 h1) (Int.le_of_lt h2); omega
    · have := Int.mul_nonneg (Int.not_lt.1 h1) (Int.not_lt.1 h2); omega
  rw [this] at i2; exact i2
theorem c_Lsh {n : Nat} (hz : ZO w base z) (hx : IntR w x a) (ba : bl a.natAbs ≤ 1099511627776) (bn : n ≤ 1099511627776)
    (H : ∀ w', ZO w' base z → IntR w' z (a * 2 ^ n) → w.grownBy w' (blk z) → K z w') : call P f_impl_integer_Lsh [z, x, .int .u64 (n : Int)] w K := by
  obtain ⟨s, hb, hm⟩ := hx
  refine I_impl_integer_Lsh ?_
  unfold D_impl_integer_Lsh
  rw [nch_bx hb]
  refine IntR.neg hb ?_
  rw [nch_bx hb]
  refine IntR.mag hb ?_
  refine c_magLeft hm ba bn fun v w1 e1 h1 => ?_
  refine ⟨e1, c_putM (hz.ext e1) h1.Mg fun w2 z2 i2 g2 => H w2 z2 ?_ (grown_ext e1 g2)⟩
  have : sgnI (decide (a < 0)) (a.natAbs * 2 ^ n) = a * 2 ^ n := by
    unfold sgnI
    by_cases h : a < 0
    · simp only [h, decide_true, if_true, Int.natCast_mul, Int.natCast_pow]
      have : (a.natAbs : Int) = -a := by omega
      rw [this, Int.neg_mul, Int.neg_neg]; rfl
    · simp only [h, decide_false, Bool.false_eq_true, if_false, Int.natCast_mul, Int.natCast_pow]
      have : (a.natAbs : Int) = a := by omega
      rw [this]; rfl
  rw [this] at i2; exact i2
theorem neg_div {a p : Int} (h : a < 0) (hp : 0 < p) : -((-a - 1) / p + 1) = a / p := by
  have h1 := Int.mul_ediv_add_emod (-a - 1) p
  have h2 := Int.emod_nonneg (-a - 1) (Int.ne_of_gt hp)
  have h3 := Int.emod_lt_of_pos (-a - 1) hp
  generalize (-a - 1) / p = d at *
  generalize (-a - 1) % p = r at *
  have h4 : a = (p - r - 1) + p * (-(d + 1)) := by grind
  rw [h4, Int.add_mul_ediv_left _ _ (Int.ne_of_gt hp), Int.ediv_eq_zero_of_lt (by omega) (by omega)]
  omega
theorem bsl_u32 {d : Nat} {KW : Value → World → Prop} (hd : d < 4294967296) (h0 : d ≠ 0) (H : ∀ v w', Ext w w' → Mg w' v d → KW v w') : bsl P t_s_uint32 1 [(0, .int .u32 (d : Int))] w KW := by
  refine bsl_one u_s_uint32 i_uint32 rfl rfl ?_
  have he := Ext_alloc w (.cells #[.int .u32 (d : Int)] t_uint32)
  have ho : OD .u32 t_uint32 (w.alloc (.cells #[.int .u32 (d : Int)] t_uint32)) w.heap.size (.slice (some ⟨w.heap.size, 0, none⟩) 1 1) [d] := owns_lit w [.int .u32 (d : Int)] t_uint32 (by simp [maxLen])
  exact H _ _ he ⟨[d], ho.IR, ⟨fun x hx => by simp at hx; omega, by simpa using h0⟩, by simp [val], Ty.owns ho⟩
theorem c_Rsh {n : Nat} (hz : ZO w base z) (hx : IntR w x a) (ba : bl a.natAbs ≤ 1099511627775) (bn : n ≤ 9223372036854775807)
    (H : ∀ w', ZO w' base z → IntR w' z (a / 2 ^ n) → w.grownBy w' (blk z) → K z w') : call P f_impl_integer_Rsh [z, x, .int .u64 (n : Int)] w K := by
  obtain ⟨s, hb, hm⟩ := hx
  refine I_impl_integer_Rsh ?_
  unfold D_impl_integer_Rsh
  have hpc : ((2 ^ n : Nat) : Int) = (2 : Int) ^ n := by simp
  rw [nch_bx hb]
  refine IntR.neg hb ?_
  rw [una_not]
  refine cnd_split (fun h => ?_) (fun h => ?_)
  · have h : ¬ a < 0 := by simpa using h
    rw [nch_bx hb]
    refine IntR.mag hb ?_
    refine c_magRight hm (by omega) bn fun v w1 e1 h1 => ?_
    refine c_putM (hz.ext e1) h1.Mg fun w2 z2 i2 g2 => H w2 z2 ?_ (grown_ext e1 g2)
    have : sgnI false (a.natAbs / 2 ^ n) = a / 2 ^ n := by
      show ((a.natAbs / 2 ^ n : Nat) : Int) = _
      rw [Int.natCast_ediv, hpc, show (a.natAbs : Int) = a by omega]
    rw [this] at i2; exact i2
  · have h : a < 0 := by simpa using h
    rw [nch_bx hb]
    refine IntR.mag hb ?_
    refine bsl_u32 (d := 1) (by decide) (by decide) fun v1 w1 e1 m1 => ?_
    refine c_magSub (hm.ext e1) m1 (by omega) (by omega) fun v2 w2 e2 m2 => ?_
    have hs := bl_sub_le a.natAbs 1
    refine c_magRight m2.Mg (by omega) bn fun v3 w3 e3 m3 => ?_
    refine bsl_u32 (d := 1) (by decide) (by decide) fun v4 w4 e4 m4 => ?_
    have hs2 := bl_shr (a.natAbs - 1) n
    refine c_magAdd (m3.Mg.ext e4) m4 (by omega) (by rw [bl_one]; decide) fun v5 w5 e5 m5 => ?_
    have E := e1.trans (e2.trans (e3.trans (e4.trans e5)))
    refine c_putM (hz.ext E) m5.Mg fun w6 z6 i6 g6 => H w6 z6 ?_ (grown_ext E g6)
    have : sgnI true ((a.natAbs - 1) / 2 ^ n + 1) = a / 2 ^ n := by
      have hp : (0 : Int) < 2 ^ n := Int.pow_pos (by decide)
      show -((((a.natAbs - 1) / 2 ^ n + 1 : Nat)) : Int) = _
      rw [Int.natCast_add, Int.natCast_ediv, hpc]
      have h2 : ((a.natAbs - 1 : Nat) : Int) = -a - 1 := by omega
      rw [h2]
      exact neg_div (by omega) hp
    rw [this] at i6; exact i6
end
end Go.Proofs.YtjompmflommadaaGreatDoor


set_option linter.unusedVariables false
namespace Go.Proofs.YtjompmflommadaaGreatDoor
open Go Go.Vc
variable {w : World} {K : Value → World → Prop}
theorem c_SetInt64 {z : Value} {n : Int} {base : Nat} (hz : ZO w base z) (h1 : -9223372036854775808 ≤ n) (h2 : n ≤ 9223372036854775807)
    (H : ∀ w', ZO w' base z → IntR w' z n → w.grownBy w' (blk z) → K z w') : call P f_impl_integer_SetInt64 [z, .int .i64 n] w K := by
  refine I_impl_integer_SetInt64 ?_
  unfold D_impl_integer_SetInt64
  rw [cnv_int_int u_int64 u_uint64]
  refine ⟨fun x w' => w' = w ∧ x = .int .u64 (n.natAbs : Int), ?_, ?_⟩
  · rintro x junk w' ⟨rfl, rfl⟩
    rw [bin_lss, cnv_64_32, bin_shrN (s := 32) (by decide), cnv_64_32]
    rw [show (2 : Nat) ^ 32 = 4294967296 from rfl]
    have hm : n.natAbs / 4294967296 % 4294967296 = n.natAbs / 4294967296 := Nat.mod_eq_of_lt (by omega)
    rw [hm]
    refine bsl_two u_s_uint32 i_uint32 rfl rfl rfl ?_
    have he := Ext_alloc w' (.cells #[.int .u32 ((n.natAbs % 4294967296 : Nat) : Int), .int .u32 ((n.natAbs / 4294967296 : Nat) : Int)] t_uint32)
    have ho : OD .u32 t_uint32 (w'.alloc (.cells #[.int .u32 ((n.natAbs % 4294967296 : Nat) : Int), .int .u32 ((n.natAbs / 4294967296 : Nat) : Int)] t_uint32)) w'.heap.size (.slice (some ⟨w'.heap.size, 0, none⟩) 2 2) [n.natAbs % 4294967296, n.natAbs / 4294967296] :=
      owns_lit w' [.int .u32 ((n.natAbs % 4294967296 : Nat) : Int), .int .u32 ((n.natAbs / 4294967296 : Nat) : Int)] t_uint32 (by simp [maxLen])
    have hd : Dig 4294967296 [n.natAbs % 4294967296, n.natAbs / 4294967296] := fun d hd => by
      simp only [List.mem_cons, List.not_mem_nil, or_false] at hd
      rcases hd with rfl | rfl
      · exact Nat.mod_lt _ (by decide)
      · omega
    refine c_put (hz.ext he) ho.IR (Ty.owns ho) hd fun w2 z2 i2 g2 => H w2 z2 ?_ (grown_ext he g2)
    have e : val 4294967296 [n.natAbs % 4294967296, n.natAbs / 4294967296] = n.natAbs := by
      simp only [val]
      have := Nat.div_add_mod n.natAbs 4294967296
      omega
    rw [e] at i2
    have : sgnI (decide (n < 0)) n.natAbs = n := by unfold sgnI; by_cases h : n < 0 <;> simp [h] <;> omega
    rw [this] at i2; exact i2
  · rw [bin_lss]
    have hw : IntKind.u64.wrap n = if n < 0 then n + 18446744073709551616 else n := by
      simp [IntKind.wrap, IntKind.bits, IntKind.signed]; split <;> omega
    refine cnd_dec (fun h => ?_) (fun h => ?_)
    · rw [una_neg_int, hw, if_pos h]
      refine ⟨rfl, ?_⟩
      congr 1
      have : IntKind.u64.wrap (0 - (n + 18446744073709551616)) = (-n) % 18446744073709551616 := by
        simp [IntKind.wrap, IntKind.bits, IntKind.signed]; omega
      rw [this]; omega
    · rw [hw, if_neg h]
      exact ⟨rfl, by congr 1; omega⟩
theorem c_newInt {n : Int} (h1 : -9223372036854775808 ≤ n) (h2 : n ≤ 9223372036854775807)
    (H : ∀ p w', Ext w w' → ZO w' w.heap.size p → IntR w' p n → K p w') : call P f_impl_newInt [.int .i64 n] w K := by
  refine I_impl_newInt ?_
  unfold D_impl_newInt
  refine alc_Z fun p w1 z1 _ e1 => ?_
  exact c_SetInt64 z1 h1 h2 fun w2 z2 i2 g2 => H p w2 (ext_of_grown e1 (fun g hg => z1.blk_ge hg) g2) z2 i2
theorem bl0_min_i64 {ats : Array TypeId} {ty : TypeId} {k : IntKind} {a b : Int} {K : Value → Prop} : bl0 P .min ats ty [.int k a, .int k b] w K = K (.int k (min a b)) := by
  unfold bl0
  have : rv P (builtin .min ats ty #[] [.int k a, .int k b].toArray) w = some (.value (.int k (min a b))) := by
    have e : min a b = if b < a then b else a := by split <;> omega
    rw [e]
    simp [builtin, Builtin.min_, Builtin.min2]
  rw [this]
  simp [valK]
theorem bl0_max_i64 {ats : Array TypeId} {ty : TypeId} {k : IntKind} {a b : Int} {K : Value → Prop} : bl0 P .max ats ty [.int k a, .int k b] w K = K (.int k (max a b)) := by
  unfold bl0
  have : rv P (builtin .max ats ty #[] [.int k a, .int k b].toArray) w = some (.value (.int k (max a b))) := by
    have e : max a b = if a < b then b else a := by split <;> omega
    rw [e]
    simp [builtin, Builtin.max_, Builtin.max2]
  rw [this]
  simp [valK]
theorem c_low {p : Value} {m : Int} (h : IntR w p m) (hm : m.natAbs < 18446744073709551616) (H : K (.int .u64 (m.natAbs : Int)) w) : call P f_impl_integer_low [p] w K := by
  obtain ⟨s, hb, l, h1, h2, h3, _⟩ := h
  have b1 := h1.bound
  refine I_impl_integer_low ?_
  unfold D_impl_integer_low
  rw [nch_bx hb]
  refine IntR.mag hb ?_
  rw [h1.row.len u_s_uint32]
  have hlen : l.length ≤ 2 := by
    refine Nat.le_of_not_lt fun hc => ?_
    have := h2.ge (by rintro rfl; simp at hc)
    have h4 : (4294967296 : Nat) ^ 2 ≤ 4294967296 ^ (l.length - 1) := Nat.pow_le_pow_right (by decide) (by omega)
    have h5 : (4294967296 : Nat) ^ 2 = 18446744073709551616 := by decide
    omega
  have hmin : bl0 P .min #[t_int, t_int] t_int [.int .i64 (l.length : Int), .int .i64 2] w = fun K => K (.int .i64 (l.length : Int)) := by
    funext K
    rw [bl0_min_i64]
    congr 2; omega
  rw [hmin]
  show bin P .sub t_int false true (.int .i64 (l.length : Int)) (.int .i64 1) w _
  rw [bin_sub, wrap_i64 (by omega) (by omega)]
  refine ⟨fun g x y w' => w' = w ∧ ∃ u : Nat, x = .int .u64 (u : Int) ∧ y = .int .i64 ((g : Int) - 1) ∧ g ≤ l.length ∧ u = val 4294967296 (l.drop g), ⟨l.length, rfl, 0, rfl, rfl, Nat.le_refl _, by simp [val]⟩, ?_⟩
  rintro g x y junk w' ⟨rfl, u, rfl, rfl, hg, hu⟩
  rw [bin_geq]
  refine cnd_dec (fun hge => ?_) (fun hlt => ?_)
  · have hg0 : 0 < g := by omega
    have hi : g - 1 < l.length := by omega
    have g1 := Dig_get h2.1 hi
    have hul : u < 4294967296 := by
      have := val_lt (h2.1.drop g)
      rw [List.length_drop, ← hu] at this
      have h4 : (4294967296 : Nat) ^ (l.length - g) ≤ 4294967296 ^ 1 := Nat.pow_le_pow_right (by decide) (by omega)
      omega
    rw [bin_shlN (s := 32) (by decide) (by rw [max_u64, show (2 : Nat) ^ 32 = 4294967296 from rfl]; omega), show (2 : Nat) ^ 32 = 4294967296 from rfl]
    rw [nch_bx hb]
    refine IntR.mag hb ?_
    rw [show (g : Int) - 1 = ((g - 1 : Nat) : Int) by omega]
    refine h1.at hi u_s_uint32 i_uint32 u_uint32 ?_
    rw [cnv_32_64' g1, bin_orN (b := l[g - 1]) (by simp only [IntKind.bits]; omega) (by simp only [IntKind.bits]; omega) rfl, Nat.or_comm, right_or g1]
    rw [bin_sub, wrap_i64 (by omega) (by omega)]
    refine ⟨g - 1, by omega, rfl, _, rfl, by congr 1, by omega, ?_⟩
    rw [List.drop_eq_getElem_cons hi, val, show g - 1 + 1 = g by omega, ← hu, Nat.mul_comm]
  · have : g = 0 := by omega
    subst this
    rw [List.drop_zero, h3] at hu
    subst hu
    exact H
theorem c_Int64 {p : Value} {m : Int} (h : IntR w p m) (hm : m.natAbs < 9223372036854775808) (H : K (.int .i64 m) w) : call P f_impl_integer_Int64 [p] w K := by
  have h0 := h
  obtain ⟨s, hb, l, h1, h2, h3, _⟩ := h
  refine I_impl_integer_Int64 ?_
  unfold D_impl_integer_Int64
  rw [nch_bx hb]
  refine IntR.neg hb ?_
  refine cnd_dec (fun hn => ?_) (fun hn => ?_)
  · refine c_low h0 (by omega) ?_
    rw [cnv_int_int u_uint64 u_int64, wrap_i64 (by omega) (by omega), una_neg_int, wrap_i64 (by omega) (by omega)]
    rw [show (0 : Int) - (m.natAbs : Int) = m by omega]
    exact H
  · refine c_low h0 (by omega) ?_
    rw [cnv_int_int u_uint64 u_int64, wrap_i64 (by omega) (by omega)]
    rw [show (m.natAbs : Int) = m by omega]
    exact H
theorem bit_val {l : List Nat} (hd : Dig 4294967296 l) (i : Nat) : val 4294967296 l / 2 ^ i % 2 = l.getD (i / 32) 0 / 2 ^ (i % 32) % 2 := by
  have hn : 2 ^ i = 4294967296 ^ (i / 32) * 2 ^ (i % 32) := by
    conv => lhs; rw [← Nat.div_add_mod i 32, Nat.pow_add, Nat.pow_mul]
  have hs : i % 32 < 32 := Nat.mod_lt _ (by decide)
  rw [hn, ← Nat.div_div_eq_div_mul]
  by_cases h : i / 32 < l.length
  · have hp : 0 < 4294967296 ^ (i / 32) := Nat.pow_pos (by decide)
    have h1 : val 4294967296 l / 4294967296 ^ (i / 32) = val 4294967296 (l.drop (i / 32)) := by
      rw [val_split _ l (Nat.le_of_lt h), Nat.add_mul_div_left _ _ hp, Nat.div_eq_of_lt, Nat.zero_add]
      have := val_lt (hd.take (i / 32))
      rw [List.length_take, Nat.min_eq_left (by omega)] at this
      exact this
    rw [h1, List.drop_eq_getElem_cons h, val, getD_get h]
    have h2 : (4294967296 : Nat) = 2 ^ (i % 32) * (2 * 2 ^ (31 - i % 32)) := by
      rw [← Nat.pow_succ', ← Nat.pow_add, show i % 32 + (31 - i % 32).succ = 32 by omega]
    have h3 : ∀ X, 4294967296 * X = 2 ^ (i % 32) * (2 * (2 ^ (31 - i % 32) * X)) := fun X => by
      conv => lhs; rw [h2]
      grind
    rw [h3, Nat.add_mul_div_left _ _ (Nat.two_pow_pos _), Nat.add_mul_mod_self_left]
  · have h1 : val 4294967296 l / 4294967296 ^ (i / 32) = 0 :=
      Nat.div_eq_of_lt (Nat.lt_of_lt_of_le (val_lt hd) (Nat.pow_le_pow_right (by decide) (by omega)))
    have h2 : l.getD (i / 32) 0 = 0 := by rw [List.getD_eq_getElem?_getD]; simp [show l.length ≤ i / 32 by omega]
    rw [h1, h2]
theorem c_Bit {p : Value} {m : Int} {i : Nat} (h : IntR w p m) (hi : i ≤ 9223372036854775807) (H : K (.int .u64 ((m.natAbs / 2 ^ i % 2 : Nat) : Int)) w) : call P f_impl_integer_Bit [p, .int .i64 (i : Int)] w K := by
  obtain ⟨s, hb, l, h1, h2, h3, _⟩ := h
  have hv := bit_val h2.1 i
  rw [h3] at hv
  rw [hv] at H
  refine I_impl_integer_Bit ?_
  unfold D_impl_integer_Bit
  rw [bin_quoN (b := 32) (by rw [max_i64]; omega) (by decide), nch_bx hb]
  refine IntR.mag hb ?_
  rw [h1.row.len u_s_uint32, bin_geq]
  refine cnd_dec (fun hge => ?_) (fun hlt => ?_)
  · have h2 : l.getD (i / 32) 0 = 0 := by rw [List.getD_eq_getElem?_getD]; simp [show l.length ≤ i / 32 by omega]
    rw [h2] at H
    simpa using H
  · have hlt : i / 32 < l.length := by omega
    rw [nch_bx hb]
    refine IntR.mag hb ?_
    rw [bin_quoN (b := 32) (by rw [max_i64]; omega) (by decide)]
    refine h1.at hlt u_s_uint32 i_uint32 u_uint32 ?_
    have g1 := Dig_get h2.1 hlt
    rw [bin_remN (b := 32) (by decide), bin_shrN (s := i % 32) (by simp only [IntKind.bits]; omega)]
    have hq : l[i / 32] / 2 ^ (i % 32) < 2 ^ IntKind.u32.bits := Nat.lt_of_le_of_lt (Nat.div_le_self _ _) g1
    rw [bin_andN (b := 1) hq (by decide) rfl, Nat.and_one_is_mod, cnv_int_int u_uint32 u_uint, w_u64' (by omega)]
    rw [getD_get hlt] at H
    exact H
def IsTz (n k : Nat) : Prop := if n = 0 then k = 0 else n % 2 ^ k = 0 ∧ n / 2 ^ k % 2 = 1
end Go.Proofs.YtjompmflommadaaGreatDoor


set_option linter.unusedVariables false
namespace Go.Proofs.YtjompmflommadaaGreatDoor
open Go Go.Vc
variable {w : World} {K : Value → World → Prop}
theorem one_2 {a b : Value} (ha : a.oneCell' = true) (hb : b.oneCell' = true) : ∀ x ∈ [a, b], x.oneCell' = true := by
  intro x hx
  simp only [List.mem_cons, List.not_mem_nil, or_false] at hx
  rcases hx with rfl | rfl <;> assumption
theorem one_3 {a b c : Value} (ha : a.oneCell' = true) (hb : b.oneCell' = true) (hc : c.oneCell' = true) : ∀ x ∈ [a, b, c], x.oneCell' = true := by
  intro x hx
  simp only [List.mem_cons, List.not_mem_nil, or_false] at hx
  rcases hx with rfl | rfl | rfl <;> assumption
theorem Bx_fa {w : World} {base : Nat} {t ty : TypeId} {p : Value} {cs : List Value} {fs : Array Field} {f off b : Nat} {z : Value} {d : TypeDesc} (h : Bx w base t p cs) (hu : P.underlying t = some (.struct fs)) (hf : (fs[f]?).map (fun x => (x.type, x.offset)) = some (ty, off)) (ht : TI P ty z 1 b)
    (hue : P.underlying ty = some d) (hd : aggB d = false) :
    ∃ a, (∀ (w : World) (K : Value → Prop), fda P t p f w K = K a) ∧ (∀ {w' : World} {base' : Nat} {cs' : List Value} {x : Value}, Bx w' base' t p cs' → cs'[off]? = some x → ∀ K, ld P ty a w' K = K x) ∧
      (∀ {w' : World} {base' : Nat} {cs' : List Value} {x : Value} {K : World → Prop}, Bx w' base' t p cs' → off < cs'.length → x.oneCell' = true → (∀ w'', Bx w'' base' t p (cs'.set off x) → w'.grownBy w'' (blk p) → K w'') → sto P ty a x w' K) := by
  obtain ⟨g, rfl, hb, hg⟩ := h
  have ha : (Addr.mk g 0 none).add off = ⟨g, off, none⟩ := by rw [Addr.add_lit, Nat.zero_add]
  refine ⟨.pointer (some ⟨g, off, none⟩), fun w K => by rw [fda_off hu hf ht (by decide), ha], fun h' hx K => ?_, fun h' ho h1 H => ?_⟩
  · obtain ⟨g', e, _, hg'⟩ := h'
    cases e
    rw [ld_scalar hue hd (v := _)]
    unfold World.cell?
    simp [hg', hx]
  · obtain ⟨g', e, hb', hg'⟩ := h'
    cases e
    rename_i cs' x K
    refine sto_scalar ht h1 (u := cs'[off]) ?_ ?_ (H _ ⟨g, rfl, hb', setCell_block hg'⟩ setCell_grown)
    · simp [World.cell?, hg', ho]
    · simp [World.frozen?, hg']
theorem app_ODx {k : IntKind} {t e : TypeId} {b base : Nat} {v : Value} {l : List Nat} {d : Nat} {KW : Value → World → Prop} (h : OD k e w base v l) (hu : P.underlying t = some (.slice e)) (ht : TI P e (.int k 0) 1 b) (hn : l.length + 1 ≤ maxLen) (hby : (l.length + 1) * b ≤ 140737488355328) (hbase : base ≤ w.heap.size)
    (H : ∀ v' w', OD k e w' base v' (l ++ [d]) → w.grownBy w' v.ownBlock → KW v' w') : bsl P t 1 [(0, iv k d)] w fun y w2 => Ext w w2 ∧ bl2 P .append #[t, t] t [v, y] w2 KW := by
  refine app1x h rfl hu ht rfl hn hby hbase fun v' w' ho hg => H v' w' ?_ hg
  unfold OD
  rw [List.length_append, List.map_append]
  exact ho
theorem app_OD {k : IntKind} {t e : TypeId} {b base : Nat} {v : Value} {l : List Nat} {d : Nat} {KW : Value → World → Prop} (h : OD k e w base v l) (hu : P.underlying t = some (.slice e)) (ht : TI P e (.int k 0) 1 b) (hn : l.length + 1 ≤ maxLen) (hby : (l.length + 1) * b ≤ 140737488355328) (hbase : base ≤ w.heap.size)
    (H : ∀ v' w', OD k e w' base v' (l ++ [d]) → w.grownBy w' v.ownBlock → KW v' w') : bsl P t 1 [(0, iv k d)] w fun y w2 => bl2 P .append #[t, t] t [v, y] w2 KW :=
  SemA_mono (fun _ _ q => q.2) (app_ODx h hu ht hn hby hbase H)
theorem and_split {a b x y k : Nat} (ha : a < 2 ^ k) (hb : b < 2 ^ k) : (a + 2 ^ k * x) &&& (b + 2 ^ k * y) = (a &&& b) + 2 ^ k * (x &&& y) := by
  have hab : a &&& b < 2 ^ k := Nat.lt_of_le_of_lt Nat.and_le_left ha
  apply Nat.eq_of_testBit_eq
  intro j
  rw [Nat.testBit_and, Nat.add_comm a, Nat.add_comm b, Nat.add_comm (a &&& b), Nat.testBit_two_pow_mul_add _ ha, Nat.testBit_two_pow_mul_add _ hb, Nat.testBit_two_pow_mul_add _ hab]
  split <;> rw [Nat.testBit_and]
theorem p32 (i : Nat) : (4294967296 : Nat) ^ i = 2 ^ (32 * i) := by rw [Nat.pow_mul]
theorem c_And {z x y : Value} {a b : Int} {base : Nat} (hz : ZO w base z) (hx : IntR w x a) (hy : IntR w y b) (ba : bl a.natAbs ≤ 1099511627776)
    (H : ∀ w', ZO w' base z → IntR w' z (a.natAbs &&& b.natAbs : Nat) → w.grownBy w' (blk z) → K z w') : call P f_impl_integer_And [z, x, y] w K := by
  obtain ⟨s1, hb1, l, h1, n1, v1, _⟩ := hx
  obtain ⟨s2, hb2, r, h2, n2, v2, _⟩ := hy
  have d1 := n1.1
  have d2 := n2.1
  have l1 := dig_len n1 (by rw [v1]; exact ba)
  refine I_impl_integer_And ?_
  unfold D_impl_integer_And
  refine bsl_nil u_s_uint32 i_uint32 ?_
  have he := Ext_alloc w (.cells #[] t_uint32)
  have ho : OD .u32 t_uint32 (w.alloc (.cells #[] t_uint32)) w.heap.size (.slice (some ⟨w.heap.size, 0, none⟩) 0 0) [] := owns_lit w [] t_uint32
  generalize w.alloc (.cells #[] t_uint32) = w1 at he ho ⊢
  rw [nch_bx hb1]
  refine IntR.mag (hb1.ext he) ?_
  rw [(h1.ext he).row.len u_s_uint32, nch_bx hb2]
  refine IntR.mag (hb2.ext he) ?_
  rw [(h2.ext he).row.len u_s_uint32, bl0_min_i64, show min (l.length : Int) (r.length : Int) = ((min l.length r.length : Nat) : Int) by omega]
  refine ⟨fun g x y w' => ∃ (i : Nat) (q : List Nat), g + i = min l.length r.length ∧ y = .int .i64 (i : Int) ∧ Ext w w' ∧ OD .u32 t_uint32 w' w.heap.size x q ∧ q.length = i ∧ Dig 4294967296 q ∧
    val 4294967296 q = val 4294967296 (l.take i) &&& val 4294967296 (r.take i), ⟨min l.length r.length, 0, [], rfl, rfl, he, ho, rfl, (by intro d hd; cases hd), by simp [val]⟩, ?_⟩
  rintro g x y junk w2 ⟨i, q, hg, rfl, e2, oq, hq, dq, hv⟩
  rw [bin_lss]
  refine cnd_dec (fun hlt => ?_) (fun hge => ?_)
  · have hi1 : i < l.length := by omega
    have hi2 : i < r.length := by omega
    rw [nch_bx hb1]
    refine IntR.mag (hb1.ext e2) ?_
    refine (h1.ext e2).at hi1 u_s_uint32 i_uint32 u_uint32 ?_
    rw [nch_bx hb2]
    refine IntR.mag (hb2.ext e2) ?_
    refine (h2.ext e2).at hi2 u_s_uint32 i_uint32 u_uint32 ?_
    have g1 := Dig_get d1 hi1
    have g2 := Dig_get d2 hi2
    rw [bin_andN (b := r[i]) (by simpa [IntKind.bits] using g1) (by simpa [IntKind.bits] using g2) rfl]
    refine app_OD oq u_s_uint32 i_uint32 (by rw [hq]; simp only [maxLen]; omega) (by omega) e2.size fun v' w3 o3 hg3 => ?_
    rw [bin_addI1 (b := 1) (by omega)]
    have hand : l[i] &&& r[i] < 4294967296 := Nat.lt_of_le_of_lt Nat.and_le_left g1
    refine ⟨g - 1, by omega, i + 1, _, by omega, rfl, own_step e2 oq hg3, o3, by simp [hq], fun d hd => ?_, ?_⟩
    · rcases List.mem_append.1 hd with hd | hd
      · exact dq d hd
      · simp at hd; omega
    · rw [val_snoc, val_take_succ _ hi1, val_take_succ _ hi2, hv, hq, p32]
      refine (and_split ?_ ?_).symm
      · have := val_lt (d1.take i)
        rw [List.length_take, Nat.min_eq_left (by omega), p32] at this; exact this
      · have := val_lt (d2.take i)
        rw [List.length_take, Nat.min_eq_left (by omega), p32] at this; exact this
  · have hi : i = min l.length r.length := by omega
    have e : val 4294967296 q = a.natAbs &&& b.natAbs := by
      rw [hv, ← v1, ← v2]
      have s1 := val_split 4294967296 l (i := i) (by omega)
      have s2 := val_split 4294967296 r (i := i) (by omega)
      have t1 := val_lt (d1.take i)
      rw [List.length_take, Nat.min_eq_left (by omega), p32] at t1
      have t2 := val_lt (d2.take i)
      rw [List.length_take, Nat.min_eq_left (by omega), p32] at t2
      have hz : val 4294967296 (l.drop i) &&& val 4294967296 (r.drop i) = 0 := by
        rcases Nat.le_total l.length r.length with h | h
        · rw [List.drop_eq_nil_of_le (by omega : l.length ≤ i)]; simp [val]
        · rw [List.drop_eq_nil_of_le (by omega : r.length ≤ i)]; simp [val]
      rw [s1, s2, p32, and_split t1 t2, hz]
      simp
    have hz2 := hz.ext e2
    refine c_put hz2 oq.IR (Ty.owns oq) dq fun w3 z3 i3 g3 => H w3 z3 ?_ (grown_ext e2 g3)
    rw [e] at i3; exact i3
def Wl (l : List Nat) (m : Int) : Prop := Norm 16777216 l ∧ val 16777216 l = m.natAbs
structure LR (w : World) (s : Value) (l : List Nat) : Prop extends IR .i64 w s l where
  ty : Ty w s.ownBlock t_int64
instance {w : World} {s : Value} {l : List Nat} : Coe (LR w s l) (IR .i64 w s l) := ⟨LR.toIR⟩
theorem LR.ext {w' : World} {s : Value} {l : List Nat} (h : LR w s l) (he : Ext w w') : LR w' s l := ⟨h.toIR.ext he, Ty_ext h.ty he⟩
theorem LR.of {base : Nat} {s : Value} {l : List Nat} (h : OD .i64 t_int64 w base s l) : LR w s l := ⟨OD.IR h, Ty.owns h⟩
theorem LR.nil (w : World) : LR w (.slice none 0 0) [] := ⟨IR.nil _ _, Ty_none _ _⟩
theorem LR.kt {w' : World} {s : Value} {l : List Nat} {row : Option Nat} {e' : TypeId} (h : LR w s l) (hg : w.grownBy w' row) (ht : Ty w row e') (hne : t_int64 ≠ e') : LR w' s l :=
  ⟨IR.kept_at h.toIR hg (h.ty.apart ht hne), Ty_kept h.ty hg ht hne⟩
def Wr (w : World) (v : Value) (m : Int) : Prop := ∃ s l, v = .agg #[.int .i64 m.sign, s] ∧ LR w s l ∧ Wl l m
def Wo (w : World) (lo hi : Nat) (v : Value) (m : Int) : Prop := ∃ s l, v = .agg #[.int .i64 m.sign, s] ∧ OwnR w lo hi t_int64 1 s l.length (l.map (iv .i64)) ∧ Wl l m
theorem Wr.ext {w' : World} {v : Value} {m : Int} (h : Wr w v m) (he : Ext w w') : Wr w' v m := let ⟨s, l, h1, h2, h3⟩ := h; ⟨s, l, h1, h2.ext he, h3⟩
theorem Wo.ext {w' : World} {lo hi : Nat} {v : Value} {m : Int} (h : Wo w lo hi v m) (he : Ext w w') : Wo w' lo hi v m := let ⟨s, l, h1, h2, h3⟩ := h; ⟨s, l, h1, h2.ext he, h3⟩
theorem Wo.Wr {lo hi : Nat} {v : Value} {m : Int} (h : Wo w lo hi v m) : Wr w v m := let ⟨s, l, h1, h2, h3⟩ := h; ⟨s, l, h1, LR.of h2.own, h3⟩
theorem Wl.zero : Wl [] 0 := ⟨Norm.nil _, rfl⟩
theorem Wr.zero (w : World) : Wr w (.agg #[.int .i64 0, .slice none 0 0]) 0 := ⟨_, [], rfl, LR.nil _, Wl.zero⟩
theorem bld_Whole0 {K : Value → Prop} : bld P t_impl_Whole [] w K = K (.agg #[.int .i64 0, .slice none 0 0]) := bld_of (by kernel_rfl)
theorem bld_Whole1 {n : Int} {K : Value → Prop} : bld P t_impl_Whole [(0, .int .i64 n)] w K = K (.agg #[.int .i64 n, .slice none 0 0]) := bld_of (by kernel_rfl)
end Go.Proofs.YtjompmflommadaaGreatDoor


set_option linter.unusedVariables false
namespace Go.Proofs.YtjompmflommadaaGreatDoor
open Go Go.Vc
variable {w : World} {K : Value → World → Prop}
theorem and_mask (a : Nat) : a &&& 16777215 = a % 16777216 := Nat.and_two_pow_sub_one_eq_mod a 24
theorem blk_ne {w1 w2 : World} {b1 b2 : Nat} {t1 t2 : TypeId} {p q : Value} {c1 c2 : List Value} (h1 : Bx w1 b1 t1 p c1) (h2 : Bx w2 b2 t2 q c2) (h : w1.heap.size ≤ b2) : blk p = none ∨ blk p ≠ blk q := by
  obtain ⟨g, rfl, _, hg⟩ := h1
  obtain ⟨g', rfl, hb, _⟩ := h2
  have := heap_lt hg
  right
  simp only [blk, ne_eq, Option.some.injEq]
  omega
theorem digs_step {Q p r n q0 q1 : Nat} (h : Q + p * r = n) (h0 : q0 = r % 16777216) (h1 : q1 = r / 16777216) : Q + p * q0 + p * 16777216 * q1 = n := by
  have := Nat.div_add_mod r 16777216
  subst h0 h1
  rw [← h]
  conv => rhs; rw [← this]
  grind
theorem c_fromBig {p : Value} {m : Int} (h : IntR w p m) (hb : bl m.natAbs ≤ 1099511627775)
    (H0 : 2400 < bl m.natAbs → ∀ w', Ext w w' → K (.tuple #[.agg #[.int .i64 0, .slice none 0 0], .bool false]) w')
    (H1 : bl m.natAbs ≤ 2400 → ∀ v w', Ext w w' → Wo w' w.heap.size w'.heap.size v m → K (.tuple #[v, .bool true]) w') : call P f_impl_fromBig [p] w K := by
  refine I_impl_fromBig ?_
  unfold D_impl_fromBig
  refine alc_bx i_impl_Whole fun x2 w2 b2 e2 _ => ?_
  have h2 := h.ext e2
  refine c_BitLen h2 (by omega) ?_
  rw [bin_gtr]
  refine cnd_dec (fun hgt => ?_) (fun hle => ?_)
  · rw [bld_Whole0]
    refine b2.put i_impl_Whole (ds := [.int .i64 0, .slice none 0 0]) rfl rfl (one_2 rfl rfl) fun w3 b3 g3 => ?_
    refine b3.getc u_impl_Whole rfl i_impl_Whole rfl ?_
    exact H0 (by omega) _ (ext_of_grown e2 (fun g hg => (b2.blk_lt hg).1) g3)
  · have hle : bl m.natAbs ≤ 2400 := by omega
    refine c_Sign h2 ?_
    rw [bld_Whole1]
    refine alc_bx i_impl_Whole fun x4 w4 b4 e4 _ => ?_
    refine b4.put i_impl_Whole (ds := [.int .i64 m.sign, .slice none 0 0]) rfl rfl (one_2 rfl rfl) fun w5 b5 g5 => ?_
    have ne24 := blk_ne b2 b4 (Nat.le_refl _)
    have b25 := (b2.ext e4).kept g5 (by rcases ne24 with q | q; exact .inr (by rw [q]; obtain ⟨g, rfl, _⟩ := b4; simp [blk]); exact .inr fun e => q e.symm)
    have e5 : Ext w2 w5 := ext_of_grown e4 (fun g hg => (b4.blk_lt hg).1) g5
    have E5 := e2.trans e5
    refine alc_Z fun x14 w6 z6 _ e6 => ?_
    refine c_Abs z6 ((h.ext E5).ext e6) (by omega) fun w7 z7 i7 g7 => ?_
    have e7 : Ext w5 w7 := ext_of_grown e6 (fun g hg => z6.blk_ge hg) g7
    refine c_newInt (by decide) (by decide) fun x17 w8 e8 z8 i8 => ?_
    have E8 := E5.trans (e7.trans e8)
    have s2 := e2.size
    have s5 := E5.size
    have s58 := (e7.trans e8).size
    have ne : x17 ≠ x14 := by
      rintro rfl
      obtain ⟨b, s, q1, _⟩ := z7
      obtain ⟨b', s', q2, _⟩ := z8
      obtain ⟨g, rfl, _, hg⟩ := q1
      obtain ⟨g', e, hge, _⟩ := q2
      cases e
      have := heap_lt hg
      omega
    refine ⟨fun g w' => ∃ (q : List Nat) (r : Nat) (s : Value), r = g ∧ Ext w w' ∧ (∃ cs, cs.length = 2 ∧ Bx w' w.heap.size t_impl_Whole x2 cs) ∧ Bx w' w.heap.size t_impl_Whole x4 [.int .i64 m.sign, s] ∧ OD .i64 t_int64 w' w.heap.size s q ∧ ZO w' w.heap.size x14 ∧ IntR w' x14 (r : Int) ∧ IntR w' x17 16777215 ∧
      val 16777216 q + 16777216 ^ q.length * r = m.natAbs ∧ Dig 16777216 q ∧ (r = 0 → q.getLast? ≠ some 0),
      ⟨m.natAbs, [], m.natAbs, _, rfl, E8, ⟨_, rfl, (b25.ext (e7.trans e8)).low (Nat.le_refl _)⟩, (b5.ext (e7.trans e8)).low s2, OD.nil _ _ _ _, (z7.ext e8).low s5, i7.ext e8, i8, by simp [val], (by intro d hd; cases hd), by simp⟩, ?_⟩
    rintro g junk w9 ⟨q, r, s, rfl, e9, ⟨cs, hcs, bx2⟩, bx4, oq, zr, ir, im, hv, dq, hlast⟩
    refine c_Sign ir ?_
    rw [bin_gtr]
    have hrb : bl r ≤ bl m.natAbs := by
      refine bl_mono ?_
      rw [← hv]
      have : 1 * r ≤ 16777216 ^ q.length * r := Nat.mul_le_mul_right _ (Nat.pow_pos (by decide))
      omega
    refine cnd_dec (fun hpos => ?_) (fun hz => ?_)
    · have hr0 : 0 < r := by
        rcases Nat.eq_zero_or_pos r with h0 | h0
        · subst h0; exact absurd hpos (by decide)
        · exact h0
      have hql : q.length < 100 := by
        have h1 : 16777216 ^ q.length * 1 ≤ 16777216 ^ q.length * r := Nat.mul_le_mul_left _ hr0
        have h2 : 2 ^ (24 * q.length) ≤ m.natAbs := by rw [Nat.pow_mul, show (2 : Nat) ^ 24 = 16777216 from rfl]; omega
        rw [← lt_bl] at h2
        omega
      obtain ⟨a, fa, la, sa⟩ := Bx_fa (f := 1) (off := 1) (ty := t_s_int64) bx4 u_impl_Whole rfl i_s_int64 u_s_int64 rfl
      rw [fa, la bx4 rfl]
      refine alc_Z fun x23 w10 z10 _ e10 => ?_
      refine ⟨e10, ?_⟩
      refine c_And z10 (ir.ext e10) (im.ext e10) (by simpa using (by omega : bl r ≤ 1099511627776)) fun w11 z11 i11 g11 => ?_
      have e11 : Ext w9 w11 := ext_of_grown e10 (fun g hg => z10.blk_ge hg) g11
      have bx4' := bx4.ext e11
      rw [fa]
      refine ⟨rfl, ?_⟩
      rw [la bx4' rfl]
      refine ⟨rfl, ?_⟩
      have hand : ((r : Int).natAbs &&& (16777215 : Int).natAbs : Nat) = r % 16777216 := and_mask r
      rw [hand] at i11
      have hmod : r % 16777216 < 16777216 := Nat.mod_lt _ (by decide)
      refine c_Int64 i11 (by simp only [Int.natAbs_natCast]; omega) ?_
      refine ⟨Ext.refl _, ?_⟩
      have oq' := owns_ext oq e11
      have hsz := (e9.trans e11).size
      refine app_ODx oq' u_s_int64 i_int64 (by simp only [maxLen]; omega) (by omega) hsz fun s' w12 o12 g12 => ?_
      have t12 := Ty.owns oq'
      have bx4'' := keep_box bx4' g12 t12 (by decide)
      rw [fa]
      refine sa bx4'' (by simp) (by
        obtain ⟨_, _, a, c, e, _⟩ := (OD.IR o12).row
        rw [e]; rfl) fun w13 bx13 g13 => ?_
      have t13 := Ty.box bx4''
      have zr13 := ((zr.ext e11).kt g12 t12 (by decide)).kt g13 t13 (by decide)
      have ir13 := ((ir.ext e11).kt g12 t12 (by decide) (by decide)).kt g13 t13 (by decide) (by decide)
      have im13 := ((im.ext e11).kt g12 t12 (by decide) (by decide)).kt g13 t13 (by decide) (by decide)
      have o13 := keep_row o12 g13 t13 (by decide)
      have bx2' := keep_box (bx2.ext e11) g12 t12 (by decide)
      have ne24' : blk x2 ≠ blk x4 := by
        rcases ne24 with q | q
        · obtain ⟨g, rfl, _⟩ := b2; simp [blk] at q
        · exact q
      have bx2'' := bx2'.kept g13 (.inr fun e => ne24' e.symm)
      have E13 : Ext w w13 := ext_of_grown (ext_of_grown (e9.trans e11) (fun g hg => (oq'.lt g hg).1) g12) (fun g hg => (bx4''.blk_lt hg).1) g13
      refine c_Rsh (n := 24) zr13 ir13 (by simpa using (by omega : bl r ≤ 1099511627775)) (by decide) fun w14 z14 i14 g14 => ?_
      have t14 := zr13.ty
      refine ⟨r / 16777216, by omega, q ++ [r % 16777216], r / 16777216, s', rfl, ext_of_grown E13 (fun g hg => zr13.blk_ge hg) g14, ⟨cs, hcs, keep_box bx2'' g14 t14 (by decide)⟩, keep_box bx13 g14 t14 (by decide), keep_row o13 g14 t14 (by decide), z14, ?_, im13.kept zr13 g14 ne, ?_, ?_, ?_⟩
      · have : (r : Int) / 2 ^ 24 = ((r / 16777216 : Nat) : Int) := by simp
        rw [this] at i14; exact i14
      · rw [val_snoc, List.length_append, List.length_singleton, Nat.pow_succ]
        exact digs_step hv rfl rfl
      · intro d hd
        rcases List.mem_append.1 hd with hd | hd
        · exact dq d hd
        · simp at hd; omega
      · intro h0
        rw [List.getLast?_append]
        simp
        omega
    · have hr0 : r = 0 := by
        rcases Nat.eq_zero_or_pos r with h0 | h0
        · exact h0
        · exact absurd (by rw [Int.sign_eq_one_of_pos (by omega)]; decide) hz
      subst hr0
      refine bx4.get u_impl_Whole rfl i_impl_Whole rfl ?_
      have hs1 : s.oneCell' = true := by
        obtain ⟨_, _, a, c, e, _⟩ := (OD.IR oq).row
        rw [e]; rfl
      refine bx2.put i_impl_Whole (ds := [.int .i64 m.sign, s]) rfl hcs (one_2 rfl hs1) fun w10 b10 g10 => ?_
      refine b10.getc u_impl_Whole rfl i_impl_Whole rfl ?_
      have t10 := Ty.box bx2
      have e10 : Ext w w10 := ext_of_grown e9 (fun g hg => (bx2.blk_lt hg).1) g10
      have o10 := keep_row oq g10 t10 (by decide)
      refine H1 hle _ _ e10 ⟨s, q, rfl, OwnR.of o10, ⟨dq, hlast rfl⟩, by simpa using hv⟩
end Go.Proofs.YtjompmflommadaaGreatDoor


set_option linter.unusedVariables false
namespace Go.Proofs.YtjompmflommadaaGreatDoor
open Go Go.Vc
variable {w : World} {K : Value → World → Prop}
def Nm (w : World) (v : Value) (m e : Int) : Prop := ∃ p, v = .agg #[p, .int .i64 e] ∧ IntR w p m
def NQ (w : World) (v : Value) (lo hi : Nat) (q : Rat) : Prop := ∃ m e, Nm w v m e ∧ Bd lo hi m e ∧ q = dy m e
theorem Nm.ext {w' : World} {v : Value} {m e : Int} (h : Nm w v m e) (he : Ext w w') : Nm w' v m e := let ⟨p, h1, h2⟩ := h; ⟨p, h1, h2.ext he⟩
theorem NQ.ext {w' : World} {v : Value} {lo hi : Nat} {q : Rat} (h : NQ w v lo hi q) (he : Ext w w') : NQ w' v lo hi q := let ⟨m, e, h1, h2⟩ := h; ⟨m, e, h1.ext he, h2⟩
theorem NQ.mono {v : Value} {lo hi lo' hi' : Nat} {q : Rat} (h : NQ w v lo hi q) (h1 : lo ≤ lo') (h2 : hi ≤ hi') : NQ w v lo' hi' q := let ⟨m, e, a, b, c⟩ := h; ⟨m, e, a, b.mono h1 h2, c⟩
theorem IntR.ptr {p : Value} {m : Int} (h : IntR w p m) : ∃ a, p = .pointer (some a) := by
  obtain ⟨s, ⟨g, rfl, _⟩, _⟩ := h
  exact ⟨_, rfl⟩
theorem IntR.one {p : Value} {m : Int} (h : IntR w p m) : p.oneCell' = true := by obtain ⟨a, rfl⟩ := h.ptr; rfl
theorem bld_num {p : Value} {e : Int} {K : Value → Prop} (hp : ∃ a, p = .pointer (some a)) : bld P t_impl_num [(0, p), (1, .int .i64 e)] w K = K (.agg #[p, .int .i64 e]) := by
  obtain ⟨a, rfl⟩ := hp
  exact bld_of (by kernel_rfl)
def nm (p : Value) (e : Int) : List Value := [p, .int .i64 e]
theorem num_m {base : Nat} {x p : Value} {e : Int} {K : Value → Prop} (h : Bx w base t_impl_num x (nm p e)) (H : K p) : fda P t_impl_num x 0 w (fun a => ld P t_p_impl_integer a w K) :=
  h.fld (off := 0) rfl u_impl_num rfl i_p_impl_integer u_p_impl_integer rfl H
theorem num_e {base : Nat} {x p : Value} {e : Int} {K : Value → Prop} (h : Bx w base t_impl_num x (nm p e)) (H : K (.int .i64 e)) : fda P t_impl_num x 1 w (fun a => ld P t_int a w K) :=
  h.fld (off := 1) rfl u_impl_num rfl i_int u_int rfl H
theorem num_all {base : Nat} {x p : Value} {e : Int} {K : Value → Prop} (h : Bx w base t_impl_num x (nm p e)) (H : K (.agg #[p, .int .i64 e])) : ld P t_impl_num x w K :=
  h.get u_impl_num rfl i_impl_num rfl H
theorem num_fa {base : Nat} {x p : Value} {e : Int} (h : Bx w base t_impl_num x (nm p e)) :
    ∃ a, (∀ (w : World) (K : Value → Prop), fda P t_impl_num x 1 w K = K a) ∧ (∀ {w' : World} {base' : Nat} {p' : Value} {e' : Int}, Bx w' base' t_impl_num x (nm p' e') → ∀ K, ld P t_int a w' K = K (.int .i64 e')) := by
  obtain ⟨a, h1, h2, _⟩ := Bx_fa (f := 1) (off := 1) (ty := t_int) h u_impl_num rfl i_int u_int rfl
  exact ⟨a, h1, fun h' => h2 h' rfl⟩
theorem num_ret {base : Nat} {x p : Value} {e : Int} {cs : List Value} (hb : Bx w base t_impl_num x cs) (hl : cs.length = 2) (hp : p.oneCell' = true) (H : ∀ w', w.grownBy w' (blk x) → K (.agg #[p, .int .i64 e]) w') :
    sto P t_impl_num x (.agg #[p, .int .i64 e]) w fun w' => ldc P t_impl_num x w' fun r => K r w' := by
  refine hb.put i_impl_num (ds := [p, .int .i64 e]) rfl hl (one_2 hp rfl) fun w' b' g' => ?_
  exact b'.getc u_impl_num rfl i_impl_num rfl (H w' g')
theorem bx_num {x : Value} {p : Value} {e : Int} {KW : Value → World → Prop} (H : ∀ x w', Bx w' w.heap.size t_impl_num x (nm p e) → Ext w w' → KW x w') : bx P t_impl_num (.agg #[p, .int .i64 e]) w KW :=
  bx_bx fun x w' b e _ => H x w' b e
theorem alc_num {KW : Value → World → Prop} (H : ∀ x w', (∃ cs, cs.length = 2 ∧ Bx w' w.heap.size t_impl_num x cs) → Ext w w' → KW x w') : alc P t_impl_num w KW :=
  alc_bx i_impl_num fun x w' b e _ => H x w' ⟨_, rfl, b⟩ e
theorem Nm.grown {w1 w2 : World} {base : Nat} {x p : Value} {cs : List Value} {m : Int} (h : IntR w1 p m) (hb : Bx w1 base t_impl_num x cs) (hg : w1.grownBy w2 (blk x)) : IntR w2 p m := h.kt hg (Ty.box hb) (by decide) (by decide)
def sgQ (q : Rat) : Int := if q < 0 then -1 else if 0 < q then 1 else 0
theorem sgQ_dy (m e : Int) : sgQ (dy m e) = m.sign := by
  unfold sgQ
  simp only [dy_neg_iff, dy_pos]
  split
  · rename_i h; rw [Int.sign_eq_neg_one_of_neg h]
  · split
    · rename_i h; rw [Int.sign_eq_one_of_pos h]
    · have : m = 0 := by omega
      subst this; rfl
theorem c_nsign {v : Value} {m e : Int} (h : Nm w v m e) (H : ∀ w', Ext w w' → K (.int .i64 m.sign) w') : call P f_impl_num_sign [v] w K := by
  obtain ⟨p, rfl, hp⟩ := h
  refine I_impl_num_sign ?_
  unfold D_impl_num_sign
  refine bx_num (x := undef) fun x w1 b1 e1 => ?_
  refine num_m b1 ?_
  exact c_Sign (hp.ext e1) (H _ e1)
theorem c_num_sign {v : Value} {lo hi : Nat} {q : Rat} (h : NQ w v lo hi q) (H : ∀ w', Ext w w' → K (.int .i64 (sgQ q)) w') : call P f_impl_num_sign [v] w K := by
  obtain ⟨m, e, h1, h2, rfl⟩ := h
  refine c_nsign h1 fun w' he => ?_
  rw [← sgQ_dy m e]; exact H w' he
theorem c_num_neg {v : Value} {lo hi : Nat} {q : Rat} (h : NQ w v lo hi q) (hl : lo ≤ 1000000000) (hh : hi ≤ 1000000000) (H : ∀ v' w', Ext w w' → NQ w' v' lo hi (-q) → K v' w') : call P f_impl_num_neg [v] w K := by
  obtain ⟨m, e, ⟨p, rfl, hp⟩, hb, rfl⟩ := h
  have hbl := hb.bl
  refine I_impl_num_neg ?_
  unfold D_impl_num_neg
  refine bx_num (x := undef) fun x1 w1 b1 e1 => ?_
  refine alc_num fun x2 w2 ⟨cs, hcs, b2⟩ e2 => ?_
  have b1 := b1.ext e2
  have E2 := e1.trans e2
  refine num_m b1 ?_
  obtain ⟨a, fa, la⟩ := num_fa b1
  rw [fa, la b1]
  refine alc_Z fun x3 w3 z3 _ e3 => ?_
  refine ⟨e3, ?_⟩
  refine c_Neg z3 ((hp.ext E2).ext e3) (by omega) fun w4 z4 i4 g4 => ?_
  have e4 : Ext w2 w4 := ext_of_grown e3 (fun g hg => z3.blk_ge hg) g4
  rw [fa, la (b1.ext e4)]
  refine ⟨rfl, rfl, ?_⟩
  rw [bld_num i4.ptr]
  have b2 := b2.ext e4
  refine num_ret b2 hcs i4.one fun w5 g5 => ?_
  have e5 : Ext w w5 := ext_of_grown (E2.trans e4) (fun g hg => Nat.le_trans e1.size (b2.blk_lt hg).1) g5
  exact H _ _ e5 ⟨-m, e, ⟨x3, rfl, Nm.grown i4 b2 g5⟩, hb.neg, (dy_neg m e).symm⟩
theorem c_num_mul {u v : Value} {lo hi lo' hi' : Nat} {q r : Rat} (hu : NQ w u lo hi q) (hv : NQ w v lo' hi' r) (hl : lo ≤ 100000000) (hh : hi ≤ 100000000) (hl' : lo' ≤ 100000000) (hh' : hi' ≤ 100000000)
    (H : ∀ v' w', Ext w w' → NQ w' v' (lo + lo') (hi + hi') (q * r) → K v' w') : call P f_impl_num_mul [u, v] w K := by
  obtain ⟨m, e, ⟨p, rfl, hp⟩, hb, rfl⟩ := hu
  obtain ⟨n, g, ⟨p', rfl, hp'⟩, hb', rfl⟩ := hv
  have hbl := hb.bl
  have hbl' := hb'.bl
  have := hb.low; have := hb.top; have := hb'.low; have := hb'.top
  refine I_impl_num_mul ?_
  unfold D_impl_num_mul
  refine bx_num (x := undef) fun x1 w1 b1 e1 => ?_
  refine bx_num (x := undef) fun x2 w2 b2 e2 => ?_
  refine alc_num fun x3 w3 ⟨cs, hcs, b3⟩ e3 => ?_
  have b1 := (b1.ext e2).ext e3
  have b2 := b2.ext e3
  have E2 := e1.trans e2
  have E3 := E2.trans e3
  refine num_m b1 ?_
  refine num_m b2 ?_
  obtain ⟨a, fa, la⟩ := num_fa b1
  obtain ⟨a', fa', la'⟩ := num_fa b2
  rw [fa, la b1, fa', la' b2, bin_add, wrap_i64 (by omega) (by omega)]
  refine alc_Z fun x5 w4 z4 _ e4 => ?_
  refine ⟨e4, ?_⟩
  refine c_Mul z4 ((hp.ext E3).ext e4) ((hp'.ext E3).ext e4) (by omega) (by omega) fun w5 z5 i5 g5 => ?_
  have e5 : Ext w3 w5 := ext_of_grown e4 (fun g hg => z4.blk_ge hg) g5
  rw [fa, la (b1.ext e5), fa', la' (b2.ext e5), bin_add, wrap_i64 (by omega) (by omega)]
  refine ⟨rfl, rfl, rfl, rfl, rfl, ?_⟩
  rw [bld_num i5.ptr]
  have b3 := b3.ext e5
  refine num_ret b3 hcs i5.one fun w6 g6 => ?_
  have e6 : Ext w w6 := ext_of_grown (E3.trans e5) (fun g hg => Nat.le_trans E2.size (b3.blk_lt hg).1) g6
  exact H _ _ e6 ⟨m * n, e + g, ⟨x5, rfl, Nm.grown i5 b3 g6⟩, hb.mul hb', dy_mul m e n g⟩
theorem c_at {v : Value} {m e e0 : Int} (h : Nm w v m e) (hle : e0 ≤ e) (hd : e - e0 ≤ 1099511627776) (h0 : -1099511627776 ≤ e0) (hb : bl m.natAbs ≤ 1099511627776)
    (H : ∀ p w', Ext w w' → ZO w' w.heap.size p → IntR w' p (m * 2 ^ (e - e0).toNat) → K p w') : call P f_impl_num_at [v, .int .i64 e0] w K := by
  obtain ⟨p, rfl, hp⟩ := h
  refine I_impl_num_at ?_
  unfold D_impl_num_at
  refine bx_num (x := undef) fun x1 w1 b1 e1 => ?_
  refine alc_Z fun x5 w2 z2 _ e2 => ?_
  have b1 := b1.ext e2
  refine num_m b1 ?_
  refine num_e b1 ?_
  rw [bin_sub, wrap_i64 (by omega) (by omega), show e - e0 = (((e - e0).toNat : Nat) : Int) by omega, cnv_int_uint (by omega)]
  refine c_Lsh z2 (hp.ext (e1.trans e2)) hb (by omega) fun w3 z3 i3 g3 => ?_
  have e3 : Ext w w3 := ext_of_grown (e1.trans e2) (fun g hg => Nat.le_trans e1.size (z2.blk_ge hg)) g3
  exact H _ _ e3 (z3.low e1.size) i3
theorem c_num_add {u v : Value} {lo hi : Nat} {q r : Rat} (hu : NQ w u lo hi q) (hv : NQ w v lo hi r) (hl : lo ≤ 1000000000) (hh : hi ≤ 1000000000)
    (H : ∀ v' w', Ext w w' → NQ w' v' lo (hi + 1) (q + r) → K v' w') : call P f_impl_num_add [u, v] w K := by
  obtain ⟨m, e, ⟨p, rfl, hp⟩, hb, rfl⟩ := hu
  obtain ⟨n, g, ⟨p', rfl, hp'⟩, hb', rfl⟩ := hv
  have hbl := hb.bl
  have hbl' := hb'.bl
  have := hb.low; have := hb.top; have := hb'.low; have := hb'.top
  refine I_impl_num_add ?_
  unfold D_impl_num_add
  refine bx_num (x := undef) fun x1 w1 b1 e1 => ?_
  refine bx_num (x := undef) fun x2 w2 b2 e2 => ?_
  refine alc_num fun x3 w3 ⟨cs, hcs, b3⟩ e3 => ?_
  have b1 := (b1.ext e2).ext e3
  have b2 := b2.ext e3
  have E2 := e1.trans e2
  have E3 := E2.trans e3
  refine num_all b1 ?_
  refine c_nsign ⟨p, rfl, hp.ext E3⟩ fun w4 e4 => ?_
  rw [bin_eql]
  have E4 := E3.trans e4
  refine cnd_dec (fun h0 => ?_) (fun h0 => ?_)
  · have hm : m = 0 := Int.sign_eq_zero_iff_zero.1 h0
    refine num_all (b2.ext e4) ?_
    have b3 := b3.ext e4
    have ip := hp'.ext E4
    refine num_ret b3 hcs ip.one fun w5 g5 => ?_
    have e5 : Ext w w5 := ext_of_grown E4 (fun g hg => Nat.le_trans E2.size (b3.blk_lt hg).1) g5
    refine H _ _ e5 ⟨n, g, ⟨p', rfl, Nm.grown ip b3 g5⟩, hb'.mono (Nat.le_refl _) (Nat.le_succ _), ?_⟩
    rw [hm, dy_zero, Rat.zero_add]
  · refine num_all (b2.ext e4) ?_
    refine c_nsign ⟨p', rfl, hp'.ext E4⟩ fun w5 e5 => ?_
    have E5 := E4.trans e5
    rw [bin_eql]
    refine cnd_dec (fun h1 => ?_) (fun h1 => ?_)
    · have hn : n = 0 := Int.sign_eq_zero_iff_zero.1 h1
      refine num_all ((b1.ext e4).ext e5) ?_
      have b3 := (b3.ext e4).ext e5
      have ip := hp.ext E5
      refine num_ret b3 hcs ip.one fun w6 g6 => ?_
      have e6 : Ext w w6 := ext_of_grown E5 (fun g hg => Nat.le_trans E2.size (b3.blk_lt hg).1) g6
      refine H _ _ e6 ⟨m, e, ⟨p, rfl, Nm.grown ip b3 g6⟩, hb.mono (Nat.le_refl _) (Nat.le_succ _), ?_⟩
      rw [hn, dy_zero, Rat.add_zero]
    · have b1 := (b1.ext e4).ext e5
      have b2 := (b2.ext e4).ext e5
      have b3 := (b3.ext e4).ext e5
      refine num_e b1 ?_
      refine num_e b2 ?_
      rw [bl0_min_i64]
      refine ⟨_, fun _ _ h => h, ?_⟩
      refine num_all b1 ?_
      refine num_all b2 ?_
      have ip := hp.ext E5
      have ip' := hp'.ext E5
      have hs1 := ibl_shl_le m (e - min e g).toNat
      have hs2 := ibl_shl_le n (g - min e g).toNat
      have fin : ∀ (z a b : Value) (w6 w0 : World), Ext w5 w0 → ZO w6 w5.heap.size z → Ext w5 w6 → IntR w6 a (m * 2 ^ (e - min e g).toNat) → IntR w6 b (n * 2 ^ (g - min e g).toNat) →
          call P f_impl_integer_Add [z, a, b] w6 fun x28 w7 => bld P t_impl_num [(0, x28), (1, .int .i64 (min e g))] w7 fun x30 => sto P t_impl_num x3 x30 w7 fun w8 => ldc P t_impl_num x3 w8 fun r => K r w8 := by
        intro z a b w6 w0 _ hz e6 ia ib
        refine c_Add hz ia ib (by omega) (by omega) fun w7 z7 i7 g7 => ?_
        have e7 : Ext w5 w7 := ext_of_grown e6 (fun g hg => hz.blk_ge hg) g7
        rw [bld_num i7.ptr]
        have b3 := b3.ext e7
        refine num_ret b3 hcs i7.one fun w8 g8 => ?_
        have e8 : Ext w w8 := ext_of_grown (E5.trans e7) (fun g hg => Nat.le_trans E2.size (b3.blk_lt hg).1) g8
        exact H _ _ e8 ⟨addM m e n g, min e g, ⟨z, rfl, Nm.grown i7 b3 g8⟩, hb.add hb', (dy_addM m e n g).symm⟩
      refine ⟨?_, ?_⟩
      · refine alc_Z fun z w6 z6 _ e6 => ?_
        refine ⟨e6, ?_⟩
        refine c_at (e := e) ⟨p, rfl, ip.ext e6⟩ (by omega) (by omega) (by omega) (by omega) fun a w7 e7 z7 i7 => ?_
        refine ⟨e7, ?_⟩
        refine c_at (e := g) ⟨p', rfl, (ip'.ext e6).ext e7⟩ (by omega) (by omega) (by omega) (by omega) fun b w8 e8 z8 i8 => ?_
        exact fin z a b w8 w5 (Ext.refl _) ((z6.ext e7).ext e8) (e6.trans (e7.trans e8)) (i7.ext e8) i8
      · refine c_at (e := e) ⟨p, rfl, ip⟩ (by omega) (by omega) (by omega) (by omega) fun a w7 e7 z7 i7 => ?_
        refine ⟨e7, ?_, ?_⟩
        · refine alc_Z fun z w6 z6 _ e6 => ?_
          refine ⟨e6, ?_⟩
          refine c_at (e := g) ⟨p', rfl, (ip'.ext e7).ext e6⟩ (by omega) (by omega) (by omega) (by omega) fun b w8 e8 z8 i8 => ?_
          exact fin z a b w8 w5 (Ext.refl _) ((z6.low e7.size).ext e8) (e7.trans (e6.trans e8)) ((i7.ext e6).ext e8) i8
        · refine c_at (e := g) ⟨p', rfl, ip'.ext e7⟩ (by omega) (by omega) (by omega) (by omega) fun b w8 e8 z8 i8 => ?_
          refine alc_Z fun z w6 z6 _ e6 => ?_
          refine ⟨e6, ?_⟩
          exact fin z a b w6 w5 (Ext.refl _) (z6.low (e7.trans e8).size) (e7.trans (e8.trans e6)) ((i7.ext e8).ext e6) (i8.ext e6)
theorem c_num_sub {u v : Value} {lo hi : Nat} {q r : Rat} (hu : NQ w u lo hi q) (hv : NQ w v lo hi r) (hl : lo ≤ 1000000000) (hh : hi ≤ 1000000000)
    (H : ∀ v' w', Ext w w' → NQ w' v' lo (hi + 1) (q - r) → K v' w') : call P f_impl_num_sub [u, v] w K := by
  obtain ⟨m, e, ⟨p, rfl, hp⟩, hb, hq⟩ := hu
  obtain ⟨n, g, ⟨p', rfl, hp'⟩, hb', hr⟩ := hv
  refine I_impl_num_sub ?_
  unfold D_impl_num_sub
  refine bx_num (x := undef) fun x1 w1 b1 e1 => ?_
  refine bx_num (x := undef) fun x2 w2 b2 e2 => ?_
  refine alc_num fun x3 w3 ⟨cs, hcs, b3⟩ e3 => ?_
  have E2 := e1.trans e2
  have E3 := E2.trans e3
  refine num_all ((b1.ext e2).ext e3) ?_
  refine num_all (b2.ext e3) ?_
  refine c_num_neg ⟨n, g, ⟨p', rfl, hp'.ext E3⟩, hb', hr⟩ hl hh fun v1 w4 e4 n4 => ?_
  refine ⟨e4, ?_⟩
  refine c_num_add ⟨m, e, ⟨p, rfl, hp.ext (E3.trans e4)⟩, hb, hq⟩ n4 hl hh fun v2 w5 e5 n5 => ?_
  obtain ⟨m', e', ⟨p2, rfl, h2⟩, hb2, hq2⟩ := n5
  have b3 := (b3.ext e4).ext e5
  refine num_ret b3 hcs h2.one fun w6 g6 => ?_
  have e6 : Ext w w6 := ext_of_grown (E3.trans (e4.trans e5)) (fun g hg => Nat.le_trans E2.size (b3.blk_lt hg).1) g6
  refine H _ _ e6 ⟨m', e', ⟨p2, rfl, Nm.grown h2 b3 g6⟩, hb2, ?_⟩
  rw [← hq2, Rat.sub_eq_add_neg]
def cmpQ (q r : Rat) : Int := sgQ (q - r)
theorem c_num_cmp {u v : Value} {lo hi : Nat} {q r : Rat} (hu : NQ w u lo hi q) (hv : NQ w v lo hi r) (hl : lo ≤ 1000000000) (hh : hi ≤ 1000000000)
    (H : ∀ w', Ext w w' → K (.int .i64 (cmpQ q r)) w') : call P f_impl_num_cmp [u, v] w K := by
  obtain ⟨m, e, ⟨p, rfl, hp⟩, hb, hq⟩ := hu
  obtain ⟨n, g, ⟨p', rfl, hp'⟩, hb', hr⟩ := hv
  refine I_impl_num_cmp ?_
  unfold D_impl_num_cmp
  refine bx_num (x := undef) fun x1 w1 b1 e1 => ?_
  refine bx_num (x := undef) fun x2 w2 b2 e2 => ?_
  have E2 := e1.trans e2
  refine num_all (b1.ext e2) ?_
  refine num_all b2 ?_
  refine c_num_sub ⟨m, e, ⟨p, rfl, hp.ext E2⟩, hb, hq⟩ ⟨n, g, ⟨p', rfl, hp'.ext E2⟩, hb', hr⟩ hl hh fun v1 w3 e3 n3 => ?_
  exact c_num_sign n3 fun w4 e4 => H w4 (E2.trans (e3.trans e4))
end Go.Proofs.YtjompmflommadaaGreatDoor


set_option linter.unusedVariables false
namespace Go.Proofs.YtjompmflommadaaGreatDoor
open Go Go.Vc
variable {w : World} {K : Value → World → Prop}
theorem tz_int {m : Int} {k : Nat} (hm : m ≠ 0) (h : IsTz m.natAbs k) : m / 2 ^ k * 2 ^ k = m ∧ (m / 2 ^ k) % 2 = 1 := by
  unfold IsTz at h
  rw [if_neg (by omega)] at h
  obtain ⟨h1, h2⟩ := h
  have hp : (0 : Int) < 2 ^ k := Int.pow_pos (by decide)
  have hd : ((2 : Int) ^ k) ∣ m := by
    have : ((2 ^ k : Nat) : Int) ∣ m := Int.ofNat_dvd_left.2 (Nat.dvd_of_mod_eq_zero h1)
    simpa using this
  obtain ⟨c, hc⟩ := hd
  have e : m / 2 ^ k = c := by rw [hc]; exact Int.mul_ediv_cancel_left _ (Int.ne_of_gt hp)
  rw [e]
  refine ⟨by rw [hc, Int.mul_comm], ?_⟩
  have h3 : m.natAbs = 2 ^ k * c.natAbs := by rw [hc, Int.natAbs_mul, natAbs_two_pow]
  rw [h3, Nat.mul_div_cancel_left _ (Nat.two_pow_pos _)] at h2
  omega
structure Cn (lo hi : Nat) (q : Rat) (m e : Int) : Prop where
  canon : Canon m e
  bd : Bd lo hi m e
  val : q = dy m e
theorem Cn.odd {lo hi : Nat} {m e : Int} {k : Nat} (hb : Bd lo hi m e) (hm : m ≠ 0) (h : IsTz m.natAbs k) : Cn lo hi (dy m e) (m / 2 ^ k) (e + k) := by
  obtain ⟨h1, h2⟩ := tz_int hm h
  have hc : m / 2 ^ k ≠ 0 := by intro h0; rw [h0] at h2; cases h2
  refine ⟨.inr h2, ⟨?_, ?_, fun _ => ?_⟩, ?_⟩
  · have := hb.low; omega
  · have := hb.mag hm
    have h4 := ibl_shl hc k
    rw [h1] at h4
    have h5 := bl_pos (n := (m / 2 ^ k).natAbs) (by omega)
    omega
  · have := hb.mag hm
    have h4 := ibl_shl hc k
    rw [h1] at h4
    omega
  · rw [← dy_shift' (m := m / 2 ^ k) (e := e + k) (e' := e) (k := k) (by omega), h1]
def Do (w : World) (lo hi : Nat) (v : Value) (m e : Int) : Prop := ∃ s l, v = .agg #[.int .i64 m.sign, s, .int .i64 e] ∧ OwnR w lo hi t_int64 1 s l.length (l.map (iv .i64)) ∧ Wl l m
def fitsD (m e : Int) : Prop := bl m.natAbs ≤ 2400 ∧ -3000 ≤ e ∧ e ≤ 3000
instance (m e : Int) : Decidable (fitsD m e) := by unfold fitsD; infer_instance
theorem Do.zero (w : World) (lo hi : Nat) : Do w lo hi (.agg #[.int .i64 0, .slice none 0 0, .int .i64 0]) 0 0 := ⟨_, [], rfl, ⟨OD.nil _ _ _ _, fun k hk => by cases hk⟩, Wl.zero⟩
theorem bld_Dyadic0 {K : Value → Prop} : bld P t_impl_Dyadic [] w K = K (.agg #[.int .i64 0, .slice none 0 0, .int .i64 0]) := bld_of (by kernel_rfl)
theorem bld_Dyadic {n e : Int} {s : Value} {K : Value → Prop} (hs : ∃ a l c, s = .slice a l c) : bld P t_impl_Dyadic [(0, .agg #[.int .i64 n, s]), (1, .int .i64 e)] w K = K (.agg #[.int .i64 n, s, .int .i64 e]) := by
  obtain ⟨a, l, c, rfl⟩ := hs
  exact bld_of (by kernel_rfl)
theorem own_sl {lo hi n : Nat} {e : TypeId} {s : Value} {xs : List Value} (h : OwnR w lo hi e 1 s n xs) : ∃ a l c, s = .slice a l c := by
  obtain ⟨_, _, a, c, rfl, _⟩ := owns_Row h.own
  exact ⟨_, _, _, rfl⟩
theorem own_one {lo hi n : Nat} {e : TypeId} {s : Value} {xs : List Value} (h : OwnR w lo hi e 1 s n xs) : s.oneCell' = true := by
  obtain ⟨a, l, c, rfl⟩ := own_sl h
  rfl
def fM (b : Nat) : Int := let m : Nat := b % 8388608 + (if 0 < b / 8388608 % 256 then 8388608 else 0); if b / 2147483648 % 2 = 1 then -(m : Int) else m
def fE (b : Nat) : Int := (if 0 < b / 8388608 % 256 then ((b / 8388608 % 256 : Nat) : Int) else 1) - 150
def fq (b : Nat) : Rat := dy (fM b) (fE b)
theorem fM_abs (b : Nat) : (fM b).natAbs < 16777216 := by
  unfold fM
  have := Nat.mod_lt b (show 0 < 8388608 by decide)
  simp only
  split <;> split <;> omega
theorem f_bd {b : Nat} (h : Fin Ieee.single b) : Bd 149 128 (fM b) (fE b) := by
  rw [fin_iff_bits] at h
  have h1 := Nat.mod_lt (b / 8388608) (show 0 < 256 by decide)
  have h2 := fM_abs b
  have h3 : bl (fM b).natAbs ≤ 24 := bl_le.2 (by exact h2)
  have h4 : -149 ≤ fE b ∧ fE b ≤ 104 := by unfold fE; split <;> omega
  exact ⟨by omega, by omega, fun _ => by omega⟩
theorem c_parts {b : Nat} (hb : b < 4294967296) (H : K (.tuple #[.int .i64 (fM b), .int .i64 (fE b)]) w) : call P f_impl_parts [fl b] w K := by
  refine I_impl_parts ?_
  unfold D_impl_parts
  refine c_Float32bits ?_
  have e1 : b / 8388608 &&& 255 = b / 8388608 % 256 := Nat.and_two_pow_sub_one_eq_mod _ 8
  have e2 : b &&& 8388607 = b % 8388608 := Nat.and_two_pow_sub_one_eq_mod _ 23
  have h1 := Nat.mod_lt (b / 8388608) (show 0 < 256 by decide)
  have h2 := Nat.mod_lt b (show 0 < 8388608 by decide)
  rw [bin_shrN (s := 23) (by decide), show (2 : Nat) ^ 23 = 8388608 from rfl]
  rw [bin_andN (b := 255) (by simp only [IntKind.bits]; omega) (by decide) rfl, e1, cnv_int_int u_uint32 u_int64, wrap_i64 (by omega) (by omega)]
  rw [bin_andN (b := 8388607) (by simp only [IntKind.bits]; omega) (by decide) rfl, e2, cnv_int_int u_uint32 u_int64, wrap_i64 (by omega) (by omega)]
  refine ⟨fun x y w' => w' = w ∧ x = .int .i64 (fE b + 150) ∧ y = .int .i64 ((fM b).natAbs : Int), ?_, ?_⟩
  · rintro x y junk w' ⟨rfl, rfl, rfl⟩
    have hE : -149 ≤ fE b ∧ fE b ≤ 105 := by unfold fE; split <;> omega
    have hM := fM_abs b
    rw [bin_shrN (s := 31) (by decide), bin_neq, show (2 : Nat) ^ 31 = 2147483648 from rfl]
    refine cnd_dec (fun h => ?_) (fun h => ?_)
    · rw [una_neg_int, wrap_i64 (by omega) (by omega), bin_sub, wrap_i64 (by omega) (by omega)]
      have h3 : b / 2147483648 % 2 = 1 := by omega
      have : (0 : Int) - ((fM b).natAbs : Int) = fM b := by
        unfold fM; simp only [h3, if_true]; omega
      rw [this, show fE b + 150 - 150 = fE b by omega]
      exact H
    · rw [bin_sub, wrap_i64 (by omega) (by omega)]
      have h3 : ¬ b / 2147483648 % 2 = 1 := by omega
      have : ((fM b).natAbs : Int) = fM b := by
        unfold fM; simp only [h3, if_false]; omega
      rw [this, show fE b + 150 - 150 = fE b by omega]
      exact H
  · rw [bin_gtr]
    refine cnd_dec (fun h => ?_) (fun h => ?_)
    · have h3 : 0 < b / 8388608 % 256 := by omega
      rw [bin_add, wrap_i64 (by omega) (by omega)]
      refine ⟨rfl, ?_, ?_⟩
      · congr 1; unfold fE; rw [if_pos h3]; omega
      · congr 1; unfold fM; simp only [h3, if_true]; split <;> omega
    · have h3 : ¬ 0 < b / 8388608 % 256 := by omega
      refine ⟨rfl, ?_, ?_⟩
      · congr 1; unfold fE; rw [if_neg h3]; omega
      · congr 1; unfold fM; simp only [h3, if_false]; split <;> omega
theorem c_numOfm {b : Nat} (hb : b < 4294967296) (H : ∀ v w', Ext w w' → Nm w' v (fM b) (fE b) → K v w') : call P f_impl_numOf [fl b] w K := by
  refine I_impl_numOf ?_
  unfold D_impl_numOf
  refine alc_num fun x1 w1 ⟨cs, hcs, b1⟩ e1 => ?_
  refine c_parts hb ?_
  rw [xtr_0, xtr_1]
  have h1 := fM_abs b
  refine c_newInt (by omega) (by omega) fun p w2 e2 z2 i2 => ?_
  rw [bld_num i2.ptr]
  have b1 := b1.ext e2
  refine num_ret b1 hcs i2.one fun w3 g3 => ?_
  have e3 : Ext w w3 := ext_of_grown (e1.trans e2) (fun g hg => (b1.blk_lt hg).1) g3
  exact H _ _ e3 ⟨p, rfl, Nm.grown i2 b1 g3⟩
theorem c_numOf {b : Nat} (hb : b < 4294967296) (hf : Fin Ieee.single b) (H : ∀ v w', Ext w w' → NQ w' v 149 128 (fq b) → K v w') : call P f_impl_numOf [fl b] w K :=
  c_numOfm hb fun v w' he hn => H v w' he ⟨_, _, hn, f_bd hf, rfl⟩
end Go.Proofs.YtjompmflommadaaGreatDoor


set_option linter.unusedVariables false
set_option linter.unusedSimpArgs false
namespace Go.Proofs.YtjompmflommadaaGreatDoor
open Go Go.Vc
variable {w : World} {K : Value → World → Prop}
theorem digB_iff {d : UInt8} : digB d = true ↔ ¬ ((d.toNat : Int) < 48) ∧ ¬ ((57 : Int) < (d.toNat : Int)) := by
  unfold digB
  simp only [Bool.and_eq_true, decide_eq_true_eq]
  omega
theorem all_take_succ {l : List UInt8} {i : Nat} (hi : i < l.length) (p : UInt8 → Bool) : (l.take (i + 1)).all p = ((l.take i).all p && p l[i]) := by
  rw [List.take_succ_eq_append_getElem hi, List.all_append]; simp
theorem not_all {l : List UInt8} {p : UInt8 → Bool} {i : Nat} (hi : i < l.length) (h : p l[i] = false) : l.all p = false := by
  refine Bool.eq_false_iff.2 fun hall => ?_
  have := List.all_eq_true.1 hall l[i] (List.getElem_mem hi)
  rw [h] at this; cases this
set_option maxRecDepth 20000 in
theorem c_isNumeral {l : List UInt8} (hl : l.length ≤ 4611686018427387904) (H : K (.bool (isNum l)) w) : call P f_impl_isNumeral [str l] w K := by
  refine I_impl_isNumeral ?_
  unfold D_impl_isNumeral
  refine ⟨fun x w' => Hide (w' = w ∧ x = str (body l) ∧ (negB l && decide (body l = [48])) = false), ?_, ?_⟩
  · rintro x junk w2 h
    obtain ⟨rfl, rfl, hneg⟩ := h.out
    clear h
    have hK : K (.bool (numB (body l))) w2 := by
      have e : isNum l = numB (body l) := by unfold isNum; rw [hneg]; simp
      rw [← e]; exact H
    have hbl := body_le l
    generalize body l = r at *
    rw [eql_str (b := [])]
    cases r with
    | nil =>
      have e : decide (([] : List UInt8) = []) = true := by simp
      rw [e]
      repeat (first | (refine ⟨_, fun _ _ _ h => h, ?_⟩) | simp only [-eq_self, grd_true_true, grd_true_false, grd_false_false, grd_false_true, pick_bool, cond_true, cond_false, cnd_true, cnd_false])
      exact hK
    | cons d r =>
      have e : decide ((d :: r) = []) = false := by simp
      have hidx : ∀ (w : World) (K : Value → Prop), idx P t_string (str (d :: r)) (.int .i64 0) w K = K (.int .u8 (d.toNat : Nat)) := fun w K => idx_str (i := 0) u_string (by simp)
      rw [e]
      have digits : ∀ C : Value → World → Prop, C (.bool ((d :: r).all digB)) w2 →
          (∃ I20 : Nat → Value → World → Prop, (∃ m37, I20 m37 (.int .i64 0) w2) ∧ ∀ (m23 : Nat) (x30_24 : Value) (junk21 : Env) (w22 : World), I20 m23 x30_24 w22 →
              bin P .lss 3 false false x30_24 (.int .i64 (((d :: r).length : Nat) : Int)) w22 fun x31_25 =>
              cnd x31_25
                (idx P t_string (str (d :: r)) x30_24 w22 fun x35_26 =>
                bin P .lss 5 false true x35_26 (.int .u8 48) w22 fun x36_27 =>
                ∃ J28 : Value → World → Prop, (∀ (x41_29 : Value) (junk31 : Env) (w30 : World), J28 x41_29 w30 →
                  pick x36_27 (.bool true) x41_29 fun x42_32 =>
                  cnd x42_32
                    (C (.bool false) w30)
                    (bin P .add 3 false true x30_24 (.int .i64 1) w30 fun x43_33 =>
                    ∃ m34, m34 < m23 ∧ I20 m34 x43_33 w30)) ∧
                  grd x36_27 false
                    (idx P t_string (str (d :: r)) x30_24 w22 fun x40_35 =>
                    bin P .gtr 5 false true x40_35 (.int .u8 57) w22 fun x41_36 =>
                    J28 x41_36 w22)
                    (J28 undef w22))
                (C (.bool true) w22)) := by
        intro C hC
        generalize d :: r = q at *
        refine ⟨fun g x w' => Hide (∃ i : Nat, w' = w2 ∧ x = .int .i64 (i : Int) ∧ g + i = q.length ∧ (q.take i).all digB = true), ⟨q.length, Hide.mk ⟨0, rfl, rfl, rfl, rfl⟩⟩, ?_⟩
        rintro g x junk w3 h
        obtain ⟨i, rfl, rfl, hg, hall⟩ := h.out
        rw [bin_lss]
        refine cnd_dec (fun hlt => ?_) (fun hge => ?_)
        · have hi : i < q.length := by omega
          have hx : ∀ (w : World) (K : Value → Prop), idx P t_string (str q) (.int .i64 (i : Int)) w K = K (.int .u8 (q[i].toNat : Nat)) := fun w K => idx_str u_string hi
          by_cases hd : digB q[i] = true
          · obtain ⟨a1, a2⟩ := digB_iff.1 hd
            repeat (first | (refine ⟨_, fun _ _ _ h => h, ?_⟩) | simp only [-eq_self, hx, bin_lss, bin_gtr, decide_eq_false a1, decide_eq_false a2, grd_true_true, grd_true_false, grd_false_false, grd_false_true, pick_bool, cond_true, cond_false, cnd_true, cnd_false])
            rw [bin_addI1 (b := 1) (by omega)]
            exact ⟨g - 1, by omega, Hide.mk ⟨i + 1, rfl, rfl, by omega, by rw [all_take_succ hi, hall, hd]; rfl⟩⟩
          · rw [Bool.not_eq_true] at hd
            rw [not_all hi hd] at hC
            by_cases a1 : ((q[i].toNat : Nat) : Int) < 48
            · repeat (first | (refine ⟨_, fun _ _ _ h => h, ?_⟩) | simp only [-eq_self, hx, bin_lss, bin_gtr, decide_eq_true a1, grd_true_true, grd_true_false, grd_false_false, grd_false_true, pick_bool, cond_true, cond_false, cnd_true, cnd_false])
              exact hC
            · have a2 : (57 : Int) < ((q[i].toNat : Nat) : Int) := by
                refine Classical.byContradiction fun h => ?_
                have := digB_iff.2 ⟨a1, h⟩
                rw [hd] at this; cases this
              repeat (first | (refine ⟨_, fun _ _ _ h => h, ?_⟩) | simp only [-eq_self, hx, bin_lss, bin_gtr, decide_eq_false a1, decide_eq_true a2, grd_true_true, grd_true_false, grd_false_false, grd_false_true, pick_bool, cond_true, cond_false, cnd_true, cnd_false])
              exact hC
        · have hi : i = q.length := by omega
          subst hi
          rw [List.take_of_length_le (Nat.le_refl _)] at hall
          rw [hall] at hC
          exact hC
      have lenx : ∀ (w : World) (K : Value → Prop), bl0 P .len #[t_string] t_int [str (d :: r)] w K = K (.int .i64 ((d :: r).length : Nat)) := fun w K => len_str u_string
      by_cases h1 : d = 48
      · have d1 : decide (((d.toNat : Nat) : Int) = 48) = true := decide_eq_true (by rw [h1]; rfl)
        by_cases h2 : 1 < (d :: r).length
        · have d2 : decide ((1 : Int) < (((d :: r).length : Nat) : Int)) = true := decide_eq_true (by omega)
          repeat (first | (refine ⟨_, fun _ _ _ h => h, ?_⟩) | simp only [-eq_self, hidx, lenx, bin_eql, bin_gtr, d1, d2, grd_true_true, grd_true_false, grd_false_false, grd_false_true, pick_bool, cond_true, cond_false, cnd_true, cnd_false])
          have : numB (d :: r) = false := by
            unfold numB
            have a : decide ((d :: r).head? ≠ some 48) = false := by rw [h1]; simp
            have b : decide ((d :: r).length ≤ 1) = false := decide_eq_false (by omega)
            rw [a, b]; simp
          rw [this] at hK; exact hK
        · have d2 : decide ((1 : Int) < (((d :: r).length : Nat) : Int)) = false := decide_eq_false (by omega)
          have hd := digits K (by
            have : numB (d :: r) = (d :: r).all digB := by
              unfold numB
              have b : decide ((d :: r).length ≤ 1) = true := decide_eq_true (by omega)
              rw [b]; simp
            rw [← this]; exact hK)
          repeat (first | exact hd | (refine ⟨_, fun _ _ _ h => h, ?_⟩) | simp only [-eq_self, hidx, lenx, bin_eql, bin_gtr, d1, d2, grd_true_true, grd_true_false, grd_false_false, grd_false_true, pick_bool, cond_true, cond_false, cnd_true, cnd_false])
      · have d1 : decide (((d.toNat : Nat) : Int) = 48) = false := decide_eq_false fun e => h1 (UInt8.toNat_inj.1 (by rw [show (48 : UInt8).toNat = 48 from rfl]; omega))
        have hd := digits K (by
          have : numB (d :: r) = (d :: r).all digB := by
            unfold numB
            have a : decide ((d :: r).head? ≠ some 48) = true := by simp [h1]
            rw [a]; simp
          rw [← this]; exact hK)
        repeat (first | exact hd | (refine ⟨_, fun _ _ _ h => h, ?_⟩) | simp only [-eq_self, hidx, lenx, bin_eql, bin_gtr, d1, grd_true_true, grd_true_false, grd_false_false, grd_false_true, pick_bool, cond_true, cond_false, cnd_true, cnd_false])
  · rw [len_str u_string]
    cases l with
    | nil =>
      have d0 : decide ((0 : Int) < ((([] : List UInt8).length : Nat) : Int)) = false := rfl
      repeat (first | (refine ⟨_, fun _ _ _ h => h, ?_⟩) | simp only [-eq_self, bin_gtr, d0, grd_true_true, grd_true_false, grd_false_false, grd_false_true, pick_bool, cond_true, cond_false, cnd_true, cnd_false])
      exact Hide.mk ⟨rfl, rfl, rfl⟩
    | cons d r =>
      have d0 : decide ((0 : Int) < (((d :: r).length : Nat) : Int)) = true := decide_eq_true (by simp)
      have hidx : ∀ (w : World) (K : Value → Prop), idx P t_string (str (d :: r)) (.int .i64 0) w K = K (.int .u8 (d.toNat : Nat)) := fun w K => idx_str (i := 0) u_string (by simp)
      by_cases h1 : d = 45
      · have d1 : decide (((d.toNat : Nat) : Int) = 45) = true := decide_eq_true (by rw [h1]; rfl)
        have hn : negB (d :: r) = true := by unfold negB; rw [h1]; rfl
        have hb : body (d :: r) = r := by unfold body; rw [hn]; rfl
        repeat (first | (refine ⟨_, fun _ _ _ h => h, ?_⟩) | simp only [-eq_self, hidx, bin_eql, bin_gtr, d0, d1, grd_true_true, grd_true_false, grd_false_false, grd_false_true, pick_bool, cond_true, cond_false, cnd_true, cnd_false])
        rw [show (1 : Int) = ((1 : Nat) : Int) from rfl, sli_strL u_string (by simp), eql_str (b := [48])]
        refine cnd_dec (fun h2 => ?_) (fun h2 => ?_)
        · have e : isNum (d :: r) = false := by
            unfold isNum
            rw [hn, hb]
            have : r = [48] := h2
            rw [this]; rfl
          rw [e] at H; exact H
        · refine Hide.mk ⟨rfl, by rw [hb]; rfl, ?_⟩
          rw [hn, hb]
          have : ¬ r = [48] := h2
          simp [this]
      · have d1 : decide (((d.toNat : Nat) : Int) = 45) = false := decide_eq_false fun e => h1 (UInt8.toNat_inj.1 (by rw [show (45 : UInt8).toNat = 45 from rfl]; omega))
        have hn : negB (d :: r) = false := by unfold negB; simp [h1]
        have hb : body (d :: r) = d :: r := by unfold body; rw [hn]; rfl
        repeat (first | (refine ⟨_, fun _ _ _ h => h, ?_⟩) | simp only [-eq_self, hidx, bin_eql, bin_gtr, d0, d1, grd_true_true, grd_true_false, grd_false_false, grd_false_true, pick_bool, cond_true, cond_false, cnd_true, cnd_false])
        exact Hide.mk ⟨rfl, by rw [hb], by rw [hn]; rfl⟩
end Go.Proofs.YtjompmflommadaaGreatDoor
namespace Go.Proofs.YtjompmflommadaaGreatDoor
open Go Go.Vc
variable {w : World} {K : Value → World → Prop}
theorem Mg.inj {v : Value} {n : Nat} (h : Mg w v n) {m : Nat} (e : n = m) : Mg w v m := e ▸ h
theorem one_trim {d : Nat} {KW : Value → World → Prop} (hd : d < 4294967296) (H : ∀ v w', Ext w w' → Mg w' v d → KW v w') :
    bsl P t_s_uint32 1 [(0, .int .u32 (d : Int))] w fun x w2 => Ext w w2 ∧ call P f_impl_magTrim [x] w2 KW := by
  refine bsl_one u_s_uint32 i_uint32 rfl rfl ?_
  have he := Ext_alloc w (.cells #[.int .u32 (d : Int)] t_uint32)
  have ho : OD .u32 t_uint32 (w.alloc (.cells #[.int .u32 (d : Int)] t_uint32)) w.heap.size (.slice (some ⟨w.heap.size, 0, none⟩) 1 1) [d] := owns_lit w [.int .u32 (d : Int)] t_uint32 (by simp [maxLen])
  refine ⟨he, c_trimO ho (fun x hx => by simp at hx; omega) fun v' h => H _ _ he ?_⟩
  have : val 4294967296 [d] = d := by simp [val]
  rw [this] at h
  exact h.Mg
theorem one_late {d : Nat} {KW : Value → World → Prop} (hd : d < 4294967296) (H : ∀ v w', Ext w w' → (∀ w'' (K : Value → World → Prop), Ext w' w'' → (∀ u, Mg w'' u d → K u w'') → call P f_impl_magTrim [v] w'' K) → KW v w') :
    bsl P t_s_uint32 1 [(0, .int .u32 (d : Int))] w KW := by
  refine bsl_one u_s_uint32 i_uint32 rfl rfl ?_
  have he := Ext_alloc w (.cells #[.int .u32 (d : Int)] t_uint32)
  have ho : OD .u32 t_uint32 (w.alloc (.cells #[.int .u32 (d : Int)] t_uint32)) w.heap.size (.slice (some ⟨w.heap.size, 0, none⟩) 1 1) [d] := owns_lit w [.int .u32 (d : Int)] t_uint32 (by simp [maxLen])
  refine H _ _ he fun w'' K e2 hK => ?_
  have ho2 : OD .u32 t_uint32 w'' w.heap.size (.slice (some ⟨w.heap.size, 0, none⟩) 1 1) [d] := owns_ext ho e2
  refine c_trimO ho2 (fun x hx => by simp at hx; omega) fun v' h => hK _ ?_
  have : val 4294967296 [d] = d := by simp [val]
  rw [this] at h
  exact h.Mg
set_option maxRecDepth 20000 in
theorem c_SetString {z : Value} {base : Nat} {l : List UInt8} (hz : ZO w base z) (hn : isNum l = true) (hl : l.length ≤ 800)
    (H : ∀ w1 w', Ext w w1 → ZO w1 base z → w1.grownBy w' (blk z) → ZO w' base z → IntR w' z (numI l) → K (.tuple #[z, .bool true]) w') : call P f_impl_integer_SetString [z, str l, .int .i64 10] w K := by
  have hnb := isNum_parts hn
  have hall : (body l).all digB = true := by
    simp only [numB, Bool.and_eq_true] at hnb; exact hnb.1.2
  have hne : body l ≠ [] := by
    simp only [numB, Bool.and_eq_true] at hnb; exact of_decide_eq_true hnb.1.1
  have hbl := body_le l
  have hlne : l ≠ [] := by
    rintro rfl; exact hne rfl
  obtain ⟨d0, r0, rfl⟩ := List.exists_cons_of_ne_nil hlne
  refine I_impl_integer_SetString ?_
  unfold D_impl_integer_SetString
  have hidx : ∀ (w : World) (K : Value → Prop), idx P t_string (str (d0 :: r0)) (.int .i64 0) w K = K (.int .u8 (d0.toNat : Nat)) := fun w K => idx_str (i := 0) u_string (by simp)
  have hneq : decide (d0 :: r0 ≠ []) = true := by simp
  rw [neq_str (b := []), hneq]
  have h45 : decide (((d0.toNat : Nat) : Int) = 45) = negB (d0 :: r0) := by
    unfold negB
    have : ((d0 :: r0).head? = some 45) ↔ d0 = 45 := by simp
    rw [decide_eq_decide, this]
    constructor
    · intro e; exact UInt8.toNat_inj.1 (by rw [show (45 : UInt8).toNat = 45 from rfl]; omega)
    · rintro rfl; rfl
  refine ⟨fun y w' => w' = w ∧ y = .bool (negB (d0 :: r0)), ?_, ?_⟩
  · rintro y junk w2 ⟨rfl, rfl⟩
    rw [pick_bool, cond_true]
    refine ⟨fun x w' => w' = w2 ∧ x = str (body (d0 :: r0)), ?_, ?_⟩
    · rintro x junk w3 ⟨rfl, rfl⟩
      unfold numI at H
      generalize body (d0 :: r0) = q at *
      generalize negB (d0 :: r0) = ng at *
      have hzz : ∃ v0 w4, Ext w3 w4 ∧ Mg w4 v0 0 := ⟨_, w3, Ext.refl _, Mg.nil _⟩
      refine bsl_nil u_s_uint32 i_uint32 ?_
      have he := Ext_alloc w3 (.cells #[] t_uint32)
      have ho : OD .u32 t_uint32 (w3.alloc (.cells #[] t_uint32)) w3.heap.size (.slice (some ⟨w3.heap.size, 0, none⟩) 0 0) [] := owns_lit w3 [] t_uint32
      have hm0 : Mg (w3.alloc (.cells #[] t_uint32)) (.slice (some ⟨w3.heap.size, 0, none⟩) 0 0) 0 := ⟨[], ho.IR, Norm.nil _, rfl, Ty.owns ho⟩
      generalize w3.alloc (.cells #[] t_uint32) = w4 at he hm0 ⊢
      generalize (Value.slice (some ⟨w3.heap.size, 0, none⟩) 0 0) = v0 at hm0 ⊢
      rw [len_str u_string]
      refine ⟨fun g v x w' => ∃ i : Nat, x = .int .i64 (i : Int) ∧ g + i = q.length ∧ Ext w3 w' ∧ Mg w' v (decV (q.take i)), ⟨q.length, 0, rfl, rfl, he, hm0⟩, ?_⟩
      rintro g v x junk w5 ⟨i, rfl, hg, e5, m5⟩
      rw [bin_lss]
      refine cnd_dec (fun hlt => ?_) (fun hge => ?_)
      · have hi : i < q.length := by omega
        have hd : digB q[i] = true := List.all_eq_true.1 hall q[i] (List.getElem_mem hi)
        obtain ⟨a1, a2⟩ := digB_iff.1 hd
        have hx : ∀ (w : World) (K : Value → Prop), idx P t_string (str q) (.int .i64 (i : Int)) w K = K (.int .u8 (q[i].toNat : Nat)) := fun w K => idx_str u_string hi
        rw [hx, bin_lss, decide_eq_false a1]
        refine ⟨fun y w' => w' = w5 ∧ y = .bool false, ?_, ?_⟩
        · rintro y junk w6 ⟨rfl, rfl⟩
          rw [pick_bool, cond_false, cnd_false]
          have hbl5 : bl (decV (q.take i)) ≤ 3200 := Nat.le_trans (dec_bl hall i) (by omega)
          have hval : decV (q.take (i + 1)) = decV (q.take i) * 10 + (q[i].toNat - 48) := by
            rw [List.take_succ_eq_append_getElem hi]
            exact decA_snoc 0 _ _
          refine ⟨fun v' w' => Ext w6 w' ∧ Mg w' v' (decV (q.take (i + 1))), ?_, ?_⟩
          · rintro v' junk w7 ⟨e7, m7⟩
            rw [bin_addI1 (b := 1) (by omega)]
            exact ⟨g - 1, by omega, i + 1, rfl, by omega, e5.trans e7, m7⟩
          · rw [cnv_int_int u_int u_uint32, hx, bin_sub]
            have hs8 : IntKind.u8.wrap (((q[i].toNat : Nat) : Int) - 48) = ((q[i].toNat - 48 : Nat) : Int) := by
              rw [show ((q[i].toNat : Nat) : Int) - 48 = ((q[i].toNat - 48 : Nat) : Int) by omega]
              exact wrap_nat (by show _ ≤ (255 : Int); omega)
            have hw10 : IntKind.u32.wrap 10 = ((10 : Nat) : Int) := rfl
            rw [hs8, cnv_int_int u_uint8 u_uint32, w_u32, Nat.mod_eq_of_lt (by omega), hw10]
            have fin : ∀ {a b c w'}, Ext w6 w' → Mg w' a (decV (q.take i)) → Mg w' b 10 → Mg w' c (q[i].toNat - 48) → True := fun _ _ _ _ => trivial
            have add : ∀ {a c : Value} {w' : World}, Ext w6 w' → Mg w' a (decV (q.take i) * 10) → Mg w' c (q[i].toNat - 48) → call P f_impl_magAdd [a, c] w' fun x w'' => Ext w6 w'' ∧ Mg w'' x (decV (q.take (i + 1))) := by
              intro a c w' he ha hc
              have hb1 := bl_mul (decV (q.take i)) 10
              have hb2 : bl 10 = 4 := by decide
              have hb3 : bl (q[i].toNat - 48) ≤ 8 := bl_le.2 (by omega)
              refine c_magAdd ha hc (by omega) (by omega) fun v' w'' e h => ⟨he.trans e, ?_⟩
              rw [hval]; exact h.Mg
            have mul : ∀ {a b : Value} {w' : World} {KW : Value → World → Prop}, Mg w' a (decV (q.take i)) → Mg w' b 10 → (∀ v w'', Ext w' w'' → Mg w'' v (decV (q.take i) * 10) → KW v w'') → call P f_impl_magMul [a, b] w' KW := by
              intro a b w' KW ha hb hK
              refine c_magMul ha hb (by omega) (by decide) fun v' w'' e h => hK v' w'' e h.Mg
            refine ⟨?_, ?_⟩
            · refine bsl_u32 (by decide) (by decide) fun v7 w7 e7 m10 => ?_
              refine ⟨e7, ?_, ?_⟩
              · refine mul (m5.ext e7) m10 fun v8 w8 e8 m8 => ?_
                refine ⟨e8, ?_⟩
                refine one_trim (by omega) fun v9 w9 e9 m9 => ?_
                exact add ((e7.trans e8).trans e9) (m8.ext e9) m9
              · refine one_late (by omega) fun v8 w8 e8 ht => ?_
                refine ⟨e8, ?_⟩
                refine mul ((m5.ext e7).ext e8) (m10.ext e8) fun v9 w9 e9 m9 => ?_
                refine ⟨e9, ?_⟩
                refine ht w9 _ e9 fun u mu => ?_
                exact add ((e7.trans e8).trans e9) m9 mu
            · refine one_late (by omega) fun v7 w7 e7 ht => ?_
              refine ⟨e7, ?_⟩
              refine bsl_u32 (by decide) (by decide) fun v8 w8 e8 m10 => ?_
              refine ⟨e8, ?_⟩
              refine mul ((m5.ext e7).ext e8) m10 fun v9 w9 e9 m9 => ?_
              refine ⟨e9, ?_⟩
              refine ht w9 _ (e8.trans e9) fun u mu => ?_
              exact add ((e7.trans e8).trans e9) m9 mu
        · rw [grd_false_false, hx, bin_gtr, decide_eq_false a2]
          exact ⟨rfl, rfl⟩
      · have hi : i = q.length := by omega
        subst hi
        rw [List.take_of_length_le (Nat.le_refl _)] at m5
        rw [eql_str (b := []), decide_eq_false hne, cnd_false]
        refine c_putM (hz.ext e5) m5 fun w6 z6 i6 g6 => ?_
        refine H w5 w6 e5 (hz.ext e5) g6 z6 ?_
        have : sgnI ng (decV q) = if ng = true then -(decV q : Int) else decV q := by unfold sgnI; rfl
        rw [this] at i6; exact i6
    · rw [neq_str (b := []), hneq]
      by_cases hg : negB (d0 :: r0) = true
      · have hb : body (d0 :: r0) = r0 := by unfold body; rw [hg]; rfl
        repeat (first | (refine ⟨_, fun _ _ _ h => h, ?_⟩) | simp only [-eq_self, hidx, bin_eql, h45, hg, grd_true_true, grd_true_false, grd_false_false, grd_false_true, pick_bool, cond_true, cond_false, cnd_true, cnd_false])
        rw [show (1 : Int) = ((1 : Nat) : Int) from rfl, sli_strL u_string (by simp)]
        exact ⟨rfl, by rw [hb]; rfl⟩
      · rw [Bool.not_eq_true] at hg
        have hb : body (d0 :: r0) = d0 :: r0 := by unfold body; rw [hg]; rfl
        have hd : digB d0 = true := by
          rw [hb] at hall
          exact List.all_eq_true.1 hall d0 (List.mem_cons_self ..)
        obtain ⟨a1, a2⟩ := digB_iff.1 hd
        have h43 : decide (((d0.toNat : Nat) : Int) = 43) = false := decide_eq_false (by omega)
        repeat (first | (refine ⟨_, fun _ _ _ h => h, ?_⟩) | simp only [-eq_self, hidx, bin_eql, h45, h43, hg, grd_true_true, grd_true_false, grd_false_false, grd_false_true, pick_bool, cond_true, cond_false, cnd_true, cnd_false])
        exact ⟨rfl, by rw [hb]⟩
  · rw [grd_true_true, hidx, bin_eql, h45]
    exact ⟨rfl, rfl⟩
end Go.Proofs.YtjompmflommadaaGreatDoor


set_option linter.unusedVariables false
namespace Go.Proofs.YtjompmflommadaaGreatDoor
open Go Go.Vc
variable {w : World} {K : Value → World → Prop}
theorem lim_len {l : List Nat} (h : Norm 16777216 l) (hb : bl (val 16777216 l) ≤ 1099511627776) : l.length ≤ 45812984491 := by
  have := (Norm.len_le (s := 24) (by decide) h).1
  have e : val (2 ^ 24) l = val 16777216 l := rfl
  rw [e] at this
  omega
theorem IR.sl {k : IntKind} {v : Value} {l : List Nat} (h : IR k w v l) : ∃ a n c, v = .slice a n c := by
  obtain ⟨_, _, a, c, rfl, _⟩ := h.row
  exact ⟨_, _, _, rfl⟩
theorem sl_one {v : Value} (h : ∃ a n c, v = .slice a n c) : v.oneCell' = true := by obtain ⟨_, _, _, rfl⟩ := h; rfl
theorem bld_Whole2 {n : Int} {s : Value} {K : Value → Prop} (hs : ∃ a l c, s = .slice a l c) : bld P t_impl_Whole [(0, .int .i64 n), (1, s)] w K = K (.agg #[.int .i64 n, s]) := by
  obtain ⟨a, l, c, rfl⟩ := hs
  exact bld_of (by kernel_rfl)
theorem wh_ret {base : Nat} {x v : Value} {m : Int} {lo hi : Nat} {cs : List Value} (hb : Bx w base t_impl_Whole x cs) (hl : cs.length = 2) (hv : Wo w lo hi v m) (H : ∀ w', w.grownBy w' (blk x) → Wo w' lo hi v m → K v w') :
    sto P t_impl_Whole x v w fun w' => ldc P t_impl_Whole x w' fun r => K r w' := by
  obtain ⟨s, l, rfl, ho, hw⟩ := hv
  refine hb.put i_impl_Whole (ds := [.int .i64 m.sign, s]) rfl hl (one_2 rfl (sl_one (IR.sl (OD.IR ho.own)))) fun w' b' g' => ?_
  exact b'.getc u_impl_Whole rfl i_impl_Whole rfl (H w' g' ⟨s, l, rfl, ⟨keep_row ho.own g' (Ty.box hb) (by decide), ho.top⟩, hw⟩)
theorem wo_mono {lo hi lo' hi' : Nat} {v : Value} {m : Int} (h : Wo w lo hi v m) (h1 : lo' ≤ lo) (h2 : hi ≤ hi') : Wo w lo' hi' v m := let ⟨s, l, a, b, c⟩ := h; ⟨s, l, a, b.mono h1 h2, c⟩
theorem c_l01Own {s : Value} {l : List Nat} (h : IR .i64 w s l) (hl : l.length ≤ 100000000000) (H : ∀ v' w', Ext w w' → OD .i64 t_int64 w' w.heap.size v' l → K v' w') : call P f_spec_l01Own [s] w K := by
  refine I_spec_l01Own ?_
  unfold D_spec_l01Own
  refine bsl_nil u_s_int64 i_int64 ?_
  have he := Ext_alloc w (.cells #[] t_int64)
  have hz : (w.alloc (.cells #[] t_int64)).ownsRow w.heap.size t_int64 1 (.slice (some ⟨w.heap.size, 0, none⟩) 0 0) 0 [] := owns_lit w [] t_int64
  generalize w.alloc (.cells #[] t_int64) = w1 at he hz ⊢
  refine append_intro hz (h.ext he).row (by simp [Value.oneCell']) u_s_int64 i_int64 rfl (by decide) (by simp only [maxLen]; omega) (by omega) he.size fun v' w2 ho hg => ?_
  refine H _ _ (ext_of_grown he (fun g hq => (hz.lt g hq).1) hg) ?_
  simpa using ho
theorem c_l02Make {s : Value} {l : List Nat} {sg m : Int} (h : IR .i64 w s l) (hd : Dig 16777216 l) (hm : m.natAbs = val 16777216 l) (hs : m ≠ 0 → m.sign = sg) (hl : l.length ≤ 100000000000)
    (H : ∀ v' w', Ext w w' → Wo w' w.heap.size w'.heap.size v' m → K v' w') : call P f_spec_l02Make [.int .i64 sg, s] w K := by
  refine I_spec_l02Make ?_
  unfold D_spec_l02Make
  refine alc_bx i_impl_Whole fun x w1 b1 e1 _ => ?_
  have h1 := h.ext e1
  rw [h1.row.len u_s_int64]
  refine ⟨fun g y w' => w' = w1 ∧ y = .int .i64 (g : Int) ∧ g ≤ l.length ∧ trim (l.take g) = trim l, ⟨l.length, rfl, rfl, Nat.le_refl _, by rw [List.take_length]⟩, ?_⟩
  rintro g y junk w' ⟨rfl, rfl, hg, ht⟩
  have hlt : (l.take g).length = g := by rw [List.length_take]; omega
  rw [bin_gtr]
  have fin : (l.take g).getLast? ≠ some 0 → bin P .eql t_int false true (.int .i64 (g : Int)) (.int .i64 0) w' fun x21_17 =>
      cnd x21_17 (bld P t_impl_Whole [] w' fun x22_18 => sto P t_impl_Whole x x22_18 w' fun w20 => ldc P t_impl_Whole x w20 fun r21 => K r21 w20)
        (sli P t_s_int64 s none (some (.int .i64 (g : Int))) none w' fun x26_22 => call P f_spec_l01Own [x26_22] w' fun x27_23 w24 => bld P t_impl_Whole [(0, .int .i64 sg), (1, x27_23)] w24 fun x28_25 => sto P t_impl_Whole x x28_25 w24 fun w27 => ldc P t_impl_Whole x w27 fun r28 => K r28 w27) := by
    intro hz
    rw [trim_last hz] at ht
    rw [bin_eql]
    refine cnd_dec (fun h0 => ?_) (fun h0 => ?_)
    · have hg0 : g = 0 := by omega
      subst hg0
      have hv0 : val 16777216 l = 0 := by rw [← val_trim, ← ht]; rfl
      have hm0 : m = 0 := by omega
      subst hm0
      rw [bld_Whole0]
      have hz0 : Wo w' w.heap.size w.heap.size (.agg #[.int .i64 0, .slice none 0 0]) 0 := ⟨_, [], rfl, ⟨OD.nil _ _ _ _, fun k hk => by cases hk⟩, Wl.zero⟩
      refine wh_ret b1 rfl hz0 fun w2 g2 h2 => ?_
      have e2 := ext_of_grown e1 (fun g hg => (b1.blk_lt hg).1) g2
      exact H _ _ e2 (wo_mono h2 (Nat.le_refl _) e2.size)
    · refine Row.sli_h h1.row h1.cap u_s_int64 i_int64 hg fun v' r1 r2 _ _ => ?_
      have hI : IR .i64 w' v' (l.take g) := ⟨by rw [hlt, List.map_take]; exact r1, r2⟩
      refine c_l01Own hI (by omega) fun s' w2 e2 o2 => ?_
      rw [bld_Whole2 (IR.sl (OD.IR o2))]
      have b2 := b1.ext e2
      have hn : Norm 16777216 (l.take g) := by rw [ht]; exact Norm.trim hd
      have hv : val 16777216 (l.take g) = m.natAbs := by rw [hm, ht, val_trim]
      have hm0 : m ≠ 0 := by
        rintro rfl
        have : l.take g ≠ [] := by
          intro e
          rw [e] at hlt
          simp at hlt
          omega
        have := hn.pos (by decide) this
        rw [hv] at this
        exact absurd this (by decide)
      have hW : Wo w2 w.heap.size w2.heap.size (.agg #[.int .i64 sg, s']) m := ⟨s', _, by rw [hs hm0], OwnR.of (owns_base o2 e1.size), hn, hv⟩
      refine wh_ret b2 rfl hW fun w3 g3 h3 => ?_
      have e3 : Ext w w3 := ext_of_grown (e1.trans e2) (fun g hg => (b2.blk_lt hg).1) g3
      exact H _ _ e3 (wo_mono h3 (Nat.le_refl _) g3.size)
  refine ⟨_, fun _ _ _ h => h, ?_⟩
  refine grd_split (fun hp => ?_) (fun hp => ?_)
  · simp only [decide_eq_true_eq] at hp
    have hg0 : 0 < g := by omega
    rw [bin_subI1 (b := 1) (by omega) (by have := h.bound; omega)]
    refine h1.at (i := g - 1) (by omega) u_s_int64 i_int64 u_int64 ?_
    rw [bin_eql, pick_bool, decide_eq_true hp, cond_true]
    have hlast : (l.take g).getLast? = some l[g - 1] := by
      rw [List.getLast?_eq_getElem?, hlt, List.getElem?_take, if_pos (by omega)]
      exact List.getElem?_eq_getElem (by omega)
    refine cnd_dec (fun hz => ?_) (fun hz => ?_)
    · have hz' : l[g - 1] = 0 := by simpa using hz
      rw [bin_subI1 (b := 1) (by omega) (by have := h.bound; omega)]
      refine ⟨g - 1, by omega, rfl, rfl, by omega, ?_⟩
      have htk := List.take_succ_eq_append_getElem (l := l) (i := g - 1) (by omega)
      rw [show g - 1 + 1 = g by omega, hz'] at htk
      rw [← ht, htk, trim_snoc_zero]
    · exact fin (by rw [hlast]; simpa using hz)
  · rw [hp, Bool.not_true, pick_bool, cond_false, cnd_false]
    simp only [Bool.not_true, decide_eq_false_iff_not] at hp
    have hg0 : g = 0 := by omega
    subst hg0
    exact fin (by simp)
theorem bx_Wh {m : Int} {s : Value} {KW : Value → World → Prop} (H : ∀ x w', Bx w' w.heap.size t_impl_Whole x [.int .i64 m, s] → Ext w w' → KW x w') : bx P t_impl_Whole (.agg #[.int .i64 m, s]) w KW :=
  bx_bx fun x w' b e _ => H x w' b e
theorem wh_s {base : Nat} {x s : Value} {m : Int} {K : Value → Prop} (h : Bx w base t_impl_Whole x [.int .i64 m, s]) (H : K (.int .i64 m)) : fda P t_impl_Whole x 0 w (fun a => ld P t_int64 a w K) :=
  h.fld (off := 0) rfl u_impl_Whole rfl i_int64 u_int64 rfl H
theorem wh_l {base : Nat} {x s : Value} {m : Int} {K : Value → Prop} (h : Bx w base t_impl_Whole x [.int .i64 m, s]) (H : K s) : fda P t_impl_Whole x 1 w (fun a => ld P t_s_int64 a w K) :=
  h.fld (off := 1) rfl u_impl_Whole rfl i_s_int64 u_s_int64 rfl H
theorem wh_all {base : Nat} {x s : Value} {m : Int} {K : Value → Prop} (h : Bx w base t_impl_Whole x [.int .i64 m, s]) (H : K (.agg #[.int .i64 m, s])) : ld P t_impl_Whole x w K :=
  h.get u_impl_Whole rfl i_impl_Whole rfl H
theorem alc_Wh {KW : Value → World → Prop} (H : ∀ x w', (∃ cs, cs.length = 2 ∧ Bx w' w.heap.size t_impl_Whole x cs) → Ext w w' → KW x w') : alc P t_impl_Whole w KW :=
  alc_bx i_impl_Whole fun x w' b e _ => H x w' ⟨_, rfl, b⟩ e
theorem wh_make {base : Nat} {x s : Value} {l : List Nat} {sg m : Int} {cs : List Value} {w0 : World} (he : Ext w0 w) (hb : Bx w base t_impl_Whole x cs) (hcs : cs.length = 2) (hbase : w0.heap.size ≤ base) (h : IR .i64 w s l) (hd : Dig 16777216 l) (hm : m.natAbs = val 16777216 l) (hs : m ≠ 0 → m.sign = sg) (hl : l.length ≤ 100000000000)
    (H : ∀ v' w', Ext w0 w' → Wo w' w0.heap.size w'.heap.size v' m → K v' w') : call P f_spec_l02Make [.int .i64 sg, s] w fun r w1 => sto P t_impl_Whole x r w1 fun w2 => ldc P t_impl_Whole x w2 fun r => K r w2 := by
  refine c_l02Make h hd hm hs hl fun v' w1 e1 h1 => ?_
  have b1 := hb.ext e1
  refine wh_ret b1 hcs h1 fun w2 g2 h2 => ?_
  have e2 : Ext w0 w2 := ext_of_grown (he.trans e1) (fun g hg => Nat.le_trans hbase (b1.blk_lt hg).1) g2
  exact H _ _ e2 (wo_mono h2 he.size g2.size)
theorem tmod_abs (a : Int) : (a.tmod 16777216).natAbs = a.natAbs % 16777216 := Int.natAbs_tmod a 16777216
theorem tdiv_abs (a : Int) : (a.tdiv 16777216).natAbs = a.natAbs / 16777216 := Int.natAbs_tdiv a 16777216
theorem c_l02Of {n : Int} (h1 : -9223372036854775807 ≤ n) (h2 : n ≤ 9223372036854775807) (H : ∀ v' w', Ext w w' → Wo w' w.heap.size w'.heap.size v' n → K v' w') : call P f_spec_l02Of [.int .i64 n] w K := by
  refine I_spec_l02Of ?_
  unfold D_spec_l02Of
  refine alc_Wh fun x w1 ⟨cs, hcs, b1⟩ e1 => ?_
  refine bsl_nil u_s_int64 i_int64 ?_
  have he := Ext_alloc w1 (.cells #[] t_int64)
  have hz : OD .i64 t_int64 (w1.alloc (.cells #[] t_int64)) w1.heap.size (.slice (some ⟨w1.heap.size, 0, none⟩) 0 0) [] := owns_lit w1 [] t_int64
  generalize w1.alloc (.cells #[] t_int64) = w2 at he hz ⊢
  refine ⟨fun y w' => w' = w2 ∧ y = .int .i64 (if n < 0 then -1 else 1), ?_, ?_⟩
  · rintro y junk w' ⟨rfl, rfl⟩
    refine ⟨fun g x y w' => ∃ (a : Int) (q : List Nat), g = a.natAbs ∧ x = .int .i64 a ∧ Ext w1 w' ∧ OD .i64 t_int64 w' w1.heap.size y q ∧ q.length ≤ 64 ∧ val 16777216 q + 16777216 ^ q.length * a.natAbs = n.natAbs ∧ Dig 16777216 q ∧ a.natAbs ≤ n.natAbs,
      ⟨n.natAbs, n, [], rfl, rfl, he, hz, Nat.zero_le _, by simp [val], (by intro d hd; cases hd), Nat.le_refl _⟩, ?_⟩
    rintro g x y junk w3 ⟨a, q, rfl, rfl, e3, oq, hq64, hv, dq, ha⟩
    have E3 := e1.trans e3
    have hql : a ≠ 0 → q.length < 64 := fun ha0 => by
      have h3 : 16777216 ^ q.length * 1 ≤ 16777216 ^ q.length * a.natAbs := Nat.mul_le_mul_left _ (by omega)
      have h4 : 2 ^ (24 * q.length) ≤ n.natAbs := by rw [Nat.pow_mul, show (2 : Nat) ^ 24 = 16777216 from rfl]; omega
      refine Nat.lt_of_not_le fun hc => ?_
      have : 2 ^ 64 ≤ 2 ^ (24 * q.length) := Nat.pow_le_pow_right (by decide) (by omega)
      have h64 : (2 : Nat) ^ 64 = 18446744073709551616 := by decide
      omega
    rw [bin_neq]
    refine cnd_dec (fun hne => ?_) (fun heq => ?_)
    · rw [bin_rem _ _ _ _ _ _ _ (by decide)]
      have hm := tmod_abs a
      have hq := tdiv_abs a
      have hmod := Nat.mod_lt a.natAbs (show 0 < 16777216 by decide)
      refine ⟨fun y w' => w' = w3 ∧ y = .int .i64 ((a.natAbs % 16777216 : Nat) : Int), ?_, ?_⟩
      · rintro y' junk w4 ⟨rfl, rfl⟩
        have := hql (by omega)
        refine app_OD oq u_s_int64 i_int64 (by simp only [maxLen]; omega) (by omega) e3.size fun v' w5 o5 g5 => ?_
        rw [bin_quo _ _ _ _ _ _ _ (by decide), wrap_i64 (by omega) (by omega)]
        refine ⟨_, ?_, a.tdiv 16777216, _, rfl, rfl, ext_of_grown e3 (fun g hg => (oq.lt g hg).1) g5, o5, by simp; omega, ?_, ?_, by omega⟩
        · rw [hq]; omega
        · rw [val_snoc, List.length_append, List.length_singleton, Nat.pow_succ, hq]
          exact digs_step hv rfl rfl
        · intro d hd
          rcases List.mem_append.1 hd with hd | hd
          · exact dq d hd
          · simp at hd; omega
      · rw [bin_lss]
        refine cnd_dec (fun hneg => ?_) (fun hpos => ?_)
        · rw [una_neg_int, wrap_i64 (by omega) (by omega)]
          exact ⟨rfl, by congr 1; omega⟩
        · exact ⟨rfl, by congr 1; omega⟩
    · have ha0 : a = 0 := by omega
      subst ha0
      refine wh_make E3 (b1.ext e3) hcs (Nat.le_refl _) (OD.IR oq) dq (by simpa using hv.symm) (fun hn => ?_) ?_ fun v' w' he' hw' => H v' w' he' hw'
      · split
        · rename_i h; exact Int.sign_eq_neg_one_of_neg h
        · exact Int.sign_eq_one_of_pos (by omega)
      · omega
  · rw [bin_lss]
    refine cnd_dec (fun hneg => ?_) (fun hpos => ?_)
    · exact ⟨rfl, by rw [if_pos hneg]⟩
    · exact ⟨rfl, by rw [if_neg hpos]⟩
end Go.Proofs.YtjompmflommadaaGreatDoor


set_option linter.unusedVariables false
namespace Go.Proofs.YtjompmflommadaaGreatDoor
open Go Go.Vc
variable {w : World} {K : Value → World → Prop}
theorem pL (i : Nat) : (16777216 : Nat) ^ (i + 1) = 16777216 ^ i * 16777216 := Nat.pow_succ ..
theorem Dig_snoc {b : Nat} {l : List Nat} {x : Nat} (h : Dig b l) (hx : x < b) : Dig b (l ++ [x]) := fun d hd => by
  rcases List.mem_append.1 hd with hd | hd
  · exact h d hd
  · simp at hd; omega
theorem getD_ge {l : List Nat} {i : Nat} (h : l.length ≤ i) : l.getD i 0 = 0 := by rw [List.getD_eq_getElem?_getD]; simp [h]
theorem bin_remI {t : TypeId} {cx cy : Bool} {a b : Nat} {c : Int} {K : Value → Prop} (hb : b ≠ 0) (hc : c = (b : Int) := by rfl) : bin P .rem t cx cy (.int .i64 (a : Int)) (.int .i64 c) w K = K (.int .i64 ((a % b : Nat) : Int)) := bin_remN hb hc
theorem bin_quoI {t : TypeId} {cx cy : Bool} {a b : Nat} {c : Int} {K : Value → Prop} (ha : a ≤ 9223372036854775807) (hb : b ≠ 0) (hc : c = (b : Int) := by rfl) : bin P .quo t cx cy (.int .i64 (a : Int)) (.int .i64 c) w K = K (.int .i64 ((a / b : Nat) : Int)) := bin_quoN (by rw [max_i64]; omega) hb hc
theorem c_l02CompareLimbs {u v : Value} {l r : List Nat} (h1 : IR .i64 w u l) (h2 : IR .i64 w v r) (n1 : Norm 16777216 l) (n2 : Norm 16777216 r) (H : K (.int .i64 (cmpN (val 16777216 l) (val 16777216 r))) w) : call P f_spec_l02CompareLimbs [u, v] w K := by
  refine I_spec_l02CompareLimbs ?_
  unfold D_spec_l02CompareLimbs
  have b1 := h1.bound
  have b2 := h2.bound
  have one : ∀ {a b : Nat} {K : Prop}, a ≠ b → (∀ {w : World} {K : Value → World → Prop}, K (.int .i64 (cmpN a b)) w → (if a < b then K (.int .i64 (-1)) w else K (.int .i64 1) w)) := by
    intro a b _ hne w K hk
    unfold cmpN at hk
    split
    · rename_i h; rw [if_pos h] at hk; exact hk
    · rename_i h; rw [if_neg h, if_pos (by omega)] at hk; exact hk
  rw [h1.row.len u_s_int64, h2.row.len u_s_int64, bin_neq]
  refine cnd_dec (fun h => ?_) (fun h => ?_)
  · rw [h1.row.len u_s_int64, h2.row.len u_s_int64, bin_lss]
    rw [cmpN_len n1 n2 (by omega)] at H
    have := one (K := True) (show l.length ≠ r.length by omega) H
    refine cnd_dec (fun hl => ?_) (fun hl => ?_)
    · rw [if_pos (by omega)] at this; exact this
    · rw [if_neg (by omega)] at this; exact this
  · have hlen : l.length = r.length := by omega
    rw [h1.row.len u_s_int64, bin_sub, wrap_i64 (by omega) (by omega)]
    refine ⟨fun m x w' => w' = w ∧ x = .int .i64 ((m : Int) - 1) ∧ m ≤ l.length ∧ l.drop m = r.drop m, ⟨l.length, rfl, rfl, Nat.le_refl _, by rw [List.drop_length, hlen, List.drop_length]⟩, ?_⟩
    rintro m x junk w' ⟨rfl, rfl, hm, hd⟩
    rw [bin_geq]
    refine cnd_dec (fun hge => ?_) (fun hlt => ?_)
    · have hm0 : 0 < m := by omega
      rw [show (m : Int) - 1 = ((m - 1 : Nat) : Int) by omega]
      refine h1.at (i := m - 1) (by omega) u_s_int64 i_int64 u_int64 ?_
      refine h2.at (i := m - 1) (by omega) u_s_int64 i_int64 u_int64 ?_
      rw [bin_neq]
      refine cnd_dec (fun hne => ?_) (fun heq => ?_)
      · refine h1.at (i := m - 1) (by omega) u_s_int64 i_int64 u_int64 ?_
        refine h2.at (i := m - 1) (by omega) u_s_int64 i_int64 u_int64 ?_
        have hne' : l[m - 1] ≠ r[m - 1] := by omega
        rw [cmpN_dig (i := m - 1) n1.1 n2.1 hlen (by omega) (by rw [show m - 1 + 1 = m by omega]; exact hd) hne'] at H
        have := one (K := True) hne' H
        rw [bin_lss]
        refine cnd_dec (fun hl => ?_) (fun hl => ?_)
        · rw [if_pos (by omega)] at this; exact this
        · rw [if_neg (by omega)] at this; exact this
      · rw [bin_sub, wrap_i64 (by omega) (by omega)]
        refine ⟨m - 1, by omega, rfl, by congr 1, by omega, ?_⟩
        rw [List.drop_eq_getElem_cons (by omega : m - 1 < l.length), List.drop_eq_getElem_cons (by omega : m - 1 < r.length), show m - 1 + 1 = m by omega, hd]
        congr 1; omega
    · have hm0 : m = 0 := by omega
      subst hm0
      have : l = r := by simpa using hd
      subst this
      unfold cmpN at H
      rw [if_neg (by omega), if_neg (by omega)] at H
      exact H
theorem step_add24 {V L R p c a b s : Nat} (hv : V + c * p = L + R) (hs : s = c + a + b) : V + p * (s % 16777216) + s / 16777216 * (p * 16777216) = L + p * a + (R + p * b) := by
  have h := Nat.div_add_mod s 16777216
  have h2 : p * (16777216 * (s / 16777216) + s % 16777216) = p * (c + a + b) := by rw [h, hs]
  grind
theorem c_l02Plus {u v : Value} {l r : List Nat} (h1 : IR .i64 w u l) (h2 : IR .i64 w v r) (d1 : Dig 16777216 l) (d2 : Dig 16777216 r) (l1 : l.length ≤ 45812984491) (l2 : r.length ≤ 45812984491)
    (H : ∀ v' w' q, Ext w w' → OD .i64 t_int64 w' w.heap.size v' q → Dig 16777216 q → val 16777216 q = val 16777216 l + val 16777216 r → q.length ≤ 45812984492 → K v' w') : call P f_spec_l02Plus [u, v] w K := by
  refine I_spec_l02Plus ?_
  unfold D_spec_l02Plus
  refine bsl_nil u_s_int64 i_int64 ?_
  have he := Ext_alloc w (.cells #[] t_int64)
  have hz : OD .i64 t_int64 (w.alloc (.cells #[] t_int64)) w.heap.size (.slice (some ⟨w.heap.size, 0, none⟩) 0 0) [] := owns_lit w [] t_int64
  generalize w.alloc (.cells #[] t_int64) = w1 at he hz ⊢
  refine ⟨fun g x y z w' => ∃ (i c : Nat) (q : List Nat), g + i = max l.length r.length + 1 ∧ y = .int .i64 (c : Int) ∧ z = .int .i64 (i : Int) ∧ Ext w w' ∧ OD .i64 t_int64 w' w.heap.size x q ∧ q.length = i ∧ Dig 16777216 q ∧ c ≤ 1 ∧
    val 16777216 q + c * 16777216 ^ i = val 16777216 (l.take i) + val 16777216 (r.take i) ∧ (max l.length r.length < i → c = 0), ⟨max l.length r.length + 1, 0, 0, [], rfl, rfl, rfl, he, hz, rfl, (by intro d hd; cases hd), by omega, by simp [val], by omega⟩, ?_⟩
  rintro g x y z junk w2 ⟨i, c, q, hg, rfl, rfl, e2, oq, hq, dq, hc, hv, hfin⟩
  rw [(h1.ext e2).row.len u_s_int64, bin_lss]
  have more : i < l.length ∨ i < r.length ∨ 0 < c → ∃ J22 : Value → World → Prop, (∀ (x6_25 : Value) (junk23 : Env) (w24 : World), J22 x6_25 w24 →
            ∃ J26 : Value → World → Prop, (∀ (x6_29 : Value) (junk27 : Env) (w28 : World), J26 x6_29 w28 →
              bin P .rem t_int64 false true x6_29 (.int .i64 16777216) w28 fun x47_30 =>
              bsl P t_s_int64 1 [(0, x47_30)] w28 fun x48_31 w32 =>
              bl2 P .append #[t_s_int64, t_s_int64] t_s_int64 [x, x48_31] w32 fun x49_33 w34 =>
              bin P .quo t_int64 false true x6_29 (.int .i64 16777216) w34 fun x51_35 =>
              bin P .add t_int false true (.int .i64 (i : Int)) (.int .i64 1) w34 fun x24_36 =>
              ∃ m37, m37 < g ∧ ∃ (i c : Nat) (q : List Nat), m37 + i = max l.length r.length + 1 ∧ x51_35 = .int .i64 (c : Int) ∧ x24_36 = .int .i64 (i : Int) ∧ Ext w w34 ∧ OD .i64 t_int64 w34 w.heap.size x49_33 q ∧ q.length = i ∧ Dig 16777216 q ∧ c ≤ 1 ∧
                val 16777216 q + c * 16777216 ^ i = val 16777216 (l.take i) + val 16777216 (r.take i) ∧ (max l.length r.length < i → c = 0)) ∧
              (bl0 P .len #[t_s_int64] t_int [v] w24 fun x37_38 =>
              bin P .lss t_int false false (.int .i64 (i : Int)) x37_38 w24 fun x38_39 =>
              cnd x38_39
                (ixa P t_s_int64 v (.int .i64 (i : Int)) w24 fun x42_40 =>
                ld P t_int64 x42_40 w24 fun x43_41 =>
                bin P .add t_int64 false false x6_25 x43_41 w24 fun x44_42 =>
                J26 x44_42 w24)
                (J26 x6_25 w24))) ∧
            (bl0 P .len #[t_s_int64] t_int [u] w2 fun x27_43 =>
            bin P .lss t_int false false (.int .i64 (i : Int)) x27_43 w2 fun x28_44 =>
            cnd x28_44
              (ixa P t_s_int64 u (.int .i64 (i : Int)) w2 fun x32_45 =>
              ld P t_int64 x32_45 w2 fun x33_46 =>
              bin P .add t_int64 false false (.int .i64 (c : Int)) x33_46 w2 fun x34_47 =>
              J22 x34_47 w2)
              (J22 (.int .i64 (c : Int)) w2)) := by
    intro hor
    have hi : i ≤ max l.length r.length := by
      rcases hor with h | h | h
      · omega
      · omega
      · refine Nat.le_of_not_lt fun hlt => ?_
        have := hfin hlt; omega
    have ga : l.getD i 0 < 16777216 := by
      by_cases h : i < l.length
      · rw [getD_get h]; exact Dig_get d1 h
      · rw [getD_ge (by omega)]; decide
    have gb : r.getD i 0 < 16777216 := by
      by_cases h : i < r.length
      · rw [getD_get h]; exact Dig_get d2 h
      · rw [getD_ge (by omega)]; decide
    refine ⟨fun x w' => w' = w2 ∧ x = .int .i64 ((c + l.getD i 0 : Nat) : Int), ?_, ?_⟩
    · rintro x' junk w3 ⟨rfl, rfl⟩
      refine ⟨fun x w' => w' = w3 ∧ x = .int .i64 ((c + l.getD i 0 + r.getD i 0 : Nat) : Int), ?_, ?_⟩
      · rintro x' junk w4 ⟨rfl, rfl⟩
        rw [bin_remI (b := 16777216) (by decide)]
        refine app_OD oq u_s_int64 i_int64 (by simp only [maxLen]; omega) (by omega) e2.size fun v' w5 o5 g5 => ?_
        rw [bin_quoI (b := 16777216) (by omega) (by decide), bin_addI1 (b := 1) (by omega)]
        refine ⟨g - 1, by omega, i + 1, _, _, by omega, rfl, rfl, own_step e2 oq g5, o5, by simp [hq], Dig_snoc dq (Nat.mod_lt _ (by decide)), by omega, ?_, fun hlt => ?_⟩
        · rw [val_snoc, hq, val_take_succD, val_take_succD, pL]
          exact step_add24 hv rfl
        · have h3 : i = max l.length r.length := by omega
          rw [getD_ge (by omega : l.length ≤ i), getD_ge (by omega : r.length ≤ i)]
          omega
      · rw [(h2.ext e2).row.len u_s_int64, bin_lss]
        refine cnd_dec (fun h => ?_) (fun h => ?_)
        · have h' : i < r.length := by omega
          refine (h2.ext e2).at h' u_s_int64 i_int64 u_int64 ?_
          rw [getD_get h'] at gb ⊢
          rw [bin_addI (by omega)]
          exact ⟨rfl, rfl⟩
        · exact ⟨rfl, by rw [getD_ge (l := r) (by omega)]; rfl⟩
    · rw [(h1.ext e2).row.len u_s_int64, bin_lss]
      refine cnd_dec (fun h => ?_) (fun h => ?_)
      · have h' : i < l.length := by omega
        refine (h1.ext e2).at h' u_s_int64 i_int64 u_int64 ?_
        rw [getD_get h'] at ga ⊢
        rw [bin_addI (by omega)]
        exact ⟨rfl, rfl⟩
      · exact ⟨rfl, by rw [getD_ge (l := l) (by omega)]; rfl⟩
  refine ⟨fun x w' => w' = w2 ∧ (¬ (i : Int) < l.length → x = .bool (decide (i < r.length))), ?_, ?_⟩
  · rintro x' junk w3 ⟨rfl, hx⟩
    have hp : ∃ b1 : Bool, b1 = decide (i < l.length ∨ i < r.length) ∧ pick (.bool (decide ((i : Int) < l.length))) (.bool true) x' = fun K => K (.bool b1) := by
      refine ⟨_, rfl, ?_⟩
      funext K
      rw [pick_bool]
      by_cases h : (i : Int) < l.length
      · rw [decide_eq_true h, cond_true, decide_eq_true (by left; omega)]
      · rw [decide_eq_false h, cond_false, hx h]
        congr 2
        rw [decide_eq_decide]; omega
    obtain ⟨b1, hb1, hp⟩ := hp
    rw [hp]
    refine ⟨fun x w' => w' = w3 ∧ (b1 = false → x = .bool (decide (0 < c))), ?_, ?_⟩
    · rintro x'' junk w4 ⟨rfl, hx2⟩
      rw [pick_bool]
      cases hb : b1
      · rw [cond_false, hx2 hb]
        refine cnd_dec (fun hc0 => ?_) (fun hc0 => ?_)
        · exact more (.inr (.inr hc0))
        · rw [hb] at hb1
          have hb1 := (decide_eq_false_iff_not.1 hb1.symm)
          have hc0 : c = 0 := by omega
          subst hc0
          rw [List.take_of_length_le (by omega), List.take_of_length_le (by omega)] at hv
          exact H _ _ _ e2 oq dq (by simpa using hv) (by omega)
      · rw [cond_true, cnd_true]
        rw [hb] at hb1
        have hb1 := of_decide_eq_true hb1.symm
        exact more (by rcases hb1 with h | h; exact .inl h; exact .inr (.inl h))
    · refine grd_split (fun h => ?_) (fun h => ?_)
      · rw [bin_gtr]
        exact ⟨rfl, fun _ => by congr 1; rw [decide_eq_decide]; omega⟩
      · exact ⟨rfl, fun h2 => by rw [h2] at h; cases h⟩
  · refine grd_split (fun h => ?_) (fun h => ?_)
    · rw [(h2.ext e2).row.len u_s_int64, bin_lss]
      exact ⟨rfl, fun _ => by congr 1; rw [decide_eq_decide]; omega⟩
    · exact ⟨rfl, fun h2 => by rw [decide_eq_false h2] at h; cases h⟩
theorem step_sub24 {V L R p c a b s0 s1 : Nat} (hv : V + R = L + c * p) (hk : s0 + (c + b) = a + s1 * 16777216) : V + p * s0 + (R + p * b) = L + p * a + s1 * (p * 16777216) := by
  have h2 : p * (s0 + (c + b)) = p * (a + s1 * 16777216) := by rw [hk]
  grind
theorem c_l02Minus {u v : Value} {l r : List Nat} (h1 : IR .i64 w u l) (h2 : IR .i64 w v r) (n1 : Norm 16777216 l) (n2 : Norm 16777216 r) (hle : val 16777216 r ≤ val 16777216 l) (l1 : l.length ≤ 45812984491)
    (H : ∀ v' w' q, Ext w w' → OD .i64 t_int64 w' w.heap.size v' q → Dig 16777216 q → val 16777216 q = val 16777216 l - val 16777216 r → q.length ≤ 45812984492 → K v' w') : call P f_spec_l02Minus [u, v] w K := by
  have d1 := n1.1
  have d2 := n2.1
  have hlr := len_mono n1 n2 hle
  refine I_spec_l02Minus ?_
  unfold D_spec_l02Minus
  refine bsl_nil u_s_int64 i_int64 ?_
  have he := Ext_alloc w (.cells #[] t_int64)
  have hz : OD .i64 t_int64 (w.alloc (.cells #[] t_int64)) w.heap.size (.slice (some ⟨w.heap.size, 0, none⟩) 0 0) [] := owns_lit w [] t_int64
  generalize w.alloc (.cells #[] t_int64) = w1 at he hz ⊢
  refine ⟨fun g x y z w' => ∃ (i c : Nat) (q : List Nat), g + i = l.length ∧ y = .int .i64 (c : Int) ∧ z = .int .i64 (i : Int) ∧ Ext w w' ∧ OD .i64 t_int64 w' w.heap.size x q ∧ q.length = i ∧ Dig 16777216 q ∧ c ≤ 1 ∧
    val 16777216 q + val 16777216 (r.take i) = val 16777216 (l.take i) + c * 16777216 ^ i, ⟨l.length, 0, 0, [], rfl, rfl, rfl, he, hz, rfl, (by intro d hd; cases hd), by omega, by simp [val]⟩, ?_⟩
  rintro g x y z junk w2 ⟨i, c, q, hg, rfl, rfl, e2, oq, hq, dq, hc, hv⟩
  rw [(h1.ext e2).row.len u_s_int64, bin_lss]
  refine cnd_dec (fun hlt => ?_) (fun hge => ?_)
  · have hi : i < l.length := by omega
    refine (h1.ext e2).at hi u_s_int64 i_int64 u_int64 ?_
    have g1 := Dig_get d1 hi
    have gb : r.getD i 0 < 16777216 := by
      by_cases h : i < r.length
      · rw [getD_get h]; exact Dig_get d2 h
      · rw [getD_ge (by omega)]; decide
    rw [bin_sub, wrap_i64 (by omega) (by omega)]
    refine ⟨fun x w' => w' = w2 ∧ x = .int .i64 ((l[i] : Int) - c - (r.getD i 0 : Nat)), ?_, ?_⟩
    · rintro x' junk w3 ⟨rfl, rfl⟩
      rw [bin_lss]
      refine cnd_dec (fun hneg => ?_) (fun hpos => ?_)
      · rw [bin_add, wrap_i64 (by omega) (by omega), show (l[i] : Int) - c - (r.getD i 0 : Nat) + 16777216 = ((l[i] + 16777216 - (c + r.getD i 0) : Nat) : Int) by omega]
        refine app_OD oq u_s_int64 i_int64 (by simp only [maxLen]; omega) (by omega) e2.size fun v' w5 o5 g5 => ?_
        rw [bin_addI1 (b := 1) (by omega)]
        refine ⟨g - 1, by omega, i + 1, 1, _, by omega, rfl, rfl, own_step e2 oq g5, o5, by simp [hq], Dig_snoc dq (by omega), by omega, ?_⟩
        rw [val_snoc, hq, val_take_succD, val_take_succD, pL, getD_get hi]
        exact step_sub24 hv (by omega)
      · rw [show (l[i] : Int) - c - (r.getD i 0 : Nat) = ((l[i] - (c + r.getD i 0) : Nat) : Int) by omega]
        refine app_OD oq u_s_int64 i_int64 (by simp only [maxLen]; omega) (by omega) e2.size fun v' w5 o5 g5 => ?_
        rw [bin_addI1 (b := 1) (by omega)]
        refine ⟨g - 1, by omega, i + 1, 0, _, by omega, rfl, rfl, own_step e2 oq g5, o5, by simp [hq], Dig_snoc dq (by omega), by omega, ?_⟩
        rw [val_snoc, hq, val_take_succD, val_take_succD, pL, getD_get hi]
        exact step_sub24 hv (by omega)
    · rw [(h2.ext e2).row.len u_s_int64, bin_lss]
      refine cnd_dec (fun h => ?_) (fun h => ?_)
      · have h' : i < r.length := by omega
        refine (h2.ext e2).at h' u_s_int64 i_int64 u_int64 ?_
        rw [getD_get h'] at gb ⊢
        rw [bin_sub, wrap_i64 (by omega) (by omega)]
        exact ⟨rfl, rfl⟩
      · exact ⟨rfl, by rw [getD_ge (l := r) (by omega)]; simp⟩
  · have hi : i = l.length := by omega
    subst hi
    rw [List.take_of_length_le (by omega : l.length ≤ l.length), List.take_of_length_le (by omega : r.length ≤ l.length)] at hv
    have hc0 : c = 0 := by
      have h3 := val_lt dq
      rw [hq] at h3
      rcases Nat.eq_zero_or_pos c with h | h
      · exact h
      · have : 1 * 16777216 ^ l.length ≤ c * 16777216 ^ l.length := Nat.mul_le_mul_right _ h
        omega
    subst hc0
    exact H _ _ _ e2 oq dq (by omega) (by omega)
end Go.Proofs.YtjompmflommadaaGreatDoor


set_option linter.unusedVariables false
namespace Go.Proofs.YtjompmflommadaaGreatDoor
open Go Go.Vc
variable {w : World} {K : Value → World → Prop}
theorem sign_nz {m n : Int} (h : m.sign = n.sign) : (m < 0 ↔ n < 0) ∧ (0 < m ↔ 0 < n) := by
  rcases Int.lt_trichotomy m 0 with h1 | h1 | h1 <;> rcases Int.lt_trichotomy n 0 with h2 | h2 | h2 <;>
    simp_all [Int.sign_eq_neg_one_of_neg, Int.sign_eq_one_of_pos] <;> omega
theorem sign_neg {m : Int} (h : m < 0) : m.sign = -1 := Int.sign_eq_neg_one_of_neg h
theorem sign_pos {m : Int} (h : 0 < m) : m.sign = 1 := Int.sign_eq_one_of_pos h
theorem sign_bd (m : Int) : -1 ≤ m.sign ∧ m.sign ≤ 1 := by
  rcases Int.lt_trichotomy m 0 with h1 | h1 | h1
  · rw [sign_neg h1]; decide
  · rw [h1]; decide
  · rw [sign_pos h1]; decide
theorem Wl.len {l : List Nat} {m : Int} (h : Wl l m) (hb : bl m.natAbs ≤ 1099511627776) : l.length ≤ 45812984491 := lim_len h.1 (by rw [h.2]; exact hb)
theorem c_l02Add {u v : Value} {m n : Int} (hu : Wr w u m) (hv : Wr w v n) (bm : bl m.natAbs ≤ 1099511627776) (bn : bl n.natAbs ≤ 1099511627776)
    (H : ∀ v' w', Ext w w' → Wo w' w.heap.size w'.heap.size v' (m + n) → K v' w') : call P f_spec_l02Add [u, v] w K := by
  obtain ⟨s, l, rfl, h1, wl⟩ := hu
  obtain ⟨t, r, rfl, h2, wr⟩ := hv
  have l1 := wl.len bm
  have l2 := wr.len bn
  obtain ⟨n1, v1⟩ := wl
  obtain ⟨n2, v2⟩ := wr
  refine I_spec_l02Add ?_
  unfold D_spec_l02Add
  refine bx_Wh fun x1 w1 b1 e1 => ?_
  refine bx_Wh fun x2 w2 b2 e2 => ?_
  refine alc_Wh fun x3 w3 ⟨cs, hcs, b3⟩ e3 => ?_
  have b1 := (b1.ext e2).ext e3
  have b2 := b2.ext e3
  have E2 := e1.trans e2
  have E3 := E2.trans e3
  have h1 := h1.ext E3
  have h2 := h2.ext E3
  refine wh_s b1 ?_
  rw [bin_eql]
  refine cnd_dec (fun h0 => ?_) (fun h0 => ?_)
  · have hm : m = 0 := Int.sign_eq_zero_iff_zero.1 h0
    refine wh_s b2 ?_
    refine wh_l b2 ?_
    refine wh_make (m := m + n) E3 b3 hcs E2.size h2 n2.1 (by rw [v2, hm, Int.zero_add]) (fun _ => by rw [hm, Int.zero_add]) (by omega) H
  · have hm : m ≠ 0 := by rintro rfl; exact h0 rfl
    refine wh_s b2 ?_
    rw [bin_eql]
    refine cnd_dec (fun h0' => ?_) (fun h0' => ?_)
    · have hn : n = 0 := Int.sign_eq_zero_iff_zero.1 h0'
      refine wh_s b1 ?_
      refine wh_l b1 ?_
      refine wh_make (m := m + n) E3 b3 hcs E2.size h1 n1.1 (by rw [v1, hn, Int.add_zero]) (fun _ => by rw [hn, Int.add_zero]) (by omega) H
    · have hn : n ≠ 0 := by rintro rfl; exact h0' rfl
      refine wh_s b1 ?_
      refine wh_s b2 ?_
      rw [bin_eql]
      refine cnd_dec (fun hs => ?_) (fun hs => ?_)
      · obtain ⟨q1, q2⟩ := sign_nz hs
        refine wh_s b1 ?_
        refine wh_l b1 ?_
        refine wh_l b2 ?_
        refine c_l02Plus h1 h2 n1.1 n2.1 l1 l2 fun v' w4 q e4 oq dq hq hl => ?_
        refine ⟨e4, ?_⟩
        refine wh_make (m := m + n) (E3.trans e4) (b3.ext e4) hcs E2.size (OD.IR oq) dq (by omega) (fun _ => ?_) (by omega) H
        rcases Int.lt_or_gt_of_ne hm with h | h
        · rw [sign_neg h, sign_neg (by omega)]
        · rw [sign_pos h, sign_pos (by omega)]
      · refine wh_l b1 ?_
        refine wh_l b2 ?_
        refine c_l02CompareLimbs h1 h2 n1 n2 ?_
        rw [bin_geq, v1, v2]
        have hopp : (m < 0 ∧ 0 < n) ∨ (0 < m ∧ n < 0) := by
          rcases Int.lt_or_gt_of_ne hm with h | h <;> rcases Int.lt_or_gt_of_ne hn with h' | h'
          · exact absurd (by rw [sign_neg h, sign_neg h']) hs
          · exact .inl ⟨h, h'⟩
          · exact .inr ⟨h, h'⟩
          · exact absurd (by rw [sign_pos h, sign_pos h']) hs
        refine cnd_dec (fun hc => ?_) (fun hc => ?_)
        · have hle : n.natAbs ≤ m.natAbs := by unfold cmpN at hc; split at hc <;> (try split at hc) <;> omega
          refine wh_s b1 ?_
          refine wh_l b1 ?_
          refine wh_l b2 ?_
          refine c_l02Minus h1 h2 n1 n2 (by rw [v1, v2]; exact hle) l1 fun v' w4 q e4 oq dq hq hl => ?_
          refine ⟨e4, ?_⟩
          refine wh_make (m := m + n) (E3.trans e4) (b3.ext e4) hcs E2.size (OD.IR oq) dq (by omega) (fun _ => ?_) (by omega) H
          rcases hopp with ⟨h, h'⟩ | ⟨h, h'⟩
          · rw [sign_neg h, sign_neg (by omega)]
          · rw [sign_pos h, sign_pos (by omega)]
        · have hle : m.natAbs ≤ n.natAbs := by unfold cmpN at hc; split at hc <;> (try split at hc) <;> omega
          refine wh_s b2 ?_
          refine wh_l b2 ?_
          refine wh_l b1 ?_
          refine c_l02Minus h2 h1 n2 n1 (by rw [v1, v2]; exact hle) l2 fun v' w4 q e4 oq dq hq hl => ?_
          refine ⟨e4, ?_⟩
          refine wh_make (m := m + n) (E3.trans e4) (b3.ext e4) hcs E2.size (OD.IR oq) dq (by omega) (fun _ => ?_) (by omega) H
          rcases hopp with ⟨h, h'⟩ | ⟨h, h'⟩
          · rw [sign_pos h', sign_pos (by omega)]
          · rw [sign_neg h', sign_neg (by omega)]
theorem c_l02Neg {v : Value} {m : Int} (h : Wr w v m) (bm : bl m.natAbs ≤ 1099511627776) (H : ∀ v' w', Ext w w' → Wo w' w.heap.size w'.heap.size v' (-m) → K v' w') : call P f_spec_l02Neg [v] w K := by
  obtain ⟨s, l, rfl, h1, wl⟩ := h
  have l1 := wl.len bm
  refine I_spec_l02Neg ?_
  unfold D_spec_l02Neg
  refine bx_Wh fun x1 w1 b1 e1 => ?_
  refine alc_Wh fun x2 w2 ⟨cs, hcs, b2⟩ e2 => ?_
  have b1 := b1.ext e2
  have E2 := e1.trans e2
  refine wh_s b1 ?_
  have hs := sign_bd m
  rw [una_neg_int, wrap_i64 (by omega) (by omega)]
  refine wh_l b1 ?_
  refine wh_make (m := -m) E2 b2 hcs e1.size (h1.ext E2) wl.1.1 (by rw [wl.2, Int.natAbs_neg]) (fun _ => by rw [Int.sign_neg]; omega) (by omega) H
theorem c_l02Abs {v : Value} {m : Int} (h : Wr w v m) (bm : bl m.natAbs ≤ 1099511627776) (H : ∀ v' w', Ext w w' → Wo w' w.heap.size w'.heap.size v' (m.natAbs : Int) → K v' w') : call P f_spec_l02Abs [v] w K := by
  obtain ⟨s, l, rfl, h1, wl⟩ := h
  have l1 := wl.len bm
  refine I_spec_l02Abs ?_
  unfold D_spec_l02Abs
  refine bx_Wh fun x1 w1 b1 e1 => ?_
  refine alc_Wh fun x2 w2 ⟨cs, hcs, b2⟩ e2 => ?_
  have b1 := b1.ext e2
  have E2 := e1.trans e2
  refine wh_s b1 ?_
  refine wh_s b1 ?_
  have hsq : IntKind.i64.wrap (m.sign * m.sign) = (if m = 0 then 0 else 1) := by
    rcases Int.lt_trichotomy m 0 with h | h | h
    · rw [sign_neg h, if_neg (by omega)]; decide
    · rw [if_pos h, h]; decide
    · rw [sign_pos h, if_neg (by omega)]; decide
  rw [bin_mul, hsq]
  refine wh_l b1 ?_
  refine wh_make (m := (m.natAbs : Int)) E2 b2 hcs e1.size (h1.ext E2) wl.1.1 (by rw [wl.2, Int.natAbs_natCast]) (fun hne => ?_) (by omega) H
  rw [if_neg (by omega), sign_pos (by omega)]
theorem mul_step24 {V V' Q L p pi pk c x y o s : Nat} (hp : p = pi * pk) (hv : V + c * p = Q + x * L * pi) (hs : s = c + o + x * y) (hq : V' + p * o = V + p * (s % 16777216)) :
    V' + s / 16777216 * (p * 16777216) = Q + x * (L + pk * y) * pi := by
  have h := Nat.div_add_mod s 16777216
  have h2 : p * (16777216 * (s / 16777216) + s % 16777216) = p * (c + o + x * y) := by rw [h, hs]
  subst hp
  grind
theorem mul_limb {x y : Nat} (hx : x < 16777216) (hy : y < 16777216) : x * y ≤ 281474943156225 := by
  have : x * y ≤ 16777215 * 16777215 := Nat.mul_le_mul (by omega) (by omega)
  omega
theorem c_l02Mul {u v : Value} {m n : Int} (hu : Wr w u m) (hv : Wr w v n) (bm : bl m.natAbs ≤ 1099511627776) (bn : bl n.natAbs ≤ 1099511627776)
    (H : ∀ v' w', Ext w w' → Wo w' w.heap.size w'.heap.size v' (m * n) → K v' w') : call P f_spec_l02Mul [u, v] w K := by
  obtain ⟨s, l, rfl, h1, wl⟩ := hu
  obtain ⟨t, r, rfl, h2, wr⟩ := hv
  have l1 := wl.len bm
  have l2 := wr.len bn
  obtain ⟨n1, v1⟩ := wl
  obtain ⟨n2, v2⟩ := wr
  have d1 := n1.1
  have d2 := n2.1
  refine I_spec_l02Mul ?_
  unfold D_spec_l02Mul
  refine bx_Wh fun x1 w1 b1 e1 => ?_
  refine bx_Wh fun x2 w2 b2 e2 => ?_
  refine alc_Wh fun x3 w3 ⟨cs, hcs, b3⟩ e3 => ?_
  have b1 := (b1.ext e2).ext e3
  have b2 := b2.ext e3
  have E2 := e1.trans e2
  have E3 := E2.trans e3
  have h1 := h1.ext E3
  have h2 := h2.ext E3
  refine wh_l b1 ?_
  rw [h1.row.len u_s_int64]
  refine wh_l b2 ?_
  rw [h2.row.len u_s_int64, bin_addI (by omega), bin_addI1 (b := 1) (by omega)]
  refine OD.make u_s_int64 i_int64 (by omega) (by simp only [maxLen]; omega) fun w4 o ho he => ?_
  refine ⟨fun g y w' => ∃ (i : Nat) (q : List Nat), g + i = l.length ∧ y = .int .i64 (i : Int) ∧ Ext w3 w' ∧ OD .i64 t_int64 w' w3.heap.size o q ∧ q.length = l.length + r.length + 1 ∧ Dig 16777216 q ∧ (∀ j, i + r.length ≤ j → q.getD j 0 = 0) ∧
    val 16777216 q = val 16777216 (l.take i) * val 16777216 r, ⟨l.length, 0, _, rfl, rfl, he, ho, by simp, Dig_rep _ _ (by decide), fun j _ => by simp [List.getElem?_replicate]; split <;> rfl, by simp [val, val_replicate]⟩, ?_⟩
  rintro g y junk w5 ⟨i, q, hg, rfl, e5, oq, hq, dq, hz, hv⟩
  refine wh_l (b1.ext e5) ?_
  rw [(h1.ext e5).row.len u_s_int64, bin_lss]
  refine cnd_dec (fun hlt => ?_) (fun hge => ?_)
  · have hi : i < l.length := by omega
    have g1 := Dig_get d1 hi
    refine ⟨fun m' x y w' => ∃ (k c : Nat) (q' : List Nat), m' + k = r.length ∧ x = .int .i64 (c : Int) ∧ y = .int .i64 (k : Int) ∧ Ext w3 w' ∧ OD .i64 t_int64 w' w3.heap.size o q' ∧ q'.length = l.length + r.length + 1 ∧ Dig 16777216 q' ∧ (∀ j, i + r.length ≤ j → q'.getD j 0 = 0) ∧ c < 16777216 ∧
      val 16777216 q' + c * 16777216 ^ (i + k) = val 16777216 (l.take i) * val 16777216 r + l[i] * val 16777216 (r.take k) * 16777216 ^ i,
      ⟨r.length, 0, 0, q, rfl, rfl, rfl, e5, oq, hq, dq, hz, by omega, by simp [val, hv]⟩, ?_⟩
    rintro m' x y junk w6 ⟨k, c, q', hm', rfl, rfl, e6, oq', hq', dq', hz', hc, hv'⟩
    refine wh_l (b2.ext e6) ?_
    rw [(h2.ext e6).row.len u_s_int64, bin_lss]
    refine cnd_dec (fun hlt' => ?_) (fun hge' => ?_)
    · have hk : k < r.length := by omega
      have hik : i + k < q'.length := by omega
      have g2 := Dig_get d2 hk
      have g3 := Dig_get dq' hik
      have hw := mul_limb g1 g2
      rw [bin_addI (by omega)]
      refine (OD.IR oq').at hik u_s_int64 i_int64 u_int64 ?_
      rw [bin_addI (by omega)]
      refine wh_l (b1.ext e6) ?_
      refine (h1.ext e6).at hi u_s_int64 i_int64 u_int64 ?_
      refine wh_l (b2.ext e6) ?_
      refine (h2.ext e6).at hk u_s_int64 i_int64 u_int64 ?_
      rw [bin_mul, show (l[i] : Int) * r[k] = ((l[i] * r[k] : Nat) : Int) by simp, wrap_i64 (by omega) (by omega), bin_addI (by omega), bin_addI (by omega), bin_remI (b := 16777216) (by decide)]
      refine OD.set oq' hik u_s_int64 i_int64 fun w7 o7 g7 => ?_
      rw [bin_quoI (b := 16777216) (by omega) (by decide), bin_addI1 (b := 1) (by omega)]
      refine ⟨m' - 1, by omega, k + 1, _, _, by omega, rfl, rfl, own_step e6 oq' g7, o7, by simpa using hq', Dig_set dq' (Nat.mod_lt _ (by decide)), fun j hj => ?_, by omega, ?_⟩
      · rw [getD_set hik, if_neg (by omega)]; exact hz' j hj
      · rw [val_take_succD, getD_get hk, show (16777216 : Nat) ^ (i + (k + 1)) = 16777216 ^ (i + k) * 16777216 from pL (i + k)]
        exact mul_step24 (Nat.pow_add ..) hv' rfl (val_set_all _ hik)
    · have hk : k = r.length := by omega
      subst hk
      have hik : i + r.length < q'.length := by omega
      refine wh_l (b2.ext e6) ?_
      rw [(h2.ext e6).row.len u_s_int64, bin_addI (by omega)]
      refine OD.set oq' hik u_s_int64 i_int64 fun w7 o7 g7 => ?_
      rw [bin_addI1 (b := 1) (by omega)]
      refine ⟨g - 1, by omega, i + 1, _, by omega, rfl, own_step e6 oq' g7, o7, by simpa using hq', Dig_set dq' hc, fun j hj => ?_, ?_⟩
      · rw [getD_set hik, if_neg (by omega)]; exact hz' j (by omega)
      · rw [val_take_succD, getD_get hi]
        rw [List.take_of_length_le (Nat.le_refl _)] at hv'
        refine mul_last (Nat.pow_add ..) hv' ?_
        have h3 := val_set_all 16777216 (l := q') (x := c) hik
        have h4 := hz' (i + r.length) (Nat.le_refl _)
        rw [getD_get hik] at h4
        rw [h4] at h3
        exact h3
  · have hi : i = l.length := by omega
    subst hi
    rw [List.take_of_length_le (Nat.le_refl _)] at hv
    refine wh_s (b1.ext e5) ?_
    refine wh_s (b2.ext e5) ?_
    have hsg : IntKind.i64.wrap (m.sign * n.sign) = (m * n).sign := by
      rw [Int.sign_mul]
      have := sign_bd (m * n)
      rw [Int.sign_mul] at this
      exact wrap_i64 (by omega) (by omega)
    rw [bin_mul, hsg]
    refine wh_make (m := m * n) (E3.trans e5) (b3.ext e5) hcs E2.size (OD.IR oq) dq (by rw [hv, v1, v2, Int.natAbs_mul]) (fun _ => rfl) (by omega) H
theorem c_l02Length {v : Value} {m : Int} (h : Wr w v m) (bm : bl m.natAbs ≤ 1099511627776) (H : ∀ w', Ext w w' → K (.int .i64 (bl m.natAbs : Nat)) w') : call P f_spec_l02Length [v] w K := by
  obtain ⟨s, l, rfl, h1, wl⟩ := h
  have l1 := wl.len bm
  obtain ⟨n1, v1⟩ := wl
  refine I_spec_l02Length ?_
  unfold D_spec_l02Length
  refine bx_Wh fun x1 w1 b1 e1 => ?_
  have h1 := h1.ext e1
  refine wh_l b1 ?_
  rw [h1.row.len u_s_int64, bin_eql]
  refine cnd_dec (fun h0 => ?_) (fun h0 => ?_)
  · obtain rfl : l = [] := List.eq_nil_of_length_eq_zero (by omega)
    have := H w1 e1
    rw [← v1] at this
    exact this
  · have hl : 0 < l.length := by omega
    have hz : l[l.length - 1] ≠ 0 := by
      intro hz
      have := n1.2
      rw [List.getLast?_eq_getElem?, List.getElem?_eq_getElem (by omega), hz] at this
      exact this rfl
    have e : bl m.natAbs = 24 * (l.length - 1) + bl l[l.length - 1] := by
      have h1 := val_split 16777216 l (i := l.length - 1) (by omega)
      rw [List.drop_eq_getElem_cons (by omega), List.drop_eq_nil_of_le (by omega)] at h1
      simp only [val, Nat.mul_zero, Nat.add_zero] at h1
      have h2 := val_lt (n1.1.take (l.length - 1))
      rw [List.length_take, Nat.min_eq_left (by omega)] at h2
      have hp : (16777216 : Nat) ^ (l.length - 1) = 2 ^ (24 * (l.length - 1)) := by rw [Nat.pow_mul]
      rw [hp] at h1 h2
      rw [← v1, h1, bl_top h2 hz]
    rw [bin_subI1 (b := 1) (by omega) (by omega), bin_mul, wrap_i64 (by omega) (by omega)]
    refine wh_l b1 ?_
    rw [bin_subI1 (b := 1) (by omega) (by omega)]
    refine h1.at (i := l.length - 1) (by omega) u_s_int64 i_int64 u_int64 ?_
    have g1 := Dig_get n1.1 (show l.length - 1 < l.length by omega)
    refine ⟨fun g x y w' => w' = w1 ∧ ∃ d c : Nat, x = .int .i64 (c : Int) ∧ y = .int .i64 (d : Int) ∧ g = bl d ∧ c + bl d = bl m.natAbs ∧ d < 16777216, ⟨bl l[l.length - 1], rfl, l[l.length - 1], 24 * (l.length - 1), by congr 1; omega, rfl, rfl, by omega, g1⟩, ?_⟩
    rintro g x y junk w' ⟨rfl, d, c, rfl, rfl, rfl, hc, hd16⟩
    rw [bin_gtr]
    refine cnd_dec (fun hd => ?_) (fun hd => ?_)
    · rw [bin_addI1 (b := 1) (by omega), bin_quoI (b := 2) (by omega) (by decide)]
      have hb := bl_shr d 1
      rw [Nat.pow_one] at hb
      have hp := bl_pos (n := d) (by omega)
      exact ⟨_, by rw [hb]; omega, rfl, _, _, rfl, rfl, rfl, by rw [hb]; omega, by omega⟩
    · have : d = 0 := by omega
      subst this
      rw [bl_zero] at hc
      have := H w' e1
      rw [← hc] at this
      exact this
theorem bit_val24 {l : List Nat} (hd : Dig 16777216 l) (i : Nat) : val 16777216 l / 2 ^ i % 2 = l.getD (i / 24) 0 / 2 ^ (i % 24) % 2 := by
  have hn : 2 ^ i = 16777216 ^ (i / 24) * 2 ^ (i % 24) := by
    conv => lhs; rw [← Nat.div_add_mod i 24, Nat.pow_add, Nat.pow_mul]
  have hs : i % 24 < 24 := Nat.mod_lt _ (by decide)
  rw [hn, ← Nat.div_div_eq_div_mul]
  by_cases h : i / 24 < l.length
  · have hp : 0 < 16777216 ^ (i / 24) := Nat.pow_pos (by decide)
    have h1 : val 16777216 l / 16777216 ^ (i / 24) = val 16777216 (l.drop (i / 24)) := by
      rw [val_split _ l (Nat.le_of_lt h), Nat.add_mul_div_left _ _ hp, Nat.div_eq_of_lt, Nat.zero_add]
      have := val_lt (hd.take (i / 24))
      rw [List.length_take, Nat.min_eq_left (by omega)] at this
      exact this
    rw [h1, List.drop_eq_getElem_cons h, val, getD_get h]
    have h2 : (16777216 : Nat) = 2 ^ (i % 24) * (2 * 2 ^ (23 - i % 24)) := by
      rw [← Nat.pow_succ', ← Nat.pow_add, show i % 24 + (23 - i % 24).succ = 24 by omega]
    have h3 : ∀ X, 16777216 * X = 2 ^ (i % 24) * (2 * (2 ^ (23 - i % 24) * X)) := fun X => by
      conv => lhs; rw [h2]
      grind
    rw [h3, Nat.add_mul_div_left _ _ (Nat.two_pow_pos _), Nat.add_mul_mod_self_left]
  · have h1 : val 16777216 l / 16777216 ^ (i / 24) = 0 :=
      Nat.div_eq_of_lt (Nat.lt_of_lt_of_le (val_lt hd) (Nat.pow_le_pow_right (by decide) (by omega)))
    rw [h1, getD_ge (by omega)]
theorem bin_and1 {t : TypeId} {cx cy : Bool} {a : Nat} {K : Value → Prop} (ha : a ≤ 9223372036854775807) : bin P .and t cx cy (.int .i64 (a : Int)) (.int .i64 1) w K = K (.int .i64 ((a % 2 : Nat) : Int)) := by
  rw [bin_and, BitVec.toNat_and, toNat_word (by simp only [IntKind.bits]; omega)]
  have : (BitVec.ofInt IntKind.i64.bits 1).toNat = 1 := by decide
  rw [this, Nat.and_one_is_mod, wrap_i64 (by omega) (by omega)]
theorem c_l02Bit {v : Value} {m : Int} {i : Nat} (h : Wr w v m) (hi : i ≤ 9223372036854775807) (H : ∀ w', Ext w w' → K (.int .i64 ((m.natAbs / 2 ^ i % 2 : Nat) : Int)) w') : call P f_spec_l02Bit [v, .int .i64 (i : Int)] w K := by
  obtain ⟨s, l, rfl, h1, n1, v1⟩ := h
  have hv := bit_val24 n1.1 i
  rw [v1] at hv
  rw [hv] at H
  refine I_spec_l02Bit ?_
  unfold D_spec_l02Bit
  refine bx_Wh fun x1 w1 b1 e1 => ?_
  have h1 := h1.ext e1
  have H := H w1 e1
  rw [bin_quoI (b := 24) (by omega) (by decide)]
  refine wh_l b1 ?_
  rw [h1.row.len u_s_int64, bin_geq]
  refine cnd_dec (fun hge => ?_) (fun hlt => ?_)
  · rw [getD_ge (by omega)] at H
    simpa using H
  · have hlt : i / 24 < l.length := by omega
    refine wh_l b1 ?_
    rw [bin_quoI (b := 24) (by omega) (by decide)]
    refine h1.at hlt u_s_int64 i_int64 u_int64 ?_
    have g1 := Dig_get n1.1 hlt
    have hs : i % 24 < 24 := Nat.mod_lt _ (by decide)
    rw [bin_remI (b := 24) (by decide), cnv_int_int u_int64 u_uint64, w_u64' (by omega), bin_shrN (s := i % 24) (by simp only [IntKind.bits]; omega)]
    have := Nat.div_le_self l[i / 24] (2 ^ (i % 24))
    rw [bin_and1 (by omega)]
    rw [getD_get hlt] at H
    exact H
theorem c_l02Twos {v : Value} {m : Int} (h : Wr w v m) (hm : m ≠ 0) (bm : bl m.natAbs ≤ 1099511627776) (H : ∀ (k : Nat) w', Ext w w' → IsTz m.natAbs k → k ≤ bl m.natAbs → K (.int .i64 (k : Int)) w') : call P f_spec_l02Twos [v] w K := by
  obtain ⟨s, l, rfl, h1, wl⟩ := h
  refine I_spec_l02Twos ?_
  unfold D_spec_l02Twos
  refine bx_Wh fun x1 w1 b1 e1 => ?_
  have hlt : ∀ k : Nat, m.natAbs % 2 ^ k = 0 → k < bl m.natAbs := fun k hk => by
    have := Nat.le_of_dvd (by omega) (Nat.dvd_of_mod_eq_zero hk)
    rwa [← lt_bl] at this
  refine ⟨fun g x w' => ∃ k : Nat, x = .int .i64 (k : Int) ∧ g + k = bl m.natAbs ∧ m.natAbs % 2 ^ k = 0 ∧ Ext w1 w', ⟨bl m.natAbs, 0, rfl, rfl, by simp [Nat.mod_one], Ext.refl _⟩, ?_⟩
  rintro g x junk w' ⟨k, rfl, hg, hz, e2⟩
  have hk := hlt k hz
  refine wh_all (b1.ext e2) ?_
  refine c_l02Bit ⟨s, l, rfl, h1.ext (e1.trans e2), wl⟩ (by omega) fun w3 e3 => ?_
  rw [bin_eql]
  refine cnd_dec (fun h2 => ?_) (fun h2 => ?_)
  · rw [bin_addI1 (b := 1) (by omega)]
    have h3 : m.natAbs / 2 ^ k % 2 = 0 := by omega
    exact ⟨g - 1, by omega, k + 1, rfl, by omega, by rw [Nat.mod_pow_succ, hz, h3]; rfl, e2.trans e3⟩
  · refine H k w3 (e1.trans (e2.trans e3)) ?_ (by omega)
    unfold IsTz
    rw [if_neg (by omega)]
    exact ⟨hz, by have := Nat.mod_lt (m.natAbs / 2 ^ k) (show 0 < 2 by decide); omega⟩
end Go.Proofs.YtjompmflommadaaGreatDoor


set_option linter.unusedVariables false
namespace Go.Proofs.YtjompmflommadaaGreatDoor
open Go Go.Vc
variable {w : World} {K : Value → World → Prop}
theorem wh_fa {base : Nat} {x s : Value} {m : Int} (h : Bx w base t_impl_Whole x [.int .i64 m, s]) :
    ∃ a, (∀ (w : World) (K : Value → Prop), fda P t_impl_Whole x 0 w K = K a) ∧ (∀ {w' : World} {base' : Nat} {m' : Int} {s' : Value}, Bx w' base' t_impl_Whole x [.int .i64 m', s'] → ∀ K, ld P t_int64 a w' K = K (.int .i64 m')) := by
  obtain ⟨a, h1, h2, _⟩ := Bx_fa (f := 0) (off := 0) (ty := t_int64) h u_impl_Whole rfl i_int64 u_int64 rfl
  exact ⟨a, h1, fun h' => h2 h' rfl⟩
theorem bin_shlI {t : TypeId} {cx cy : Bool} {yk : IntKind} {a s : Nat} {c : Int} {K : Value → Prop} (hs : s ≤ 64) (h : a * 2 ^ s ≤ 9223372036854775807) (hc : c = (s : Int) := by rfl) : bin P .shl t cx cy (.int .i64 (a : Int)) (.int yk c) w K = K (.int .i64 ((a * 2 ^ s : Nat) : Int)) :=
  bin_shlN hs (by rw [max_i64]; omega) hc
theorem p24 (k : Nat) : 2 ^ k = 16777216 ^ (k / 24) * 2 ^ (k % 24) := by
  conv => lhs; rw [← Nat.div_add_mod k 24, Nat.pow_add, Nat.pow_mul]
theorem left_step24 {V T c d s p x S F : Nat} (hv : V + c * p = T * S * F) (hs : x = c + d * S) (hp : p = s * F) : V + p * (x % 16777216) + x / 16777216 * (p * 16777216) = (T + s * d) * S * F := by
  have h := Nat.div_add_mod x 16777216
  have h2 : p * (16777216 * (x / 16777216) + x % 16777216) = p * (c + d * S) := by rw [h, hs]
  subst hp
  grind
theorem c_l02Left {v : Value} {m : Int} {k : Nat} (h : Wr w v m) (bm : bl m.natAbs ≤ 1099511627776) (bk : k ≤ 1099511627776) (H : ∀ v' w', Ext w w' → Wo w' w.heap.size w'.heap.size v' (m * 2 ^ k) → K v' w') : call P f_spec_l02Left [v, .int .i64 (k : Int)] w K := by
  obtain ⟨s, l, rfl, h1, wl⟩ := h
  have l1 := wl.len bm
  obtain ⟨n1, v1⟩ := wl
  have d1 := n1.1
  refine I_spec_l02Left ?_
  unfold D_spec_l02Left
  refine bx_Wh fun x1 w1 b1 e1 => ?_
  refine alc_Wh fun x2 w2 ⟨cs, hcs, b2⟩ e2 => ?_
  have b1 := b1.ext e2
  have E2 := e1.trans e2
  have h1 := h1.ext E2
  rw [bin_quoI (b := 24) (by omega) (by decide)]
  refine OD.make u_s_int64 i_int64 (by omega) (by simp only [maxLen]; omega) fun w3 o ho he => ?_
  have hs : k % 24 < 24 := Nat.mod_lt _ (by decide)
  have hps : 2 ^ (k % 24) ≤ 8388608 := Nat.pow_le_pow_right (n := 2) (by decide) (show k % 24 ≤ 23 by omega)
  have hpp := Nat.two_pow_pos (k % 24)
  refine ⟨fun g x y z w' => ∃ (i c : Nat) (q : List Nat), g + i = l.length ∧ y = .int .i64 (c : Int) ∧ z = .int .i64 (i : Int) ∧ Ext w2 w' ∧ OD .i64 t_int64 w' w2.heap.size x q ∧ q.length = k / 24 + i ∧ Dig 16777216 q ∧ c < 16777216 ∧
    val 16777216 q + c * 16777216 ^ (k / 24 + i) = val 16777216 (l.take i) * 2 ^ (k % 24) * 16777216 ^ (k / 24), ⟨l.length, 0, 0, _, rfl, rfl, rfl, he, ho, by simp, Dig_rep _ _ (by decide), by omega, by simp [val, val_replicate]⟩, ?_⟩
  rintro g x y z junk w4 ⟨i, c, q, hg, rfl, rfl, e4, oq, hq, dq, hc, hv⟩
  have E4 := E2.trans e4
  refine wh_l (b1.ext e4) ?_
  rw [(h1.ext e4).row.len u_s_int64, bin_lss]
  refine cnd_dec (fun hlt => ?_) (fun hge => ?_)
  · have hi : i < l.length := by omega
    have g1 := Dig_get d1 hi
    refine wh_l (b1.ext e4) ?_
    refine (h1.ext e4).at hi u_s_int64 i_int64 u_int64 ?_
    have hmul : l[i] * 2 ^ (k % 24) ≤ 16777215 * 8388608 := Nat.mul_le_mul (by omega) hps
    rw [bin_remI (b := 24) (by decide), cnv_int_int u_int64 u_uint64, w_u64' (by omega), bin_shlI (s := k % 24) (by omega) (by omega), bin_addI (by omega), bin_remI (b := 16777216) (by decide)]
    refine app_OD oq u_s_int64 i_int64 (by simp only [maxLen]; omega) (by omega) e4.size fun v' w5 o5 g5 => ?_
    rw [bin_quoI (b := 16777216) (by omega) (by decide), bin_addI1 (b := 1) (by omega)]
    refine ⟨g - 1, by omega, i + 1, _, _, by omega, rfl, rfl, own_step e4 oq g5, o5, by simp [hq]; omega, Dig_snoc dq (Nat.mod_lt _ (by decide)), ?_, ?_⟩
    · rw [Nat.div_lt_iff_lt_mul (by decide)]; omega
    · rw [val_snoc, hq, val_take_succ _ hi, show (16777216 : Nat) ^ (k / 24 + (i + 1)) = 16777216 ^ (k / 24 + i) * 16777216 from pL _]
      exact left_step24 hv rfl (by rw [Nat.pow_add, Nat.mul_comm])
  · have hi : i = l.length := by omega
    subst hi
    rw [List.take_of_length_le (Nat.le_refl _)] at hv
    have b14 := b1.ext e4
    obtain ⟨a, fa, la⟩ := wh_fa b14
    rw [fa, la b14]
    refine app_ODx oq u_s_int64 i_int64 (by simp only [maxLen]; omega) (by omega) e4.size fun v' w5 o5 g5 => ?_
    have e5 := own_step e4 oq g5
    rw [fa, la (b1.ext e5)]
    refine ⟨rfl, rfl, ?_⟩
    have hval : val 16777216 (q ++ [c]) = m.natAbs * 2 ^ k := by
      rw [val_snoc, hq, Nat.mul_comm, hv, v1, p24 k]
      grind
    refine wh_make (m := m * 2 ^ k) (E2.trans e5) (b2.ext e5) hcs e1.size (OD.IR o5) (Dig_snoc dq hc) (by rw [hval, Int.natAbs_mul, natAbs_two_pow]) (fun _ => ?_) (by simp; omega) H
    rw [Int.sign_mul, Int.sign_eq_one_of_pos (Int.pow_pos (by decide)), Int.mul_one]
theorem right_dig24 {l : List Nat} {i s : Nat} (hd : Dig 16777216 l) (hi : i < l.length) (hs : s < 24) :
    val 16777216 l / 2 ^ s / 16777216 ^ i % 16777216 = (l[i] / 2 ^ s + l.getD (i + 1) 0 * 2 ^ (24 - s)) % 16777216 := by
  have h1 : val 16777216 l / 2 ^ s / 16777216 ^ i = val 16777216 l / 16777216 ^ i / 2 ^ s := by
    rw [Nat.div_div_eq_div_mul, Nat.div_div_eq_div_mul, Nat.mul_comm]
  have h2 : val 16777216 l / 16777216 ^ i = val 16777216 (l.drop i) := by
    have hp : 0 < 16777216 ^ i := Nat.pow_pos (by decide)
    rw [val_split _ l (Nat.le_of_lt hi), Nat.add_mul_div_left _ _ hp, Nat.div_eq_of_lt, Nat.zero_add]
    have := val_lt (hd.take i)
    rw [List.length_take, Nat.min_eq_left (by omega)] at this
    exact this
  have h3 : ∃ X, val 16777216 (l.drop i) = l[i] + l.getD (i + 1) 0 * 16777216 + 281474976710656 * X := by
    rw [List.drop_eq_getElem_cons hi, val]
    by_cases h : i + 1 < l.length
    · rw [List.drop_eq_getElem_cons h, val, getD_get h]
      exact ⟨val 16777216 (l.drop (i + 1 + 1)), by grind⟩
    · rw [List.drop_eq_nil_of_le (by omega), val, getD_ge (by omega)]
      exact ⟨0, rfl⟩
  obtain ⟨X, hX⟩ := h3
  have hb : (16777216 : Nat) = 2 ^ s * 2 ^ (24 - s) := by rw [← Nat.pow_add, show s + (24 - s) = 24 by omega]
  rw [h1, h2, hX]
  have h4 : l[i] + l.getD (i + 1) 0 * 16777216 + 281474976710656 * X = l[i] + 2 ^ s * (l.getD (i + 1) 0 * 2 ^ (24 - s) + 16777216 * (2 ^ (24 - s) * X)) := by
    have h5 : (281474976710656 : Nat) = 16777216 * 16777216 := rfl
    have h6 : l.getD (i + 1) 0 * 16777216 = 2 ^ s * (l.getD (i + 1) 0 * 2 ^ (24 - s)) := by
      conv => lhs; rw [hb]
      grind
    have h7 : 281474976710656 * X = 2 ^ s * (16777216 * (2 ^ (24 - s) * X)) := by
      rw [h5]
      conv => lhs; rw [show (16777216 * 16777216 : Nat) = 16777216 * (2 ^ s * 2 ^ (24 - s)) by rw [← hb]]
      grind
    rw [h6, h7]; grind
  rw [h4, Nat.add_mul_div_left _ _ (Nat.two_pow_pos _), ← Nat.add_assoc, Nat.add_mul_mod_self_left]
theorem c_l02Cut {v : Value} {m m' : Int} {k : Nat} (h : Wr w v m) (bm : bl m.natAbs ≤ 1099511627776) (bk : k ≤ 9223372036854775807) (hm : m'.natAbs = m.natAbs / 2 ^ k) (hs : m' ≠ 0 → m'.sign = m.sign) (H : ∀ v' w', Ext w w' → Wo w' w.heap.size w'.heap.size v' m' → K v' w') : call P f_spec_l02Cut [v, .int .i64 (k : Int)] w K := by
  obtain ⟨s, l, rfl, h1, wl⟩ := h
  have l1 := wl.len bm
  obtain ⟨n1, v1⟩ := wl
  have d1 := n1.1
  refine I_spec_l02Cut ?_
  unfold D_spec_l02Cut
  refine bx_Wh fun x1 w1 b1 e1 => ?_
  refine alc_Wh fun x2 w2 ⟨cs, hcs, b2⟩ e2 => ?_
  have b1 := b1.ext e2
  have E2 := e1.trans e2
  have h1 := h1.ext E2
  refine bsl_nil u_s_int64 i_int64 ?_
  have he := Ext_alloc w2 (.cells #[] t_int64)
  have hz : OD .i64 t_int64 (w2.alloc (.cells #[] t_int64)) w2.heap.size (.slice (some ⟨w2.heap.size, 0, none⟩) 0 0) [] := owns_lit w2 [] t_int64
  generalize w2.alloc (.cells #[] t_int64) = w3 at he hz ⊢
  rw [bin_quoI (b := 24) (by omega) (by decide)]
  have hs24 : k % 24 < 24 := Nat.mod_lt _ (by decide)
  have hdiv : m.natAbs / 2 ^ k = val 16777216 (l.drop (k / 24)) / 2 ^ (k % 24) := by
    rw [p24 k, ← Nat.div_div_eq_div_mul, ← v1]
    congr 1
    by_cases hle : k / 24 ≤ l.length
    · have hp : 0 < 16777216 ^ (k / 24) := Nat.pow_pos (by decide)
      conv => lhs; rw [val_split _ l hle]
      rw [Nat.add_mul_div_left _ _ hp, Nat.div_eq_of_lt, Nat.zero_add]
      have := val_lt (d1.take (k / 24))
      rw [List.length_take, Nat.min_eq_left hle] at this
      exact this
    · rw [List.drop_eq_nil_of_le (by omega), val]
      exact Nat.div_eq_of_lt (Nat.lt_of_lt_of_le (val_lt d1) (Nat.pow_le_pow_right (by decide) (by omega)))
  have dr : Dig 16777216 (l.drop (k / 24)) := d1.drop _
  have hrl : (l.drop (k / 24)).length = l.length - k / 24 := List.length_drop
  have hget : ∀ j, (l.drop (k / 24)).getD j 0 = l.getD (k / 24 + j) 0 := fun j => by simp [List.getD_eq_getElem?_getD, List.getElem?_drop]
  generalize hR : l.drop (k / 24) = R at *
  refine ⟨fun g x y w' => ∃ (j : Nat) (q : List Nat), g + j = R.length ∧ y = .int .i64 ((k / 24 + j : Nat) : Int) ∧ Ext w2 w' ∧ OD .i64 t_int64 w' w2.heap.size x q ∧ q.length = j ∧ Dig 16777216 q ∧
    val 16777216 q = val 16777216 R / 2 ^ (k % 24) % 16777216 ^ j, ⟨R.length, 0, [], rfl, rfl, he, hz, rfl, (by intro d hd; cases hd), by simp [val, Nat.mod_one]⟩, ?_⟩
  rintro g x y junk w4 ⟨j, q, hg, rfl, e4, oq, hq, dq, hv⟩
  refine wh_l (b1.ext e4) ?_
  rw [(h1.ext e4).row.len u_s_int64, bin_lss]
  refine cnd_dec (fun hlt => ?_) (fun hge => ?_)
  · have hi : k / 24 + j < l.length := by omega
    have hj : j < R.length := by omega
    have g1 := Dig_get d1 hi
    have hRj : R[j] = l[k / 24 + j] := by
      have := hget j
      rw [getD_get hj, getD_get hi] at this; exact this
    refine wh_l (b1.ext e4) ?_
    refine (h1.ext e4).at hi u_s_int64 i_int64 u_int64 ?_
    have hle := Nat.div_le_self l[k / 24 + j] (2 ^ (k % 24))
    have key := right_dig24 dr hj hs24
    rw [hRj, hget] at key
    rw [bin_remI (b := 24) (by decide), cnv_int_int u_int64 u_uint64, w_u64' (by omega), bin_shrN (s := k % 24) (by simp only [IntKind.bits]; omega), bin_addI1 (b := 1) (by omega)]
    refine wh_l (b1.ext e4) ?_
    rw [(h1.ext e4).row.len u_s_int64, bin_lss]
    have app : ∀ d : Nat, d = (l[k / 24 + j] / 2 ^ (k % 24) + l.getD (k / 24 + (j + 1)) 0 * 2 ^ (24 - k % 24)) % 16777216 → bsl P t_s_int64 1 [(0, .int .i64 (d : Int))] w4 fun x49_41 w42 =>
        bl2 P .append #[t_s_int64, t_s_int64] t_s_int64 [x, x49_41] w42 fun x50_43 w44 =>
        bin P .add t_int64 false true (.int .i64 ((k / 24 + j : Nat) : Int)) (.int .i64 1) w44 fun x17_45 =>
        ∃ m46, m46 < g ∧ ∃ (j : Nat) (q : List Nat), m46 + j = R.length ∧ x17_45 = .int .i64 ((k / 24 + j : Nat) : Int) ∧ Ext w2 w44 ∧ OD .i64 t_int64 w44 w2.heap.size x50_43 q ∧ q.length = j ∧ Dig 16777216 q ∧ val 16777216 q = val 16777216 R / 2 ^ (k % 24) % 16777216 ^ j := by
      intro d hd
      refine app_OD oq u_s_int64 i_int64 (by simp only [maxLen]; omega) (by omega) e4.size fun v' w5 o5 g5 => ?_
      rw [bin_addI1 (b := 1) (by omega)]
      refine ⟨g - 1, by omega, j + 1, _, by omega, rfl, own_step e4 oq g5, o5, by simp [hq], Dig_snoc dq (by rw [hd]; exact Nat.mod_lt _ (by decide)), ?_⟩
      rw [val_snoc, hq, hv, hd, ← key, Nat.mod_pow_succ]
    refine cnd_dec (fun h2 => ?_) (fun h2 => ?_)
    · have hi2 : k / 24 + j + 1 < l.length := by omega
      have g2 := Dig_get d1 hi2
      refine wh_l (b1.ext e4) ?_
      rw [bin_addI1 (b := 1) (by omega)]
      refine (h1.ext e4).at hi2 u_s_int64 i_int64 u_int64 ?_
      have hp2 : 2 ^ (24 - k % 24) ≤ 16777216 := Nat.pow_le_pow_right (n := 2) (by decide) (show 24 - k % 24 ≤ 24 by omega)
      have hmul : l[k / 24 + j + 1] * 2 ^ (24 - k % 24) ≤ 16777215 * 16777216 := Nat.mul_le_mul (by omega) hp2
      rw [bin_remI (b := 24) (by decide), bin_sub, wrap_i64 (by omega) (by omega), show (24 : Int) - ((k % 24 : Nat) : Int) = ((24 - k % 24 : Nat) : Int) by omega, cnv_int_int u_int64 u_uint64, w_u64' (by omega),
        bin_shlI (s := 24 - k % 24) (by omega) (by omega), bin_addI (by omega), bin_remI (b := 16777216) (by decide)]
      exact app _ (by rw [show k / 24 + (j + 1) = k / 24 + j + 1 from rfl, getD_get hi2])
    · refine app _ ?_
      rw [getD_ge (by omega : l.length ≤ k / 24 + (j + 1)), Nat.zero_mul, Nat.add_zero]
      exact (Nat.mod_eq_of_lt (by omega)).symm
  · have hj : R.length ≤ j := by omega
    refine wh_s (b1.ext e4) ?_
    have hval : val 16777216 q = m'.natAbs := by
      rw [hm, hdiv, hv, Nat.mod_eq_of_lt]
      refine Nat.lt_of_le_of_lt (Nat.div_le_self _ _) (Nat.lt_of_lt_of_le (val_lt dr) (Nat.pow_le_pow_right (by decide) hj))
    exact wh_make (m := m') (E2.trans e4) (b2.ext e4) hcs e1.size (OD.IR oq) dq hval.symm hs (by omega) H
theorem c_l01In {n lo hi : Int} (H : K (.bool (decide (lo ≤ n ∧ n ≤ hi))) w) : call P f_spec_l01In [.int .i64 n, .int .i64 lo, .int .i64 hi] w K := by
  refine I_spec_l01In ?_
  unfold D_spec_l01In
  rw [bin_geq]
  refine ⟨_, fun _ _ _ h => h, ?_⟩
  refine grd_split (fun h => ?_) (fun h => ?_)
  · rw [bin_leq, pick_bool, h, cond_true]
    have h := of_decide_eq_true h
    have e : decide (lo ≤ n ∧ n ≤ hi) = decide (n ≤ hi) := by rw [decide_eq_decide]; exact ⟨fun q => q.2, fun q => ⟨h, q⟩⟩
    rw [e] at H; exact H
  · rw [h, pick_bool, Bool.not_true, cond_false]
    have h := of_decide_eq_false h
    have e : decide (lo ≤ n ∧ n ≤ hi) = false := by rw [decide_eq_false_iff_not]; exact fun q => h q.1
    rw [e] at H; exact H
theorem grd_both {v : Value} {want : Bool} {A B : Prop} (hA : A) (hB : B) : grd v want A B := by
  unfold grd
  split
  · generalize (_ == want) = c
    cases c
    · exact hB
    · exact hA
  · exact hB
theorem len100 {l : List Nat} (h : Norm 16777216 l) : l.length ≤ 100 ↔ bl (val 16777216 l) ≤ 2400 := by
  have h1 := (Norm.len_le (s := 24) (by decide) h)
  have e : val (2 ^ 24) l = val 16777216 l := rfl
  rw [e] at h1
  constructor
  · intro h2; omega
  · intro h2
    refine Nat.le_of_not_lt fun hc => ?_
    have := Norm.len_lt (s := 24) (by decide) h (by rintro rfl; simp at hc)
    rw [e] at this
    omega
theorem c_l02Is {v : Value} {m : Int} (h : Wr w v m) (H : ∀ w', Ext w w' → K (.bool (decide (bl m.natAbs ≤ 2400))) w') : call P f_spec_l02Is [v] w K := by
  obtain ⟨s, l, rfl, h1, n1, v1⟩ := h
  have hb := h1.bound
  refine I_spec_l02Is ?_
  unfold D_spec_l02Is
  refine bx_Wh fun x1 w1 b1 e1 => ?_
  have h1 := h1.ext e1
  have H1 := H w1 e1
  rw [← v1] at H1
  clear H
  refine wh_l b1 ?_
  rw [h1.row.len u_s_int64]
  refine ⟨fun g x w' => w' = w1 ∧ ∃ i : Nat, x = .int .i64 (i : Int) ∧ g + i = l.length, ⟨l.length, rfl, 0, rfl, by omega⟩, ?_⟩
  rintro g x junk w' ⟨rfl, i, rfl, hg⟩
  rw [bin_lss]
  refine cnd_dec (fun hlt => ?_) (fun hge => ?_)
  · have hi : i < l.length := by omega
    refine wh_l b1 ?_
    refine h1.at hi u_s_int64 i_int64 u_int64 ?_
    have g1 := Dig_get n1.1 hi
    refine c_l01In ?_
    rw [decide_eq_true (by omega), una_not, Bool.not_true, cnd_false, bin_addI1 (b := 1) (by omega)]
    exact ⟨g - 1, by omega, rfl, i + 1, rfl, by omega⟩
  · rw [bin_eql]
    refine cnd_dec (fun h0 => ?_) (fun h0 => ?_)
    · obtain rfl : l = [] := List.eq_nil_of_length_eq_zero (by omega)
      refine wh_s b1 ?_
      have hm : m = 0 := by simp only [val] at v1; omega
      subst hm
      rw [bin_eql]
      simpa [val, bl_zero] using H1
    · have hl : 0 < l.length := by omega
      have hz : l[l.length - 1] ≠ 0 := by
        intro hz
        have := n1.2
        rw [List.getLast?_eq_getElem?, List.getElem?_eq_getElem (by omega), hz] at this
        exact this rfl
      have hpos := n1.pos (by decide) (by rintro rfl; simp at hl : l ≠ [])
      have hm0 : m ≠ 0 := by omega
      rw [bin_leq]
      have e100 : decide ((l.length : Int) ≤ 100) = decide (bl (val 16777216 l) ≤ 2400) := by
        rw [decide_eq_decide, ← len100 n1]; omega
      rw [e100]
      generalize decide (bl (val 16777216 l) ≤ 2400) = B at H1 ⊢
      refine ⟨fun x w'' => w'' = w' ∧ (B = true → x = .bool true), ?_, ?_⟩
      · rintro x junk w2 ⟨rfl, hx⟩
        have hp : pick (.bool B) x (.bool false) = fun K => K (.bool B) := by
          funext K; rw [pick_bool]; cases B
          · rfl
          · rw [hx rfl]; rfl
        rw [hp]
        refine ⟨fun x w'' => w'' = w2 ∧ (B = true → x = .bool (decide (m.sign = 1))), ?_, ?_⟩
        · rintro x junk w3 ⟨rfl, hx⟩
          refine ⟨fun y w'' => w'' = w3 ∧ (B = true → m.sign ≠ 1 → y = .bool (decide (m.sign = -1))), ?_, ?_⟩
          · rintro y junk w4 ⟨rfl, hy⟩
            refine ⟨fun z w'' => w'' = w4 ∧ (B = true → z = .bool true), ?_, ?_⟩
            · rintro z junk w5 ⟨rfl, hz⟩
              rw [pick_bool]
              cases B
              · exact H1
              · rw [hz rfl]; exact H1
            · refine grd_split (fun hB => ?_) (fun hB => ?_)
              · rw [hx hB, pick_bool]
                refine ⟨rfl, fun _ => ?_⟩
                by_cases hs : m.sign = 1
                · rw [decide_eq_true hs]; rfl
                · rw [decide_eq_false hs, cond_false, hy hB hs]
                  have := sign_neg (m := m) (by
                    rcases Int.lt_trichotomy m 0 with h | h | h
                    · exact h
                    · exact absurd h hm0
                    · exact absurd (sign_pos h) hs)
                  rw [decide_eq_true this]
              · exact ⟨rfl, fun hB' => by rw [hB'] at hB; cases hB⟩
          · by_cases hB : B = true
            · rw [hx hB]
              refine grd_split (fun hs => ?_) (fun hs => ?_)
              · refine wh_s b1 ?_
                rw [bin_eql]
                exact ⟨rfl, fun _ _ => rfl⟩
              · exact ⟨rfl, fun _ hs' => absurd (of_decide_eq_true hs) hs'⟩
            · refine grd_both ?_ ⟨rfl, fun hB' => absurd hB' hB⟩
              refine wh_s b1 ?_
              rw [bin_eql]
              exact ⟨rfl, fun hB' => absurd hB' hB⟩
        · refine grd_split (fun hB => ?_) (fun hB => ?_)
          · refine wh_s b1 ?_
            rw [bin_eql]
            exact ⟨rfl, fun _ => rfl⟩
          · exact ⟨rfl, fun hB' => by rw [hB'] at hB; cases hB⟩
      · refine grd_split (fun hB => ?_) (fun hB => ?_)
        · refine wh_l b1 ?_
          rw [bin_subI1 (b := 1) (by omega) (by omega)]
          refine h1.at (i := l.length - 1) (by omega) u_s_int64 i_int64 u_int64 ?_
          rw [bin_neq]
          exact ⟨rfl, fun _ => by rw [decide_eq_true (by omega)]⟩
        · exact ⟨rfl, fun hB' => by rw [hB'] at hB; cases hB⟩
end Go.Proofs.YtjompmflommadaaGreatDoor


set_option linter.unusedVariables false
namespace Go.Proofs.YtjompmflommadaaGreatDoor
open Go Go.Vc
variable {w : World} {K : Value → World → Prop}
def Dr (w : World) (v : Value) (m e : Int) : Prop := ∃ s l, v = .agg #[.int .i64 m.sign, s, .int .i64 e] ∧ LR w s l ∧ Wl l m
def DQ (w : World) (v : Value) (lo hi : Nat) (q : Rat) : Prop := ∃ m e, Dr w v m e ∧ Cn lo hi q m e
theorem Dr.ext {w' : World} {v : Value} {m e : Int} (h : Dr w v m e) (he : Ext w w') : Dr w' v m e := let ⟨s, l, h1, h2, h3⟩ := h; ⟨s, l, h1, h2.ext he, h3⟩
theorem DQ.ext {w' : World} {v : Value} {lo hi : Nat} {q : Rat} (h : DQ w v lo hi q) (he : Ext w w') : DQ w' v lo hi q := let ⟨m, e, h1, h2⟩ := h; ⟨m, e, h1.ext he, h2⟩
theorem Cn.mono {lo hi lo' hi' : Nat} {q : Rat} {m e : Int} (h : Cn lo hi q m e) (h1 : lo ≤ lo') (h2 : hi ≤ hi') : Cn lo' hi' q m e := ⟨h.canon, h.bd.mono h1 h2, h.val⟩
theorem Dr.kt {w' : World} {v : Value} {m e : Int} {row : Option Nat} {e' : TypeId} (h : Dr w v m e) (hg : w.grownBy w' row) (ht : Ty w row e') (hne : t_int64 ≠ e') : Dr w' v m e := let ⟨s, l, h1, h2, h3⟩ := h; ⟨s, l, h1, h2.kt hg ht hne, h3⟩
theorem DQ.kt {w' : World} {v : Value} {lo hi : Nat} {q : Rat} {row : Option Nat} {e' : TypeId} (h : DQ w v lo hi q) (hg : w.grownBy w' row) (ht : Ty w row e') (hne : t_int64 ≠ e') : DQ w' v lo hi q := let ⟨m, e, h1, h2⟩ := h; ⟨m, e, h1.kt hg ht hne, h2⟩
theorem DQ.mono {v : Value} {lo hi lo' hi' : Nat} {q : Rat} (h : DQ w v lo hi q) (h1 : lo ≤ lo') (h2 : hi ≤ hi') : DQ w v lo' hi' q := let ⟨m, e, a, b⟩ := h; ⟨m, e, a, b.mono h1 h2⟩
theorem Do.Dr {lo hi : Nat} {v : Value} {m e : Int} (h : Do w lo hi v m e) : Dr w v m e := let ⟨s, l, h1, h2, h3⟩ := h; ⟨s, l, h1, LR.of h2.own, h3⟩
theorem Do.ext {w' : World} {lo hi : Nat} {v : Value} {m e : Int} (h : Do w lo hi v m e) (he : Ext w w') : Do w' lo hi v m e := let ⟨s, l, h1, h2, h3⟩ := h; ⟨s, l, h1, h2.ext he, h3⟩
theorem Do.mono {lo hi lo' hi' : Nat} {v : Value} {m e : Int} (h : Do w lo hi v m e) (h1 : lo' ≤ lo) (h2 : hi ≤ hi') : Do w lo' hi' v m e := let ⟨s, l, a, b, c⟩ := h; ⟨s, l, a, b.mono h1 h2, c⟩
theorem Dr.zero (w : World) : Dr w (.agg #[.int .i64 0, .slice none 0 0, .int .i64 0]) 0 0 := ⟨_, [], rfl, LR.nil _, Wl.zero⟩
theorem DQ.zero (w : World) : DQ w (.agg #[.int .i64 0, .slice none 0 0, .int .i64 0]) 0 0 0 := ⟨0, 0, Dr.zero w, .inl ⟨rfl, rfl⟩, Bd.zero _ _, (dy_zero 0).symm⟩
theorem Wr.sl {s : Value} {m : Int} {n : Int} (h : Wr w (.agg #[.int .i64 n, s]) m) : ∃ a l c, s = .slice a l c := by
  obtain ⟨s', l, e, h1, _⟩ := h
  simp only [Value.agg.injEq, Array.mk.injEq, List.cons.injEq, and_true] at e
  rw [e.2]
  exact IR.sl h1.toIR
def dv3 (n : Int) (s : Value) (e : Int) : List Value := [.int .i64 n, s, .int .i64 e]
section
variable {base : Nat} {x s : Value} {n e : Int} {K : Value → Prop}
theorem dy_all (h : Bx w base t_impl_Dyadic x (dv3 n s e)) (H : K (.agg #[.int .i64 n, s, .int .i64 e])) : ld P t_impl_Dyadic x w K :=
  h.get u_impl_Dyadic rfl i_impl_Dyadic rfl H
theorem dy_e (h : Bx w base t_impl_Dyadic x (dv3 n s e)) (H : K (.int .i64 e)) : fda P t_impl_Dyadic x 1 w (fun a => ld P t_int64 a w K) :=
  h.fld (off := 2) rfl u_impl_Dyadic rfl i_int64 u_int64 rfl H
theorem dy_w (h : Bx w base t_impl_Dyadic x (dv3 n s e)) (H : K (.agg #[.int .i64 n, s])) : fda P t_impl_Dyadic x 0 w (fun a => ld P t_impl_Whole a w K) := by
  obtain ⟨g, rfl, hc⟩ := h.cell
  rw [d_impl_Dyadic_0, addr_zero]
  refine (ld_agg (cs := [.int .i64 n, s]) u_impl_Whole rfl i_impl_Whole rfl (fun j u hu => ?_)) ▸ H
  rw [Addr.add_lit, Nat.zero_add]
  refine (hc j u ?_).1
  match j, hu with
  | 0, hu => exact hu
  | 1, hu => exact hu
  | _ + 2, hu => simp at hu
theorem dy_ws (h : Bx w base t_impl_Dyadic x (dv3 n s e)) (H : K (.int .i64 n)) : fda P t_impl_Dyadic x 0 w (fun a => fda P t_impl_Whole a 0 w (fun b => ld P t_int64 b w K)) := by
  obtain ⟨g, rfl, hc⟩ := h.cell
  rw [d_impl_Dyadic_0, addr_zero, d_impl_Whole_0, addr_zero, ld_scalar u_int64 rfl (hc 0 _ rfl).1]
  exact H
theorem dy_wl (h : Bx w base t_impl_Dyadic x (dv3 n s e)) (H : K s) : fda P t_impl_Dyadic x 0 w (fun a => fda P t_impl_Whole a 1 w (fun b => ld P t_s_int64 b w K)) := by
  obtain ⟨g, rfl, hc⟩ := h.cell
  rw [d_impl_Dyadic_0, addr_zero, d_impl_Whole_1, Addr.add_lit, ld_scalar u_s_int64 rfl (hc 1 _ rfl).1]
  exact H
theorem bx_Dy {KW : Value → World → Prop} (H : ∀ x w', Bx w' w.heap.size t_impl_Dyadic x (dv3 n s e) → Ext w w' → KW x w') : bx P t_impl_Dyadic (.agg #[.int .i64 n, s, .int .i64 e]) w KW :=
  bx_bx fun x w' b e _ => H x w' b e
theorem alc_Dy {KW : Value → World → Prop} (H : ∀ x w', (∃ cs, cs.length = 3 ∧ Bx w' w.heap.size t_impl_Dyadic x cs) → Ext w w' → KW x w') : alc P t_impl_Dyadic w KW :=
  alc_bx i_impl_Dyadic fun x w' b e _ => H x w' ⟨_, rfl, b⟩ e
end
theorem Dr.put {base : Nat} {x v : Value} {m e : Int} {cs : List Value} {KW : World → Prop} (h : Dr w v m e) (hb : Bx w base t_impl_Dyadic x cs) (hl : cs.length = 3) (H : ∀ w', (∃ s, v = .agg #[.int .i64 m.sign, s, .int .i64 e] ∧ Bx w' base t_impl_Dyadic x (dv3 m.sign s e)) → w.grownBy w' (blk x) → KW w') : sto P t_impl_Dyadic x v w KW := by
  obtain ⟨s, l, rfl, h1, hw⟩ := h
  exact hb.put i_impl_Dyadic (ds := dv3 m.sign s e) rfl hl (one_3 rfl (sl_one (IR.sl h1.toIR)) rfl) fun w' b' g' => H w' ⟨s, rfl, b'⟩ g'
theorem dq_ret {base : Nat} {x v : Value} {m e : Int} {lo hi : Nat} {cs : List Value} (hb : Bx w base t_impl_Dyadic x cs) (hl : cs.length = 3) (hv : Do w lo hi v m e) (H : ∀ w', w.grownBy w' (blk x) → Do w' lo hi v m e → K v w') :
    sto P t_impl_Dyadic x v w fun w' => ldc P t_impl_Dyadic x w' fun r => K r w' := by
  obtain ⟨s, l, rfl, ho, hw⟩ := hv
  refine hb.put i_impl_Dyadic (ds := dv3 m.sign s e) rfl hl (one_3 rfl (own_one ho) rfl) fun w' b' g' => ?_
  exact b'.getc u_impl_Dyadic rfl i_impl_Dyadic rfl (H w' g' ⟨s, l, rfl, ⟨keep_row ho.own g' (Ty.box hb) (by decide), ho.top⟩, hw⟩)
theorem c_l03Make {v : Value} {m e : Int} {lo hi : Nat} (h : Wr w v m) (hb : Bd lo hi m e) (hl : lo ≤ 1000000000) (hh : hi ≤ 1000000000)
    (H : ∀ v' w' m' e', Ext w w' → Do w' w.heap.size w'.heap.size v' m' e' → Cn lo hi (dy m e) m' e' → K v' w') : call P f_spec_l03Make [v, .int .i64 e] w K := by
  obtain ⟨s, l, rfl, h1, wl⟩ := h
  have hbl := hb.bl
  have := hb.low; have := hb.top
  refine I_spec_l03Make ?_
  unfold D_spec_l03Make
  refine bx_Wh fun x1 w1 b1 e1 => ?_
  refine alc_Dy fun x2 w2 ⟨cs, hcs, b2⟩ e2 => ?_
  have b1 := b1.ext e2
  have E2 := e1.trans e2
  refine wh_s b1 ?_
  rw [bin_eql]
  refine cnd_dec (fun h0 => ?_) (fun h0 => ?_)
  · have hm : m = 0 := Int.sign_eq_zero_iff_zero.1 h0
    rw [bld_Dyadic0]
    refine dq_ret (lo := w.heap.size) (hi := w2.heap.size) (m := 0) (e := 0) b2 hcs (Do.zero _ _ _) fun w3 g3 h3 => ?_
    have e3 : Ext w w3 := ext_of_grown E2 (fun g hg => Nat.le_trans e1.size (b2.blk_lt hg).1) g3
    refine H _ _ _ _ e3 (h3.mono (Nat.le_refl _) g3.size) ⟨.inl ⟨rfl, rfl⟩, Bd.zero _ _, ?_⟩
    rw [hm, dy_zero, dy_zero]
  · have hm : m ≠ 0 := by rintro rfl; exact h0 rfl
    refine wh_all b1 ?_
    refine c_l02Twos ⟨s, l, rfl, h1.ext E2, wl⟩ hm (by omega) fun k w3 e3 hk hkb => ?_
    refine wh_all (b1.ext e3) ?_
    obtain ⟨t1, t2⟩ := tz_int hm hk
    have hm' : m / 2 ^ k ≠ 0 := by intro h0; rw [h0] at t2; cases t2
    have hab : (m / 2 ^ k).natAbs = m.natAbs / 2 ^ k := by
      have : m.natAbs = (m / 2 ^ k).natAbs * 2 ^ k := by
        conv => lhs; rw [← t1]
        rw [Int.natAbs_mul, natAbs_two_pow]
      rw [this, Nat.mul_div_cancel _ (Nat.two_pow_pos _)]
    have hsg : (m / 2 ^ k).sign = m.sign := by
      conv => rhs; rw [← t1]
      rw [Int.sign_mul, Int.sign_eq_one_of_pos (Int.pow_pos (by decide)), Int.mul_one]
    refine c_l02Cut (m' := m / 2 ^ k) ⟨s, l, rfl, h1.ext (E2.trans e3), wl⟩ (by omega) (by omega) hab (fun _ => hsg) fun v' w4 e4 h4 => ?_
    obtain ⟨s', l', rfl, ho, hw⟩ := h4
    rw [bin_add, wrap_i64 (by omega) (by omega), bld_Dyadic (own_sl ho)]
    have b2 := (b2.ext e3).ext e4
    have hD : Do w4 w.heap.size w4.heap.size (.agg #[.int .i64 (m / 2 ^ k).sign, s', .int .i64 (e + k)]) (m / 2 ^ k) (e + k) := ⟨s', l', rfl, ho.mono (E2.trans e3).size (Nat.le_refl _), hw⟩
    refine dq_ret b2 hcs hD fun w5 g5 h5 => ?_
    have e5 : Ext w w5 := ext_of_grown (E2.trans (e3.trans e4)) (fun g hg => Nat.le_trans e1.size (b2.blk_lt hg).1) g5
    exact H _ _ _ _ e5 (h5.mono (Nat.le_refl _) g5.size) (Cn.odd hb hm hk)
theorem dq_make {base : Nat} {x v : Value} {m e : Int} {lo hi : Nat} {cs : List Value} {w0 : World} {q : Rat} (he : Ext w0 w) (hbx : Bx w base t_impl_Dyadic x cs) (hcs : cs.length = 3) (hbase : w0.heap.size ≤ base) (h : Wr w v m) (hb : Bd lo hi m e) (hl : lo ≤ 1000000000) (hh : hi ≤ 1000000000) (hq : q = dy m e)
    (H : ∀ v' w' m' e', Ext w0 w' → Do w' w0.heap.size w'.heap.size v' m' e' → Cn lo hi q m' e' → K v' w') : call P f_spec_l03Make [v, .int .i64 e] w fun r w1 => sto P t_impl_Dyadic x r w1 fun w2 => ldc P t_impl_Dyadic x w2 fun r => K r w2 := by
  subst hq
  refine c_l03Make h hb hl hh fun v' w1 m' e' e1 h1 hc => ?_
  have b1 := hbx.ext e1
  refine dq_ret b1 hcs h1 fun w2 g2 h2 => ?_
  have e2 : Ext w0 w2 := ext_of_grown (he.trans e1) (fun g hg => Nat.le_trans hbase (b1.blk_lt hg).1) g2
  exact H _ _ _ _ e2 (h2.mono he.size g2.size) hc
theorem c_l03Neg {v : Value} {lo hi : Nat} {q : Rat} (h : DQ w v lo hi q) (hl : lo ≤ 1000000000) (hh : hi ≤ 1000000000) (H : ∀ v' w', Ext w w' → DQ w' v' lo hi (-q) → K v' w') : call P f_spec_l03Neg [v] w K := by
  obtain ⟨m, e, ⟨s, l, rfl, h1, wl⟩, hc⟩ := h
  have hbl := hc.bd.bl
  refine I_spec_l03Neg ?_
  unfold D_spec_l03Neg
  refine bx_Dy fun x1 w1 b1 e1 => ?_
  refine alc_Dy fun x2 w2 ⟨cs, hcs, b2⟩ e2 => ?_
  have b1 := b1.ext e2
  have E2 := e1.trans e2
  refine dy_w b1 ?_
  refine dy_e b1 ?_
  refine c_l02Neg ⟨s, l, rfl, h1.ext E2, wl⟩ (by omega) fun v' w3 e3 h3 => ?_
  refine ⟨e3, ?_⟩
  obtain ⟨s', l', rfl, ho, hw⟩ := h3
  rw [bld_Dyadic (own_sl ho)]
  have b2 := b2.ext e3
  have hD : Do w3 w2.heap.size w3.heap.size (.agg #[.int .i64 (-m).sign, s', .int .i64 e]) (-m) e := ⟨s', l', rfl, ho, hw⟩
  refine dq_ret b2 hcs hD fun w4 g4 h4 => ?_
  have e4 : Ext w w4 := ext_of_grown (E2.trans e3) (fun g hg => Nat.le_trans e1.size (b2.blk_lt hg).1) g4
  refine H _ _ e4 ⟨-m, e, h4.Dr, ?_, hc.bd.neg, by rw [dy_neg, hc.val]⟩
  rcases hc.canon with ⟨ha, hb⟩ | ha
  · exact .inl ⟨by omega, hb⟩
  · exact .inr (by omega)
theorem c_l03Add {u v : Value} {lo hi : Nat} {q r : Rat} (hu : DQ w u lo hi q) (hv : DQ w v lo hi r) (hl : lo ≤ 100000000) (hh : hi ≤ 100000000)
    (H : ∀ v' w', Ext w w' → DQ w' v' lo (hi + 1) (q + r) → K v' w') : call P f_spec_l03Add [u, v] w K := by
  obtain ⟨m, e, ⟨s, l, rfl, h1, wl⟩, hc⟩ := hu
  obtain ⟨n, g, ⟨t, l', rfl, h2, wl'⟩, hc'⟩ := hv
  have hbl := hc.bd.bl
  have hbl' := hc'.bd.bl
  have := hc.bd.low; have := hc.bd.top; have := hc'.bd.low; have := hc'.bd.top
  have H' : ∀ v' w' m' e', Ext w w' → Do w' w.heap.size w'.heap.size v' m' e' → Cn lo (hi + 1) (q + r) m' e' → K v' w' := fun v' w' m' e' he hd hc => H v' w' he ⟨m', e', hd.Dr, hc⟩
  refine I_spec_l03Add ?_
  unfold D_spec_l03Add
  refine bx_Dy fun x1 w1 b1 e1 => ?_
  refine bx_Dy fun x2 w2 b2 e2 => ?_
  refine alc_Dy fun x3 w3 ⟨cs, hcs, b3⟩ e3 => ?_
  have b1 := (b1.ext e2).ext e3
  have b2 := b2.ext e3
  have E2 := e1.trans e2
  have E3 := E2.trans e3
  have h1 := h1.ext E3
  have h2 := h2.ext E3
  refine dy_ws b1 ?_
  rw [bin_eql]
  refine cnd_dec (fun h0 => ?_) (fun h0 => ?_)
  · have hm : m = 0 := Int.sign_eq_zero_iff_zero.1 h0
    refine dy_w b2 ?_
    refine dy_e b2 ?_
    refine dq_make E3 b3 hcs E2.size ⟨t, l', rfl, h2, wl'⟩ (hc'.bd.mono (Nat.le_refl _) (Nat.le_succ _)) (by omega) (by omega) ?_ H'
    rw [hc.val, hm, dy_zero, Rat.zero_add, hc'.val]
  · have hm : m ≠ 0 := by rintro rfl; exact h0 rfl
    refine dy_ws b2 ?_
    rw [bin_eql]
    refine cnd_dec (fun h0' => ?_) (fun h0' => ?_)
    · have hn : n = 0 := Int.sign_eq_zero_iff_zero.1 h0'
      refine dy_w b1 ?_
      refine dy_e b1 ?_
      refine dq_make E3 b3 hcs E2.size ⟨s, l, rfl, h1, wl⟩ (hc.bd.mono (Nat.le_refl _) (Nat.le_succ _)) (by omega) (by omega) ?_ H'
      rw [hc'.val, hn, dy_zero, Rat.add_zero, hc.val]
    · have hn : n ≠ 0 := by rintro rfl; exact h0' rfl
      refine dy_e b1 ?_
      refine dy_e b2 ?_
      rw [bl0_min_i64]
      refine dy_w b1 ?_
      refine dy_e b1 ?_
      rw [bin_sub, wrap_i64 (by omega) (by omega), show e - min e g = (((e - min e g).toNat : Nat) : Int) by omega]
      refine dy_w b2 ?_
      refine dy_e b2 ?_
      rw [bin_sub, wrap_i64 (by omega) (by omega), show g - min e g = (((g - min e g).toNat : Nat) : Int) by omega]
      have hs1 := ibl_shl_le m (e - min e g).toNat
      have hs2 := ibl_shl_le n (g - min e g).toNat
      have hs3 := (hc.bd.add hc'.bd).bl
      refine c_l02Left ⟨s, l, rfl, h1, wl⟩ (by omega) (by omega) fun v1 w4 e4 h4 => ?_
      refine ⟨e4, ?_⟩
      refine c_l02Left ⟨t, l', rfl, h2.ext e4, wl'⟩ (by omega) (by omega) fun v2 w5 e5 h5 => ?_
      refine c_l02Add (h4.ext e5).Wr h5.Wr (by omega) (by omega) fun v3 w6 e6 h6 => ?_
      refine dq_make (m := addM m e n g) (E3.trans (e4.trans (e5.trans e6))) (((b3.ext e4).ext e5).ext e6) hcs E2.size h6.Wr (hc.bd.add hc'.bd) (by omega) (by omega) ?_ H'
      rw [dy_addM, hc.val, hc'.val]
theorem c_l03Sub {u v : Value} {lo hi : Nat} {q r : Rat} (hu : DQ w u lo hi q) (hv : DQ w v lo hi r) (hl : lo ≤ 100000000) (hh : hi ≤ 100000000)
    (H : ∀ v' w', Ext w w' → DQ w' v' lo (hi + 1) (q - r) → K v' w') : call P f_spec_l03Sub [u, v] w K := by
  obtain ⟨m, e, ⟨s, l, rfl, h1, wl⟩, hc⟩ := hu
  obtain ⟨n, g, ⟨t, l', rfl, h2, wl'⟩, hc'⟩ := hv
  refine I_spec_l03Sub ?_
  unfold D_spec_l03Sub
  refine bx_Dy fun x1 w1 b1 e1 => ?_
  refine bx_Dy fun x2 w2 b2 e2 => ?_
  refine alc_Dy fun x3 w3 ⟨cs, hcs, b3⟩ e3 => ?_
  have E2 := e1.trans e2
  have E3 := E2.trans e3
  refine dy_all ((b1.ext e2).ext e3) ?_
  refine dy_all (b2.ext e3) ?_
  refine c_l03Neg ⟨n, g, ⟨t, l', rfl, h2.ext E3, wl'⟩, hc'⟩ (by omega) (by omega) fun v1 w4 e4 n4 => ?_
  refine ⟨e4, ?_⟩
  refine c_l03Add ⟨m, e, ⟨s, l, rfl, h1.ext (E3.trans e4), wl⟩, hc⟩ n4 hl hh fun v2 w5 e5 n5 => ?_
  obtain ⟨m', e', hd', hc2⟩ := n5
  have b3 := (b3.ext e4).ext e5
  refine hd'.put b3 hcs fun w6 ⟨s', hv', b6⟩ g6 => ?_
  have h6 := hd'.kt g6 (Ty.box b3) (by decide)
  subst hv'
  refine b6.getc u_impl_Dyadic rfl i_impl_Dyadic rfl ?_
  have e6 : Ext w w6 := ext_of_grown (E3.trans (e4.trans e5)) (fun g hg => Nat.le_trans E2.size (b3.blk_lt hg).1) g6
  exact H _ _ e6 ⟨m', e', h6, by rw [Rat.sub_eq_add_neg]; exact hc2⟩
theorem c_l03Mul {u v : Value} {lo hi lo' hi' : Nat} {q r : Rat} (hu : DQ w u lo hi q) (hv : DQ w v lo' hi' r) (hl : lo ≤ 100000000) (hh : hi ≤ 100000000) (hl' : lo' ≤ 100000000) (hh' : hi' ≤ 100000000)
    (H : ∀ v' w', Ext w w' → DQ w' v' (lo + lo') (hi + hi') (q * r) → K v' w') : call P f_spec_l03Mul [u, v] w K := by
  obtain ⟨m, e, ⟨s, l, rfl, h1, wl⟩, hc⟩ := hu
  obtain ⟨n, g, ⟨t, l', rfl, h2, wl'⟩, hc'⟩ := hv
  have hbl := hc.bd.bl
  have hbl' := hc'.bd.bl
  have := hc.bd.low; have := hc.bd.top; have := hc'.bd.low; have := hc'.bd.top
  refine I_spec_l03Mul ?_
  unfold D_spec_l03Mul
  refine bx_Dy fun x1 w1 b1 e1 => ?_
  refine bx_Dy fun x2 w2 b2 e2 => ?_
  refine alc_Dy fun x3 w3 ⟨cs, hcs, b3⟩ e3 => ?_
  have b1 := (b1.ext e2).ext e3
  have b2 := b2.ext e3
  have E2 := e1.trans e2
  have E3 := E2.trans e3
  refine dy_w b1 ?_
  refine dy_w b2 ?_
  refine dy_e b1 ?_
  refine dy_e b2 ?_
  rw [bin_add, wrap_i64 (by omega) (by omega)]
  refine c_l02Mul ⟨s, l, rfl, h1.ext E3, wl⟩ ⟨t, l', rfl, h2.ext E3, wl'⟩ (by omega) (by omega) fun v1 w4 e4 h4 => ?_
  refine ⟨e4, ?_⟩
  refine dq_make (E3.trans e4) (b3.ext e4) hcs E2.size h4.Wr (hc.bd.mul hc'.bd) (by omega) (by omega) ?_ fun v' w' m' e' he hd hc => H v' w' he ⟨m', e', hd.Dr, hc⟩
  rw [← dy_mul, hc.val, hc'.val]
end Go.Proofs.YtjompmflommadaaGreatDoor
