import Derived.Test.YtabgkpfcpncmhaaU7
import Derived.Test.YtabgkpfcpncmhaaU8
import Derived.Test.YtabgkpfcpncmhaaVcK
import Derived.Test.YtabgkpfcpncmhaaU11
import Derived.Test.YtabgkpfcpncmhaaU10
import Derived.ProofKit
import Derived.Test.YtabgkpfcpncmhaaRows
import Derived.Test.YtabgkpfcpncmhaaQDeterminantOf3
set_option linter.unusedSimpArgs false
set_option linter.unusedVariables false
/- Contracts: the reference's parts of a float; floats of 64 bits doubled and halved. -/
set_option linter.unusedVariables false
namespace Go.Proofs.Ytabgkpfcpncmhaa
open Go Go.Vc Ieee

variable {w : World} {K : Value → World → Prop}

/-! ### words of single precision -/
theorem xor_split {a b x y k : Nat} (ha : a < 2 ^ k) (hb : b < 2 ^ k) : (2 ^ k * x + a) ^^^ (2 ^ k * y + b) = 2 ^ k * (x ^^^ y) + (a ^^^ b) := by
  have hab : a ^^^ b < 2 ^ k := Nat.xor_lt_two_pow ha hb
  apply Nat.eq_of_testBit_eq
  intro j
  rw [Nat.testBit_xor, Nat.testBit_two_pow_mul_add _ ha, Nat.testBit_two_pow_mul_add _ hb, Nat.testBit_two_pow_mul_add _ hab]
  split <;> rw [Nat.testBit_xor]
theorem neg32 (b : Nat) (h : b < 4294967296) : Op.negFloat .f32 b = if b < 2147483648 then b + 2147483648 else b - 2147483648 := by
  show b ^^^ 2 ^ 31 = _
  have h1 := xor_split (a := b % 2 ^ 31) (b := 0) (x := b / 2 ^ 31) (y := 1) (k := 31) (Nat.mod_lt _ (by decide)) (by decide)
  rw [Nat.div_add_mod, Nat.mul_one, Nat.add_zero, Nat.xor_zero] at h1
  rw [h1]
  have h31 : (2 : Nat) ^ 31 = 2147483648 := by decide
  rw [h31]
  split
  · rename_i hlt
    rw [Nat.div_eq_of_lt hlt, Nat.mod_eq_of_lt hlt]
    have : (0 ^^^ 1 : Nat) = 1 := by decide
    rw [this]; omega
  · have h2 : b / 2147483648 = 1 := by omega
    rw [h2]
    have : (1 ^^^ 1 : Nat) = 0 := by decide
    rw [this]; omega
theorem read_f {b : Nat} (h : Vc.Fin single b) (hb : b < 4294967296) : single.read b = .number (b / 2147483648 % 2 == 1) (fM b).natAbs (fE b) := by
  unfold Go.Vc.Fin at h
  rw [s_sw, s_inf] at h
  unfold Format.read
  rw [s_sw, s_bin, s_inf, show single.leastPlace = -149 from by decide]
  simp only
  have hM : (fM b).natAbs = b % 8388608 + (if 0 < b / 8388608 % 256 then 8388608 else 0) := by
    unfold fM; simp only
    generalize (if 0 < b / 8388608 % 256 then 8388608 else 0) = x
    split <;> omega
  rw [hM]
  have e1 : b % 2147483648 % 8388608 = b % 8388608 := by omega
  have e2 : b % 2147483648 / 8388608 = b / 8388608 % 256 := by omega
  by_cases h0 : b % 2147483648 < 8388608
  · have h3 : ¬ 0 < b / 8388608 % 256 := by omega
    rw [if_pos h0, if_neg h3]
    unfold fE
    rw [if_neg h3]
    congr 1
    omega
  · have h3 : 0 < b / 8388608 % 256 := by omega
    rw [if_neg h0, if_pos h, if_pos h3]
    unfold fE
    rw [if_pos h3]
    congr 1
    · omega
    · omega
theorem sgn_f {b : Nat} (hb : b < 4294967296) : (fM b < 0 → 2147483648 ≤ b) ∧ (0 < fM b → b < 2147483648) := by
  unfold fM
  simp only
  constructor
  · intro h
    split at h
    · omega
    · omega
  · intro h
    split at h
    · split at h <;> omega
    · omega
theorem cmp_zero (m : Int) (k : Nat) : compare (m * 2 ^ k) 0 = compare m 0 := by
  have hp : (0 : Int) < 2 ^ k := Int.pow_pos (by decide)
  rcases Int.lt_trichotomy m 0 with h | h | h
  · have h1 := Int.mul_neg_of_neg_of_pos h hp
    rw [Int.compare_eq_lt.2 h, Int.compare_eq_lt.2 h1]
  · subst h; simp
  · have h1 := Int.mul_pos h hp
    rw [Int.compare_eq_gt.2 h, Int.compare_eq_gt.2 h1]
theorem order_zero {b : Nat} (h : Vc.Fin single b) (hb : b < 4294967296) : single.order b 0 = some (compare (fM b) 0) := by
  unfold Format.order
  rw [read_f h hb, show single.read 0 = .number false 0 (-149) from by decide]
  simp only [Datum.order, signed_eq]
  congr 1
  simp only [Bool.false_eq_true, if_false, Int.mul_zero, Int.zero_mul, show ((0 : Nat) : Int) = 0 from rfl]
  rw [cmp_zero]
  congr 1
  have := sgn_f hb
  by_cases hs : b / 2147483648 % 2 = 1
  · simp only [hs, beq_self_eq_true, if_true]
    have : ¬ 0 < fM b := fun q => by have := this.2 q; omega
    omega
  · have hs' : (b / 2147483648 % 2 == 1) = false := by simpa using hs
    simp only [hs', Bool.false_eq_true, if_false]
    have : ¬ fM b < 0 := fun q => by have := this.1 q; omega
    omega

theorem c_l01Abs {b : Nat} (h : Vc.Fin single b) (hb : b < 4294967296) (H : ∀ a : Nat, a < 4294967296 → Vc.Fin single a → single.read a = .number false (fM b).natAbs (fE b) → K (fl a) w) : call P f_spec_l01Abs [fl b] w K := by
  refine I_spec_l01Abs ?_
  unfold D_spec_l01Abs
  have ho := order_zero h hb
  have hs := sgn_f hb
  have hr := read_f h hb
  rw [bin_flss, show FloatKind.f32.format.order b 0 = some (compare (fM b) 0) from ho]
  by_cases h1 : fM b < 0
  · rw [Int.compare_eq_lt.2 h1]
    refine cnd_yes rfl ?_
    rw [una_neg_float, neg32 b hb]
    have h2 := hs.1 h1
    rw [if_neg (by omega)]
    have hf' : Vc.Fin single (b - 2147483648) := by unfold Go.Vc.Fin at h ⊢; rw [s_sw, s_inf] at *; omega
    refine H _ (by omega) hf' ?_
    rw [read_f hf' (by omega)]
    have e1 : fM (b - 2147483648) = -(fM b) := by
      unfold fM
      have a1 : (b - 2147483648) % 8388608 = b % 8388608 := by omega
      have a2 : (b - 2147483648) / 8388608 % 256 = b / 8388608 % 256 := by omega
      have a3 : ¬ (b - 2147483648) / 2147483648 % 2 = 1 := by omega
      have a4 : b / 2147483648 % 2 = 1 := by omega
      simp only [a1, a2, a3, a4, if_false, if_true]
      omega
    have e2 : fE (b - 2147483648) = fE b := by
      unfold fE
      have a2 : (b - 2147483648) / 8388608 % 256 = b / 8388608 % 256 := by omega
      rw [a2]
    have e3 : ((b - 2147483648) / 2147483648 % 2 == 1) = false := by
      have : ¬ (b - 2147483648) / 2147483648 % 2 = 1 := by omega
      simpa using this
    rw [e1, e2, e3, Int.natAbs_neg]
  · have hn : ¬ (compare (fM b) 0 = .lt) := fun q => h1 (Int.compare_eq_lt.1 q)
    refine cnd_no (by simpa using hn) ?_
    rw [bin_feql, show FloatKind.f32.format.order b 0 = some (compare (fM b) 0) from ho]
    by_cases h2 : fM b = 0
    · rw [h2]
      refine cnd_yes rfl ?_
      refine H 0 (by decide) (by decide) ?_
      have hE : fE b = -149 := by
        unfold fM at h2
        unfold fE
        simp only at h2
        have : ¬ 0 < b / 8388608 % 256 := by
          intro h3
          simp only [h3, if_true] at h2
          split at h2 <;> omega
        rw [if_neg this]; rfl
      rw [hE, h2]; decide
    · have hn2 : ¬ (compare (fM b) 0 = .eq) := fun q => h2 (Int.compare_eq_eq.1 q)
      refine cnd_no (by simpa using hn2) ?_
      refine H b hb h ?_
      rw [hr]
      have : b / 2147483648 % 2 ≠ 1 := by have := hs.2 (by omega); omega
      have e3 : (b / 2147483648 % 2 == 1) = false := by simpa using this
      rw [e3]

/-! ### words of double precision -/
abbrev W64 := W double
theorem two64 : (4611686018427387904 : Nat) = W double false 1 1 := by decide
theorem p2464 : (4715268809856909312 : Nat) = W double false 16777216 0 := by decide
theorem c_l01Twos {s : Bool} {m : Nat} {e k : Int} (h1 : bl m ≤ 53) (h2 : -1000 ≤ e) (h3 : e ≤ 900) (h4 : -1000 ≤ e + k) (h5 : e + k ≤ 900) (H : K (.float .f64 (W64 s m (e + k))) w) : call P f_spec_l01Twos [.float .f64 (W64 s m e), .int .i64 k] w K := by
  have hk : -2000 ≤ k ∧ k ≤ 2000 := by omega
  have has1 : Has double 1 1 := Has64 (by decide) (by decide) (by decide)
  refine I_spec_l01Twos ?_
  unfold D_spec_l01Twos
  refine ⟨fun g x y w' => w' = w ∧ ∃ j : Nat, x = .float .f64 (W64 s m (e + j)) ∧ y = .int .i64 (k - j) ∧ g + j = k.toNat, ⟨k.toNat, rfl, 0, by simp, by simp, rfl⟩, ?_⟩
  rintro g x y junk w' ⟨rfl, j, rfl, rfl, hg⟩
  rw [bin_gtr]
  refine cnd_dec (fun hpos => ?_) (fun hneg => ?_)
  · refine rbin_float (by simp) fun r hr => ?_
    have hm := mul_W (s := s) (t := false) hsd (Has64 (m := m) (e := e + j) h1 (by omega) (by omega)) has1
    rw [← two64] at hm
    have := FR_some hr (show floatBits .mul .f64 _ _ = some _ from hm)
    subst this
    rw [bin_sub, wrap_i64 (by omega) (by omega), Bool.xor_false, Nat.mul_one]
    exact ⟨g - 1, by omega, rfl, j + 1, by congr 2; omega, by congr 1; omega, by omega⟩
  · have hj : (j : Int) = max k 0 := by omega
    refine ⟨fun g x y w'' => w'' = w' ∧ ∃ i : Nat, x = .float .f64 (W64 s m (e + j - i)) ∧ y = .int .i64 (k - j + i) ∧ g + i = (-k).toNat, ⟨(-k).toNat, rfl, 0, by simp, by simp, rfl⟩, ?_⟩
    rintro g' x y junk w'' ⟨rfl, i, rfl, rfl, hg'⟩
    rw [bin_lss]
    refine cnd_dec (fun hlt => ?_) (fun hge => ?_)
    · refine rbin_float (by simp) fun r hr => ?_
      have hm := div_two (s := s) hsd (by decide) (Has64 (m := m) (e := e + j - i) h1 (by omega) (by omega)) has1
      rw [← two64] at hm
      have := FR_some hr (show floatBits .quo .f64 _ _ = some _ from hm)
      subst this
      rw [bin_add, wrap_i64 (by omega) (by omega)]
      exact ⟨g' - 1, by omega, rfl, i + 1, by congr 2; omega, by congr 1; omega, by omega⟩
    · rw [show e + (j : Int) - i = e + k by omega]
      exact H

theorem dy_le {m n e : Int} : dy m e ≤ dy n e ↔ m ≤ n := by
  rw [Rat.le_iff_sub_nonneg, Rat.sub_eq_add_neg, ← dy_neg, dy_add, dy_nonneg]; omega
theorem dy_lt {m n e : Int} : dy m e < dy n e ↔ m < n := by
  rw [← Rat.not_le, dy_le]; omega
theorem order_ge {m n : Nat} {e g : Int} (h1 : Has double m e) (h2 : Has double n g) : (double.order (W64 false m e) (W64 false n g) == some .gt || double.order (W64 false m e) (W64 false n g) == some .eq) = decide (dy n g ≤ dy m e) := by
  obtain ⟨k, l, r1, s1⟩ := read_any (s := false) hsd h1
  obtain ⟨k', l', r2, s2⟩ := read_any (s := false) hsd h2
  unfold Format.order
  rw [r1, r2]
  simp only [Datum.order, signed_eq, Bool.false_eq_true, if_false, Int.one_mul]
  have a1 : dy ((k : Int) * 2 ^ (l - min l l').toNat) (min l l') = dy m e := by rw [s1.dy]; exact dy_shift' (by omega)
  have a2 : dy ((k' : Int) * 2 ^ (l' - min l l').toNat) (min l l') = dy n g := by rw [s2.dy]; exact dy_shift' (by omega)
  rw [← a1, ← a2]
  generalize (k : Int) * 2 ^ (l - min l l').toNat = x
  generalize (k' : Int) * 2 ^ (l' - min l l').toNat = y
  rw [Bool.eq_iff_iff, decide_eq_true_eq, dy_le]
  simp only [Bool.or_eq_true, beq_iff_eq, Option.some.injEq, Int.compare_eq_gt, Int.compare_eq_eq]
  omega
theorem toInt_W {m : Nat} (h : Has double m 0) : (double.read (W64 false m 0)).toInt .zero = some (m : Int) := by
  obtain ⟨k, l, r1, s1⟩ := read_any (s := false) hsd h
  rw [r1]
  unfold Datum.toInt Datum.integral
  simp only [signed_eq, Bool.false_eq_true, if_false, Int.one_mul, Int.pow_zero, Int.mul_one, Nat.shiftLeft_eq]
  congr 2
  obtain ⟨i, j, a, b⟩ := s1
  by_cases hl : 0 ≤ l
  · rw [show (-l).toNat = 0 by omega, cut_zero]
    have : i = j - l.toNat ∧ l.toNat ≤ j ∨ True := .inr trivial
    have hp := Nat.two_pow_pos i
    refine Nat.eq_of_mul_eq_mul_right hp ?_
    rw [b, Nat.mul_assoc, ← Nat.pow_add]
    congr 2
    omega
  · rw [show l.toNat = 0 by omega, Nat.pow_zero, Nat.mul_one]
    have hk : k = m * 2 ^ (-l).toNat := by
      refine Nat.eq_of_mul_eq_mul_right (Nat.two_pow_pos j) ?_
      rw [← b, Nat.mul_assoc, ← Nat.pow_add]
      congr 2
      omega
    rw [hk]
    by_cases hm : m = 0
    · subst hm
      rw [Nat.zero_mul]
      unfold Toward.cut
      simp
    · exact cut_exact .zero false m _ (fun h => absurd h hm)
set_option maxRecDepth 20000 in
theorem rcnv_to_int {s d : TypeId} {b : Nat} {n : Int} {K : Value → Prop} (hs : P.underlying s = some (.float .f64)) (hd : P.underlying d = some (.int .i64)) (h : (double.read b).toInt .zero = some n) (h1 : -9223372036854775808 ≤ n) (h2 : n ≤ 9223372036854775807) (H : K (.int .i64 n)) : rcnv P s d (.float .f64 b) w K := by
  unfold rcnv convert
  rw [rd_bind']
  refine rd_of_rv _ (rv_underlying hs) ?_
  rw [rd_bind']
  refine rd_of_rv _ (rv_underlying hd) ?_
  simp only [Conv.floatToInt]
  have : (FloatKind.f64.decode b).toInt .zero = some n := h
  rw [this]
  simp only
  rw [if_pos (show IntKind.i64.min ≤ n ∧ n ≤ IntKind.i64.max from ⟨by rw [show IntKind.i64.min = -9223372036854775808 from rfl]; exact h1, by rw [show IntKind.i64.max = 9223372036854775807 from rfl]; exact h2⟩)]
  exact H

theorem mul_two_le {a m d j : Nat} (h : a ≤ m) (hj : j < d) : a * 2 ≤ m * 2 ^ (d - j) := by
  have h2 : 2 ^ 1 ≤ 2 ^ (d - j) := Nat.pow_le_pow_right (by decide) (by omega)
  exact Nat.mul_le_mul h h2
theorem norm_f {b : Nat} (h : Vc.Fin single b) (hd : -149 < fE b) : 8388608 ≤ (fM b).natAbs := by
  have hx : 0 < b / 8388608 % 256 := by
    refine Nat.pos_of_ne_zero fun h0 => ?_
    unfold fE at hd
    rw [if_neg (by omega)] at hd
    omega
  unfold fM
  simp only [hx, if_true]
  split <;> omega
set_option maxRecDepth 20000 in
theorem c_l01Parts {b : Nat} (h : Vc.Fin single b) (hb : b < 4294967296) (H : K (.tuple #[.int .i64 ((fM b).natAbs : Int), .int .i64 (fE b)]) w) : call P f_spec_l01Parts [fl b] w K := by
  refine I_spec_l01Parts ?_
  unfold D_spec_l01Parts
  refine c_l01Abs h hb fun a ha hfa hra => ?_
  have hM := fM_abs b
  have hbl : bl (fM b).natAbs ≤ 24 := bl_le.2 (by exact hM)
  have hE : -149 ≤ fE b ∧ fE b ≤ 104 := by have := f_bd h; have h1 := this.low; unfold fE at *; rw [fin_iff_bits] at h; split <;> omega
  refine rcnv_widen u_float32 u_float64 fun r hr => ?_
  have hw : r = W64 false (fM b).natAbs (fE b) := by
    rcases hr with ⟨_, hr⟩ | ⟨hn, _⟩
    · rw [hr]; unfold wid; rw [hra]; rfl
    · exact absurd hfa (not_fin_of_nan hn)
  subst hw
  refine c_l01Twos (by omega) (by omega) (by omega) (by omega) (by omega) ?_
  obtain ⟨d, hd⟩ : ∃ d : Nat, fE b + 149 = d := ⟨(fE b + 149).toNat, by omega⟩
  rw [hd]
  refine ⟨fun g x y w' => w' = w ∧ ∃ j : Nat, x = .int .i64 (-149 + j) ∧ y = .float .f64 (W64 false (fM b).natAbs ((d : Int) - j)) ∧ g + j = d, ⟨d, rfl, 0, rfl, by simp, rfl⟩, ?_⟩
  rintro g x y junk w' ⟨rfl, j, rfl, rfl, hg⟩
  rw [bin_fgeq, p2464]
  have hge := order_ge (m := (fM b).natAbs) (e := (d : Int) - j) (n := 16777216) (g := 0) (Has64 (by omega) (by omega) (by omega)) (Has64 (by decide) (by decide) (by decide))
  rw [show FloatKind.f64.format = double from rfl, hge]
  have hcmp : (dy (16777216 : Nat) 0 ≤ dy ((fM b).natAbs : Int) ((d : Int) - j)) ↔ j < d := by
    have e1 : dy ((fM b).natAbs : Int) ((d : Int) - j) = dy (((fM b).natAbs * 2 ^ (d - j) : Nat) : Int) 0 := by
      rw [Int.natCast_mul, Int.natCast_pow]
      exact (dy_shift' (by omega)).symm
    rw [e1, dy_le]
    constructor
    · intro hle
      refine Nat.lt_of_not_le fun hc => ?_
      rw [show d - j = 0 by omega, Nat.pow_zero, Nat.mul_one] at hle
      omega
    · intro hlt
      have h3 := mul_two_le (norm_f h (by omega)) hlt
      generalize (fM b).natAbs * 2 ^ (d - j) = y at *
      omega
  refine cnd_dec (fun hy => ?_) (fun hn => ?_)
  · have hlt := hcmp.1 hy
    refine rbin_float (by simp) fun r hr => ?_
    have hm := div_two (s := false) hsd (by decide) (Has64 (m := (fM b).natAbs) (e := (d : Int) - j) (by omega) (by omega) (by omega)) (Has64 (m := 1) (e := 1) (by decide) (by decide) (by decide))
    rw [← two64] at hm
    have := FR_some hr (show floatBits .quo .f64 _ _ = some _ from hm)
    subst this
    rw [bin_add, wrap_i64 (by omega) (by omega)]
    exact ⟨g - 1, by omega, rfl, j + 1, by congr 1; omega, by congr 2; omega, by omega⟩
  · have hj : j = d := by
      have : ¬ j < d := fun q => hn (hcmp.2 q)
      omega
    subst hj
    rw [Int.sub_self]
    refine rcnv_to_int u_float64 u_int64 (toInt_W (Has64 (by omega) (by omega) (by omega))) (by omega) (by omega) ?_
    rw [show -149 + (j : Int) = fE b by omega]
    exact H

theorem c_l03Of {b : Nat} (h : Vc.Fin single b) (hb : b < 4294967296) (H : ∀ v' w', Ext w w' → DQ w' v' 149 128 (fq b) → K v' w') : call P f_spec_l03Of [fl b] w K := by
  have hM := fM_abs b
  have hs := sgn_f hb
  refine I_spec_l03Of ?_
  unfold D_spec_l03Of
  refine alc_Dy fun x w1 ⟨cs, hcs, b1⟩ e1 => ?_
  refine c_l01Parts h hb ?_
  rw [xtr_0, xtr_1, bin_flss, show FloatKind.f32.format.order b 0 = some (compare (fM b) 0) from order_zero h hb]
  have H' : ∀ v' w' m' e', Ext w w' → Do w' w.heap.size w'.heap.size v' m' e' → Cn 149 128 (fq b) m' e' → K v' w' := fun v' w' m' e' he hd hc => H v' w' he ⟨m', e', hd.Dr, hc⟩
  by_cases h1 : fM b < 0
  · rw [Int.compare_eq_lt.2 h1]
    refine cnd_yes rfl ?_
    rw [una_neg_int, wrap_i64 (by omega) (by omega), show (0 : Int) - ((fM b).natAbs : Int) = fM b by omega]
    refine c_l02Of (by omega) (by omega) fun v2 w2 e2 h2 => ?_
    exact dq_make (e1.trans e2) (b1.ext e2) hcs (Nat.le_refl _) h2.Wr (f_bd h) (by decide) (by decide) rfl H'
  · have hn : ¬ (compare (fM b) 0 = .lt) := fun q => h1 (Int.compare_eq_lt.1 q)
    refine cnd_no (by simpa using hn) ?_
    rw [show ((fM b).natAbs : Int) = fM b by omega]
    refine c_l02Of (by omega) (by omega) fun v2 w2 e2 h2 => ?_
    exact dq_make (e1.trans e2) (b1.ext e2) hcs (Nat.le_refl _) h2.Wr (f_bd h) (by decide) (by decide) rfl H'
end Go.Proofs.Ytabgkpfcpncmhaa

/- Contracts: doubles scaled by a power of two (math.Ldexp), narrowed. -/
set_option linter.unusedVariables false
namespace Go.Proofs.Ytabgkpfcpncmhaa
open Go Go.Vc Ieee

variable {w : World} {K : Value → World → Prop}

theorem and_split' {a b x y k : Nat} (ha : a < 2 ^ k) (hb : b < 2 ^ k) : (2 ^ k * x + a) &&& (2 ^ k * y + b) = 2 ^ k * (x &&& y) + (a &&& b) := by
  have hab : a &&& b < 2 ^ k := Nat.and_lt_two_pow _ hb
  apply Nat.eq_of_testBit_eq
  intro j
  rw [Nat.testBit_and, Nat.testBit_two_pow_mul_add _ ha, Nat.testBit_two_pow_mul_add _ hb, Nat.testBit_two_pow_mul_add _ hab]
  split <;> rw [Nat.testBit_and]
theorem or_split {a x k : Nat} (ha : a < 2 ^ k) : a ||| (2 ^ k * x) = 2 ^ k * x + a := by
  rw [Nat.or_comm, ← Nat.two_pow_add_eq_or_of_lt ha]
theorem bin_andNot0 {t : TypeId} {cx cy : Bool} {x y : Int} {K : Value → Prop} : bin P .andNot t cx cy (.int .u64 x) (.int .u64 y) w K = K (.int .u64 (IntKind.u64.wrap ((BitVec.ofInt 64 x &&& ~~~(BitVec.ofInt 64 y)).toNat : Nat))) :=
  bin_of (eqg_int ..) (by unfold binOp Op.intBits; rfl)
theorem andNot_nat {a b : Nat} (ha : a < 2 ^ 64) (hb : b < 2 ^ 64) : (BitVec.ofInt 64 (a : Int) &&& ~~~(BitVec.ofInt 64 (b : Int))).toNat = a &&& (2 ^ 64 - 1 - b) := by
  rw [BitVec.toNat_and, BitVec.toNat_not, BitVec.ofInt_natCast, BitVec.ofInt_natCast, BitVec.toNat_ofNat, BitVec.toNat_ofNat, Nat.mod_eq_of_lt ha, Nat.mod_eq_of_lt hb]
theorem wrap_u64 {n : Nat} (h : n < 2 ^ 64) : IntKind.u64.wrap (n : Int) = n := by
  rw [wrap_nat]
  have : n ≤ 18446744073709551615 := by have : (2 : Nat) ^ 64 = 18446744073709551616 := by decide
                                        omega
  rw [show IntKind.u64.max = 18446744073709551615 from rfl]
  omega
/-- The sign taken off. -/
theorem bin_clear {t : TypeId} {cx cy : Bool} {a : Nat} {K : Value → Prop} (ha : a < 2 ^ 63) : bin P .andNot t cx cy (.int .u64 (a : Int)) (.int .u64 9223372036854775808) w K = K (.int .u64 (a : Int)) := by
  have h64 : a < 2 ^ 64 := Nat.lt_trans ha (by decide)
  rw [bin_andNot0]
  have e := andNot_nat (b := 9223372036854775808) h64 (by decide)
  rw [show ((9223372036854775808 : Nat) : Int) = (9223372036854775808 : Int) from rfl] at e
  rw [e, show (2 ^ 64 - 1 - 9223372036854775808 : Nat) = 2 ^ 63 - 1 from by decide, Nat.and_two_pow_sub_one_eq_mod, Nat.mod_eq_of_lt ha, wrap_u64 h64]
/-- The exponent taken off. -/
theorem bin_frac {t : TypeId} {cx cy : Bool} {n f : Nat} {K : Value → Prop} (hn : n < 2 ^ 11) (hf : f < 2 ^ 52) : bin P .andNot t cx cy (.int .u64 ((2 ^ 52 * n + f : Nat) : Int)) (.int .u64 9218868437227405312) w K = K (.int .u64 (f : Int)) := by
  have h63 : 2 ^ 52 * n + f < 2 ^ 63 := by
    have h1 : 2 ^ 52 * (n + 1) ≤ 2 ^ 52 * 2 ^ 11 := Nat.mul_le_mul_left _ hn
    rw [← Nat.pow_add] at h1
    rw [Nat.mul_succ] at h1
    exact Nat.lt_of_lt_of_le (Nat.add_lt_add_left hf _) h1
  have h64 : 2 ^ 52 * n + f < 2 ^ 64 := Nat.lt_trans h63 (by decide)
  rw [bin_andNot0]
  have e := andNot_nat (b := 9218868437227405312) h64 (by decide)
  rw [show ((9218868437227405312 : Nat) : Int) = (9218868437227405312 : Int) from rfl] at e
  rw [e, show (2 ^ 64 - 1 - 9218868437227405312 : Nat) = 2 ^ 52 * 2048 + (2 ^ 52 - 1) from by decide, and_split' hf (by decide), Nat.and_two_pow_sub_one_eq_mod, Nat.mod_eq_of_lt hf]
  have h0 : n &&& 2048 = 0 := by
    have h2 := and_split' (a := n) (b := 0) (x := 0) (y := 1) (k := 11) hn (by decide)
    rw [Nat.mul_zero, Nat.zero_add, Nat.and_zero, Nat.zero_and, Nat.mul_zero] at h2
    exact h2
  rw [h0, Nat.mul_zero, Nat.zero_add, wrap_u64 (Nat.lt_trans hf (by decide))]

/-! ### 'Ldexp' -/
set_option maxRecDepth 20000 in
theorem rcnv_narrow {s d : TypeId} {b : Nat} {sg : Bool} {k : Nat} {l : Int} {r : Nat} {K : Value → Prop} (hs : P.underlying s = some (.float .f64)) (hd : P.underlying d = some (.float .f32)) (hr : double.read b = .number sg k l) (hw : single.write (.number sg k l) = r) (hi : (single.read r).isInfinity = false) (H : K (.float .f32 r)) : rcnv P s d (.float .f64 b) w K := by
  unfold rcnv convert
  rw [rd_bind']
  refine rd_of_rv _ (rv_underlying hs) ?_
  rw [rd_bind']
  refine rd_of_rv _ (rv_underlying hd) ?_
  simp only [Conv.floatToFloat]
  rw [if_neg (by decide)]
  have hdec : FloatKind.f64.decode b = .number sg k l := hr
  rw [hdec]
  simp only []
  have hw' : FloatKind.f32.encode (.number sg k l) = r := hw
  have hi' : (FloatKind.f32.decode r).isInfinity = false := hi
  rw [hw', hi']
  exact H
set_option maxRecDepth 20000 in
theorem rcnv_inf {s d : TypeId} {b : Nat} {sg : Bool} {K : Value → Prop} (hs : P.underlying s = some (.float .f64)) (hd : P.underlying d = some (.float .f32)) (hr : double.read b = .infinity sg) (H : K (.float .f32 (single.write (.infinity sg)))) : rcnv P s d (.float .f64 b) w K := by
  unfold rcnv convert
  rw [rd_bind']
  refine rd_of_rv _ (rv_underlying hs) ?_
  rw [rd_bind']
  refine rd_of_rv _ (rv_underlying hd) ?_
  simp only [Conv.floatToFloat]
  rw [if_neg (by decide)]
  have hdec : FloatKind.f64.decode b = .infinity sg := hr
  rw [hdec]
  exact H
set_option maxRecDepth 20000 in
theorem rcnv_cut {s d : TypeId} {t : Nat} {q : Int} {sg : Bool} {K : Value → Prop} (hs : P.underlying s = some (.float .f64)) (hd : P.underlying d = some (.float .f32)) (h : Cut t q) (H : K (.float .f32 (W single sg t q))) : rcnv P s d (.float .f64 (W double sg t q)) w K := by
  obtain ⟨k, l, h1, h2, h3⟩ := narrow_W (s := sg) h
  exact rcnv_narrow hs hd h1 h2 h3 H
theorem order_W (s : Bool) {m n : Nat} {e g : Int} (h1 : Has double m e) (h2 : Has double n g) : ∃ x y : Int, double.order (W double false m e) (W double false n g) = some (compare x y) ∧ (x ≤ y ↔ dy m e ≤ dy n g) ∧ (y ≤ x ↔ dy n g ≤ dy m e) := by
  obtain ⟨k, l, r1, s1⟩ := read_any (s := false) hsd h1
  obtain ⟨k', l', r2, s2⟩ := read_any (s := false) hsd h2
  have a1 : dy ((k : Int) * 2 ^ (l - min l l').toNat) (min l l') = dy m e := by rw [s1.dy]; exact dy_shift' (by omega)
  have a2 : dy ((k' : Int) * 2 ^ (l' - min l l').toNat) (min l l') = dy n g := by rw [s2.dy]; exact dy_shift' (by omega)
  refine ⟨(k : Int) * 2 ^ (l - min l l').toNat, (k' : Int) * 2 ^ (l' - min l l').toNat, ?_, ?_, ?_⟩
  · unfold Format.order
    rw [r1, r2]
    simp only [Datum.order, signed_eq, Bool.false_eq_true, if_false, Int.one_mul]
  · rw [← a1, ← a2, dy_le]
  · rw [← a1, ← a2, dy_le]
theorem max64 : (9218868437227405311 : Nat) = W double false 9007199254740991 971 := by decide
theorem zero64 : (0 : Nat) = W double false 0 0 := by decide
theorem W64_lt {t : Nat} {e : Int} : W double false t e < 2 ^ 63 := by
  obtain ⟨r, hr⟩ := W_sign double t e
  have h1 := double.write_lt (.number true t e)
  have h2 : double.write (.number true t e) = double.word true r := hr true
  rw [h2] at h1
  rw [hr false, word_false]
  have e1 : double.word true r = 2 ^ 63 + r := rfl
  rw [e1] at h1
  have e2 : (2 : Nat) ^ double.width = 2 ^ 63 + 2 ^ 63 := by decide
  rw [e2] at h1
  exact Nat.lt_of_add_lt_add_left h1
theorem bin_and2047 {t : TypeId} {cx cy : Bool} {a : Nat} {K : Value → Prop} (h : a < 2048) : bin P .and t cx cy (.int .i64 (a : Int)) (.int .i64 2047) w K = K (.int .i64 (a : Int)) := by
  rw [bin_and, show (2047 : Int) = ((2047 : Nat) : Int) from rfl]
  have e : (BitVec.ofInt 64 (a : Int) &&& BitVec.ofInt 64 ((2047 : Nat) : Int)).toNat = a := by
    rw [BitVec.toNat_and, toNat_word (Nat.lt_trans h (by decide)), toNat_word (by decide), show (2047 : Nat) = 2 ^ 11 - 1 from by decide, Nat.and_two_pow_sub_one_eq_mod, Nat.mod_eq_of_lt h]
  show K (.int .i64 (IntKind.i64.wrap ((BitVec.ofInt 64 (a : Int) &&& BitVec.ofInt 64 ((2047 : Nat) : Int)).toNat : Nat))) = _
  rw [e, wrap_i64 (by omega) (by omega)]
theorem dy_le_up {t N k : Nat} (h : t ≤ N) : dy (t : Int) 0 ≤ dy (N : Int) (k : Int) := by
  rw [← dy_shift' (m := (N : Int)) (e := (k : Int)) (e' := 0) (k := k) (by omega), dy_le]
  have h1 : t ≤ N * 2 ^ k := Nat.le_trans h (Nat.le_mul_of_pos_right _ (Nat.two_pow_pos k))
  have h2 : ((N * 2 ^ k : Nat) : Int) = (N : Int) * 2 ^ k := by rw [Int.natCast_mul, Int.natCast_pow]; rfl
  rw [← h2]
  exact Int.ofNat_le.2 h1
theorem dy_ge_down {t k : Nat} (h : t ≠ 0) : dy ((1 : Nat) : Int) (-(k : Int)) ≤ dy (t : Int) 0 := by
  rw [← dy_shift' (m := (t : Int)) (e := 0) (e' := -(k : Int)) (k := k) (by omega), dy_le]
  have h1 : 1 ≤ t * 2 ^ k := Nat.mul_pos (Nat.pos_of_ne_zero h) (Nat.two_pow_pos k)
  have h2 : ((t * 2 ^ k : Nat) : Int) = (t : Int) * 2 ^ k := by rw [Int.natCast_mul, Int.natCast_pow]; rfl
  rw [← h2]
  exact Int.ofNat_le.2 h1
theorem one64 : (4607182418800017408 : Nat) = W double false 1 0 := by decide
theorem tiny64 : (4503599627370496 : Nat) = W double false 1 (-1022) := by decide

end Go.Proofs.Ytabgkpfcpncmhaa

/- Contracts: the program's rounding beyond the greatest float. -/
set_option linter.unusedVariables false
set_option linter.unusedSimpArgs false
namespace Go.Proofs.Ytabgkpfcpncmhaa
open Go Go.Vc Ieee

variable {w : World} {K : Value → World → Prop}

theorem callv_call0 {f : FuncId} {cap : Array Value} (H : call P f cap.toList w K) : callv P (.func (.func f) #[] cap) [] w K := by
  unfold callv
  have e : (do let d ← Deferred.ofValue (.func (.func f) #[] cap) ([] : List Value).toArray; invoke d.target d.args) = callFunc f cap.toList.toArray := by
    show callFunc f ((#[] ++ ([] : List Value).toArray) ++ cap) = _
    congr 1
    simp
  rw [e]; exact H
theorem cnv_i64_u32 {n : Nat} {K : Value → Prop} (h : n ≤ 4294967295) : cnv P t_int64 t_uint32 (.int .i64 (n : Int)) w K = K (.int .u32 (n : Int)) := by
  rw [cnv_int_int u_int64 u_uint32, wrap_nat (by rw [max_u32]; omega)]
theorem overB_pos (md : Int) : overB md (decide ((1 : Int) < 0)) = if md = 3 ∨ md = 1 then 2139095039 else 2139095040 := by
  unfold overB; simp
theorem overB_neg (md : Int) : overB md (decide ((-1 : Int) < 0)) = if md = 3 ∨ md = 2 then 4286578687 else 4286578688 := by
  unfold overB; simp; split <;> rfl
end Go.Proofs.Ytabgkpfcpncmhaa

/- Contracts: the program's rounding. -/
set_option linter.unusedVariables false
set_option linter.unusedSimpArgs false
namespace Go.Proofs.Ytabgkpfcpncmhaa
open Go Go.Vc Ieee

variable {w : World} {K : Value → World → Prop}

open Classical in
noncomputable def rndQ (md : Int) (q : Rat) : Nat × Int := if h : ∃ p : Int × Int, q = dy p.1 p.2 then roundF md (Classical.choose h).1 (Classical.choose h).2 else (0, 0)
theorem rndQ_dy (md m e : Int) : rndQ md (dy m e) = roundF md m e := by
  have hx : ∃ p : Int × Int, dy m e = dy p.1 p.2 := ⟨(m, e), rfl⟩
  unfold rndQ
  rw [dif_pos hx]
  exact roundF_same md (Classical.choose_spec hx).symm
theorem c_nsign' {p : Value} {m e : Int} (h : IntR w p m) (H : ∀ w', Ext w w' → K (.int .i64 m.sign) w') : call P f_impl_num_sign [.agg #[p, .int .i64 e]] w K := c_nsign ⟨p, rfl, h⟩ H
theorem alc_int {KW : Value → World → Prop} (H : ∀ x w', Bx w' w.heap.size t_int x [.int .i64 0] → Ext w w' → KW x w') : alc P t_int w KW :=
  alc_bx i_int fun x w' b e _ => H x w' b e
theorem IntR.notnew {p : Value} {m : Int} {base : Nat} {z : Value} (h : IntR w p m) (hz : ∀ k, blk z = some k → w.heap.size ≤ k) (hb : ∃ k, blk z = some k) : p ≠ z := by
  rintro rfl
  obtain ⟨s, h1, _⟩ := h
  obtain ⟨k, hk⟩ := hb
  have := hz k hk
  have := (h1.blk_lt hk).2
  omega
theorem ZO.some {base : Nat} {z : Value} (h : ZO w base z) : ∃ k, blk z = some k := by
  obtain ⟨b, s, ⟨g, rfl, _⟩, _⟩ := h
  exact ⟨g, rfl⟩
theorem IntR.ne_new {p z : Value} {m : Int} {w' : World} (h : IntR w p m) (hz : ZO w' w.heap.size z) : p ≠ z := h.notnew (base := 0) (fun k hk => hz.blk_ge hk) hz.some

theorem sign_cases {m : Int} (h : m ≠ 0) : m.sign = 1 ∨ m.sign = -1 := by
  rcases Int.lt_trichotomy m 0 with h1 | h1 | h1
  · exact .inr (Int.sign_eq_neg_one_of_neg h1)
  · exact absurd h1 h
  · exact .inl (Int.sign_eq_one_of_pos h1)
theorem dec_sign (m : Int) : decide (m.sign < 0) = decide (m < 0) := by
  rw [decide_eq_decide]
  exact Int.sign_neg_iff

/-- Whether it is rounded up. -/
theorem round_up {r half : Value} {x3 x6 x46 : Value} {md sg : Int} {b b' : Nat} {a g d : Nat} {KB : Value → World → Prop} (h3 : Bx w b t_int64 x3 [.int .i64 md]) (h6 : Bx w b' t_int x6 [.int .i64 sg]) (hs : sg = 1 ∨ sg = -1)
    (h46 : IntR w x46 ((a / g : Nat) : Int)) (hg : g = 2 ^ d * 2)
    (H : KB (.bool (upB md (decide (sg < 0)) (a / g) (a % g) g)) w) :
    ∃ J95 : Value → World → Prop, (∀ (x16_98 : Value) (junk96 : Env) (w97 : World), J95 x16_98 w97 → KB x16_98 w97) ∧
                  (ld P 2 x3 w fun x92_103 =>
                  bin P .eql 2 false true x92_103 (.int .i64 0) w fun x94_104 =>
                  cnd x94_104
                    (bin P .gtr 3 false true (.int .i64 (cmpI ((a % g : Nat) : Int) (2 ^ d))) (.int .i64 0) w fun x96_105 =>
                    ∃ J106 : Value → World → Prop, (∀ (x100_107 : Value) (junk109 : Env) (w108 : World), J106 x100_107 w108 →
                      ∃ J110 : Value → World → Prop, (∀ (x103_111 : Value) (junk113 : Env) (w112 : World), J110 x103_111 w112 →
                      ∃ J114 : Value → World → Prop, (∀ (x104_115 : Value) (junk117 : Env) (w116 : World), J114 x104_115 w116 →
                      pick x96_105 (.bool true) x104_115 fun x105_118 =>
                          J95 x105_118 w116) ∧
                      grd x96_105 false
                        (pick x100_107 x103_111 (.bool false) fun x104_119 =>
                            J114 x104_119 w112)
                        (J114 undef w112)) ∧
                      grd x100_107 true
                        (call P f_impl_integer_Bit [x46, (.int .i64 0)] w108 fun x102_120 w121 =>
                          bin P .eql 189 false true x102_120 (.int .u64 1) w121 fun x103_122 =>
                          J110 x103_122 w121)
                        (J110 undef w108)) ∧
                      grd x96_105 false
                        (bin P .eql 3 false true (.int .i64 (cmpI ((a % g : Nat) : Int) (2 ^ d))) (.int .i64 0) w fun x99_123 =>
                        J106 x99_123 w)
                        (J106 undef w))
                    (bin P .eql 2 false true x92_103 (.int .i64 1) w fun x107_124 =>
                    cnd x107_124
                      (ld P 3 x6 w fun x108_125 =>
                      bin P .lss 3 false true x108_125 (.int .i64 0) w fun x109_126 =>
                      J95 x109_126 w)
                      (bin P .eql 2 false true x92_103 (.int .i64 2) w fun x111_127 =>
                      cnd x111_127
                        (ld P 3 x6 w fun x112_128 =>
                        bin P .gtr 3 false true x112_128 (.int .i64 0) w fun x113_129 =>
                        J95 x113_129 w)
                        (bin P .eql 2 false true x92_103 (.int .i64 4) w fun x115_130 =>
                        cnd x115_130
                          (J95 (.bool true) w)
                          (J95 (.bool false) w))))) := by
  refine ⟨_, fun _ _ _ h => h, ?_⟩
  have hpow : ((2 ^ d : Nat) : Int) = 2 ^ d := by rw [Int.natCast_pow]; rfl
  refine h3.get1 u_int64 rfl ?_
  rw [bin_eql]
  unfold upB at H
  by_cases m0 : md = 0
  · rw [if_pos m0] at H
    rw [decide_eq_true m0, cnd_true, bin_gtr]
    rw [← hpow]
    by_cases c1 : g < 2 * (a % g)
    · have hc : cmpI ((a % g : Nat) : Int) ((2 ^ d : Nat) : Int) = 1 := by unfold cmpI; rw [if_neg (by omega), if_pos (by omega)]
      rw [hc]
      rw [decide_eq_true c1, Bool.true_or] at H
      have p1 : decide (0 < (1 : Int)) = true := rfl
      rw [p1]
      repeat (first | (refine ⟨_, fun _ _ _ h => h, ?_⟩) | simp only [bin_eql, bin_gtr, bin_lss, grd_true_true, grd_true_false, grd_false_false, grd_false_true, pick_bool, cond_true, cond_false, cnd_true, cnd_false])
      exact H
    · rw [decide_eq_false c1, Bool.false_or] at H
      by_cases c2 : 2 * (a % g) = g
      · have hc : cmpI ((a % g : Nat) : Int) ((2 ^ d : Nat) : Int) = 0 := by unfold cmpI; rw [if_neg (by omega), if_neg (by omega)]
        rw [hc]
        rw [decide_eq_true c2, Bool.true_and] at H
        have p1 : decide (0 < (0 : Int)) = false := rfl
        have p2 : decide ((0 : Int) = 0) = true := rfl
        rw [p1]
        repeat (first | (refine ⟨_, fun _ _ _ h => h, ?_⟩) | simp only [bin_eql, bin_gtr, bin_lss, p2, grd_true_true, grd_true_false, grd_false_false, grd_false_true, pick_bool, cond_true, cond_false, cnd_true, cnd_false])
        refine c_Bit (i := 0) h46 (by decide) ?_
        rw [Int.natAbs_natCast, Nat.pow_zero, Nat.div_one]
        have e : (((a / g % 2 : Nat) : Int) = 1) = (a / g % 2 = 1) := propext ⟨fun h => by omega, fun h => by omega⟩
        simp only [bin_eql, e]
        repeat (first | (refine ⟨_, fun _ _ _ h => h, ?_⟩) | simp only [grd_true_true, grd_true_false, grd_false_false, grd_false_true, pick_bool, cond_true, cond_false, cnd_true, cnd_false])
        exact H
      · have hc : cmpI ((a % g : Nat) : Int) ((2 ^ d : Nat) : Int) = -1 := by unfold cmpI; rw [if_pos (by omega)]
        rw [hc]
        rw [decide_eq_false c2, Bool.false_and] at H
        have p1 : decide (0 < (-1 : Int)) = false := rfl
        have p2 : decide ((-1 : Int) = 0) = false := rfl
        rw [p1]
        repeat (first | (refine ⟨_, fun _ _ _ h => h, ?_⟩) | simp only [bin_eql, bin_gtr, bin_lss, p2, grd_true_true, grd_true_false, grd_false_false, grd_false_true, pick_bool, cond_true, cond_false, cnd_true, cnd_false])
        exact H
  · rw [if_neg m0] at H
    rw [decide_eq_false m0, cnd_false, bin_eql]
    by_cases m1 : md = 1
    · rw [if_pos m1] at H
      rw [decide_eq_true m1, cnd_true]
      refine h6.get1 u_int rfl ?_
      rw [bin_lss]
      exact H
    · rw [if_neg m1] at H
      rw [decide_eq_false m1, cnd_false, bin_eql]
      by_cases m2 : md = 2
      · rw [if_pos m2] at H
        rw [decide_eq_true m2, cnd_true]
        refine h6.get1 u_int rfl ?_
        rw [bin_gtr]
        rcases hs with rfl | rfl
        · exact H
        · exact H
      · rw [if_neg m2] at H
        rw [decide_eq_false m2, cnd_false, bin_eql]
        by_cases m4 : md = 4
        · rw [if_pos m4] at H
          rw [decide_eq_true m4, cnd_true]
          exact H
        · rw [if_neg m4] at H
          rw [decide_eq_false m4, cnd_false]
          exact H
end Go.Proofs.Ytabgkpfcpncmhaa

/- Contracts: the program's rounding, whole. -/
set_option linter.unusedVariables false
namespace Go.Proofs.Ytabgkpfcpncmhaa
open Go Go.Vc Ieee

variable {w : World} {K : Value → World → Prop}

theorem roundF_over {md m e : Int} (h : m ≠ 0) (ho : 128 < (bl (cutT md (decide (m < 0)) m.natAbs e).1 : Int) + qOf m.natAbs e) : roundF md m e = (overB md (decide (m < 0)), 5) := by
  unfold roundF
  rw [if_neg h]
  simp only
  rw [if_pos ho]
theorem roundF_in {md m e : Int} (h : m ≠ 0) (ho : ¬ 128 < (bl (cutT md (decide (m < 0)) m.natAbs e).1 : Int) + qOf m.natAbs e) :
    roundF md m e = (W single (decide (m < 0)) (cutT md (decide (m < 0)) m.natAbs e).1 (qOf m.natAbs e), if (cutT md (decide (m < 0)) m.natAbs e).2 then 0 else if (bl m.natAbs : Int) + e ≤ -126 then 3 else 1) := by
  unfold roundF
  rw [if_neg h]
  simp only
  rw [if_neg ho]
  rfl
theorem cutT_exact {md : Int} {neg : Bool} {a : Nat} {e : Int} (h : qOf a e ≤ e) : cutT md neg a e = (a * 2 ^ (e - qOf a e).toNat, true) := by
  unfold cutT; simp only; rw [if_pos h]
theorem cutT_rest {md : Int} {neg : Bool} {a : Nat} {e : Int} (h : ¬ qOf a e ≤ e) : cutT md neg a e = if a % 2 ^ (qOf a e - e).toNat = 0 then (a / 2 ^ (qOf a e - e).toNat, true) else (a / 2 ^ (qOf a e - e).toNat + (upB md neg (a / 2 ^ (qOf a e - e).toNat) (a % 2 ^ (qOf a e - e).toNat) (2 ^ (qOf a e - e).toNat)).toNat, false) := by
  unfold cutT; simp only; rw [if_neg h]

theorem sub_one_u64 {t : TypeId} {cx cy : Bool} {d : Nat} {K : Value → Prop} (h : d ≤ 1099511627776) : bin P .sub t cx cy (.int .u64 ((d + 1 : Nat) : Int)) (.int .u64 1) w K = K (.int .u64 (d : Int)) := by
  rw [bin_sub, show ((d + 1 : Nat) : Int) - 1 = (d : Int) by omega, wrap_nat (by rw [max_u64]; omega)]
end Go.Proofs.Ytabgkpfcpncmhaa

/- Contracts: variables that hold exact numbers; comparison; the results of the reference. -/
set_option linter.unusedVariables false
namespace Go.Proofs.Ytabgkpfcpncmhaa
open Go Go.Vc

variable {w : World} {K : Value → World → Prop} {g : Nat} {x v : Value} {lo hi : Nat} {q : Rat}

/-! ### variables of the program's numbers -/
def NC (w : World) (g : Nat) (x : Value) : Prop := blk x = some g ∧ ∃ cs, cs.length = 2 ∧ Bx w g t_impl_num x cs
def NV (w : World) (g : Nat) (x : Value) (lo hi : Nat) (q : Rat) : Prop := blk x = some g ∧ ∃ p e, Bx w g t_impl_num x (nm p e) ∧ NQ w (.agg #[p, .int .i64 e]) lo hi q
theorem NQ.kt {w' : World} {row : Option Nat} {e' : TypeId} (h : NQ w v lo hi q) (hg : w.grownBy w' row) (ht : Ty w row e') (h1 : t_uint32 ≠ e') (h2 : t_impl_integer ≠ e') : NQ w' v lo hi q := by
  obtain ⟨m, e, ⟨p, a, b⟩, c⟩ := h
  exact ⟨m, e, ⟨p, a, b.kt hg ht h1 h2⟩, c⟩
theorem NC.ext {w' : World} (h : NC w g x) (he : Ext w w') : NC w' g x := let ⟨a, cs, b, c⟩ := h; ⟨a, cs, b, c.ext he⟩
theorem NV.ext {w' : World} (h : NV w g x lo hi q) (he : Ext w w') : NV w' g x lo hi q := let ⟨a, p, e, b, c⟩ := h; ⟨a, p, e, b.ext he, c.ext he⟩
theorem NV.NC (h : NV w g x lo hi q) : NC w g x := let ⟨a, _, _, b, _⟩ := h; ⟨a, _, rfl, b⟩
theorem NV.mono {lo' hi' : Nat} (h : NV w g x lo hi q) (h1 : lo ≤ lo') (h2 : hi ≤ hi') : NV w g x lo' hi' q := let ⟨a, p, e, b, c⟩ := h; ⟨a, p, e, b, c.mono h1 h2⟩
theorem NV.get {K : Value → Prop} (h : NV w g x lo hi q) (H : ∀ v, NQ w v lo hi q → K v) : ld P t_impl_num x w K := let ⟨_, _, _, b, c⟩ := h; num_all b (H _ c)
theorem NV.getc {K : Value → Prop} (h : NV w g x lo hi q) (H : ∀ v, NQ w v lo hi q → K v) : ldc P t_impl_num x w K := let ⟨_, _, _, b, c⟩ := h; b.getc u_impl_num rfl i_impl_num rfl (H _ c)
theorem NC.put {K : World → Prop} (h : NC w g x) (hv : NQ w v lo hi q) (H : ∀ w', NV w' g x lo hi q → w.grownBy w' (some g) → Ty w (some g) t_impl_num → K w') : sto P t_impl_num x v w K := by
  obtain ⟨hg, cs, hl, b⟩ := h
  have t := Ty.box b
  obtain ⟨m, e, ⟨p, rfl, ip⟩, hb, hq⟩ := hv
  refine b.put i_impl_num (ds := nm p e) rfl hl (one_2 ip.one rfl) fun w' b' g' => ?_
  rw [hg] at g' t
  exact H w' ⟨hg, p, e, b', m, e, ⟨p, rfl, ip.kt g' t (by decide) (by decide)⟩, hb, hq⟩ g' t
theorem alc_NC {KW : Value → World → Prop} (H : ∀ x w', NC w' w.heap.size x → Ext w w' → KW x w') : alc P t_impl_num w KW :=
  alc_bx i_impl_num fun x w' b e hp => H x w' ⟨hp, _, rfl, b⟩ e
theorem NV.ty (h : NV w g x lo hi q) : Ty w (some g) t_impl_num := let ⟨a, _, _, b, _⟩ := h; a ▸ Ty.box b
theorem NV.lt (h : NV w g x lo hi q) : g < w.heap.size := let ⟨a, _, _, b, _⟩ := h; (b.blk_lt a).2
theorem NC.lt (h : NC w g x) : g < w.heap.size := let ⟨a, _, _, b⟩ := h; (b.blk_lt a).2
theorem ext_gr {w w' w'' : World} {g : Nat} (he : Ext w w') (hw : w.heap.size ≤ g) (hg : w'.grownBy w'' (some g)) : Ext w w'' :=
  ext_of_grown he (fun k hk => by cases hk; exact hw) hg

/-! ### variables of the reference's numbers -/
def DC (w : World) (g : Nat) (x : Value) : Prop := blk x = some g ∧ ∃ cs, cs.length = 3 ∧ Bx w g t_impl_Dyadic x cs
def DV (w : World) (g : Nat) (x : Value) (lo hi : Nat) (q : Rat) : Prop := blk x = some g ∧ ∃ n s e, Bx w g t_impl_Dyadic x (dv3 n s e) ∧ DQ w (.agg #[.int .i64 n, s, .int .i64 e]) lo hi q
theorem DC.ext {w' : World} (h : DC w g x) (he : Ext w w') : DC w' g x := let ⟨a, cs, b, c⟩ := h; ⟨a, cs, b, c.ext he⟩
theorem DV.ext {w' : World} (h : DV w g x lo hi q) (he : Ext w w') : DV w' g x lo hi q := let ⟨a, p, s, e, b, c⟩ := h; ⟨a, p, s, e, b.ext he, c.ext he⟩
theorem DV.DC (h : DV w g x lo hi q) : DC w g x := let ⟨a, _, _, _, b, _⟩ := h; ⟨a, _, rfl, b⟩
theorem DV.mono {lo' hi' : Nat} (h : DV w g x lo hi q) (h1 : lo ≤ lo') (h2 : hi ≤ hi') : DV w g x lo' hi' q := let ⟨a, p, s, e, b, c⟩ := h; ⟨a, p, s, e, b, c.mono h1 h2⟩
theorem DV.get {K : Value → Prop} (h : DV w g x lo hi q) (H : ∀ v, DQ w v lo hi q → K v) : ld P t_impl_Dyadic x w K := let ⟨_, _, _, _, b, c⟩ := h; dy_all b (H _ c)
theorem DV.getc {K : Value → Prop} (h : DV w g x lo hi q) (H : ∀ v, DQ w v lo hi q → K v) : ldc P t_impl_Dyadic x w K := let ⟨_, _, _, _, b, c⟩ := h; b.getc u_impl_Dyadic rfl i_impl_Dyadic rfl (H _ c)
theorem DC.put {K : World → Prop} (h : DC w g x) (hv : DQ w v lo hi q) (H : ∀ w', DV w' g x lo hi q → w.grownBy w' (some g) → Ty w (some g) t_impl_Dyadic → K w') : sto P t_impl_Dyadic x v w K := by
  obtain ⟨hg, cs, hl, b⟩ := h
  have t := Ty.box b
  obtain ⟨m, e, hd, hc⟩ := hv
  refine hd.put b hl fun w' ⟨s, hv, b'⟩ g' => ?_
  rw [hg] at g' t
  subst hv
  exact H w' ⟨hg, _, s, e, b', m, e, hd.kt g' t (by decide), hc⟩ g' t
theorem alc_DC {KW : Value → World → Prop} (H : ∀ x w', DC w' w.heap.size x → Ext w w' → KW x w') : alc P t_impl_Dyadic w KW :=
  alc_bx i_impl_Dyadic fun x w' b e hp => H x w' ⟨hp, _, rfl, b⟩ e
theorem DV.ty (h : DV w g x lo hi q) : Ty w (some g) t_impl_Dyadic := let ⟨a, _, _, _, b, _⟩ := h; a ▸ Ty.box b
theorem DV.lt (h : DV w g x lo hi q) : g < w.heap.size := let ⟨a, _, _, _, b, _⟩ := h; (b.blk_lt a).2
theorem DC.lt (h : DC w g x) : g < w.heap.size := let ⟨a, _, _, b⟩ := h; (b.blk_lt a).2
/-- A store into the whole part. -/
theorem dy_wput {base : Nat} {x s s' : Value} {n n' e : Int} {KW : World → Prop} (h : Bx w base t_impl_Dyadic x (dv3 n s e)) (h1 : s'.oneCell' = true) (H : ∀ w', Bx w' base t_impl_Dyadic x (dv3 n' s' e) → w.grownBy w' (blk x) → KW w') :
    fda P t_impl_Dyadic x 0 w (fun a => sto P t_impl_Whole a (.agg #[.int .i64 n', s']) w KW) := by
  obtain ⟨g, rfl, hb, hg⟩ := h
  rw [d_impl_Dyadic_0, addr_zero]
  have b1 := setCell_block (off := 0) (x := .int .i64 n') hg
  have b2 := setCell_block (off := 1) (x := s') b1
  refine sto_agg (cs := [.int .i64 n', s']) i_impl_Whole rfl (one_2 rfl h1) (fun j hj => ?_) (H ((w.setCell ⟨g, 0, none⟩ (.int .i64 n')).setCell ⟨g, 1, none⟩ s') ⟨g, rfl, hb, b2⟩ (grown_trans setCell_grown setCell_grown))
  have hj : j < 2 := hj
  match j, hj with
  | 0, _ => exact ⟨.int .i64 n, by rw [Addr.add_lit]; simp [World.cell?, hg, dv3], by rw [Addr.add_lit]; simp [World.frozen?, hg]⟩
  | 1, _ => exact ⟨s, by rw [Addr.add_lit]; simp [World.cell?, hg, dv3], by rw [Addr.add_lit]; simp [World.frozen?, hg]⟩
theorem fld_dy_s {n e : Int} {s : Value} {K : Value → Prop} (hs : ∃ a l c, s = .slice a l c) (H : K (.int .i64 n)) : fld P t_impl_Dyadic (.agg #[.int .i64 n, s, .int .i64 e]) 0 w (fun a => fld P t_impl_Whole a 0 w K) := by
  obtain ⟨a, l, c, rfl⟩ := hs
  exact ⟨.agg #[.int .i64 n, .slice a l c], by kernel_rfl, .int .i64 n, by kernel_rfl, H⟩

/-! ### 'Is' and 'Fit' -/
theorem c_l03Is {m e : Int} (h : Dr w v m e) (hc : Canon m e) (H : ∀ w', Ext w w' → K (.bool (decide (fitsD m e))) w') : call P f_spec_l03Is [v] w K := by
  obtain ⟨s, l, rfl, h1, wl⟩ := h
  refine I_spec_l03Is ?_
  unfold D_spec_l03Is
  refine bx_Dy fun x1 w1 b1 e1 => ?_
  refine dy_w b1 ?_
  refine c_l02Is ⟨s, l, rfl, h1.ext e1, wl⟩ fun w2 e2 => ?_
  have b1 := b1.ext e2
  have h1 := h1.ext (e1.trans e2)
  rw [una_not]
  refine ⟨fun y w' => w' = w2 ∧ (bl m.natAbs ≤ 2400 → y = .bool (! decide (-3000 ≤ e ∧ e ≤ 3000))), ?_, ?_⟩
  · rintro y junk w3 ⟨rfl, hy⟩
    by_cases hb : bl m.natAbs ≤ 2400
    · rw [hy hb, decide_eq_true hb, Bool.not_true, pick_bool, cond_false]
      by_cases he : -3000 ≤ e ∧ e ≤ 3000
      · have hf : fitsD m e := ⟨hb, he⟩
        rw [decide_eq_true he, Bool.not_true, cnd_false]
        have HT := H w3 (e1.trans e2)
        rw [decide_eq_true hf] at HT
        refine dy_ws b1 ?_
        rw [bin_eql]
        refine cnd_dec (fun h0 => ?_) (fun h0 => ?_)
        · have hm : m = 0 := Int.sign_eq_zero_iff_zero.1 h0
          refine dy_e b1 ?_
          rw [bin_eql]
          have : e = 0 := by rcases hc with ⟨_, h⟩ | h <;> omega
          rw [this]
          exact HT
        · have hm : m ≠ 0 := by rintro rfl; exact h0 rfl
          have hodd : m % 2 = 1 := by rcases hc with ⟨h, _⟩ | h <;> omega
          have hl0 : 0 < l.length := by
            refine Nat.pos_of_ne_zero fun hz => ?_
            have hlnil : l = [] := List.length_eq_zero_iff.1 hz
            have hv := wl.2
            rw [hlnil] at hv
            simp only [val] at hv
            omega
          refine dy_wl b1 ?_
          refine IR.at (i := 0) h1.toIR hl0 u_s_int64 i_int64 u_int64 ?_
          rw [bin_remI (b := 2) (by decide)]
          rw [bin_eql]
          have hv := wl.2
          have : (l[0] : Nat) % 2 = 1 := by
            cases l with
            | nil => cases hl0
            | cons a t =>
              simp only [val] at hv
              simp only [List.getElem_cons_zero]
              omega
          have e5 : ((l[0] % 2 : Nat) : Int) = 1 := by omega
          rw [e5]
          exact HT
      · have hf : ¬ fitsD m e := fun h => he h.2
        have HF := H w3 (e1.trans e2)
        rw [decide_eq_false hf] at HF
        rw [decide_eq_false he, Bool.not_false, cnd_true]
        exact HF
    · have hf : ¬ fitsD m e := fun h => hb h.1
      have HF := H w3 (e1.trans e2)
      rw [decide_eq_false hf] at HF
      rw [decide_eq_false hb, Bool.not_false, pick_bool, cond_true, cnd_true]
      exact HF
  · refine grd_split (fun h2 => ?_) (fun h2 => ?_)
    · refine dy_e b1 ?_
      refine c_l01In ?_
      rw [una_not]
      exact ⟨rfl, fun _ => rfl⟩
    · exact ⟨rfl, fun hb => by rw [decide_eq_true hb] at h2; cases h2⟩
/-- What 'Fit' answers, when it is in a variable. -/
theorem c_l03Fit {m e : Int} (h : Dr w v m e) (hc : Canon m e) (H : ∀ v' w', Ext w w' → Dr w' v' (dyR m e).1.1 (dyR m e).1.2 → K (.tuple #[v', .int .i64 (dyR m e).2]) w') : call P f_spec_l03Fit [v] w K := by
  obtain ⟨s, l, rfl, h1, wl⟩ := h
  refine I_spec_l03Fit ?_
  unfold D_spec_l03Fit
  refine bx_Dy fun x1 w1 b1 e1 => ?_
  refine alc_Dy fun x2 w2 ⟨cs, hcs, b2⟩ e2 => ?_
  have b1 := b1.ext e2
  have E2 := e1.trans e2
  refine dy_all b1 ?_
  refine c_l03Is ⟨s, l, rfl, h1.ext E2, wl⟩ hc fun w3 e3 => ?_
  have b1 := b1.ext e3
  have b2 := b2.ext e3
  have E3 := E2.trans e3
  rw [una_not]
  unfold dyR at H
  by_cases hf : fitsD m e
  · rw [if_pos hf] at H
    rw [decide_eq_true hf, Bool.not_true, cnd_false]
    refine dy_all b1 ?_
    refine Dr.put (m := m) (e := e) ⟨s, l, rfl, h1.ext E3, wl⟩ b2 hcs fun w4 ⟨s', hv', b4⟩ g4 => ?_
    refine b4.getc u_impl_Dyadic rfl i_impl_Dyadic rfl ?_
    have e4 : Ext w w4 := ext_of_grown E3 (fun g hg => Nat.le_trans e1.size (b2.blk_lt hg).1) g4
    have := Dr.kt (m := m) (e := e) ⟨s, l, rfl, h1.ext E3, wl⟩ g4 (Ty.box b2) (by decide)
    rw [hv'] at this
    exact H _ _ e4 this
  · rw [if_neg hf] at H
    rw [decide_eq_false hf, Bool.not_false, cnd_true, bld_Dyadic0]
    refine (Dr.zero w3).put b2 hcs fun w4 ⟨s', hv', b4⟩ g4 => ?_
    refine b4.getc u_impl_Dyadic rfl i_impl_Dyadic rfl ?_
    have e4 : Ext w w4 := ext_of_grown E3 (fun g hg => Nat.le_trans e1.size (b2.blk_lt hg).1) g4
    have := (Dr.zero w3).kt g4 (Ty.box b2) (by decide)
    rw [hv'] at this
    exact H _ _ e4 this
end Go.Proofs.Ytabgkpfcpncmhaa

/- Contracts: the reference's rounding: the multiple. -/
set_option linter.unusedVariables false
set_option linter.unusedSimpArgs false
namespace Go.Proofs.Ytabgkpfcpncmhaa
open Go Go.Vc Ieee

variable {w : World} {K : Value → World → Prop} {g : Nat} {x v : Value} {m : Int}

/-! ### variables of whole numbers -/
def WC (w : World) (g : Nat) (x : Value) : Prop := blk x = some g ∧ ∃ cs, cs.length = 2 ∧ Bx w g t_impl_Whole x cs
def WV (w : World) (g : Nat) (x : Value) (m : Int) : Prop := blk x = some g ∧ ∃ s, Bx w g t_impl_Whole x [.int .i64 m.sign, s] ∧ Wr w (.agg #[.int .i64 m.sign, s]) m
theorem WC.ext {w' : World} (h : WC w g x) (he : Ext w w') : WC w' g x := let ⟨a, cs, b, c⟩ := h; ⟨a, cs, b, c.ext he⟩
theorem Wr.kt {w' : World} {row : Option Nat} {e' : TypeId} (h : Wr w v m) (hg : w.grownBy w' row) (ht : Ty w row e') (h1 : t_int64 ≠ e') : Wr w' v m := let ⟨s, l, a, b, c⟩ := h; ⟨s, l, a, b.kt hg ht h1, c⟩
theorem WV.ext {w' : World} (h : WV w g x m) (he : Ext w w') : WV w' g x m := let ⟨a, s, b, c⟩ := h; ⟨a, s, b.ext he, c.ext he⟩
theorem WV.WC (h : WV w g x m) : WC w g x := let ⟨a, _, b, _⟩ := h; ⟨a, _, rfl, b⟩
theorem WV.get {K : Value → Prop} (h : WV w g x m) (H : ∀ v, Wr w v m → K v) : ld P t_impl_Whole x w K := let ⟨_, _, b, c⟩ := h; wh_all b (H _ c)
theorem WV.getc {K : Value → Prop} (h : WV w g x m) (H : ∀ v, Wr w v m → K v) : ldc P t_impl_Whole x w K := let ⟨_, _, b, c⟩ := h; b.getc u_impl_Whole rfl i_impl_Whole rfl (H _ c)
theorem WC.put {K : World → Prop} (h : WC w g x) (hv : Wr w v m) (H : ∀ w', WV w' g x m → w.grownBy w' (some g) → Ty w (some g) t_impl_Whole → K w') : sto P t_impl_Whole x v w K := by
  obtain ⟨hg, cs, hl, b⟩ := h
  have t := Ty.box b
  obtain ⟨s, l, rfl, hr, hw⟩ := hv
  refine b.put i_impl_Whole (ds := [.int .i64 m.sign, s]) rfl hl (one_2 rfl (sl_one (IR.sl hr.toIR))) fun w' b' g' => ?_
  rw [hg] at g' t
  exact H w' ⟨hg, s, b', s, l, rfl, hr.kt g' t (by decide), hw⟩ g' t
theorem alc_WC {KW : Value → World → Prop} (H : ∀ x w', WC w' w.heap.size x → Ext w w' → KW x w') : alc P t_impl_Whole w KW :=
  alc_bx i_impl_Whole fun x w' b e hp => H x w' ⟨hp, _, rfl, b⟩ e
theorem WV.ty (h : WV w g x m) : Ty w (some g) t_impl_Whole := let ⟨a, _, b, _⟩ := h; a ▸ Ty.box b

/-! ### the plain law: an odd number's half -/
theorem up_canon {neg : Bool} {a d : Nat} (ha : a % 2 = 1) : upB 0 neg (a / 2 ^ (d + 1)) (a % 2 ^ (d + 1)) (2 ^ (d + 1)) = (decide (a / 2 ^ d % 2 = 1) && (decide (1 < d + 1) || decide (a / 2 ^ (d + 1) % 2 = 1))) := by
  unfold upB
  rw [if_pos rfl]
  have hp := Nat.two_pow_pos d
  have h1 : 2 ^ (d + 1) = 2 ^ d * 2 := Nat.pow_succ ..
  have hm := Nat.mod_mul (x := a) (a := 2 ^ d) (b := 2)
  rw [← h1] at hm
  have hr := Nat.mod_lt a hp
  have hb := Nat.mod_lt (a / 2 ^ d) (show 0 < 2 by decide)
  generalize hB : a / 2 ^ d % 2 = B at *
  generalize hR : a % 2 ^ d = R at *
  rw [hm, h1]
  by_cases hB1 : B = 1
  · subst hB1
    have e1 : decide ((1 : Nat) = 1) = true := rfl
    rw [e1, Bool.true_and, Nat.mul_one]
    by_cases hd : d = 0
    · subst hd
      have : R = 0 := by have : R < 1 := hr; omega
      subst this
      rfl
    · have h2 : decide (1 < d + 1) = true := decide_eq_true (by omega)
      have hRp : 0 < R := by
        obtain ⟨k, rfl⟩ : ∃ k, d = k + 1 := ⟨d - 1, by omega⟩
        have h3 := Nat.mod_mul (x := a) (a := 2) (b := 2 ^ k)
        rw [show 2 * 2 ^ k = 2 ^ (k + 1) by rw [Nat.pow_succ, Nat.mul_comm], hR, ha] at h3
        omega
      have h3 : decide (2 ^ d * 2 < 2 * (R + 2 ^ d)) = true := decide_eq_true (by omega)
      rw [h2, h3, Bool.true_or, Bool.true_or]
  · have hB0 : B = 0 := by omega
    subst hB0
    have e1 : decide ((0 : Nat) = 1) = false := rfl
    rw [e1, Bool.false_and, Nat.mul_zero, Nat.add_zero]
    have h3 : decide (2 ^ d * 2 < 2 * R) = false := decide_eq_false (by omega)
    have h4 : decide (2 * R = 2 ^ d * 2) = false := decide_eq_false (by omega)
    rw [h3, h4]; rfl

theorem natAbs_odd {m : Int} (h : m % 2 = 1) : m.natAbs % 2 = 1 := by omega

end Go.Proofs.Ytabgkpfcpncmhaa

/- Contracts: the reference's rounding, whole. -/
set_option linter.unusedVariables false
set_option linter.unusedSimpArgs false
namespace Go.Proofs.Ytabgkpfcpncmhaa
open Go Go.Vc Ieee

variable {w : World} {K : Value → World → Prop}

theorem val_drop_le {l : List Nat} {t : Nat} (h : val 16777216 l = t) (i : Nat) : val 16777216 (l.drop i) * 16777216 ^ i ≤ t := by
  induction i generalizing l t with
  | zero => rw [List.drop_zero, Nat.pow_zero, Nat.mul_one, h]; exact Nat.le_refl _
  | succ i ih =>
    cases l with
    | nil => simp [val]
    | cons a l =>
      rw [List.drop_succ_cons, Nat.pow_succ, ← Nat.mul_assoc]
      have := ih (l := l) rfl
      simp only [val] at h
      have h2 := Nat.mul_le_mul_right 16777216 this
      omega

end Go.Proofs.Ytabgkpfcpncmhaa

/- Lists of exact numbers. -/
set_option linter.unusedVariables false
namespace Go.Proofs.Ytabgkpfcpncmhaa
open Go Go.Vc

variable {w : World} {K : Value → World → Prop}

theorem heap_new {o : Obj} : (w.alloc o).heap[w.heap.size]? = some o := by
  show (w.heap.push o)[w.heap.size]? = some o
  simp
/-- A list of one's own whose elements take s cells. -/
def SL {α : Type} (R : World → List Value → α → Prop) (s : Nat) (e : TypeId) (w : World) (base : Nat) (v : Value) (ls : List α) : Prop :=
  ∃ cs : List (List Value), cs.length = ls.length ∧ (∀ c ∈ cs, c.length = s) ∧ w.ownsRow base e s v ls.length cs.flatten ∧ ∀ i (h : i < cs.length) (h' : i < ls.length), R w cs[i] ls[i]

theorem flatten_get {s : Nat} : ∀ {cs : List (List Value)}, (∀ c ∈ cs, c.length = s) → ∀ {i j : Nat} (hi : i < cs.length) {u : Value}, cs[i][j]? = some u → cs.flatten[i * s + j]? = some u
  | [], _, i, j, hi, _, _ => absurd hi (Nat.not_lt_zero _)
  | c :: cs, h, 0, j, hi, u, hu => by
    rw [Nat.zero_mul, Nat.zero_add, List.flatten_cons]
    simp only [List.getElem_cons_zero] at hu
    have hj := (List.getElem?_eq_some_iff.1 hu).1
    rw [List.getElem?_append_left hj]; exact hu
  | c :: cs, h, i + 1, j, hi, u, hu => by
    have hc := h c List.mem_cons_self
    simp only [List.getElem_cons_succ] at hu
    have := flatten_get (s := s) (fun c' hc' => h c' (List.mem_cons_of_mem _ hc')) (i := i) (j := j) (by simpa using hi) hu
    rw [List.flatten_cons, List.getElem?_append_right (by rw [hc, Nat.succ_mul]; omega), hc]
    rw [show (i + 1) * s + j - s = i * s + j by rw [Nat.succ_mul]; omega]
    exact this

theorem Row.atA {s n : Nat} {v : Value} {xs cs : List Value} {t e : TypeId} {z : Value} {b : Nat} {d : TypeDesc} {K : Value → Prop} {k : IntKind} {i : Nat} (h : Row s w v n xs) (hi : i < n) (hl : cs.length = s) (hx : ∀ j u, cs[j]? = some u → xs[i * s + j]? = some u)
    (hu : P.underlying t = some (.slice e)) (ht : TI P e z s b) (hue : P.underlying e = some d) (hd : aggB d = true) (H : K (.agg cs.toArray)) :
    ixa P t v (.int k (i : Int)) w (fun a => ld P e a w K) := by
  obtain ⟨h1, h2, a, cap, rfl, h3⟩ := h
  obtain ⟨bl, o, rfl, hc⟩ := h3 (by omega)
  rw [ixa_slice hu ht (by omega) (by omega)]
  rw [ld_agg hue hd ht hl (fun j u hj => ?_)]
  · exact H
  · rw [Addr.add_lit, Int.toNat_natCast, Nat.add_assoc]
    exact hc _ u (hx j u hj)

set_option maxRecDepth 20000 in
theorem bsl_Dy {KW : Value → World → Prop} {a b c : Value} (h : KW (.slice (some ⟨w.heap.size, 0, none⟩) 1 1) (w.alloc (.cells #[a, b, c] t_impl_Dyadic))) : bsl P t_s_impl_Dyadic 1 [(0, .agg #[a, b, c])] w KW := by
  unfold bsl Instr.buildSlice
  refine SemA_rv (rv_underlying u_s_impl_Dyadic) ?_
  refine SemA_rv (sm := sizeOf t_impl_Dyadic) (rv_sizeOf i_impl_Dyadic) ?_
  simp only [Nat.one_mul]
  rw [if_neg (by omega), if_neg (by omega)]
  refine SemA_bind (s := zeroValue t_impl_Dyadic) ?_
  refine SemA_of_rd (rd_of_rv _ (rv_zeroValue i_impl_Dyadic) ?_)
  refine SemA_bind (SemA_pure ?_)
  have : Instr.fill (fun i => some (i * 3, 3)) ((Array.range 3).map (fun i => ((Value.agg #[(.int .i64 0), (.slice none 0 0), (.int .i64 0)]).cells)[i % ((Value.agg #[(.int .i64 0), (.slice none 0 0), (.int .i64 0)]).cells).size]!)) [(0, .agg #[a, b, c])].toArray.toList = some #[a, b, c] := by
    have hr : Array.range 3 = #[0, 1, 2] := rfl
    simp [Instr.fill, hr, Value.cells]
  simp only [this]
  exact SemA_bind (SemA_bind (SemA_new (SemA_pure (SemA_pure h))))

section
variable {α : Type} {R : World → List Value → α → Prop} {s : Nat} {e t : TypeId} {base : Nat} {v : Value} {ls : List α} {z : Value} {b : Nat} {d : TypeDesc}
theorem SL.ext {w' : World} (hR : ∀ c a, R w c a → R w' c a) (h : SL R s e w base v ls) (he : Ext w w') : SL R s e w' base v ls := by
  obtain ⟨cs, h1, h2, h3, h4⟩ := h
  exact ⟨cs, h1, h2, owns_ext h3 he, fun i hi hi' => hR _ _ (h4 i hi hi')⟩
theorem SL.len {ty : TypeId} {K : Value → Prop} (h : SL R s e w base v ls) (hu : P.underlying t = some (.slice e)) : bl0 P .len #[t] ty [v] w K = K (.int .i64 ls.length) := by
  obtain ⟨cs, h1, h2, h3, h4⟩ := h
  exact (owns_Row h3).len hu
theorem SL.at {K : Value → Prop} {k : IntKind} {i : Nat} (h : SL R s e w base v ls) (hi : i < ls.length) (hu : P.underlying t = some (.slice e)) (ht : TI P e z s b) (hue : P.underlying e = some d) (hd : aggB d = true)
    (H : ∀ c, R w c ls[i] → K (.agg c.toArray)) : ixa P t v (.int k (i : Int)) w (fun a => ld P e a w K) := by
  obtain ⟨cs, h1, h2, h3, h4⟩ := h
  have hi' : i < cs.length := by omega
  exact Row.atA (owns_Row h3) hi (h2 _ (List.getElem_mem hi')) (fun j u hj => flatten_get h2 hi' hj) hu ht hue hd (H _ (h4 i hi' hi))
theorem SL.nil {KW : Value → World → Prop} (hu : P.underlying t = some (.slice e)) (ht : TI P e z s b) (H : ∀ v w', Ext w w' → SL R s e w' w.heap.size v ([] : List α) → KW v w') : bsl P t 0 [] w KW := by
  refine bsl_nil hu ht (H _ _ (Ext_alloc w _) ⟨[], rfl, (fun c hc => by cases hc), ?_, fun i hi => by cases hi⟩)
  have := World.ownsRow_lit (w := w) (base := w.heap.size) (e := e) (size := s) #[] 0 (Nat.le_refl _) (by decide) (by simp)
  simpa using this
/-- One more element. -/
theorem SL.push {KW : Value → World → Prop} {ty : TypeId} {c : List Value} {a : α} {w0 : World} {x : Value} (h : SL R s e w0 base v ls) (hx : Row s w x 1 c) (hc : c.length = s) (h1 : ∀ u ∈ c, u.oneCell' = true) (he : Ext w0 w) (hbase : base ≤ w0.heap.size)
    (hR : ∀ w' c a row, R w0 c a → (∀ k, row = some k → base ≤ k) → w.grownBy w' row → Ty w row e → R w' c a) (ha : R w0 c a)
    (hu : P.underlying t = some (.slice e)) (ht : TI P e z s b) (hzs : z.cells.size = s) (hs : 0 < s) (hn : ls.length ≤ 1048576) (hb : b ≤ 1024)
    (H : ∀ v' w', SL R s e w' base v' (ls ++ [a]) → w.grownBy w' v.ownBlock → (∀ k, v.ownBlock = some k → base ≤ k) → KW v' w') : bl2 P .append #[t, t] ty [v, x] w KW := by
  obtain ⟨cs, g1, g2, g3, g4⟩ := h
  have g3' := owns_ext g3 he
  have hby : (ls.length + 1) * b ≤ 140737488355328 := by
    have : (ls.length + 1) * b ≤ 1048577 * 1024 := Nat.mul_le_mul (by omega) hb
    omega
  refine append_intro g3' hx h1 hu ht hzs hs (by simp only [maxLen]; omega) hby (Nat.le_trans hbase he.size) fun v' w' ho hg => ?_
  have hk : ∀ k, v.ownBlock = some k → base ≤ k := fun k hk => (g3'.lt k hk).1
  refine H v' w' ⟨cs ++ [c], by simp [g1], fun c' hc' => ?_, ?_, fun i hi hi' => ?_⟩ hg hk
  · rcases List.mem_append.1 hc' with hc' | hc'
    · exact g2 c' hc'
    · rw [List.mem_singleton] at hc'; rw [hc']; exact hc
  · rw [List.flatten_append, List.length_append]
    simpa using ho
  · have ty' := Ty.owns g3'
    by_cases hlt : i < cs.length
    · have hlt' : i < ls.length := by omega
      rw [List.getElem_append_left hlt, List.getElem_append_left hlt']
      exact hR w' _ _ _ (g4 i hlt hlt') hk hg ty'
    · have hi0 : i = cs.length := by simp at hi; omega
      subst hi0
      rw [List.getElem_append_right (Nat.le_refl _), List.getElem_append_right (by omega)]
      simp only [Nat.sub_self, g1, List.getElem_cons_zero]
      exact hR w' _ _ _ ha hk hg ty'
end

/-! ### numbers of the program; of the reference -/
def RN (lo hi : Nat) (w : World) (c : List Value) (q : Rat) : Prop := NQ w (.agg c.toArray) lo hi q
def RD (lo hi : Nat) (w : World) (c : List Value) (q : Rat) : Prop := DQ w (.agg c.toArray) lo hi q
abbrev NL (w : World) (base : Nat) (v : Value) (lo hi : Nat) (qs : List Rat) : Prop := SL (RN lo hi) 2 t_impl_num w base v qs
abbrev DL (w : World) (base : Nat) (v : Value) (lo hi : Nat) (qs : List Rat) : Prop := SL (RD lo hi) 3 t_impl_Dyadic w base v qs
section
variable {base : Nat} {v : Value} {lo hi : Nat} {qs : List Rat}
theorem NL.ext {w' : World} (h : NL w base v lo hi qs) (he : Ext w w') : NL w' base v lo hi qs := SL.ext (fun c a (h : NQ _ _ _ _ _) => (h.ext he : NQ _ _ _ _ _)) h he
theorem DL.ext {w' : World} (h : DL w base v lo hi qs) (he : Ext w w') : DL w' base v lo hi qs := SL.ext (fun c a (h : DQ _ _ _ _ _) => (h.ext he : DQ _ _ _ _ _)) h he
theorem DL.push {KW : Value → World → Prop} {ty : TypeId} {u : Value} {q : Rat} (h : DL w base v lo hi qs) (hu : DQ w u lo hi q) (hbase : base ≤ w.heap.size) (hn : qs.length ≤ 1048576)
    (H : ∀ v' w', DL w' base v' lo hi (qs ++ [q]) → (∀ {w0}, Ext w0 w → w0.heap.size ≤ base → Ext w0 w') → KW v' w') : bsl P t_s_impl_Dyadic 1 [(0, u)] w fun x w1 => bl2 P .append #[t_s_impl_Dyadic, t_s_impl_Dyadic] ty [v, x] w1 KW := by
  have hu0 := hu
  obtain ⟨m, e, ⟨s, l, rfl, hl, hw⟩, hc⟩ := hu
  refine bsl_Dy ?_
  have he := Ext_alloc w (.cells #[.int .i64 m.sign, s, .int .i64 e] t_impl_Dyadic)
  have hrow : Row 3 (w.alloc (.cells #[.int .i64 m.sign, s, .int .i64 e] t_impl_Dyadic)) (.slice (some ⟨w.heap.size, 0, none⟩) 1 1) 1 [.int .i64 m.sign, s, .int .i64 e] := by
    refine ⟨rfl, by decide, _, _, rfl, fun _ => ⟨w.heap.size, 0, rfl, fun j u hj => ?_⟩⟩
    match j, hj with
    | 0, hj => cases hj; simp only [World.cell?, heap_new]; rfl
    | 1, hj => cases hj; simp only [World.cell?, heap_new]; rfl
    | 2, hj => cases hj; simp only [World.cell?, heap_new]; rfl
    | _ + 3, hj => simp at hj
  refine SL.push (a := q) h hrow rfl (one_3 rfl (sl_one (IR.sl hl.toIR)) rfl) he hbase (fun w' c a row hr hk hg ht => ?_) hu0 u_s_impl_Dyadic i_impl_Dyadic rfl (by decide) hn (by decide) fun v' w' h' hg hk => ?_
  · exact DQ.kt (DQ.ext hr he) hg ht (by decide)
  · exact H v' w' h' fun he0 hs => ext_of_grown (he0.trans he) (fun k hk' => Nat.le_trans hs (hk k hk')) hg
end
end Go.Proofs.Ytabgkpfcpncmhaa

/- Contracts: tables of integers. -/
set_option linter.unusedVariables false
set_option linter.unusedSimpArgs false
namespace Go.Proofs.Ytabgkpfcpncmhaa
open Go Go.Vc

variable {w : World} {K : Value → World → Prop}

/-- A row of pointers to integers, one's own. -/
def PR (w : World) (base : Nat) (v : Value) (l : List Int) : Prop := ∃ ps : List Value, ps.length = l.length ∧ w.ownsRow base t_p_impl_integer 1 v l.length ps ∧ ∀ i (h : i < ps.length) (h' : i < l.length), IntR w ps[i] l[i]
theorem PR.ext {w' : World} {base : Nat} {v : Value} {l : List Int} (h : PR w base v l) (he : Ext w w') : PR w' base v l := let ⟨ps, a, b, c⟩ := h; ⟨ps, a, owns_ext b he, fun i hi hi' => (c i hi hi').ext he⟩
theorem PR.at {base : Nat} {v : Value} {l : List Int} (h : PR w base v l) {k : IntKind} {i : Nat} (hi : i < l.length) {K : Value → Prop} (H : ∀ p, IntR w p l[i] → K p) : ixa P t_s_p_impl_integer v (.int k (i : Int)) w (fun a => ld P t_p_impl_integer a w K) := by
  obtain ⟨ps, a, b, c⟩ := h
  have hi' : i < ps.length := by omega
  exact (owns_Row b).at1 (List.getElem?_eq_getElem hi') u_s_p_impl_integer i_p_impl_integer u_p_impl_integer rfl (H _ (c i hi' hi))
/-- Beside a change of another row of pointers. -/
theorem PR.apart {w' : World} {base : Nat} {v : Value} {l : List Int} {row : Option Nat} (h : PR w base v l) (hg : w.grownBy w' row) (ht : Ty w row t_p_impl_integer) (hne : ∀ k, v.ownBlock = some k → row ≠ some k) : PR w' base v l := by
  obtain ⟨ps, a, b, c⟩ := h
  exact ⟨ps, a, owns_apart b hg hne, fun i hi hi' => (c i hi hi').kt hg ht (by decide) (by decide)⟩
/-- Beside a change of another type's row. -/
theorem PR.kt {w' : World} {base : Nat} {v : Value} {l : List Int} {row : Option Nat} {e' : TypeId} (h : PR w base v l) (hg : w.grownBy w' row) (ht : Ty w row e') (h1 : t_p_impl_integer ≠ e') (h2 : t_uint32 ≠ e') (h3 : t_impl_integer ≠ e') : PR w' base v l := by
  obtain ⟨ps, a, b, c⟩ := h
  exact ⟨ps, a, keep_row b hg ht h1, fun i hi hi' => (c i hi hi').kt hg ht h2 h3⟩
theorem PR.set {KW : World → Prop} {base : Nat} {v p : Value} {l : List Int} {m : Int} {k : IntKind} {i : Nat} (h : PR w base v l) (hi : i < l.length) (hp : IntR w p m) (H : ∀ w', PR w' base v (l.set i m) → w.grownBy w' v.ownBlock → Ty w v.ownBlock t_p_impl_integer → KW w') :
    ixa P t_s_p_impl_integer v (.int k (i : Int)) w (fun a => sto P t_p_impl_integer a p w KW) := by
  obtain ⟨ps, a, b, c⟩ := h
  have ty := Ty.owns b
  refine owns_set b hi hp.one u_s_p_impl_integer i_p_impl_integer fun w' ho hg => H w' ⟨ps.set i p, by simp [a], by rw [List.length_set]; exact ho, fun j hj hj' => ?_⟩ hg ty
  have hj1 : j < ps.length := by simpa using hj
  have hj2 : j < l.length := by simpa using hj'
  by_cases e : i = j
  · subst e
    simp only [List.getElem_set_self]
    exact hp.kt hg ty (by decide) (by decide)
  · rw [List.getElem_set_ne e, List.getElem_set_ne e]
    exact (c j hj1 hj2).kt hg ty (by decide) (by decide)
/-- One more pointer. -/
theorem PR.push {KW : Value → World → Prop} {base : Nat} {v p : Value} {l : List Int} {m : Int} (h : PR w base v l) (hp : IntR w p m) (hn : l.length ≤ 1048576) (hbase : base ≤ w.heap.size)
    (H : ∀ v' w', PR w' base v' (l ++ [m]) → (∀ {w0}, Ext w0 w → w0.heap.size ≤ base → Ext w0 w') → KW v' w') : bsl P t_s_p_impl_integer 1 [(0, p)] w fun y w2 => bl2 P .append #[t_s_p_impl_integer, t_s_p_impl_integer] t_s_p_impl_integer [v, y] w2 KW := by
  obtain ⟨ps, a, b, c⟩ := h
  have ty := Ty.owns b
  refine app1 b hp.one u_s_p_impl_integer i_p_impl_integer rfl (by simp only [maxLen]; omega) (by omega) hbase fun v' w' ho hg => H v' w' ⟨ps ++ [p], by simp [a], by rw [List.length_append]; exact ho, fun j hj hj' => ?_⟩ fun he hs => ext_of_grown he (fun k hk => Nat.le_trans hs (b.lt k hk).1) hg
  by_cases hlt : j < ps.length
  · rw [List.getElem_append_left hlt, List.getElem_append_left (by omega)]
    exact (c j hlt (by omega)).kt hg ty (by decide) (by decide)
  · have hj0 : j = ps.length := by simp at hj; omega
    subst hj0
    rw [List.getElem_append_right (Nat.le_refl _), List.getElem_append_right (by omega)]
    simp only [Nat.sub_self, a, List.getElem_cons_zero]
    exact hp.kt hg ty (by decide) (by decide)
end Go.Proofs.Ytabgkpfcpncmhaa

/- Contracts: tables of integers: the outer slice. -/
set_option linter.unusedVariables false
set_option linter.unusedSimpArgs false
namespace Go.Proofs.Ytabgkpfcpncmhaa
open Go Go.Vc

variable {w : World} {K : Value → World → Prop}

structure TM (w : World) (lo hi : Nat) (v : Value) (T : List (List Int)) (vs : List Value) : Prop where
  outer : w.ownsRow lo t_s_p_impl_integer 1 v T.length vs
  rows : ∀ (i : Nat) (hl : i < T.length), ∃ x : Value, vs[i]? = some x ∧ PR w lo x T[i] ∧ ∀ k, x.ownBlock = some k → k < hi
  apart : ∀ (i j : Nat) (x y : Value), i ≠ j → vs[i]? = some x → vs[j]? = some y → ∀ k, x.ownBlock = some k → y.ownBlock ≠ some k
theorem TM.ext {w' : World} {lo hi : Nat} {v : Value} {T : List (List Int)} {vs : List Value} (h : TM w lo hi v T vs) (he : Ext w w') : TM w' lo hi v T vs :=
  ⟨owns_ext h.outer he, fun i hi => let ⟨x, a, b, c⟩ := h.rows i hi; ⟨x, a, b.ext he, c⟩, h.apart⟩
theorem TM.at {lo hi : Nat} {v : Value} {T : List (List Int)} {vs : List Value} (h : TM w lo hi v T vs) {k k' : IntKind} {i j : Nat} (hi' : i < T.length) (hj : j < T[i].length) {K : Value → Prop} (H : ∀ p, IntR w p T[i][j] → K p) :
    ixa P t_s_s_p_impl_integer v (.int k (i : Int)) w fun a => ld P t_s_p_impl_integer a w fun r => ixa P t_s_p_impl_integer r (.int k' (j : Int)) w fun b => ld P t_p_impl_integer b w K := by
  obtain ⟨x, hx, hp, _⟩ := h.rows i hi'
  refine (owns_Row h.outer).at1 hx u_s_s_p_impl_integer i_s_p_impl_integer u_s_p_impl_integer rfl ?_
  exact hp.at hj H
theorem TM.row {lo hi : Nat} {v : Value} {T : List (List Int)} {vs : List Value} (h : TM w lo hi v T vs) {k : IntKind} {i : Nat} (hi' : i < T.length) {K : Value → Prop} (H : ∀ r, vs[i]? = some r → K r) :
    ixa P t_s_s_p_impl_integer v (.int k (i : Int)) w fun a => ld P t_s_p_impl_integer a w K := by
  obtain ⟨x, hx, hp, _⟩ := h.rows i hi'
  exact (owns_Row h.outer).at1 hx u_s_s_p_impl_integer i_s_p_impl_integer u_s_p_impl_integer rfl (H x hx)
/-- A new pointer in a row of the table. -/
theorem TM.put {KW : World → Prop} {lo hi : Nat} {v r p : Value} {T : List (List Int)} {vs : List Value} {m : Int} {k : IntKind} {i j : Nat} (h : TM w lo hi v T vs) (hr : vs[i]? = some r) (hi' : i < T.length) (hj : j < T[i].length) (hp : IntR w p m)
    (H : ∀ w', TM w' lo hi v (T.set i (T[i].set j m)) vs → (∀ {w0}, Ext w0 w → w0.heap.size ≤ lo → Ext w0 w') → (∀ p m, IntR w p m → IntR w' p m) → KW w') :
    ixa P t_s_p_impl_integer r (.int k (j : Int)) w fun a => sto P t_p_impl_integer a p w KW := by
  obtain ⟨x, hx, hpr, hb⟩ := h.rows i hi'
  rw [hr] at hx
  cases hx
  have hlo : ∀ k, r.ownBlock = some k → lo ≤ k := fun k hk => by
    obtain ⟨ps, _, b, _⟩ := hpr
    exact (b.lt k hk).1
  refine hpr.set hj hp fun w' hpr' hg ty => H w' ⟨?_, fun i2 hi2 => ?_, h.apart⟩ (fun he hs => ext_of_grown he (fun k hk => Nat.le_trans hs (hlo k hk)) hg) fun p m hp => hp.kt hg ty (by decide) (by decide)
  · rw [List.length_set]; exact keep_row h.outer hg ty (by decide)
  · have hi3 : i2 < T.length := by simpa using hi2
    by_cases e : i = i2
    · subst e
      simp only [List.getElem_set_self]
      exact ⟨r, hr, hpr', hb⟩
    · rw [List.getElem_set_ne e]
      obtain ⟨y, hy, hq, hc⟩ := h.rows i2 hi3
      exact ⟨y, hy, hq.apart hg ty fun k hk hrk => h.apart i i2 r y e hr hy k hrk hk, hc⟩
end Go.Proofs.Ytabgkpfcpncmhaa

/- Contracts: tables of integers: one more row; two rows exchanged. -/
set_option linter.unusedVariables false
set_option linter.unusedSimpArgs false
namespace Go.Proofs.Ytabgkpfcpncmhaa
open Go Go.Vc

variable {w : World} {K : Value → World → Prop}

theorem PR.one {base : Nat} {v : Value} {l : List Int} (h : PR w base v l) : v.oneCell' = true := by
  obtain ⟨ps, _, b, _⟩ := h
  exact oneCell_sl b
theorem PR.low {base base' : Nat} {v : Value} {l : List Int} (h : PR w base v l) (hb : base' ≤ base) : PR w base' v l := let ⟨ps, a, b, c⟩ := h; ⟨ps, a, owns_base b hb, c⟩
theorem PR.top {base : Nat} {v : Value} {l : List Int} (h : PR w base v l) {k : Nat} (hk : v.ownBlock = some k) : base ≤ k ∧ k < w.heap.size := by
  obtain ⟨ps, _, b, _⟩ := h
  exact b.lt k hk
/-- A row behind the range, put at the end. -/
theorem TM.push {KW : Value → World → Prop} {lo hi : Nat} {v r : Value} {T : List (List Int)} {vs : List Value} {l : List Int} (h : TM w lo hi v T vs) (hr : PR w hi r l) (hlh : lo ≤ hi) (hn : T.length ≤ 1048576) (hbase : lo ≤ w.heap.size)
    (H : ∀ v' w', TM w' lo w'.heap.size v' (T ++ [l]) (vs ++ [r]) → (∀ {w0}, Ext w0 w → w0.heap.size ≤ lo → Ext w0 w') → KW v' w') : bsl P t_s_s_p_impl_integer 1 [(0, r)] w fun y w2 => bl2 P .append #[t_s_s_p_impl_integer, t_s_s_p_impl_integer] t_s_s_p_impl_integer [v, y] w2 KW := by
  have ty := Ty.owns h.outer
  have hvl : vs.length = T.length := by have := h.outer.1; omega
  refine app1 h.outer hr.one u_s_s_p_impl_integer i_s_p_impl_integer rfl (by simp only [maxLen]; omega) (by omega) hbase fun v' w' ho hg => H v' w' ⟨by rw [List.length_append]; exact ho, fun i hi2 => ?_, fun i j x y hij hx hy k hk => ?_⟩ fun he hs => ext_of_grown he (fun k hk => Nat.le_trans hs (h.outer.lt k hk).1) hg
  · by_cases hlt : i < T.length
    · obtain ⟨x, hx, hp, hb⟩ := h.rows i hlt
      refine ⟨x, by rw [List.getElem?_append_left (by omega)]; exact hx, ?_, fun k hk => Nat.lt_of_lt_of_le (hp.top hk).2 hg.size⟩
      rw [List.getElem_append_left hlt]
      exact hp.kt hg ty (by decide) (by decide) (by decide)
    · have hi0 : i = T.length := by simp at hi2; omega
      subst hi0
      refine ⟨r, by rw [List.getElem?_append_right (by omega)]; simp [hvl], ?_, fun k hk => Nat.lt_of_lt_of_le (hr.top hk).2 hg.size⟩
      rw [List.getElem_append_right (Nat.le_refl _)]
      simp only [Nat.sub_self, List.getElem_cons_zero]
      exact (hr.low hlh).kt hg ty (by decide) (by decide) (by decide)
  · have old : ∀ (i : Nat) (x : Value), (vs ++ [r])[i]? = some x → (i < T.length ∧ vs[i]? = some x) ∨ (i = T.length ∧ x = r) := by
      intro i x hx
      by_cases hlt : i < vs.length
      · rw [List.getElem?_append_left hlt] at hx
        exact .inl ⟨by omega, hx⟩
      · rw [List.getElem?_append_right (by omega)] at hx
        have h0 : i - vs.length = 0 := by
          have := (List.getElem?_eq_some_iff.1 hx).1
          simp at this; omega
        rw [h0] at hx
        simp at hx
        exact .inr ⟨by omega, hx.symm⟩
    have below : ∀ (i : Nat) (x : Value), i < T.length → vs[i]? = some x → ∀ k, x.ownBlock = some k → k < hi := by
      intro i x hlt hx k hk
      obtain ⟨x', hx', _, hb⟩ := h.rows i hlt
      rw [hx] at hx'; cases hx'
      exact hb k hk
    rcases old i x hx with ⟨a1, a2⟩ | ⟨a1, rfl⟩ <;> rcases old j y hy with ⟨b1, b2⟩ | ⟨b1, rfl⟩
    · exact h.apart i j x y hij a2 b2 k hk
    · intro hc
      have h1 := below i x a1 a2 k hk
      have h2 := (hr.top hc).1
      omega
    · intro hc
      have h1 := below j y b1 b2 k hc
      have h2 := (hr.top hk).1
      omega
    · omega
end Go.Proofs.Ytabgkpfcpncmhaa

/- Contracts: tables of integers: two rows exchanged. -/
set_option linter.unusedVariables false
set_option linter.unusedSimpArgs false
namespace Go.Proofs.Ytabgkpfcpncmhaa
open Go Go.Vc

variable {w : World} {K : Value → World → Prop}

theorem TM.swap {KW : World → Prop} {lo hi : Nat} {v x y : Value} {T : List (List Int)} {vs : List Value} {k k' : IntKind} {i j : Nat} (h : TM w lo hi v T vs) (hi' : i < T.length) (hj' : j < T.length) (hij : i ≠ j) (hx : vs[i]? = some x) (hy : vs[j]? = some y)
    (H : ∀ w', TM w' lo hi v ((T.set i T[j]).set j T[i]) ((vs.set i y).set j x) → (∀ {w0}, Ext w0 w → w0.heap.size ≤ lo → Ext w0 w') → (∀ p m, IntR w p m → IntR w' p m) → KW w') :
    ixa P t_s_s_p_impl_integer v (.int k (i : Int)) w fun a => sto P t_s_p_impl_integer a y w fun w1 => ixa P t_s_s_p_impl_integer v (.int k' (j : Int)) w1 fun b => sto P t_s_p_impl_integer b x w1 KW := by
  have ty := Ty.owns h.outer
  have hvl : vs.length = T.length := by have := h.outer.1; omega
  obtain ⟨x', hx', px, bx⟩ := h.rows i hi'
  rw [hx] at hx'; cases hx'
  obtain ⟨y', hy', py, by'⟩ := h.rows j hj'
  rw [hy] at hy'; cases hy'
  refine owns_set h.outer hi' py.one u_s_s_p_impl_integer i_s_p_impl_integer fun w1 o1 g1 => ?_
  refine owns_set o1 hj' px.one u_s_s_p_impl_integer i_s_p_impl_integer fun w2 o2 g2 => ?_
  have g := grown_trans g1 g2
  have kt : ∀ {r : Value} {l : List Int}, PR w lo r l → PR w2 lo r l := fun hr => hr.kt g ty (by decide) (by decide) (by decide)
  have get : ∀ (p : Nat) (z : Value), ((vs.set i y).set j x)[p]? = some z → (p = j ∧ z = x) ∨ (p ≠ j ∧ p = i ∧ z = y) ∨ (p ≠ j ∧ p ≠ i ∧ vs[p]? = some z) := by
    intro p z hz
    rw [List.getElem?_set] at hz
    by_cases e : j = p
    · subst e
      simp [hvl, hj'] at hz
      exact .inl ⟨rfl, hz.symm⟩
    · rw [if_neg e, List.getElem?_set] at hz
      by_cases e2 : i = p
      · subst e2
        simp [hvl, hi'] at hz
        exact .inr (.inl ⟨fun h => e h.symm, rfl, hz.symm⟩)
      · rw [if_neg e2] at hz
        exact .inr (.inr ⟨fun h => e h.symm, fun h => e2 h.symm, hz⟩)
  refine H w2 ⟨by simpa using o2, fun p hp => ?_, fun p q a b hpq ha hb k hk => ?_⟩ (fun he hs => ext_of_grown he (fun k hk => Nat.le_trans hs (h.outer.lt k hk).1) g) fun p m hp => hp.kt g ty (by decide) (by decide)
  · have hp' : p < T.length := by simpa using hp
    by_cases e : j = p
    · subst e
      simp only [List.getElem_set_self]
      exact ⟨x, by simp [hvl, hj'], kt px, bx⟩
    · rw [List.getElem_set_ne e]
      by_cases e2 : i = p
      · subst e2
        simp only [List.getElem_set_self]
        refine ⟨y, ?_, kt py, by'⟩
        rw [List.getElem?_set_ne e]; simp [hvl, hi']
      · rw [List.getElem_set_ne e2]
        obtain ⟨z, hz, pz, bz⟩ := h.rows p hp'
        refine ⟨z, ?_, kt pz, bz⟩
        rw [List.getElem?_set_ne e, List.getElem?_set_ne e2]; exact hz
  · rcases get p a ha with ⟨a1, rfl⟩ | ⟨a0, a1, rfl⟩ | ⟨a0, a1, a2⟩ <;> rcases get q b hb with ⟨b1, rfl⟩ | ⟨b0, b1, rfl⟩ | ⟨b0, b1, b2⟩
    · omega
    · exact h.apart i j _ _ hij hx hy k hk
    · exact h.apart i q _ _ (fun e => b1 e.symm) hx b2 k hk
    · exact h.apart j i _ _ (fun e => hij e.symm) hy hx k hk
    · omega
    · exact h.apart j q _ _ (fun e => b0 e.symm) hy b2 k hk
    · exact h.apart p i _ _ a1 a2 hx k hk
    · exact h.apart p j _ _ a0 a2 hy k hk
    · exact h.apart p q _ _ hpq a2 b2 k hk
end Go.Proofs.Ytabgkpfcpncmhaa

/- Contracts: a determinant's cell. -/
set_option linter.unusedVariables false
set_option linter.unusedSimpArgs false
namespace Go.Proofs.Ytabgkpfcpncmhaa
open Go Go.Vc

variable {w : World}

theorem TM.get {lo hi : Nat} {v : Value} {T : List (List Int)} {vs : List Value} {n : Nat} (h : TM w lo hi v T vs) (sq : Sq n T) {k k' : IntKind} {i j : Nat} (hi' : i < n) (hj : j < n) {K : Value → Prop} (H : ∀ p, IntR w p (tf T i j) → K p) :
    ixa P t_s_s_p_impl_integer v (.int k (i : Int)) w fun a => ld P t_s_p_impl_integer a w fun r => ixa P t_s_p_impl_integer r (.int k' (j : Int)) w fun b => ld P t_p_impl_integer b w K := by
  have hl := sq.len
  have hi2 : i < T.length := by omega
  have hr := sq.row i hi'
  rw [getD_at _ hi2] at hr
  have hj2 : j < T[i].length := by omega
  refine h.at hi2 hj2 ?_
  have e : tf T i j = T[i][j] := by unfold tf; rw [getD_at _ hi2, getD_at _ hj2]
  rw [e] at H
  exact H
/-- The address of a row. -/
theorem TM.addr {lo hi : Nat} {v : Value} {T : List (List Int)} {vs : List Value} (h : TM w lo hi v T vs) {k : IntKind} {i : Nat} (hi' : i < T.length) :
    ∃ a, (∀ (w' : World) (K : Value → Prop), K a → ixa P t_s_s_p_impl_integer v (.int k (i : Int)) w' K) ∧ ∀ {w' : World} {T' : List (List Int)}, TM w' lo hi v T' vs → ∀ (r : Value), vs[i]? = some r → ∀ K : Value → Prop, K r → ld P t_s_p_impl_integer a w' K := by
  have h0 := h.outer
  rcases h.outer.2 with ⟨rfl, h1⟩ | ⟨g, cap, cur, rfl, hb, hg, hnc, hcm, hcs, htake⟩
  · omega
  · refine ⟨.pointer (some ⟨g, i, none⟩), fun w' K hK => ?_, fun {w' T'} h' r hr K hK => ?_⟩
    · rw [ixa_slice u_s_s_p_impl_integer i_s_p_impl_integer (by omega) (by omega)]
      simp only [Int.toNat_natCast, Nat.mul_one, Nat.zero_add]
      exact hK
    · have hT : T'.length = T.length := by have := h'.outer.1; have := h0.1; omega
      have ho := h'.outer
      rw [hT] at ho
      have hc := ho.cellAt i (by omega)
      rw [hr] at hc
      rw [ld_scalar u_s_p_impl_integer rfl hc]
      exact hK
theorem TM.put2 {KW : World → Prop} {lo hi : Nat} {v r p : Value} {T : List (List Int)} {vs : List Value} {m : Int} {n : Nat} {k : IntKind} {i j : Nat} (h : TM w lo hi v T vs) (sq : Sq n T) (hr : vs[i]? = some r) (hi' : i < n) (hj : j < n) (hp : IntR w p m)
    (H : ∀ w', TM w' lo hi v (putT T i j m) vs → (∀ {w0}, Ext w0 w → w0.heap.size ≤ lo → Ext w0 w') → (∀ p m, IntR w p m → IntR w' p m) → KW w') :
    ixa P t_s_p_impl_integer r (.int k (j : Int)) w fun a => sto P t_p_impl_integer a p w KW := by
  have hl := sq.len
  have hi2 : i < T.length := by omega
  have hrw := sq.row i hi'
  unfold putT at H
  rw [getD_at _ hi2] at hrw H
  exact h.put hr hi2 (by omega) hp H
theorem TM.swap2 {KW : World → Prop} {lo hi : Nat} {v x y : Value} {T : List (List Int)} {vs : List Value} {n : Nat} {k k' : IntKind} {i j : Nat} (h : TM w lo hi v T vs) (sq : Sq n T) (hi' : i < n) (hj' : j < n) (hij : i ≠ j) (hx : vs[i]? = some x) (hy : vs[j]? = some y)
    (H : ∀ w', TM w' lo hi v (swapT T i j) ((vs.set i y).set j x) → (∀ {w0}, Ext w0 w → w0.heap.size ≤ lo → Ext w0 w') → (∀ p m, IntR w p m → IntR w' p m) → KW w') :
    ixa P t_s_s_p_impl_integer v (.int k (i : Int)) w fun a => sto P t_s_p_impl_integer a y w fun w1 => ixa P t_s_s_p_impl_integer v (.int k' (j : Int)) w1 fun b => sto P t_s_p_impl_integer b x w1 KW := by
  have hl := sq.len
  unfold swapT at H
  rw [getD_at _ (by omega : j < T.length), getD_at _ (by omega : i < T.length)] at H
  exact h.swap (by omega) (by omega) hij hx hy H

set_option maxRecDepth 20000 in
theorem det_cell {KW : World → Prop} {lo hi n i j k : Nat} {v x16 : Value} {T : List (List Int)} {vs : List Value} {b z : Int} (h : TM w lo hi v T vs) (sq : Sq n T) (hk : k < n) (hi' : i < n) (hj : j < n) (hx : IntR w x16 b) (b0 : b ≠ 0)
    (hz : tf T i j * tf T k k - tf T i k * tf T k j = b * z) (hB : ∀ p q, bl (tf T p q).natAbs ≤ 100000) (bb : bl b.natAbs ≤ 100000)
    (H : ∀ w', TM w' lo hi v (putT T i j z) vs → (∀ {w0}, Ext w0 w → w0.heap.size ≤ lo → Ext w0 w') → IntR w' x16 b → KW w') :
    ixa P t_s_s_p_impl_integer v (.int .i64 (i : Int)) w fun x145 =>
    ld P t_s_p_impl_integer x145 w fun x146 =>
    ixa P t_s_p_impl_integer x146 (.int .i64 (j : Int)) w fun x148 =>
    ld P t_p_impl_integer x148 w fun x149 =>
    ixa P t_s_s_p_impl_integer v (.int .i64 (k : Int)) w fun x152 =>
    ld P t_s_p_impl_integer x152 w fun x153 =>
    ixa P t_s_p_impl_integer x153 (.int .i64 (k : Int)) w fun x155 =>
    ld P t_p_impl_integer x155 w fun x156 =>
    alc P t_impl_integer w fun x142 w112 =>
    Ext w w112 ∧ call P f_impl_integer_Mul [x142, x149, x156] w112 fun x157 w114 =>
    ixa P t_s_s_p_impl_integer v (.int .i64 (i : Int)) w114 fun x163 =>
    ld P t_s_p_impl_integer x163 w114 fun x164 =>
    ixa P t_s_p_impl_integer x164 (.int .i64 (k : Int)) w114 fun x166 =>
    ld P t_p_impl_integer x166 w114 fun x167 =>
    ixa P t_s_s_p_impl_integer v (.int .i64 (k : Int)) w114 fun x170 =>
    ld P t_s_p_impl_integer x170 w114 fun x171 =>
    ixa P t_s_p_impl_integer x171 (.int .i64 (j : Int)) w114 fun x173 =>
    ld P t_p_impl_integer x173 w114 fun x174 =>
    alc P t_impl_integer w114 fun x160 w124 =>
    Ext w114 w124 ∧ call P f_impl_integer_Mul [x160, x167, x174] w124 fun x175 w126 =>
    call P f_impl_integer_Sub [x157, x157, x175] w126 fun x176 w128 =>
    ixa P t_s_s_p_impl_integer v (.int .i64 (i : Int)) w128 fun x179 =>
    ld P t_s_p_impl_integer x179 w128 fun x180 =>
    call P f_impl_integer_Quo [x157, x157, x16] w128 fun x185 w132 =>
    (ixa P t_s_s_p_impl_integer v (.int .i64 (i : Int)) w132 fun z => z = x179) ∧ (ld P t_s_p_impl_integer x179 w132 fun z => z = x180) ∧ ixa P t_s_p_impl_integer x180 (.int .i64 (j : Int)) w132 fun x186 =>
    sto P t_p_impl_integer x186 x185 w132 KW := by
  have hl := sq.len
  have hm : ∀ p q r s, bl (tf T p q * tf T r s).natAbs ≤ 1099511627776 := fun p q r s => by
    have := ibl_mul (tf T p q) (tf T r s); have := hB p q; have := hB r s; omega
  have hB' : ∀ p q, bl (tf T p q).natAbs ≤ 1099511627776 := fun p q => by have := hB p q; omega
  refine TM.get h sq hi' hj fun p1 i1 => ?_
  refine TM.get h sq hk hk fun p2 i2 => ?_
  refine alc_Z fun z1 w1 zo1 _ e1 => ?_
  refine ⟨e1, ?_⟩
  refine c_Mul zo1 (i1.ext e1) (i2.ext e1) (hB' _ _) (hB' _ _) fun w2 zo2 m2 g2 => ?_
  have e2 : Ext w w2 := ext_of_grown e1 (fun g hg => zo1.blk_ge hg) g2
  have h2 := h.ext e2
  refine TM.get h2 sq hi' hk fun p3 i3 => ?_
  refine TM.get h2 sq hk hj fun p4 i4 => ?_
  refine alc_Z fun z3 w3 zo3 _ e3 => ?_
  refine ⟨e3, ?_⟩
  refine c_Mul zo3 (i3.ext e3) (i4.ext e3) (hB' _ _) (hB' _ _) fun w4 zo4 m4 g4 => ?_
  have e4 : Ext w2 w4 := ext_of_grown e3 (fun g hg => zo3.blk_ge hg) g4
  refine c_Sub (zo2.ext e4) (m2.ext e4) m4 (hm _ _ _ _) (hm _ _ _ _) fun w5 zo5 m5 g5 => ?_
  have e5 : Ext w w5 := ext_of_grown (e2.trans e4) (fun g hg => zo2.blk_ge hg) g5
  have h5 := h.ext e5
  obtain ⟨ad, ha1, ha2⟩ := h5.addr (k := .i64) (by omega : i < T.length)
  refine ha1 _ _ ?_
  obtain ⟨r, hr, _, _⟩ := h5.rows i (by omega)
  refine ha2 h5 r hr _ ?_
  have hmm : bl (tf T i j * tf T k k - tf T i k * tf T k j).natAbs ≤ 1000000000000 := by
    have := bl_minor (a := tf T i j) (b := tf T k k) (c := tf T i k) (d := tf T k j) (B := 100001) (by have := hB i j; omega) (by have := hB k k; omega) (by have := hB i k; omega) (by have := hB k j; omega)
    omega
  refine c_Quo zo5 m5 (hx.ext e5) b0 hmm (by omega) fun w6 w7 e6 zo6 g7 zo7 m7 => ?_
  rw [hz, Int.mul_tdiv_cancel_left _ b0] at m7
  have e7 : Ext w w7 := ext_of_grown (e5.trans e6) (fun g hg => zo6.blk_ge hg) g7
  have h7 := h.ext e7
  refine ⟨ha1 _ _ rfl, ha2 h7 r hr _ rfl, ?_⟩
  refine h7.put2 sq hr hi' hj m7 fun w8 h8 E8 keep8 => ?_
  exact H w8 h8 (fun he hs => E8 (he.trans e7) hs) (keep8 _ _ (hx.ext e7))
end Go.Proofs.Ytabgkpfcpncmhaa

/- Contracts: a determinant's step; its pivot. -/
set_option linter.unusedVariables false
set_option linter.unusedSimpArgs false
namespace Go.Proofs.Ytabgkpfcpncmhaa
open Go Go.Vc

variable {w : World}

theorem dimsI {n : Nat} (h : n ≤ 8) : (n : Int) ≤ 8 := by omega

set_option maxRecDepth 20000 in
theorem det_step {Done : World → Prop} {lo hi n k : Nat} {v x16 : Value} {T : List (List Int)} {vs : List Value} {b s : Int} {d : Rat} {B : Nat} (h : TM w lo hi v T vs) (sq : Sq n T) (hk : k + 1 < n) (h8 : n ≤ 8) (hx : IntR w x16 b)
    (hI : BI n k (tf T) b s d) (hp : tf T k k ≠ 0) (hB : ∀ p q, bl (tf T p q).natAbs + 1 ≤ B) (hB2 : 2 * B ≤ 100000) (bb : bl b.natAbs ≤ 100000)
    (H : ∀ w' T', TM w' lo hi v T' vs → Sq n T' → BI n (k + 1) (tf T') (tf T k k) s d → tf T' k k = tf T k k → (∀ p q, bl (tf T' p q).natAbs + 1 ≤ 2 * B) → (∀ {w0}, Ext w0 w → w0.heap.size ≤ lo → Ext w0 w') → Done w') :
    bin P .add 3 false true (.int .i64 (k : Int)) (.int .i64 1) w fun x129 =>
    ∃ I90 : Nat → Value → World → Prop, (∃ m147, I90 m147 x129 w) ∧ ∀ (m93 : Nat) (x20 : Value) (junk91 : Env) (w92 : World), I90 m93 x20 w92 →
      bin P .lss 3 false false x20 (.int .i64 (n : Int)) w92 fun x132 =>
      cnd x132
        (bin P .add 3 false true (.int .i64 (k : Int)) (.int .i64 1) w92 fun x136 =>
        ∃ I97 : Nat → Value → World → Prop, (∃ m140, I97 m140 x136 w92) ∧ ∀ (m100 : Nat) (x21 : Value) (junk98 : Env) (w99 : World), I97 m100 x21 w99 →
          bin P .lss 3 false false x21 (.int .i64 (n : Int)) w99 fun x139 =>
          cnd x139
            (ixa P t_s_s_p_impl_integer v x20 w99 fun x145 =>
            ld P t_s_p_impl_integer x145 w99 fun x146 =>
            ixa P t_s_p_impl_integer x146 x21 w99 fun x148 =>
            ld P t_p_impl_integer x148 w99 fun x149 =>
            ixa P t_s_s_p_impl_integer v (.int .i64 (k : Int)) w99 fun x152 =>
            ld P t_s_p_impl_integer x152 w99 fun x153 =>
            ixa P t_s_p_impl_integer x153 (.int .i64 (k : Int)) w99 fun x155 =>
            ld P t_p_impl_integer x155 w99 fun x156 =>
            alc P t_impl_integer w99 fun x142 w112 =>
            Ext w99 w112 ∧ call P f_impl_integer_Mul [x142, x149, x156] w112 fun x157 w114 =>
            ixa P t_s_s_p_impl_integer v x20 w114 fun x163 =>
            ld P t_s_p_impl_integer x163 w114 fun x164 =>
            ixa P t_s_p_impl_integer x164 (.int .i64 (k : Int)) w114 fun x166 =>
            ld P t_p_impl_integer x166 w114 fun x167 =>
            ixa P t_s_s_p_impl_integer v (.int .i64 (k : Int)) w114 fun x170 =>
            ld P t_s_p_impl_integer x170 w114 fun x171 =>
            ixa P t_s_p_impl_integer x171 x21 w114 fun x173 =>
            ld P t_p_impl_integer x173 w114 fun x174 =>
            alc P t_impl_integer w114 fun x160 w124 =>
            Ext w114 w124 ∧ call P f_impl_integer_Mul [x160, x167, x174] w124 fun x175 w126 =>
            call P f_impl_integer_Sub [x157, x157, x175] w126 fun x176 w128 =>
            ixa P t_s_s_p_impl_integer v x20 w128 fun x179 =>
            ld P t_s_p_impl_integer x179 w128 fun x180 =>
            call P f_impl_integer_Quo [x157, x157, x16] w128 fun x185 w132 =>
            (ixa P t_s_s_p_impl_integer v x20 w132 fun z => z = x179) ∧ (ld P t_s_p_impl_integer x179 w132 fun z => z = x180) ∧ ixa P t_s_p_impl_integer x180 x21 w132 fun x186 =>
            sto P t_p_impl_integer x186 x185 w132 fun w135 =>
            bin P .add 3 false true x21 (.int .i64 1) w135 fun x141 =>
            ∃ m137, m137 < m100 ∧ I97 m137 x141 w135)
            (bin P .add 3 false true x20 (.int .i64 1) w99 fun x134 =>
            ∃ m139, m139 < m93 ∧ I90 m139 x134 w99))
        (Done w92) := by
  obtain ⟨hd, hn⟩ := hI.step hk hp
  have b0 := hI.nz
  rw [bin_addI1 (b := 1) (by omega)]
  refine ⟨fun g x w' => ∃ (i : Nat) (T' : List (List Int)), x = .int .i64 (i : Int) ∧ g + i = n ∧ k < i ∧ TM w' lo hi v T' vs ∧ Mid n k i (k + 1) T T' b (2 * B) ∧ IntR w' x16 b ∧ (∀ {w0}, Ext w0 w → w0.heap.size ≤ lo → Ext w0 w'),
    ⟨n - (k + 1), k + 1, T, rfl, by omega, by omega, h, Mid.start sq (fun p q => by have := hB p q; omega), hx, fun he _ => he⟩, ?_⟩
  rintro g x junk w2 ⟨i, T', rfl, hg, hki, h2, mid, hx2, E2⟩
  rw [bin_lss]
  refine cnd_dec (fun hlt => ?_) (fun hge => ?_)
  · have hin : i < n := by omega
    rw [bin_addI1 (b := 1) (by omega)]
    refine ⟨fun g' x w' => ∃ (j : Nat) (T' : List (List Int)), x = .int .i64 (j : Int) ∧ g' + j = n ∧ k < j ∧ TM w' lo hi v T' vs ∧ Mid n k i j T T' b (2 * B) ∧ IntR w' x16 b ∧ (∀ {w0}, Ext w0 w → w0.heap.size ≤ lo → Ext w0 w'),
      ⟨n - (k + 1), k + 1, T', rfl, by omega, by omega, h2, mid, hx2, E2⟩, ?_⟩
    rintro g' x junk w3 ⟨j, T3, rfl, hg', hkj, h3, mid3, hx3, E3⟩
    rw [bin_lss]
    refine cnd_dec (fun hlt' => ?_) (fun hge' => ?_)
    · have hj : j < n := by omega
      obtain ⟨z, hz⟩ := hd i j hki hin hkj hj
      have o1 := mid3.old i j (by omega)
      have o2 := mid3.old k k (by omega)
      have o3 := mid3.old i k (by omega)
      have o4 := mid3.old k j (by omega)
      have hbz : bl z.natAbs + 1 ≤ 2 * B := by
        have h1 := bl_quo b0 hz
        have h2 := bl_minor (hB i j) (hB k k) (hB i k) (hB k j)
        omega
      refine det_cell h3 mid3.sq (by omega) hin hj hx3 b0 (z := z) (by rw [o1, o2, o3, o4]; exact hz) (fun p q => by have := mid3.bd p q; omega) bb fun w4 h4 E4 hx4 => ?_
      rw [bin_addI1 (b := 1) (by omega)]
      exact ⟨g' - 1, by omega, j + 1, _, rfl, by omega, by omega, h4, mid3.put hin hki hkj hj hz hbz, hx4, fun he hs => E4 (E3 he hs) hs⟩
    · have hj : j = n := by omega
      subst hj
      rw [bin_addI1 (b := 1) (by omega)]
      exact ⟨g - 1, by omega, i + 1, T3, rfl, by omega, by omega, h3, mid3.next hki, hx3, E3⟩
  · have hin : i = n := by omega
    subst hin
    refine H w2 T' h2 mid.sq ?_ (mid.old k k (by omega)) mid.bd E2
    exact hn (tf T') fun p q h1 h2 h3 h4 => mid.new p q h1 h3 h4 (by omega)

/-- The pivot. -/
theorem det_pivot {Zero : World → Prop} {Next : Value → World → Prop} {lo hi n k : Nat} {v x16 : Value} {T : List (List Int)} {vs : List Value} {b s : Int} {d : Rat} {B : Nat} (h : TM w lo hi v T vs) (sq : Sq n T) (hk : k + 1 < n) (h8 : n ≤ 8) (hx : IntR w x16 b)
    (hs1 : s = 1 ∨ s = -1) (hI : BI n k (tf T) b s d) (hB : ∀ p q, bl (tf T p q).natAbs + 1 ≤ B)
    (H0 : d = 0 → Zero w)
    (H : ∀ w' T' vs' s', TM w' lo hi v T' vs' → Sq n T' → BI n k (tf T') b s' d → (s' = 1 ∨ s' = -1) → tf T' k k ≠ 0 → (∀ p q, bl (tf T' p q).natAbs + 1 ≤ B) → IntR w' x16 b → (∀ {w0}, Ext w0 w → w0.heap.size ≤ lo → Ext w0 w') → Next (.int .i64 s') w') :
    ixa P t_s_s_p_impl_integer v (.int .i64 (k : Int)) w fun x81 =>
    ld P t_s_p_impl_integer x81 w fun x82 =>
    ixa P t_s_p_impl_integer x82 (.int .i64 (k : Int)) w fun x84 =>
    ld P t_p_impl_integer x84 w fun x85 =>
    call P f_impl_integer_Sign [x85] w fun x86 w153 =>
    bin P .eql 3 false true x86 (.int .i64 0) w153 fun x87 =>
    cnd x87
      (bin P .add 3 false true (.int .i64 (k : Int)) (.int .i64 1) w153 fun x89 =>
      ∃ I156 : Nat → Value → Value → World → Prop, (∃ m197, I156 m197 (.int .i64 (-1)) x89 w153) ∧ ∀ (m159 : Nat) (x18 : Value) (x19 : Value) (junk157 : Env) (w158 : World), I156 m159 x18 x19 w158 →
        bin P .lss 3 false false x19 (.int .i64 (n : Int)) w158 fun x92 =>
        ∃ J163 : Value → World → Prop, (∀ (x95 : Value) (junk166 : Env) (w165 : World), J163 x95 w165 →
          pick x92 x95 (.bool false) fun x96 =>
          cnd x96
            (ixa P t_s_s_p_impl_integer v x19 w165 fun x101 =>
            ld P t_s_p_impl_integer x101 w165 fun x102 =>
            ixa P t_s_p_impl_integer x102 (.int .i64 (k : Int)) w165 fun x104 =>
            ld P t_p_impl_integer x104 w165 fun x105 =>
            call P f_impl_integer_Sign [x105] w165 fun x106 w173 =>
            bin P .neq 3 false true x106 (.int .i64 0) w173 fun x107 =>
            cnd x107
              (bin P .add 3 false true x19 (.int .i64 1) w173 fun x98 =>
              ∃ m176, m176 < m159 ∧ I156 m176 x19 x98 w173)
              (bin P .add 3 false true x19 (.int .i64 1) w173 fun x98 =>
              ∃ m178, m178 < m159 ∧ I156 m178 x18 x98 w173))
            (bin P .lss 3 false true x18 (.int .i64 0) w165 fun x110 =>
            cnd x110
              (Zero w165)
              (ixa P t_s_s_p_impl_integer v x18 w165 fun x118 =>
              ld P t_s_p_impl_integer x118 w165 fun x119 =>
              ixa P t_s_s_p_impl_integer v (.int .i64 (k : Int)) w165 fun x122 =>
              ld P t_s_p_impl_integer x122 w165 fun x123 =>
              ixa P t_s_s_p_impl_integer v (.int .i64 (k : Int)) w165 fun x124 =>
              sto P t_s_p_impl_integer x124 x119 w165 fun w191 =>
              ixa P t_s_s_p_impl_integer v x18 w191 fun x125 =>
              sto P t_s_p_impl_integer x125 x123 w191 fun w194 =>
              una P .neg (.int .i64 s) w194 fun x127 =>
              Next x127 w194))) ∧
          grd x92 true
            (bin P .lss 3 false true x18 (.int .i64 0) w158 fun x95 =>
            J163 x95 w158)
            (J163 undef w158))
      (Next (.int .i64 s) w153) := by
  have hl := sq.len
  have sg : ∀ m : Int, (m.sign = 0) = (m = 0) := fun m => by rw [Int.sign_eq_zero_iff_zero]
  refine TM.get h sq (by omega) (by omega) fun p1 i1 => ?_
  refine c_Sign i1 ?_
  rw [bin_eql]
  refine cnd_dec (fun hz => ?_) (fun hz => ?_)
  · rw [sg] at hz
    rw [bin_addI1 (b := 1) (by omega)]
    refine ⟨fun g x y w' => ∃ i : Nat, w' = w ∧ y = .int .i64 (i : Int) ∧ g + i = n ∧ k < i ∧ ((x = .int .i64 (-1) ∧ ∀ p, k ≤ p → p < i → tf T p k = 0) ∨ ∃ a : Nat, x = .int .i64 (a : Int) ∧ k < a ∧ a < n ∧ tf T a k ≠ 0),
      ⟨n - (k + 1), k + 1, rfl, rfl, by omega, by omega, .inl ⟨rfl, fun p h1 h2 => by rw [show p = k by omega]; exact hz⟩⟩, ?_⟩
    rintro g x y junk w2 ⟨i, rfl, rfl, hg, hki, hxi⟩
    rw [bin_lss]
    refine ⟨fun y w' => w' = w2 ∧ (i < n → (x = .int .i64 (-1) ∧ y = .bool true) ∨ ∃ a : Nat, x = .int .i64 (a : Int) ∧ y = .bool false), ?_, ?_⟩
    · rintro y junk w3 ⟨rfl, hy⟩
      have swap : ∀ a : Nat, x = .int .i64 (a : Int) → k < a → a < n → tf T a k ≠ 0 →
          (bin P .lss 3 false true x (.int .i64 0) w3 fun x110 =>
            cnd x110
              (Zero w3)
              (ixa P t_s_s_p_impl_integer v x w3 fun x118 =>
              ld P t_s_p_impl_integer x118 w3 fun x119 =>
              ixa P t_s_s_p_impl_integer v (.int .i64 (k : Int)) w3 fun x122 =>
              ld P t_s_p_impl_integer x122 w3 fun x123 =>
              ixa P t_s_s_p_impl_integer v (.int .i64 (k : Int)) w3 fun x124 =>
              sto P t_s_p_impl_integer x124 x119 w3 fun w191 =>
              ixa P t_s_s_p_impl_integer v x w191 fun x125 =>
              sto P t_s_p_impl_integer x125 x123 w191 fun w194 =>
              una P .neg (.int .i64 s) w194 fun x127 =>
              Next x127 w194)) := by
        rintro a rfl hka han hne
        refine lss_no (by omega) ?_
        rw [cnd_false]
        refine h.row (by omega) fun ra hra => ?_
        refine h.row (by omega) fun rk hrk => ?_
        refine h.swap2 sq (by omega) han (by omega) hrk hra fun w4 h4 E4 keep => ?_
        have hs : IntKind.i64.wrap (0 - s) = -s := by rcases hs1 with rfl | rfl <;> rfl
        rw [una_neg_int, hs]
        have e : tf (swapT T k a) = fun i j => tf T (if i = k then a else if i = a then k else i) j := by
          funext i j
          rw [tf_swap sq (by omega) han]
          congr 1
          split <;> split <;> (try split) <;> omega
        refine H w4 _ _ _ h4 (sq.swap (by omega) han) (by rw [e]; exact hI.swap hka han) (by omega) ?_ (fun p q => ?_) (keep _ _ hx) E4
        · rw [e]; simpa using hne
        · rw [e]; exact hB _ q
      by_cases hin : i < n
      · have hd : decide ((i : Int) < (n : Int)) = true := decide_eq_true (by omega)
        rcases hxi with ⟨rfl, hall⟩ | ⟨a, rfl, h1, h2, h3⟩
        · have hy1 : y = .bool true := by
            rcases hy hin with ⟨_, h1⟩ | ⟨a, h1, _⟩
            · exact h1
            · simp only [Value.int.injEq, true_and] at h1; omega
          rw [hy1, hd, pick_bool, cond_true, cnd_true]
          refine TM.get h sq hin (by omega) fun p2 i2 => ?_
          refine c_Sign i2 ?_
          rw [bin_neq]
          refine cnd_dec (fun hne => ?_) (fun heq => ?_)
          · rw [bin_addI1 (b := 1) (by omega)]
            refine ⟨g - 1, by omega, i + 1, rfl, rfl, by omega, by omega, .inr ⟨i, rfl, hki, hin, fun e => hne (by rw [sg]; exact e)⟩⟩
          · rw [bin_addI1 (b := 1) (by omega)]
            refine ⟨g - 1, by omega, i + 1, rfl, rfl, by omega, by omega, .inl ⟨rfl, fun p h1 h2 => ?_⟩⟩
            by_cases hp : p = i
            · rw [hp]
              have heq := Classical.not_not.1 heq
              rw [sg] at heq; exact heq
            · exact hall p h1 (by omega)
        · have hy1 : y = .bool false := by
            rcases hy hin with ⟨h1, _⟩ | ⟨b, _, h1⟩
            · simp only [Value.int.injEq, true_and] at h1; omega
            · exact h1
          rw [hy1, hd, pick_bool, cond_true, cnd_false]
          exact swap a rfl h1 h2 h3
      · have hd : decide ((i : Int) < (n : Int)) = false := decide_eq_false (by omega)
        rw [hd, pick_bool, cond_false, cnd_false]
        rcases hxi with ⟨rfl, hall⟩ | ⟨a, rfl, h1, h2, h3⟩
        · rw [bin_lss, decide_eq_true (by omega), cnd_true]
          exact H0 (hI.none (by omega) fun p h1 h2 => hall p h1 (by omega))
        · exact swap a rfl h1 h2 h3
    · refine grd_split (fun h3 => ?_) (fun h3 => ?_)
      · rcases hxi with ⟨rfl, hall⟩ | ⟨a, rfl, h1, h2, h4⟩
        · rw [bin_lss]
          exact ⟨rfl, fun _ => .inl ⟨rfl, by rw [decide_eq_true (by omega : (-1 : Int) < 0)]⟩⟩
        · rw [bin_lss]
          exact ⟨rfl, fun _ => .inr ⟨a, rfl, by rw [decide_eq_false (by omega : ¬ (a : Int) < 0)]⟩⟩
      · exact ⟨rfl, fun hin => by rw [decide_eq_true (by omega)] at h3; cases h3⟩
  · exact H w T vs s h sq hI hs1 (fun e => hz (by rw [sg]; exact e)) hB hx fun he _ => he
end Go.Proofs.Ytabgkpfcpncmhaa

/- Elimination: what it computes, and the data it works on. -/
set_option linter.unusedVariables false
namespace Go.Proofs.Ytabgkpfcpncmhaa
open Go Go.Vc

variable {w : World} {K : Value → World → Prop}

/-! ### what is computed -/
def swapL {α : Type} (l : List α) (i j : Nat) (d : α) : List α := (l.set i (l.getD j d)).set j (l.getD i d)
def sw (i j p : Nat) : Nat := if p = j then i else if p = i then j else p
@[simp] theorem swapL_length {α : Type} (l : List α) (i j : Nat) (d : α) : (swapL l i j d).length = l.length := by simp [swapL]
theorem swapL_get {α : Type} {l : List α} {i j : Nat} {d : α} (hi : i < l.length) (hj : j < l.length) (p : Nat) : (swapL l i j d)[p]? = l[sw i j p]? := by
  unfold swapL sw
  rw [List.getElem?_set]
  by_cases h1 : j = p
  · subst h1
    simp [hi, hj]
  · rw [if_neg h1, List.getElem?_set, if_neg (fun e : p = j => h1 e.symm)]
    by_cases h2 : i = p
    · subst h2
      simp [hi, hj]
    · rw [if_neg h2, if_neg (fun e : p = i => h2 e.symm)]
theorem swapL_comm {α : Type} {l : List α} {i j : Nat} {d : α} (hi : i < l.length) (hj : j < l.length) : (l.set j (l.getD i d)).set i (l.getD j d) = swapL l i j d := by
  apply List.ext_getElem?
  intro p
  rw [swapL_get hi hj]
  have := swapL_get (d := d) hj hi p
  unfold swapL at this
  rw [this]
  unfold sw
  by_cases h1 : p = i
  · subst h1
    by_cases h2 : p = j
    · subst h2; rfl
    · rw [if_pos rfl, if_neg h2, if_pos rfl]
  · by_cases h2 : p = j
    · subst h2; rw [if_neg h1, if_pos rfl, if_pos rfl]
    · rw [if_neg h1, if_neg h2, if_neg h2, if_neg h1]

def szF (a : Nat) : Nat := if Ieee.single.order a 0 == some .lt then Op.negFloat .f32 a else a
def absF (a : Nat) : Nat := if Ieee.single.order a 0 == some .lt then Op.negFloat .f32 a else if Ieee.single.order a 0 == some .eq then 0 else a
def gtF (a b : Nat) : Bool := Ieee.single.order (szF a) (szF b) == some .gt
def isZ (a : Nat) : Bool := Ieee.single.order a 0 == some .eq

theorem signed_zero (s : Bool) (k : Nat) : Ieee.signed s 0 k = 0 := by unfold Ieee.signed; cases s <;> simp
theorem signed_eq_zero {s : Bool} {m k : Nat} (h : Ieee.signed s m k = 0) : m = 0 := by
  unfold Ieee.signed at h
  have h1 : m <<< k = 0 := by cases s <;> simp at h <;> simpa using h
  rw [Nat.shiftLeft_eq] at h1
  rcases Nat.mul_eq_zero.1 h1 with h | h
  · exact h
  · exact absurd h (Nat.pos_iff_ne_zero.1 (Nat.two_pow_pos k))
theorem read_isZ {a : Nat} (ha : Fin Ieee.single a) (h : isZ a = true) : ∃ s e, Ieee.single.read a = .number s 0 e ∧ Ieee.single.read 0 = .number false 0 e := by
  have h0 : Ieee.single.read 0 = .number false 0 Ieee.single.leastPlace := by decide
  obtain ⟨m, e, hr⟩ := read_fin ha
  have hm : m = 0 := by
    unfold isZ Ieee.Format.order at h
    rw [h0, hr] at h
    simp only [Ieee.Datum.order, signed_zero, beq_iff_eq, Option.some.injEq] at h
    exact signed_eq_zero (by simpa using h)
  subst hm
  refine ⟨_, e, hr, ?_⟩
  rw [h0]
  unfold Ieee.Format.read at hr
  simp only [] at hr
  have hlt : a % Ieee.single.signWeight < Ieee.single.infRung := ha
  by_cases hb : a % Ieee.single.signWeight < Ieee.single.binade
  · rw [if_pos hb] at hr
    simp only [Ieee.Datum.number.injEq] at hr
    rw [hr.2.2]
  · rw [if_neg hb, if_pos hlt] at hr
    simp only [Ieee.Datum.number.injEq] at hr
    have := hr.2.1
    have hb0 : 0 < Ieee.single.binade := by decide
    omega
theorem order_zl {a : Nat} (ha : Fin Ieee.single a) (h : isZ a = true) (y : Nat) : Ieee.single.order a y = Ieee.single.order 0 y := by
  obtain ⟨s, e, h1, h2⟩ := read_isZ ha h
  unfold Ieee.Format.order
  rw [h1, h2]
  cases Ieee.single.read y <;> simp [Ieee.Datum.order, signed_zero]
theorem order_zr {a : Nat} (ha : Fin Ieee.single a) (h : isZ a = true) (y : Nat) : Ieee.single.order y a = Ieee.single.order y 0 := by
  obtain ⟨s, e, h1, h2⟩ := read_isZ ha h
  unfold Ieee.Format.order
  rw [h1, h2]
  cases Ieee.single.read y <;> simp [Ieee.Datum.order, signed_zero]
theorem absF_szF {a : Nat} : absF a = szF a ∨ (isZ a = true ∧ absF a = 0 ∧ szF a = a) := by
  unfold absF szF isZ
  cases h : Ieee.single.order a 0 with
  | none => simp
  | some o => cases o <;> simp
theorem gt_abs {a b : Nat} (ha : Fin Ieee.single a) (hb : Fin Ieee.single b) : (Ieee.single.order (absF a) (absF b) == some .gt) = gtF a b := by
  unfold gtF
  rcases absF_szF (a := a) with h1 | ⟨z1, h1, e1⟩
  · rcases absF_szF (a := b) with h2 | ⟨z2, h2, e2⟩
    · rw [h1, h2]
    · rw [h1, h2, e2, order_zr hb z2]
  · rcases absF_szF (a := b) with h2 | ⟨z2, h2, e2⟩
    · rw [h1, h2, e1, order_zl ha z1]
    · rw [h1, h2, e1, e2, order_zl ha z1, order_zr hb z2]
theorem gtF_self (a : Nat) : gtF a a = false := by
  unfold gtF Ieee.Format.order
  cases Ieee.single.read (szF a) <;> simp [Ieee.Datum.order]

theorem c_spec_l01Abs {a : Nat} (H : K (fl (absF a)) w) : call P f_spec_l01Abs [fl a] w K := by
  refine I_spec_l01Abs ?_
  unfold D_spec_l01Abs
  rw [bin_flss]
  unfold absF at H
  refine cnd_split (fun h => ?_) (fun h => ?_)
  · rw [show (Ieee.single.order a 0 == some .lt) = true from h, if_pos rfl] at H
    rw [una_neg_float]; exact H
  · rw [show (Ieee.single.order a 0 == some .lt) = false from h, if_neg (by simp)] at H
    rw [bin_feql]
    refine cnd_split (fun h => ?_) (fun h => ?_)
    · rw [show (Ieee.single.order a 0 == some .eq) = true from h, if_pos rfl] at H
      exact H
    · rw [show (Ieee.single.order a 0 == some .eq) = false from h, if_neg (by simp)] at H
      exact H

def bestF (m : List (List Nat)) (k : Nat) : Nat → Nat → Nat → Nat
  | 0, _, b => b
  | f + 1, i, b => bestF m k f (i + 1) (if gtF (cell m i k) (cell m b k) then i else b)
/-- The row below a pivot: its columns from j on. -/
def colsE (p : List Nat) (q : Nat) : Nat → Nat → List Nat → Option (List Nat)
  | 0, _, r => some r
  | f + 1, j, r => if finB (opF .sub (r.getD j 0) (opF .mul q (p.getD j 0))) then colsE p q f (j + 1) (r.set j (opF .sub (r.getD j 0) (opF .mul q (p.getD j 0)))) else none
def rowE (n k : Nat) (p r : List Nat) : Option (List Nat) :=
  if finB (opF .quo (r.getD k 0) (p.getD k 0)) then colsE p (opF .quo (r.getD k 0) (p.getD k 0)) (n - (k + 1)) (k + 1) (r.set k (opF .quo (r.getD k 0) (p.getD k 0))) else none
def rowsE (n k : Nat) : Nat → Nat → List (List Nat) → Option (List (List Nat))
  | 0, _, m => some m
  | f + 1, i, m => match rowE n k (m.getD k []) (m.getD i []) with
    | none => none
    | some r => rowsE n k f (i + 1) (m.set i r)
def elimE (n : Nat) : Nat → Nat → List Nat → List (List Nat) → Except Int (List Nat × List (List Nat))
  | 0, _, o, m => .ok (o, m)
  | f + 1, k, o, m =>
    if isZ (cell (swapL m k (bestF m k (n - k) k k) []) k k) then .error 5
    else match rowsE n k (n - (k + 1)) (k + 1) (swapL m k (bestF m k (n - k) k k) []) with
      | none => .error 3
      | some m' => elimE n f (k + 1) (swapL o k (bestF m k (n - k) k k) 0) m'
def elimF (m : List (List Nat)) : Except Int (List Nat × List (List Nat)) := elimE m.length m.length 0 (List.range m.length) m

theorem bestF_start {m : List (List Nat)} {k n : Nat} (h : k < n) : bestF m k (n - k) k k = bestF m k (n - (k + 1)) (k + 1) k := by
  have : n - k = (n - (k + 1)) + 1 := by omega
  rw [this, bestF, gtF_self]; simp
theorem bestF_range {m : List (List Nat)} {k n : Nat} : ∀ {f i b : Nat}, f + i ≤ n → b < n → k ≤ b → k ≤ i → bestF m k f i b < n ∧ k ≤ bestF m k f i b
  | 0, i, b, h1, h2, h3, h4 => ⟨h2, h3⟩
  | f + 1, i, b, h1, h2, h3, h4 => by
    rw [bestF]
    refine bestF_range (by omega) ?_ ?_ (by omega) <;> split <;> omega

/-- What is true of the table all along. -/
structure Good (n : Nat) (m : List (List Nat)) : Prop where
  sq : square n m
  fin : ∀ r ∈ m, r.all finB = true
  lt : bits m
theorem Good.cellFin {n : Nat} {m : List (List Nat)} (h : Good n m) (i j : Nat) : finB (cell m i j) = true := cell_fin h.fin i j
theorem Good.len {n : Nat} {m : List (List Nat)} (h : Good n m) : m.length = n := h.sq.1
theorem Good.row {n : Nat} {m : List (List Nat)} (h : Good n m) {i : Nat} (hi : i < m.length) : m[i].length = n := h.sq.row hi
theorem Good.set {n : Nat} {m : List (List Nat)} (h : Good n m) (i : Nat) {r : List Nat} (h1 : r.length = n) (h2 : r.all finB = true) (h3 : ∀ b ∈ r, b < 4294967296) : Good n (m.set i r) := by
  refine ⟨⟨by rw [List.length_set]; exact h.sq.1, fun x hx => ?_⟩, fun x hx => ?_, fun x hx => ?_⟩
  all_goals
    rcases List.mem_or_eq_of_mem_set hx with hx | rfl
    · first | exact h.sq.2 x hx | exact h.fin x hx | exact h.lt x hx
    · first | exact h1 | exact h2 | exact h3
theorem mem_swapL {α : Type} {l : List α} {i j : Nat} {d x : α} (hi : i < l.length) (hj : j < l.length) (hx : x ∈ swapL l i j d) : x ∈ l := by
  obtain ⟨p, hp⟩ := List.mem_iff_getElem?.1 hx
  rw [swapL_get hi hj] at hp
  exact List.mem_iff_getElem?.2 ⟨_, hp⟩
theorem Good.swap {n : Nat} {m : List (List Nat)} (h : Good n m) {i j : Nat} (hi : i < m.length) (hj : j < m.length) : Good n (swapL m i j []) :=
  ⟨⟨by rw [swapL_length]; exact h.sq.1, fun x hx => h.sq.2 x (mem_swapL hi hj hx)⟩, fun x hx => h.fin x (mem_swapL hi hj hx), fun x hx => h.lt x (mem_swapL hi hj hx)⟩
theorem all_set {r : List Nat} {j x : Nat} (h : r.all finB = true) (hx : finB x = true) : (r.set j x).all finB = true := by
  rw [List.all_eq_true] at *
  intro b hb
  rcases List.mem_or_eq_of_mem_set hb with hb | rfl
  · exact h b hb
  · exact hx
theorem lt_set {r : List Nat} {j x : Nat} (h : ∀ b ∈ r, b < 4294967296) (hx : x < 4294967296) : ∀ b ∈ r.set j x, b < 4294967296 := by
  intro b hb
  rcases List.mem_or_eq_of_mem_set hb with hb | rfl
  · exact h b hb
  · exact hx
theorem colsE_step {p r : List Nat} {q n j : Nat} (h : j < n) : colsE p q (n - j) j r = if finB (opF .sub (r.getD j 0) (opF .mul q (p.getD j 0))) then colsE p q (n - (j + 1)) (j + 1) (r.set j (opF .sub (r.getD j 0) (opF .mul q (p.getD j 0)))) else none := by
  rw [show n - j = (n - (j + 1)) + 1 by omega, colsE]
theorem colsE_end {p r : List Nat} {q n j : Nat} (h : n ≤ j) : colsE p q (n - j) j r = some r := by
  rw [show n - j = 0 by omega, colsE]
theorem rowsE_step {n k i : Nat} {m : List (List Nat)} (h : i < n) : rowsE n k (n - i) i m = match rowE n k (m.getD k []) (m.getD i []) with
    | none => none
    | some r => rowsE n k (n - (i + 1)) (i + 1) (m.set i r) := by
  rw [show n - i = (n - (i + 1)) + 1 by omega, rowsE]
theorem rowsE_end {n k i : Nat} {m : List (List Nat)} (h : n ≤ i) : rowsE n k (n - i) i m = some m := by
  rw [show n - i = 0 by omega, rowsE]
theorem elimE_step {n k : Nat} {o : List Nat} {m : List (List Nat)} (h : k < n) : elimE n (n - k) k o m = if isZ (cell (swapL m k (bestF m k (n - k) k k) []) k k) then .error 5
    else match rowsE n k (n - (k + 1)) (k + 1) (swapL m k (bestF m k (n - k) k k) []) with
      | none => .error 3
      | some m' => elimE n (n - (k + 1)) (k + 1) (swapL o k (bestF m k (n - k) k k) 0) m' := by
  rw [show elimE n (n - k) k o m = elimE n ((n - (k + 1)) + 1) k o m by rw [show n - k = (n - (k + 1)) + 1 by omega], elimE]
theorem elimE_end {n k : Nat} {o : List Nat} {m : List (List Nat)} (h : n ≤ k) : elimE n (n - k) k o m = .ok (o, m) := by
  rw [show n - k = 0 by omega, elimE]
end Go.Proofs.Ytabgkpfcpncmhaa

/- Elimination: an elimination's data in the heap, and what its steps do to them. -/
set_option linter.unusedVariables false
namespace Go.Proofs.Ytabgkpfcpncmhaa
open Go Go.Vc

variable {w : World} {K : Value → World → Prop}

abbrev ivN (n : Nat) : Value := .int .i64 (n : Int)
abbrev OI (w : World) (base : Nat) (v : Value) (l : List Nat) : Prop := w.ownsRow base t_int64 1 v l.length (l.map ivN)
theorem oneCell_iv (n : Nat) : (ivN n).oneCell' = true := rfl

section
variable {lo hi : Nat} {v : Value} {m : List (List Nat)} {vs : List Value}
theorem OM.keep {w' : World} {row : Option Nat} {e : TypeId} (h : OM w lo hi v m vs) (hg : w.grownBy w' row) (ht : Ty w row e) (h1 : t_s_float32 ≠ e) (h2 : t_float32 ≠ e) : OM w' lo hi v m vs :=
  ⟨keep_row h.outer hg ht h1, fun i hi => let ⟨x, hx, ho, hk⟩ := h.rows i hi; ⟨x, hx, keep_row ho hg ht h2, hk⟩, h.apart, h.top⟩
theorem OM.pushed {w' : World} {v' : Value} {hi2 : Nat} {r : Value} {l : List Nat} (h : OM w lo hi v m vs) (hr : OwnR w hi hi2 t_float32 1 r l.length (l.map fl)) (hlh : lo ≤ hi)
    (h1 : w'.ownsRow lo t_s_float32 1 v' (m.length + 1) (vs ++ [r])) (h2 : w.grownBy w' v.ownBlock) : OM w' lo w'.heap.size v' (m ++ [l]) (vs ++ [r]) := by
  refine ⟨by simpa using h1, fun i hi' => ?_, fun i j x y hij hx hy => ?_, fun k hk => (h1.lt k hk).2⟩
  · by_cases he : i < m.length
    · obtain ⟨x, hx, ho, hk⟩ := h.rows i he
      have hv : i < vs.length := (List.getElem?_eq_some_iff.1 hx).1
      refine ⟨x, by rw [List.getElem?_append_left hv]; exact hx, ?_, fun k hkk => ?_⟩
      · rw [List.getElem_append_left he]
        exact ho.kept h2 (owns_ne ho h.outer (by decide))
      · have := (ho.lt k hkk).2
        have := h2.size
        omega
    · have hi'' : i = m.length := by simp at hi'; omega
      subst hi''
      refine ⟨r, by rw [← h.vlen]; simp, ?_, fun k hkk => ?_⟩
      · rw [List.getElem_append_right (Nat.le_refl _)]
        simp only [Nat.sub_self, List.getElem_cons_zero]
        exact owns_base (hr.own.kept h2 (owns_ne hr.own h.outer (by decide))) hlh
      · have := (hr.own.lt k hkk).2
        have := h2.size
        omega
  · by_cases he : j < vs.length
    · rw [List.getElem?_append_left he] at hy
      rw [List.getElem?_append_left (by omega)] at hx
      exact h.apart i j x y hij hx hy
    · have hjl := (List.getElem?_eq_some_iff.1 hy).1
      have : j = vs.length := by simp at hjl; omega
      subst this
      simp at hy; subst hy
      rw [List.getElem?_append_left hij] at hx
      have hvl := h.vlen
      obtain ⟨x', hx', ho', hk'⟩ := h.rows i (by omega)
      rw [hx] at hx'; cases hx'
      cases hob : x.ownBlock with
      | none => exact .inl rfl
      | some k =>
        refine .inr fun hne => ?_
        have h1 := hk' k hob
        have h2 := (hr.own.lt k hne.symm).1
        omega
theorem OM.bound (h : OM w lo hi v m vs) : m.length ≤ maxLen := owns_bound h.outer
theorem sw_sw (i j p : Nat) : sw i j (sw i j p) = p := by
  unfold sw
  by_cases e1 : p = j
  · subst e1
    rw [if_pos rfl]
    by_cases e2 : i = p
    · rw [if_pos e2]; exact e2
    · rw [if_neg e2, if_pos rfl]
  · rw [if_neg e1]
    by_cases e2 : p = i
    · subst e2
      rw [if_pos rfl, if_pos rfl]
    · rw [if_neg e2, if_neg e1, if_neg e2]
/-- The outer row's cells change places. -/
theorem OM.perm {w' : World} {i j : Nat} {n : Nat} (h : OM w lo hi v m vs) (hi' : i < m.length) (hj' : j < m.length) (hn : n = m.length) (ho : w'.ownsRow lo t_s_float32 1 v n (swapL vs i j undef)) (hg : w.grownBy w' v.ownBlock) : OM w' lo hi v (swapL m i j []) (swapL vs i j undef) := by
  subst hn
  have hvl := h.vlen
  have hgv := fun p => swapL_get (l := vs) (d := undef) (i := i) (j := j) (by omega) (by omega) p
  have hgm := fun p => swapL_get (l := m) (d := []) (i := i) (j := j) hi' hj' p
  have hsw : ∀ p, p < m.length → sw i j p < m.length := by
    intro p hp
    unfold sw
    by_cases e1 : p = j
    · rw [if_pos e1]; exact hi'
    · rw [if_neg e1]
      by_cases e2 : p = i
      · rw [if_pos e2]; exact hj'
      · rw [if_neg e2]; exact hp
  have hinj : ∀ p q, p ≠ q → sw i j p ≠ sw i j q := fun p q hne he => hne (by rw [← sw_sw i j p, he, sw_sw])
  refine ⟨by rw [swapL_length]; exact ho, fun p hp => ?_, fun p q x y hpq hx hy => ?_, h.top⟩
  · have hp' : p < m.length := by simpa using hp
    obtain ⟨x, hx, hox, hk⟩ := h.rows (sw i j p) (hsw p hp')
    refine ⟨x, by rw [hgv]; exact hx, ?_, hk⟩
    have e : (swapL m i j [])[p] = m[sw i j p]'(hsw p hp') := by
      have := hgm p
      rw [List.getElem?_eq_getElem hp, List.getElem?_eq_getElem (hsw p hp')] at this
      exact Option.some.inj this
    rw [e]
    exact hox.kept hg (owns_ne hox h.outer (by decide))
  · rw [hgv] at hx hy
    rcases Nat.lt_or_ge (sw i j p) (sw i j q) with hlt | hge
    · exact h.apart _ _ x y hlt hx hy
    · have hne := hinj p q (by omega)
      rcases h.apart _ _ y x (by omega) hy hx with h1 | h1
      · cases hob : x.ownBlock with
        | none => exact .inl rfl
        | some k => exact .inr (by rw [h1]; simp)
      · exact .inr fun e => h1 e.symm
theorem OM.put' {i j : Nat} {r : Value} {x : Nat} {K : World → Prop} (h : OM w lo hi v m vs) (hr : vs[i]? = some r) (hi' : i < m.length) (hj : j < m[i].length)
    (H : ∀ w', OM w' lo hi v (m.set i (m[i].set j x)) vs → w.grownBy w' r.ownBlock → Ty w r.ownBlock t_float32 → (∀ k, r.ownBlock = some k → lo ≤ k) → K w') :
    ixa P t_s_float32 r (.int .i64 (j : Int)) w (fun a => sto P t_float32 a (fl x) w K) := by
  obtain ⟨r', hr', ho, hk⟩ := h.rows i hi'
  rw [hr] at hr'; cases hr'
  refine owns_set ho hj (oneCell_fl _) u_s_float32 i_float32 fun w' ho' hg => ?_
  have e : OS w' lo r (m[i].set j x) := by
    show w'.ownsRow lo t_float32 1 r (m[i].set j x).length ((m[i].set j x).map fl)
    rw [List.length_set, List.map_set]; exact ho'
  exact H w' (h.row hr hg e).1 hg (Ty.owns ho) fun k hk => (ho.lt k hk).1
theorem OM.atI (h : OM w lo hi v m vs) {i : Nat} (hi' : i < m.length) {K : Value → Prop} (H : ∀ r, vs[i]? = some r → K r) : ixa P t_s_s_float32 v (.int .i64 (i : Int)) w (fun a => ld P t_s_float32 a w K) :=
  h.at hi' fun r hr _ => H r hr
theorem OM.rowAt (h : OM w lo hi v m vs) {i j : Nat} {r : Value} (hr : vs[i]? = some r) (hi' : i < m.length) (hj : j < m[i].length) {K : Value → Prop} (H : K (fl m[i][j])) : ixa P t_s_float32 r (.int .i64 (j : Int)) w (fun a => ld P t_float32 a w K) := by
  obtain ⟨r', hr', ho, hk⟩ := h.rows i hi'
  rw [hr] at hr'; cases hr'
  exact (owns_Row ho).at1 (get_map hj) u_s_float32 i_float32 u_float32 rfl H
end

section
variable {B : Nat} {p q ov tv : Value} {o : List Nat} {m : List (List Nat)} {vs : List Value}
end
end Go.Proofs.Ytabgkpfcpncmhaa

/- Elimination: the program's. -/
set_option linter.unusedVariables false
namespace Go.Proofs.Ytabgkpfcpncmhaa
open Go Go.Vc

variable {w : World} {K : Value → World → Prop}

theorem FSS.at0 {v : Value} {m : List (List Nat)} {w' : World} (h : FSS w v m) (he : Ext w w') {i : Nat} (hi : i < m.length) {K : Value → Prop} (H : ∀ x, FS w x m[i] → K x) : ixa P t_s_s_float32 v (.int .i64 (i : Int)) w' (fun a => ld P t_s_float32 a w' K) := by
  obtain ⟨vs, h1, h2⟩ := h.ex
  obtain ⟨x, hx, hf⟩ := h2 i hi
  exact (h1.ext he).at1 hx u_s_s_float32 i_s_float32 u_s_float32 rfl (H x hf)

/-- A field of one cell, with its address. -/
theorem Bx_fld2 {base : Nat} {t ty : TypeId} {p : Value} {cs : List Value} {z : Value} {b : Nat} {d : TypeDesc} {fs : Array Field} {f off : Nat} {x : Value} {K : Value → Value → Prop} (h : Bx w base t p cs) (hx : cs[off]? = some x) (hu : P.underlying t = some (.struct fs))
    (hf : (fs[f]?).map (fun x => (x.type, x.offset)) = some (ty, off)) (ht : TI P ty z 1 b) (hue : P.underlying ty = some d) (hd : aggB d = false)
    (H : ∀ a, (∀ {w' base' cs'}, Bx w' base' t p cs' → ∀ {K' : Value → Prop}, K' a → fda P t p f w' K') → (∀ {w' base' cs' y}, Bx w' base' t p cs' → cs'[off]? = some y → ∀ {K' : Value → Prop}, K' y → ld P ty a w' K') → K a x) :
    fda P t p f w (fun a => ld P ty a w (fun x => K a x)) := by
  obtain ⟨g, rfl, hc⟩ := h.cell
  have e0 : ∀ {w' : World} {K' : Value → Prop}, fda P t (.pointer (some ⟨g, 0, none⟩)) f w' K' = K' (.pointer (some ⟨g, off, none⟩)) := by
    intro w' K'
    rw [fda_off hu hf ht (by decide), Addr.add_lit, Nat.zero_add]
  rw [e0, ld_scalar hue hd (hc off x hx).1]
  refine H _ (fun h' K' hk => by rw [e0]; exact hk) (fun {w' base' cs' y} h' hy K' hk => ?_)
  obtain ⟨g', hg', hc'⟩ := h'.cell
  simp only [Value.pointer.injEq, Option.some.injEq, Addr.mk.injEq] at hg'
  obtain ⟨rfl, _⟩ := hg'
  rw [ld_scalar hue hd (hc' off y hy).1]; exact hk

theorem nb1 {b : Bool} (h : (!b) = true) : b = false := by simpa using h
theorem nb0 {b : Bool} (h : (!b) = false) : b = true := by simpa using h
theorem bslF0 {KW : Value → World → Prop} (H : ∀ w', Ext w w' → KW (.slice (some ⟨w.heap.size, 0, none⟩) 0 0) w') : bsl P t_s_float32 0 [] w KW := bsl_nil u_s_float32 i_float32 (H _ (Ext_alloc _ _))
theorem one2 {a b : Value} (ha : a.oneCell' = true) (hb : b.oneCell' = true) : ∀ x ∈ [a, b], x.oneCell' = true := by
  intro x hx
  simp at hx
  rcases hx with rfl | rfl
  · exact ha
  · exact hb
abbrev nilS : Value := .slice none 0 0
/-- One step of elimination in a row. -/
theorem step_sub {a b s p q : Nat} (ha : finB a = true) (hb : finB b = true) (hs : finB s = true) (hp : FR .mul .f32 a b p) (hq : FR .sub .f32 s p q) : p = opF .mul a b ∧ q = opF .sub s (opF .mul a b) ∧ (finB p = true ∨ finB p = false ∧ finB q = false) := by
  rw [finB_iff] at ha hb hs
  have hm := mul_fin (k := .f32) ha hb
  have e := FR_opF hp hm
  refine ⟨e, ?_⟩
  by_cases hf : Fin Ieee.single p
  · refine ⟨?_, .inl (finB_iff.2 hf)⟩
    rw [← e]
    exact FR_opF hq (sub_fin (k := .f32) hs hf)
  · refine ⟨?_, .inr ⟨finB_not.2 hf, finB_not.2 (sub_bad (k := .f32) hs hf hq)⟩⟩
    rw [← e]
    have hn : ¬ NaN Ieee.single p := by rw [e]; exact opF_nan hm
    rcases fin_inf_nan Ieee.single p with h | h | h
    · exact absurd h hf
    · have hread := read_inf hs1 h
      obtain ⟨m, e', h1⟩ := read_fin hs
      have : floatBits .sub .f32 s p = some (Ieee.single.write (.infinity (!(p / Ieee.single.signWeight % 2 == 1)))) := by
        show Ieee.single.sub s p = _
        unfold Ieee.Format.sub; rw [h1, hread]; rfl
      rw [FR_some hq this]
      unfold opF
      rw [this]; rfl
    · exact absurd h hn
theorem quo_ok {a b q : Nat} (ha : finB a = true) (hb : finB b = true) (hz : isZ b = false) (hq : FR .quo .f32 a b q) : q = opF .quo a b := by
  rw [finB_iff] at ha hb
  exact FR_opF hq (div_def (k := .f32) ha hb (by
    intro h
    unfold isZ at hz
    rw [show Ieee.single.order b 0 = some .eq from h] at hz
    simp at hz))

theorem Good.of {m : List (List Nat)} (h : matB m = true) (hb : bits m) : Good m.length m := by
  obtain ⟨h1, h2, h3⟩ := matB_parts h
  exact ⟨⟨rfl, fun r hr => (h1 r hr).1⟩, fun r hr => (h1 r hr).2, hb⟩
theorem cell_getD {m : List (List Nat)} {i j : Nat} (h : i < m.length) (h' : j < m[i].length) : (m.getD i []).getD j 0 = m[i][j] := cell_get h h'
theorem getD_lt {m : List (List Nat)} {i : Nat} (h : i < m.length) : m.getD i [] = m[i] := by simp [h]
theorem getDn {l : List Nat} {i : Nat} (h : i < l.length) : l.getD i 0 = l[i] := by simp [h]
theorem set_row {m : List (List Nat)} {i j x : Nat} {r : List Nat} (h : i < m.length) (h' : i < (m.set i r).length) : (m.set i r).set i ((m.set i r)[i].set j x) = m.set i (r.set j x) := by
  rw [List.getElem_set_self, List.set_set]

end Go.Proofs.Ytabgkpfcpncmhaa

/- Elimination: the reference's. -/
set_option linter.unusedVariables false
namespace Go.Proofs.Ytabgkpfcpncmhaa
open Go Go.Vc

variable {w : World} {K : Value → World → Prop}

theorem swapL_symm {α : Type} {l : List α} {i j : Nat} {d : α} (hi : i < l.length) (hj : j < l.length) : swapL l j i d = swapL l i j d := by
  rw [← swapL_comm hi hj]; rfl

end Go.Proofs.Ytabgkpfcpncmhaa

/- The interface for lists of whole numbers and eliminations. -/
set_option linter.unusedVariables false
namespace Go.Proofs.Ytabgkpfcpncmhaa
open Go Go.Vc

variable {w : World} {K : Value → World → Prop} {lo hi : Nat} {v : Value}

/-! ### lists of whole numbers -/
abbrev vI (n : Int) : Value := .int .i64 n
def FI (w : World) (v : Value) (l : List Int) : Prop := Row 1 w v l.length (l.map vI)
theorem FI.ext {w' : World} {l : List Int} (h : FI w v l) (he : Ext w w') : FI w' v l := Row.ext h he
abbrev OIR (w : World) (lo hi : Nat) (v : Value) (l : List Int) : Prop := OwnR w lo hi t_int64 1 v l.length (l.map vI)
theorem OIR.FI {l : List Int} (h : OIR w lo hi v l) : FI w v l := owns_Row h.own
def mkI (k : Int) (n : Nat) : List Int := (List.range n).map (fun j => k + (j : Nat))
@[simp] theorem mkI_length (k : Int) (n : Nat) : (mkI k n).length = n := by simp [mkI]
theorem mkI_get (k : Int) (n i : Nat) (h : i < (mkI k n).length) : (mkI k n)[i] = k + (i : Nat) := by simp [mkI]

theorem c_eqInt64S {u : Value} {l : List Int} (hu : FI w u l) (hv : FI w v l) (H : K (.bool true) w) : call P f_laws_eqInt64S [u, v] w K := by
  refine I_laws_eqInt64S ?_
  unfold D_laws_eqInt64S
  have hb := hu.bound
  simp only [maxLen] at hb
  rw [Row.len hu u_s_int64, Row.len hv u_s_int64, bin_neq]
  refine cnd_no (by simp) ?_
  refine ⟨fun m x w' => w' = w ∧ ∃ i : Nat, x = .int .i64 i ∧ m + i = l.length, ⟨l.length, rfl, 0, rfl, by omega⟩, ?_⟩
  rintro m x junk w' ⟨rfl, i, rfl, hm⟩
  rw [Row.len hu u_s_int64, bin_lss]
  refine cnd_dec (fun hlt => ?_) (fun hge => H)
  have hi : i < l.length := by omega
  refine Row.at1 hu (get_map hi) u_s_int64 i_int64 u_int64 rfl ?_
  refine Row.at1 hv (get_map hi) u_s_int64 i_int64 u_int64 rfl ?_
  refine neq_no rfl ?_
  rw [cnd_false, bin_add]
  refine ⟨m - 1, by omega, rfl, i + 1, ?_, by omega⟩
  rw [wrap_i64 (by omega) (by omega)]; rfl

theorem c_markInt64S {l : List Int} {k : Int} (h : OIR w lo hi v l) (h0 : 0 ≤ k) (h1 : k + l.length ≤ 4611686018427387904) (H : ∀ w', OIR w' lo hi v (mkI k l.length) → w.grownBy w' v.ownBlock → K (.int .i64 (k + l.length)) w') :
    call P f_laws_markInt64S [v, .int .i64 k] w K := by
  refine I_laws_markInt64S ?_
  unfold D_laws_markInt64S
  refine ⟨fun g x y w' => w.grownBy w' v.ownBlock ∧ ∃ i : Nat, y = .int .i64 i ∧ x = .int .i64 (k + i) ∧ g + i = l.length ∧ w'.ownsRow lo t_int64 1 v l.length ((mkI k i).map vI ++ (l.map vI).drop i),
    ⟨l.length, World.grownBy.refl _ _, 0, rfl, by simp, by omega, by simpa [mkI] using h.own⟩, ?_⟩
  rintro g x y junk w2 ⟨hg, i, rfl, rfl, hm, ho⟩
  rw [(owns_Row ho).len u_s_int64, bin_lss]
  refine cnd_dec (fun hlt => ?_) (fun hge => ?_)
  · have hi : i < l.length := by omega
    refine owns_set ho hi (x := vI (k + i)) rfl u_s_int64 i_int64 fun w3 ho3 hg3 => ?_
    rw [bin_add, bin_add, wrap_i64 (by omega) (by omega), wrap_i64 (by omega) (by omega)]
    refine ⟨g - 1, by omega, grown_trans hg hg3, i + 1, rfl, by congr 1; omega, by omega, ?_⟩
    have e : ((mkI k i).map vI ++ (l.map vI).drop i).set i (vI (k + i)) = (mkI k (i + 1)).map vI ++ (l.map vI).drop (i + 1) := by
      rw [List.set_append_right _ _ (by simp)]
      simp only [List.length_map, mkI_length, Nat.sub_self]
      have hd : (l.map vI).drop i = vI l[i] :: (l.map vI).drop (i + 1) := by
        rw [List.drop_eq_getElem_cons (by simpa using hi)]; simp
      rw [hd, List.set_cons_zero]
      have : mkI k (i + 1) = mkI k i ++ [k + i] := by simp [mkI, List.range_succ]
      rw [this]; simp
    rw [e] at ho3; exact ho3
  · have hi : i = l.length := by omega
    subst hi
    have e : (l.map vI).drop l.length = [] := by simp
    rw [e, List.append_nil] at ho
    refine H _ ⟨?_, h.top⟩ hg
    rw [mkI_length]; exact ho

theorem c_heldInt64S {k : Int} {n : Nat} (h : FI w v (mkI k n)) (h0 : 0 ≤ k) (h1 : k + n ≤ 4611686018427387904) (H : K (.int .i64 (k + n)) w) : call P f_laws_heldInt64S [v, .int .i64 k] w K := by
  refine I_laws_heldInt64S ?_
  unfold D_laws_heldInt64S
  refine ⟨fun g x y w' => w' = w ∧ ∃ i : Nat, y = .int .i64 i ∧ x = .int .i64 (k + i) ∧ g + i = n, ⟨n, rfl, 0, rfl, by simp, by omega⟩, ?_⟩
  rintro g x y junk w2 ⟨rfl, i, rfl, rfl, hm⟩
  rw [Row.len h u_s_int64, mkI_length, bin_lss]
  refine cnd_dec (fun hlt => ?_) (fun hge => ?_)
  · have hi : i < (mkI k n).length := by rw [mkI_length]; omega
    refine Row.at1 h (get_map hi) u_s_int64 i_int64 u_int64 rfl ?_
    rw [mkI_get]
    refine neq_no rfl ?_
    rw [cnd_false, bin_add, bin_add, wrap_i64 (by omega) (by omega), wrap_i64 (by omega) (by omega)]
    exact ⟨g - 1, by omega, rfl, i + 1, rfl, by congr 1; omega, by omega⟩
  · have hi : i = n := by omega
    subst hi; exact H

/-! ### eliminations -/
abbrev DE := List Int × List (List Nat)
def I_Elimination (w : World) (v : Value) (d : DE) : Prop := ∃ ov tv, v = .agg #[ov, tv] ∧ FI w ov d.1 ∧ I_Float32SS w tv d.2
theorem I_Elimination.ext {w' : World} {d : DE} (h : I_Elimination w v d) (he : Ext w w') : I_Elimination w' v d := by
  obtain ⟨ov, tv, h1, h2, h3⟩ := h
  exact ⟨ov, tv, h1, h2.ext he, A_Float32SS.ext h3 he⟩
def O_Elimination (w : World) (lo hi : Nat) (v : Value) (d : DE) : Prop := ∃ ov tv vs, v = .agg #[ov, tv] ∧ OIR w lo hi ov d.1 ∧ OM w lo hi tv d.2 vs ∧ bits d.2
theorem O_Elimination.ext {w' : World} {d : DE} (h : O_Elimination w lo hi v d) (he : Ext w w') : O_Elimination w' lo hi v d := by
  obtain ⟨ov, tv, vs, h1, h2, h3, h4⟩ := h
  exact ⟨ov, tv, vs, h1, h2.ext he, h3.ext he, h4⟩
theorem O_Elimination.chg {w' : World} {d : DE} {lo' hi' : Nat} (h : O_Elimination w lo hi v d) (hc : Chg lo' hi' w w') (hd : hi ≤ lo' ∨ hi' ≤ lo) : O_Elimination w' lo hi v d := by
  obtain ⟨ov, tv, vs, h1, h2, h3, h4⟩ := h
  exact ⟨ov, tv, vs, h1, h2.chg hc hd, h3.chg hc hd, h4⟩
theorem O_Elimination.I {d : DE} (h : O_Elimination w lo hi v d) : I_Elimination w v d := by
  obtain ⟨ov, tv, vs, h1, h2, h3, h4⟩ := h
  exact ⟨ov, tv, h1, OIR.FI h2, h3.FSS h4, h4⟩
def cnt_Elimination (d : DE) : Nat := d.1.length + total d.2
def mk_Elimination (k : Int) (d : DE) : DE := (mkI k d.1.length, mkM (k + d.1.length) d.2)
theorem FI.one {l : List Int} (h : FI w v l) : v.oneCell' = true := by
  obtain ⟨_, _, a, cap, rfl, _⟩ := h
  rfl
theorem FSS.one {m : List (List Nat)} (h : FSS w v m) : v.oneCell' = true := by
  obtain ⟨vs, h, _⟩ := h.ex
  obtain ⟨_, _, a, cap, rfl, _⟩ := h
  rfl
theorem Elimination_agg {d : DE} (h : I_Elimination w v d) : ∃ cs : List Value, v = .agg cs.toArray ∧ cs.length = 2 ∧ ∀ x ∈ cs, x.oneCell' = true := by
  obtain ⟨ov, tv, h1, h2, h3⟩ := h
  exact ⟨[ov, tv], h1, rfl, one2 h2.one h3.1.one⟩
end Go.Proofs.Ytabgkpfcpncmhaa

/- Contracts: gaps of matrices. -/
set_option linter.unusedVariables false
namespace Go.Proofs.Ytabgkpfcpncmhaa
open Go Go.Vc

variable {w : World} {K : Value → World → Prop}

def en (m : List (List Nat)) (i j : Nat) : Nat := (m.getD i []).getD j 0
theorem en_eq {m : List (List Nat)} {i j : Nat} (hi : i < m.length) (hj : j < m[i].length) : m[i][j] = en m i j := by
  unfold en; simp [hi, hj]
theorem FSS.entry {a : Value} {m : List (List Nat)} (ha : FSS w a m) (hm : matB m = true) {i j : Nat} (hi : i < m.length) (hj : j < m.length) {K : Value → Prop}
    (H : en m i j < 4294967296 → Vc.Fin Ieee.single (en m i j) → K (fl (en m i j))) :
    ixa P t_s_s_float32 a (.int .i64 (i : Int)) w fun x => ld P t_s_float32 x w fun r => ixa P t_s_float32 r (.int .i64 (j : Int)) w fun y => ld P t_float32 y w K := by
  obtain ⟨h1, h2, h3⟩ := matB_parts hm
  refine ha.at hi fun x hx => ?_
  have h4 := h1 m[i] (List.getElem_mem hi)
  have hj' : j < m[i].length := by omega
  refine hx.at hj' ?_
  have h5 := hx.lt m[i][j] (List.getElem_mem hj')
  have h6 := finB_iff.1 (List.all_eq_true.1 h4.2 m[i][j] (List.getElem_mem hj'))
  rw [en_eq hi hj'] at h5 h6 ⊢
  exact H h5 h6

/-! ### the plain law -/
def gK (m b : List (List Nat)) (i j : Nat) : Nat → Rat
  | 0 => if i = j then 1 else 0
  | k + 1 => gK m b i j k - fq (en b i k) * fq (en m k j)
def gJ (m b : List (List Nat)) (n i : Nat) : Nat → Rat
  | 0 => 0
  | j + 1 => gJ m b n i j + absQ (gK m b i j n)
def gI (m b : List (List Nat)) (n : Nat) : Nat → Rat
  | 0 => 0
  | i + 1 => if 0 < cmpQ (gJ m b n i n) (gI m b n i) then gJ m b n i n else gI m b n i
theorem dy_one : dy 1 0 = 1 := by simp [dy]
theorem fq_one : fq 1065353216 = 1 := by
  show dy (fM 1065353216) (fE 1065353216) = 1
  rw [show fM 1065353216 = 1 * 2 ^ 23 from by decide, dy_shift' (m := 1) (e := 0) (by decide)]
  exact dy_one
theorem fin_one : Vc.Fin Ieee.single 1065353216 := by decide

end Go.Proofs.Ytabgkpfcpncmhaa

/- Contracts: the least exponent of a matrix; its table of integers. -/
set_option linter.unusedVariables false
set_option linter.unusedSimpArgs false
namespace Go.Proofs.Ytabgkpfcpncmhaa
open Go Go.Vc

variable {w : World}

theorem fld_num_e {p : Value} {e : Int} {K : Value → Prop} (hp : ∃ a, p = .pointer (some a)) (H : K (.int .i64 e)) : fld P t_impl_num (.agg #[p, .int .i64 e]) 1 w K := by
  obtain ⟨a, rfl⟩ := hp
  exact ⟨.int .i64 e, by kernel_rfl, H⟩

set_option maxRecDepth 20000 in
theorem det_least {Done : Value → World → Prop} {a0 : Value} {m : List (List Nat)} (ha : FSS w a0 m) (hm : matB m = true)
    (H : ∀ (L : Int) w', Ext w w' → -149 ≤ L → L ≤ 0 → (∀ i j, i < m.length → j < m.length → L ≤ fE (en m i j)) → Done (.int .i64 L) w') :
    ∃ I5 : Nat → Value → Value → World → Prop, (∃ m223, I5 m223 (.int .i64 0) (.int .i64 0) w) ∧ ∀ (m8 : Nat) (x4 : Value) (x28 : Value) (junk6 : Env) (w7 : World), I5 m8 x4 x28 w7 →
      bin P .lss 3 false false x28 (.int .i64 (m.length : Int)) w7 fun x29 =>
      cnd x29
        (ixa P t_s_s_float32 a0 x28 w7 fun x30 =>
        ld P t_s_float32 x30 w7 fun x31 =>
        bl0 P .len #[t_s_float32] 3 [x31] w7 fun x33 =>
        ∃ I15 : Nat → Value → Value → World → Prop, (∃ m32, I15 m32 x4 (.int .i64 0) w7) ∧ ∀ (m18 : Nat) (x4 : Value) (x34 : Value) (junk16 : Env) (w17 : World), I15 m18 x4 x34 w17 →
          bin P .lss 3 false false x34 x33 w17 fun x35 =>
          cnd x35
            (ixa P t_s_float32 x31 x34 w17 fun x36 =>
            ld P t_float32 x36 w17 fun x37 =>
            call P f_impl_numOf [x37] w17 fun x40 w25 =>
            fld P t_impl_num x40 1 w25 fun x41 =>
            bl0 P .min #[3, 3] 3 [x4, x41] w25 fun x42 =>
            bin P .add 3 false true x34 (.int .i64 1) w25 fun x43 =>
            ∃ m29, m29 < m18 ∧ I15 m29 x42 x43 w25)
            (bin P .add 3 false true x28 (.int .i64 1) w17 fun x44 =>
            ∃ m31, m31 < m8 ∧ I5 m31 x4 x44 w17))
        (Done x4 w7) := by
  obtain ⟨hrow, _, h8⟩ := matB_parts hm
  refine ⟨fun g x y w' => ∃ (i : Nat) (L : Int), x = .int .i64 L ∧ y = .int .i64 (i : Int) ∧ g + i = m.length ∧ Ext w w' ∧ -149 ≤ L ∧ L ≤ 0 ∧ ∀ p q, p < i → q < m.length → L ≤ fE (en m p q),
    ⟨m.length, 0, 0, rfl, rfl, rfl, Ext.refl w, by omega, by omega, fun p q h => by omega⟩, ?_⟩
  rintro g x y junk w2 ⟨i, L, rfl, rfl, hg, e2, hL1, hL2, hall⟩
  rw [bin_lss]
  refine cnd_dec (fun hlt => ?_) (fun hge => ?_)
  · have hi : i < m.length := by omega
    refine (ha.ext e2).at hi fun r hr => ?_
    have hrl : m[i].length = m.length := (hrow m[i] (List.getElem_mem hi)).1
    rw [hr.row.len u_s_float32]
    refine ⟨fun g x y w' => ∃ (j : Nat) (L : Int), x = .int .i64 L ∧ y = .int .i64 (j : Int) ∧ g + j = m.length ∧ Ext w2 w' ∧ -149 ≤ L ∧ L ≤ 0 ∧ (∀ p q, p < i → q < m.length → L ≤ fE (en m p q)) ∧ ∀ q, q < j → L ≤ fE (en m i q),
      ⟨m.length, 0, L, rfl, rfl, rfl, Ext.refl _, hL1, hL2, hall, fun q h => by omega⟩, ?_⟩
    rintro g' x y junk w3 ⟨j, L', rfl, rfl, hg', e3, hL1', hL2', hall', hrow'⟩
    rw [bin_lss]
    refine cnd_dec (fun hlt' => ?_) (fun hge' => ?_)
    · have hj : j < m[i].length := by omega
      refine (hr.ext e3).at hj ?_
      have hb1 := hr.lt m[i][j] (List.getElem_mem hj)
      have hf1 := finB_iff.1 (List.all_eq_true.1 (hrow m[i] (List.getElem_mem hi)).2 m[i][j] (List.getElem_mem hj))
      rw [en_eq hi hj] at hb1 hf1 ⊢
      refine c_numOfm hb1 fun v w4 e4 n4 => ?_
      obtain ⟨p, rfl, hp⟩ := n4
      refine fld_num_e hp.ptr ?_
      have hlow := (f_bd hf1).low
      rw [bl0_min_i64, bin_addI1 (b := 1) (by omega)]
      refine ⟨g' - 1, by omega, j + 1, min L' (fE (en m i j)), rfl, rfl, by omega, e3.trans e4, by omega, by omega, fun p q h1 h2 => by have := hall' p q h1 h2; omega, fun q h1 => ?_⟩
      by_cases e : q = j
      · subst e; omega
      · have := hrow' q (by omega); omega
    · have hj : j = m.length := by omega
      subst hj
      rw [bin_addI1 (b := 1) (by omega)]
      refine ⟨g - 1, by omega, i + 1, L', rfl, rfl, by omega, e2.trans e3, hL1', hL2', fun p q h1 h2 => ?_⟩
      by_cases e : p = i
      · subst e; exact hrow' q h2
      · exact hall' p q (by omega) h2
  · have hi : i = m.length := by omega
    subst hi
    exact H L w2 e2 hL1 hL2 hall

/-! ### the table -/
def t0 (m : List (List Nat)) (L : Int) (i j : Nat) : Int := fM (en m i j) * 2 ^ (fE (en m i j) - L).toNat
def rowT (m : List (List Nat)) (L : Int) (i c : Nat) : List Int := (List.range c).map (t0 m L i)
def tabT (m : List (List Nat)) (L : Int) (r : Nat) : List (List Int) := (List.range r).map fun i => rowT m L i m.length
theorem rowT_len (m : List (List Nat)) (L : Int) (i c : Nat) : (rowT m L i c).length = c := by unfold rowT; simp
theorem tabT_len (m : List (List Nat)) (L : Int) (r : Nat) : (tabT m L r).length = r := by unfold tabT; simp
theorem rowT_succ (m : List (List Nat)) (L : Int) (i c : Nat) : rowT m L i (c + 1) = rowT m L i c ++ [t0 m L i c] := by unfold rowT; rw [List.range_succ, List.map_append]; rfl
theorem tabT_succ (m : List (List Nat)) (L : Int) (r : Nat) : tabT m L (r + 1) = tabT m L r ++ [rowT m L r m.length] := by unfold tabT; rw [List.range_succ, List.map_append]; rfl
theorem tabT_row {m : List (List Nat)} {L : Int} {r i : Nat} (h : i < r) : (tabT m L r).getD i [] = rowT m L i m.length := by
  unfold tabT; simp [List.getD_eq_getElem?_getD, h]
theorem tabT_sq (m : List (List Nat)) (L : Int) : Sq m.length (tabT m L m.length) := ⟨tabT_len _ _ _, fun i hi => by rw [tabT_row hi, rowT_len]⟩
theorem tf_tabT {m : List (List Nat)} {L : Int} {i j : Nat} (hi : i < m.length) (hj : j < m.length) : tf (tabT m L m.length) i j = t0 m L i j := by
  unfold tf; rw [tabT_row hi]; unfold rowT; simp [List.getD_eq_getElem?_getD, hj]
theorem tf_out {n : Nat} {T : List (List Int)} (h : Sq n T) {i j : Nat} (hij : n ≤ i ∨ n ≤ j) : tf T i j = 0 := by
  have hl := h.len
  unfold tf
  by_cases hi : n ≤ i
  · have : T.getD i [] = [] := by simp [List.getD_eq_getElem?_getD, show T.length ≤ i by omega]
    rw [this]; rfl
  · have := h.row i (by omega)
    simp only [List.getD_eq_getElem?_getD] at this ⊢
    rw [List.getElem?_eq_none (by omega)]; rfl

theorem PR.nil {KW : Value → World → Prop} (H : ∀ v w', Ext w w' → PR w' w.heap.size v [] → KW v w') : bsl P t_s_p_impl_integer 0 [] w KW :=
  bsl_nil u_s_p_impl_integer i_p_impl_integer (H _ _ (Ext_alloc _ _) ⟨[], rfl, owns_lit w [] t_p_impl_integer, fun i h => (by cases h)⟩)
theorem TM.nil {KW : Value → World → Prop} (H : ∀ v w', Ext w w' → TM w' w.heap.size w'.heap.size v [] [] → KW v w') : bsl P t_s_s_p_impl_integer 0 [] w KW :=
  bsl_nil u_s_s_p_impl_integer i_s_p_impl_integer (H _ _ (Ext_alloc _ _) ⟨owns_lit w [] t_s_p_impl_integer, fun i h => (by cases h), fun i j x y _ h => (by simp at h)⟩)

set_option maxRecDepth 20000 in
theorem det_table {Done : Value → World → Prop} {a0 : Value} {m : List (List Nat)} {L : Int} (ha : FSS w a0 m) (hm : matB m = true) (hL1 : -149 ≤ L) (hL2 : L ≤ 0) (hall : ∀ i j, i < m.length → j < m.length → L ≤ fE (en m i j))
    (H : ∀ v w' hi vs, Ext w w' → TM w' w.heap.size hi v (tabT m L m.length) vs → Done v w') :
    bsl P t_s_s_p_impl_integer 0 [] w fun x45 w34 =>
    bl0 P .len #[t_s_s_float32] 3 [a0] w34 fun x47 =>
    ∃ I36 : Nat → Value → Value → World → Prop, (∃ m222, I36 m222 x45 (.int .i64 0) w34) ∧ ∀ (m39 : Nat) (x9 : Value) (x48 : Value) (junk37 : Env) (w38 : World), I36 m39 x9 x48 w38 →
      bin P .lss 3 false false x48 x47 w38 fun x49 =>
      cnd x49
        (ixa P t_s_s_float32 a0 x48 w38 fun x50 =>
        ld P t_s_float32 x50 w38 fun x51 =>
        bsl P t_s_p_impl_integer 0 [] w38 fun x52 w46 =>
        bl0 P .len #[t_s_float32] 3 [x51] w46 fun x54 =>
        ∃ I48 : Nat → Value → Value → World → Prop, (∃ m73, I48 m73 x52 (.int .i64 0) w46) ∧ ∀ (m51 : Nat) (x12 : Value) (x55 : Value) (junk49 : Env) (w50 : World), I48 m51 x12 x55 w50 →
          bin P .lss 3 false false x55 x54 w50 fun x56 =>
          cnd x56
            (ixa P t_s_float32 x51 x55 w50 fun x57 =>
            ld P t_float32 x57 w50 fun x58 =>
            call P f_impl_numOf [x58] w50 fun x61 w58 =>
            call P f_impl_num_at [x61, .int .i64 L] w58 fun x63 w60 =>
            bsl P t_s_p_impl_integer 1 [(0, x63)] w60 fun x64 w62 =>
            bl2 P .append #[t_s_p_impl_integer, t_s_p_impl_integer] t_s_p_impl_integer [x12, x64] w62 fun x65 w64 =>
            bin P .add 3 false true x55 (.int .i64 1) w64 fun x66 =>
            ∃ m66, m66 < m51 ∧ I48 m66 x65 x66 w64)
            (bsl P t_s_s_p_impl_integer 1 [(0, x12)] w50 fun x69 w68 =>
            bl2 P .append #[t_s_s_p_impl_integer, t_s_s_p_impl_integer] t_s_s_p_impl_integer [x9, x69] w68 fun x70 w70 =>
            bin P .add 3 false true x48 (.int .i64 1) w70 fun x71 =>
            ∃ m72, m72 < m39 ∧ I36 m72 x70 x71 w70))
        (Done x9 w38) := by
  obtain ⟨hrow, _, h8⟩ := matB_parts hm
  refine TM.nil fun v0 w1 e1 h1 => ?_
  rw [(ha.ext e1).len]
  refine ⟨fun g x y w' => ∃ (i hi : Nat) (vs : List Value), y = .int .i64 (i : Int) ∧ g + i = m.length ∧ Ext w w' ∧ hi ≤ w'.heap.size ∧ w.heap.size ≤ hi ∧ TM w' w.heap.size hi x (tabT m L i) vs,
    ⟨m.length, 0, _, [], rfl, rfl, e1, Nat.le_refl _, e1.size, h1⟩, ?_⟩
  rintro g x y junk w2 ⟨i, hi, vs, rfl, hg, e2, hh1, hh2, h2⟩
  rw [bin_lss]
  refine cnd_dec (fun hlt => ?_) (fun hge => ?_)
  · have hi' : i < m.length := by omega
    refine (ha.ext e2).at hi' fun r hr => ?_
    have hrl : m[i].length = m.length := (hrow m[i] (List.getElem_mem hi')).1
    refine PR.nil fun u0 w3 e3 p3 => ?_
    rw [(hr.ext e3).row.len u_s_float32]
    refine ⟨fun g x y w' => ∃ j : Nat, y = .int .i64 (j : Int) ∧ g + j = m.length ∧ Ext w2 w' ∧ PR w' w2.heap.size x (rowT m L i j), ⟨m.length, 0, rfl, rfl, e3, p3⟩, ?_⟩
    rintro g' x2 y junk w4 ⟨j, rfl, hg', e4, p4⟩
    rw [bin_lss]
    refine cnd_dec (fun hlt' => ?_) (fun hge' => ?_)
    · have hj : j < m[i].length := by omega
      refine (hr.ext e4).at hj ?_
      have hb1 := hr.lt m[i][j] (List.getElem_mem hj)
      have hf1 := finB_iff.1 (List.all_eq_true.1 (hrow m[i] (List.getElem_mem hi')).2 m[i][j] (List.getElem_mem hj))
      rw [en_eq hi' hj] at hb1 hf1 ⊢
      refine c_numOfm hb1 fun v w5 e5 n5 => ?_
      have hlow := (f_bd hf1).low
      have htop := (f_bd hf1).top
      have hle := hall i j hi' (by omega)
      have hbl : bl (fM (en m i j)).natAbs ≤ 24 := bl_le.2 (fM_abs _)
      refine c_at n5 hle (by omega) (by omega) (by omega) fun p w6 e6 z6 i6 => ?_
      have E6 := e5.trans e6
      refine PR.push (p4.ext E6) i6 (by rw [rowT_len]; omega) (Nat.le_trans e4.size E6.size) fun v' w7 p7 hE => ?_
      rw [bin_addI1 (b := 1) (by omega)]
      refine ⟨g' - 1, by omega, j + 1, rfl, by omega, hE (e4.trans E6) (Nat.le_refl _), ?_⟩
      rw [rowT_succ]; exact p7
    · have hj : j = m.length := by omega
      subst hj
      refine TM.push (h2.ext e4) (p4.low hh1) hh2 (by rw [tabT_len]; omega) (Nat.le_trans e2.size e4.size) fun v' w7 h7 hE => ?_
      rw [bin_addI1 (b := 1) (by omega)]
      refine ⟨g - 1, by omega, i + 1, w7.heap.size, vs ++ [x2], rfl, by omega, hE (e2.trans e4) (Nat.le_refl _), Nat.le_refl _, (hE (e2.trans e4) (Nat.le_refl _)).size, ?_⟩
      rw [tabT_succ]; exact h7
  · have hi' : i = m.length := by omega
    subst hi'
    exact H x w2 hi vs e2 h2
end Go.Proofs.Ytabgkpfcpncmhaa

/- Contracts: the reference's determinant. -/
set_option linter.unusedVariables false
set_option linter.unusedSimpArgs false
namespace Go.Proofs.Ytabgkpfcpncmhaa
open Go Go.Vc

variable {w : World} {K : Value → World → Prop}

def RS (f : Nat → Nat × Rat) (w : World) (c : List Value) (s : Nat) : Prop := DQ w (.agg c.toArray) (149 * (f s).1) (136 * (f s).1 + 1) (f s).2
theorem RS.push {f : Nat → Nat × Rat} {base : Nat} {v : Value} {n : Nat} {KW : Value → World → Prop} {ty : TypeId} {u : Value} (h : SL (RS f) 3 t_impl_Dyadic w base v (List.range n)) (hu : DQ w u (149 * (f n).1) (136 * (f n).1 + 1) (f n).2) (hbase : base ≤ w.heap.size) (hn : n ≤ 1048576)
    (H : ∀ v' w', SL (RS f) 3 t_impl_Dyadic w' base v' (List.range (n + 1)) → (∀ {w0}, Ext w0 w → w0.heap.size ≤ base → Ext w0 w') → KW v' w') : bsl P t_s_impl_Dyadic 1 [(0, u)] w fun x w1 => bl2 P .append #[t_s_impl_Dyadic, t_s_impl_Dyadic] ty [v, x] w1 KW := by
  have hu0 := hu
  obtain ⟨m, e, ⟨s, l, rfl, hl, hw⟩, hc⟩ := hu
  refine bsl_Dy ?_
  have he := Ext_alloc w (.cells #[.int .i64 m.sign, s, .int .i64 e] t_impl_Dyadic)
  have hrow : Row 3 (w.alloc (.cells #[.int .i64 m.sign, s, .int .i64 e] t_impl_Dyadic)) (.slice (some ⟨w.heap.size, 0, none⟩) 1 1) 1 [.int .i64 m.sign, s, .int .i64 e] := by
    refine ⟨rfl, by decide, _, _, rfl, fun _ => ⟨w.heap.size, 0, rfl, fun j u hj => ?_⟩⟩
    match j, hj with
    | 0, hj => cases hj; simp only [World.cell?, heap_new]; rfl
    | 1, hj => cases hj; simp only [World.cell?, heap_new]; rfl
    | 2, hj => cases hj; simp only [World.cell?, heap_new]; rfl
    | _ + 3, hj => simp at hj
  refine SL.push (a := n) h hrow rfl (one_3 rfl (sl_one (IR.sl hl.toIR)) rfl) he hbase (fun w' c a row hr hk hg ht => ?_) hu0 u_s_impl_Dyadic i_impl_Dyadic rfl (by decide) (by simpa using hn) (by decide) fun v' w' h' hg hk => ?_
  · exact DQ.kt (DQ.ext hr he) hg ht (by decide)
  · rw [← List.range_succ] at h'
    exact H v' w' h' fun he0 hs => ext_of_grown (he0.trans he) (fun k hk' => Nat.le_trans hs (hk k hk')) hg
theorem RS.ext {f : Nat → Nat × Rat} {base : Nat} {v : Value} {ls : List Nat} {w' : World} (h : SL (RS f) 3 t_impl_Dyadic w base v ls) (he : Ext w w') : SL (RS f) 3 t_impl_Dyadic w' base v ls := SL.ext (fun c a (h : DQ _ _ _ _ _) => (h.ext he : DQ _ _ _ _ _)) h he
theorem bit_iff {s j : Nat} : s / 2 ^ j % 2 = 1 ↔ s.testBit j = true := by
  rw [Nat.testBit_eq_decide_div_mod_eq, decide_eq_true_eq]
def dA (m : List (List Nat)) : Mat := fun i j => fq (en m i j)
def dF (m : List (List Nat)) (s : Nat) : Nat × Rat := ((cols s m.length).length, sub (dA m) m.length (cols s m.length))
theorem cols_le (s n : Nat) : (cols s n).length ≤ n := by
  unfold cols
  have := List.length_filter_le (fun j => s.testBit j) (List.range n)
  simpa using this
theorem pow_le8 {n : Nat} (h : n ≤ 8) : 2 ^ n ≤ 256 := Nat.pow_le_pow_right (n := 2) (by decide) h

theorem dF_zero (m : List (List Nat)) : dF m 0 = (0, 1) := by
  have : cols 0 m.length = [] := by unfold cols; simp
  unfold dF
  rw [this]; rfl
/-- One addend's place. -/
def dP (m : List (List Nat)) (s p : Nat) : Rat := sgn p * dA m (m.length - (cols s m.length).length) ((cols s m.length).getD p 0) * sub (dA m) m.length ((cols s m.length).eraseIdx p)
theorem cols_pos {s n : Nat} (h0 : 0 < s) (hs : s < 2 ^ n) : 0 < (cols s n).length := by
  obtain ⟨j, hj⟩ : ∃ j, s.testBit j = true := Nat.exists_testBit_of_ne_zero (by omega)
  have hjn : j < n := by
    refine Nat.lt_of_not_le fun hc => ?_
    have h1 : s < 2 ^ j := Nat.lt_of_lt_of_le hs (Nat.pow_le_pow_right (by decide) hc)
    rw [Nat.testBit_lt_two_pow h1] at hj
    cases hj
  obtain ⟨t, ht⟩ := cols_split hj hjn
  rw [ht]; simp; omega
theorem cols_sub_len {s j n : Nat} (h : s.testBit j = true) (hj : j < n) : (cols (s - 2 ^ j) n).length = (cols s n).length - 1 := by
  obtain ⟨t, ht⟩ := cols_split h hj
  rw [cols_sub h hj, List.length_eraseIdx_of_lt (by rw [ht]; simp)]
theorem two_le {s j : Nat} (h : s.testBit j = true) : 2 ^ j ≤ s := Nat.ge_two_pow_of_testBit h
theorem full_cols (n : Nat) : cols (2 ^ n - 1) n = List.range n := by
  unfold cols
  rw [List.filter_eq_self]
  intro j hj
  rw [List.mem_range] at hj
  rw [Nat.testBit_two_pow_sub_one, decide_eq_true hj]

theorem RS.one {f : Nat → Nat × Rat} {KW : Value → World → Prop} {u : Value} (hu : DQ w u (149 * (f 0).1) (136 * (f 0).1 + 1) (f 0).2)
    (H : ∀ v w', SL (RS f) 3 t_impl_Dyadic w' w.heap.size v (List.range 1) → Ext w w' → KW v w') : bsl P t_s_impl_Dyadic 1 [(0, u)] w KW := by
  have hu0 := hu
  obtain ⟨m, e, ⟨s, l, rfl, hl, hw⟩, hc⟩ := hu
  refine bsl_Dy ?_
  have he := Ext_alloc w (.cells #[.int .i64 m.sign, s, .int .i64 e] t_impl_Dyadic)
  refine H _ _ ⟨[[.int .i64 m.sign, s, .int .i64 e]], rfl, fun c hc => by simp at hc; subst hc; rfl, ?_, fun i hi hi' => ?_⟩ he
  · have := World.ownsRow_lit (w := w) (base := w.heap.size) (e := t_impl_Dyadic) (size := 3) #[.int .i64 m.sign, s, .int .i64 e] 1 (Nat.le_refl _) (by decide) (by simp)
    simpa using this
  · have h0 : i = 0 := by simp at hi; omega
    subst h0
    exact DQ.ext hu0 he
end Go.Proofs.Ytabgkpfcpncmhaa

/- Contracts: the program's determinant. -/
set_option linter.unusedVariables false
set_option linter.unusedSimpArgs false
namespace Go.Proofs.Ytabgkpfcpncmhaa
open Go Go.Vc

variable {w : World} {K : Value → World → Prop}

/-- Where a step begins. -/
structure DSt (w2 : World) (lo hi n k : Nat) (v x16 : Value) (d : Rat) (s : Int) (w' : World) (T : List (List Int)) (vs : List Value) (b : Int) : Prop where
  tm : TM w' lo hi v T vs
  sq : Sq n T
  bi : BI n k (tf T) b s d
  sg : s = 1 ∨ s = -1
  bd : ∀ p q, bl (tf T p q).natAbs + 1 ≤ 2 ^ k * 310
  bb : bl b.natAbs ≤ 100000
  ib : IntR w' x16 b
  ex : Ext w2 w'
def DPv (w2 : World) (lo hi n k : Nat) (v x16 : Value) (d : Rat) (b : Int) (y : Value) (w' : World) : Prop :=
  ∃ (s' : Int) (T' : List (List Int)) (vs' : List Value), y = .int .i64 s' ∧ DSt w2 lo hi n k v x16 d s' w' T' vs' b ∧ tf T' k k ≠ 0
theorem two_k {k : Nat} (h : k ≤ 7) : 2 ^ k * 310 ≤ 39680 := by
  have : 2 ^ k ≤ 2 ^ 7 := Nat.pow_le_pow_right (by decide) h
  omega
theorem t0_bl {m : List (List Nat)} {L : Int} {i j : Nat} (hf : Vc.Fin Ieee.single (en m i j)) (hL : -149 ≤ L) : bl (t0 m L i j).natAbs + 1 ≤ 310 := by
  have h1 := ibl_shl_le (fM (en m i j)) (fE (en m i j) - L).toNat
  have h2 : bl (fM (en m i j)).natAbs ≤ 24 := bl_le.2 (fM_abs _)
  have h3 := (f_bd hf).top
  unfold t0
  omega
theorem tab_bd {m : List (List Nat)} {L : Int} (hm : matB m = true) (hL : -149 ≤ L) (p q : Nat) : bl (tf (tabT m L m.length) p q).natAbs + 1 ≤ 2 ^ 0 * 310 := by
  obtain ⟨hrow, _, h8⟩ := matB_parts hm
  by_cases h : m.length ≤ p ∨ m.length ≤ q
  · rw [tf_out (tabT_sq m L) h]; simp [bl_zero]
  · have hp : p < m.length := by omega
    have hq : q < m.length := by omega
    rw [tf_tabT hp hq]
    have hl := (hrow m[p] (List.getElem_mem hp)).1
    have hf := finB_iff.1 (List.all_eq_true.1 (hrow m[p] (List.getElem_mem hp)).2 m[p][q] (List.getElem_mem (by omega)))
    rw [en_eq hp (by omega)] at hf
    have := t0_bl (L := L) hf hL
    omega
theorem det_tab {m : List (List Nat)} {L : Int} (hall : ∀ i j, i < m.length → j < m.length → L ≤ fE (en m i j)) :
    det m.length (dA m) = det m.length (fun i j => (tf (tabT m L m.length) i j : Rat)) * (2 : Rat) ^ ((m.length : Int) * L) := by
  refine det_dy fun i j hi hj => ?_
  rw [tf_tabT hi hj]
  unfold dA fq t0
  have := hall i j hi hj
  exact (dy_shift' (by omega)).symm

set_option maxRecDepth 20000 in
theorem c_impl_determinant {a : Value} {m : List (List Nat)} (ha : FSS w a m) (hm : matB m = true)
    (H : ∀ u w', Ext w w' → NQ w' u 1192 50000 (det m.length (dA m)) → K u w') : call P f_impl_determinant [a] w K := by
  obtain ⟨hrow, h1n, h8⟩ := matB_parts hm
  refine I_impl_determinant ?_
  unfold D_impl_determinant
  refine alc_NC fun x2 w2 c2 e2 => ?_
  have ha2 := ha.ext e2
  rw [ha2.len, ha2.len]
  refine det_least ha2 hm fun L w3 e3 hL1 hL2 hall => ?_
  have ha3 := ha2.ext e3
  refine det_table ha3 hm hL1 hL2 hall fun v w4 hi vs e4 t4 => ?_
  have e24 := e3.trans e4
  have hd := det_tab hall
  generalize hdet : det m.length (dA m) = D at *
  have fin : ∀ {u : Value} {w' : World}, Ext w2 w' → NQ w' u 1192 50000 D → sto P t_impl_num x2 u w' fun w'' => ldc P t_impl_num x2 w'' fun r => K r w'' := by
    intro u w' he hu
    refine (c2.ext he).put hu fun w5 v5 g5 _ => ?_
    refine v5.getc fun r nr => ?_
    exact H r w5 (ext_gr (e2.trans he) (Nat.le_refl _) g5) nr
  have hlo : w2.heap.size ≤ w3.heap.size := e3.size
  refine c_newInt (by decide) (by decide) fun p5 w5 e5 z5 i5 => ?_
  have hb0 : det m.length (fun i j => (tf (tabT m L m.length) i j : Rat)) = det m.length (fun i j => (tf (tabT m L m.length) i j : Rat)) := rfl
  generalize hd0 : det m.length (fun i j => (tf (tabT m L m.length) i j : Rat)) = d at *
  have hI0 : BI m.length 0 (tf (tabT m L m.length)) 1 1 d := by rw [← hd0]; exact BI.init _ _
  refine ⟨fun g y z x w' => ∃ (k : Nat) (s b : Int) (T : List (List Int)) (vs : List Value), y = .int .i64 s ∧ x = .int .i64 (k : Int) ∧ g + k = m.length ∧ k < m.length ∧ DSt w2 w3.heap.size hi m.length k v z d s w' T vs b,
    ⟨m.length, 0, 1, 1, _, vs, rfl, rfl, rfl, h1n, t4.ext e5, tabT_sq m L, hI0, .inl rfl, tab_bd hm hL1, by decide, i5, e24.trans e5⟩, ?_⟩
  rintro g y z x junk w6 ⟨k, s, b, T, vs6, rfl, rfl, hg, hk, st⟩
  rw [bin_subI1 (b := 1) (by omega) (by omega), bin_lss]
  refine cnd_dec (fun hlt => ?_) (fun hge => ?_)
  · have hk1 : k + 1 < m.length := by omega
    have h2k := two_k (k := k) (by omega)
    refine ⟨DPv w2 w3.heap.size hi m.length k v z d b, ?_, ?_⟩
    · rintro y junk w7 ⟨s', T', vs', rfl, st', hp⟩
      have h2k' := two_k (k := k + 1) (by omega)
      rw [Nat.pow_succ] at h2k'
      refine det_step st'.tm st'.sq hk1 h8 st'.ib st'.bi hp st'.bd (by omega) st'.bb fun w8 T8 t8 sq8 bi8 hkk bd8 E8 => ?_
      refine TM.get t8 sq8 (by omega) (by omega) fun p9 i9 => ?_
      rw [bin_addI1 (b := 1) (by omega)]
      rw [hkk] at i9
      refine ⟨g - 1, by omega, k + 1, s', _, T8, vs', rfl, rfl, by omega, hk1, t8, sq8, bi8, st'.sg, fun p q => ?_, ?_, i9, E8 st'.ex hlo⟩
      · have := bd8 p q
        rw [Nat.pow_succ]; omega
      · have := st'.bd k k; omega
    · refine det_pivot (Next := DPv w2 w3.heap.size hi m.length k v z d b) st.tm st.sq hk1 h8 st.ib st.sg st.bi st.bd (fun h0 => ?_) fun w7 T7 vs7 s7 t7 sq7 bi7 sg7 hp7 bd7 ib7 E7 => ?_
      · refine c_num_zero fun u w7 e7 n7 => ?_
        refine fin (st.ex.trans e7) ?_
        have : D = 0 := by rw [hd, h0]; grind
        rw [this]
        exact n7.mono (by decide) (by decide)
      · exact ⟨s7, T7, vs7, rfl, ⟨t7, sq7, bi7, sg7, bd7, st.bb, ib7, E7 st.ex hlo⟩, hp7⟩
  · have hk1 : k + 1 = m.length := by omega
    have hl := st.sq.len
    have hlast := st.bi
    rw [← hk1] at hlast
    have hlast := hlast.last
    rw [bin_subI1 (b := 1) (by omega) (by omega)]
    obtain ⟨r, hr, hpr, _⟩ := st.tm.rows (m.length - 1) (by omega)
    refine st.tm.row (i := m.length - 1) (by omega) fun r' hr' => ?_
    rw [hr] at hr'
    cases hr'
    rw [bin_subI1 (b := 1) (by omega) (by omega)]
    have hrl := st.sq.row (m.length - 1) (by omega)
    rw [getD_at _ (by omega : m.length - 1 < T.length)] at hrl
    refine hpr.at (i := m.length - 1) (by omega) fun p7 i7 => ?_
    have e7 : T[m.length - 1][m.length - 1] = tf T k k := by
      have e8 : tf T (m.length - 1) (m.length - 1) = T[m.length - 1][m.length - 1] := by
        unfold tf
        rw [getD_at _ (by omega : m.length - 1 < T.length), getD_at _ (by omega : m.length - 1 < T[m.length - 1].length)]
      rw [← e8, show m.length - 1 = k by omega]
    rw [e7] at i7
    have a1 : (m.length : Int) * L ≤ 0 := by
      have := Int.mul_le_mul_of_nonpos_right (show (0 : Int) ≤ (m.length : Int) by omega) hL2
      omega
    have a2 : -1192 ≤ (m.length : Int) * L := by
      have := Int.mul_le_mul_of_nonpos_right (show (m.length : Int) ≤ 8 by omega) hL2
      omega
    rw [bin_mul, wrap_i64 (by omega) (by omega)]
    rw [bld_num i7.ptr]
    have hbd := st.bd k k
    have h2k := two_k (k := k) (by omega)
    have nq : NQ w6 (.agg #[p7, .int .i64 ((m.length : Int) * L)]) 1192 50000 (dy (tf T k k) ((m.length : Int) * L)) :=
      ⟨_, _, ⟨p7, rfl, i7⟩, ⟨by omega, by omega, fun _ => by omega⟩, rfl⟩
    refine alc_NC fun x8 w8 c8 e8 => ?_
    refine c8.put (nq.ext e8) fun w9 v9 g9 _ => ?_
    have e9 : Ext w6 w9 := ext_gr e8 (Nat.le_refl _) g9
    have E9 := st.ex.trans e9
    rcases st.sg with rfl | rfl
    · refine lss_no (by omega) ?_
      rw [cnd_false]
      refine v9.get fun u nu => ?_
      refine fin E9 ?_
      have : D = dy (tf T k k) ((m.length : Int) * L) := by
        rw [hd, hlast]; unfold dy; grind
      rw [this]; exact nu
    · rw [bin_lss, decide_eq_true (by omega), cnd_true]
      refine v9.get fun u nu => ?_
      refine c_num_neg nu (by decide) (by decide) fun u2 w10 e10 n10 => ?_
      refine fin (E9.trans e10) ?_
      have : D = - dy (tf T k k) ((m.length : Int) * L) := by
        rw [hd, hlast]; unfold dy
        have : (((-1 : Int) : Int) : Rat) = -1 := by simp
        rw [this]; grind
      rw [this]; exact n10
end Go.Proofs.Ytabgkpfcpncmhaa

/- Contracts: the reference's determinant, whole. -/
set_option linter.unusedVariables false
set_option linter.unusedSimpArgs false
namespace Go.Proofs.Ytabgkpfcpncmhaa
open Go Go.Vc

variable {w : World} {K : Value → World → Prop}

theorem bin_shlJ {t : TypeId} {cx cy : Bool} {j : Nat} {K : Value → Prop} (hj : j ≤ 60) : bin P .shl t cx cy (.int .i64 1) (.int .u64 (j : Int)) w K = K (.int .i64 ((2 ^ j : Nat) : Int)) := by
  have hp : 2 ^ j ≤ 2 ^ 60 := Nat.pow_le_pow_right (by decide) hj
  have h := bin_shlN (w := w) (t := t) (cx := cx) (cy := cy) (k := .i64) (yk := .u64) (a := 1) (s := j) (K := K) (by show j ≤ 64; omega) (by
    rw [Nat.one_mul, max_i64]
    have : (2 : Nat) ^ 60 = 1152921504606846976 := by decide
    omega)
  rw [Nat.one_mul] at h
  exact h
theorem dF_len_le (m : List (List Nat)) (s : Nat) : (dF m s).1 ≤ m.length := cols_le _ _
theorem sgn_part (c : Nat) (x : Rat) : (if c % 2 = 1 then -x else x) = sgn c * x := by
  unfold sgn
  rcases Nat.mod_two_eq_zero_or_one c with h | h
  · rw [if_neg (by omega), if_pos h]; grind
  · rw [if_pos h, if_neg (by omega)]; grind

theorem c_spec_l10Determinant {a : Value} {m : List (List Nat)} (ha : FSS w a m) (hm : matB m = true)
    (H : ∀ u w', Ext w w' → DQ w' u 1192 1089 (det m.length (dA m)) → K u w') : call P f_spec_l10Determinant [a] w K := by
  obtain ⟨hrow, h1, h8⟩ := matB_parts hm
  have hp8 := pow_le8 h8
  have hp0 := Nat.two_pow_pos m.length
  refine I_spec_l10Determinant ?_
  unfold D_spec_l10Determinant
  refine alc_DC fun x2 w1 c2 e1 => ?_
  rw [(ha.ext e1).len]
  refine c_l02Of (by decide) (by decide) fun p1 w2 e2 np1 => ?_
  refine c_l03Make (lo := 0) (hi := 1) np1.Wr ⟨by decide, by decide, fun _ => by decide⟩ (by decide) (by decide) fun p2 w3 m' e' e3 hd hc => ?_
  have e13 := e2.trans e3
  have hd0 : DQ w3 p2 (149 * (dF m 0).1) (136 * (dF m 0).1 + 1) (dF m 0).2 := by
    rw [dF_zero]
    refine ⟨m', e', hd.Dr, ?_⟩
    rw [dy_one] at hc
    exact hc
  refine RS.one (f := dF m) hd0 fun x16 w4 l4 e4 => ?_
  refine ⟨fun g x y w' => ∃ s : Nat, y = .int .i64 (s : Int) ∧ g + s = 2 ^ m.length ∧ 1 ≤ s ∧ Ext w3 w' ∧ SL (RS (dF m)) 3 t_impl_Dyadic w' w3.heap.size x (List.range s), ⟨2 ^ m.length - 1, 1, rfl, by omega, Nat.le_refl _, e4, l4⟩, ?_⟩
  rintro g x4 y junk w5 ⟨s, rfl, hg, hs1, e5, l5⟩
  rw [cnv_int_uint (by omega), bin_shlJ (by omega), bin_lss]
  refine cnd_dec (fun hlt => ?_) (fun hge => ?_)
  · have hs : s < 2 ^ m.length := by omega
    have hkp := cols_pos hs1 hs
    have hkl := cols_le s m.length
    rw [bld_Dyadic0]
    refine alc_DC fun x7 w6 c7 e6 => ?_
    refine c7.put ((DQ.zero _).mono (lo' := 149 * (cols s m.length).length) (hi' := 136 * ((cols s m.length).length - 1) + 129) (Nat.zero_le _) (Nat.zero_le _)) fun w7 v7 g7 _ => ?_
    have e7 : Ext w5 w7 := ext_gr e6 (Nat.le_refl _) g7
    refine ⟨fun g x y w' => w' = w7 ∧ ∃ j : Nat, y = .int .i64 (j : Int) ∧ x = .int .i64 ((cols s j).length : Nat) ∧ g + j = m.length, ⟨m.length, rfl, 0, rfl, rfl, rfl⟩, ?_⟩
    rintro g1 x y junk w8 ⟨rfl, j, rfl, rfl, hg1⟩
    have hcj := cols_le s j
    rw [bin_lss]
    refine cnd_dec (fun hj => ?_) (fun hj => ?_)
    · rw [cnv_int_uint (by omega), bin_shrN (s := j) (by show j ≤ 64; omega), bin_and1 (Nat.le_trans (Nat.div_le_self _ _) (by omega)), bin_addI (by omega), bin_addI1 (b := 1) (by omega)]
      refine ⟨g1 - 1, by omega, rfl, j + 1, rfl, ?_, by omega⟩
      rw [cols_succ]
      by_cases hb : s.testBit j = true
      · rw [if_pos hb, bit_iff.2 hb]; simp
      · rw [if_neg hb]
        have : s / 2 ^ j % 2 = 0 := by
          have : ¬ s / 2 ^ j % 2 = 1 := fun h => hb (bit_iff.1 h)
          omega
        rw [this]; simp
    · have hjn : j = m.length := by omega
      subst hjn
      refine ⟨fun g x y w' => ∃ j : Nat, y = .int .i64 (j : Int) ∧ g + j = m.length ∧ x = .bool (decide ((cols s j).length % 2 = 1)) ∧ Ext w5 w' ∧ DV w' w5.heap.size x7 (149 * (cols s m.length).length) (136 * ((cols s m.length).length - 1) + 129 + j) (sumN (cols s j).length (dP m s)), ⟨m.length, 0, rfl, rfl, rfl, e7, v7⟩, ?_⟩
      rintro g2 x y junk w9 ⟨j, rfl, hg2, rfl, e9, v9⟩
      rw [bin_lss]
      refine cnd_dec (fun hj => ?_) (fun hj => ?_)
      · have hjn : j < m.length := by omega
        have E9 := e13.trans (e5.trans e9)
        rw [cnv_int_uint (by omega), bin_shrN (s := j) (by show j ≤ 64; omega), bin_and1 (Nat.le_trans (Nat.div_le_self _ _) (by omega)), bin_eql]
        by_cases hb : s.testBit j = true
        · have hd1 : decide (((s / 2 ^ j % 2 : Nat) : Int) = 0) = false := decide_eq_false (by have := bit_iff.2 hb; omega)
          have hle := two_le hb
          have hsl := cols_sub_len hb hjn
          have hget := cols_get hb hjn
          have hsb := cols_sub hb hjn
          have hcs : (cols s (j + 1)).length = (cols s j).length + 1 := by rw [cols_succ, if_pos hb]; simp
          rw [hd1, cnd_false]
          generalize hk : (cols s m.length).length = k at *
          generalize hc : (cols s j).length = c at *
          have hdp : dP m s c = sgn c * (dA m (m.length - k) j * sub (dA m) m.length ((cols s m.length).eraseIdx c)) := by
            unfold dP
            rw [hk, hget, Rat.mul_assoc]
          generalize hpart : dA m (m.length - k) j * sub (dA m) m.length ((cols s m.length).eraseIdx c) = part at *
          refine ⟨fun x11 w' => ∃ g11, Ext w9 w' ∧ w9.heap.size ≤ g11 ∧ DV w' g11 x11 (149 * k) (136 * (k - 1) + 129) part, ?_, ?_⟩
          · rintro x11 junk w10 ⟨g11, e10, hg11, v11⟩
            refine ⟨fun w' => Ext w9 w' ∧ DV w' g11 x11 (149 * k) (136 * (k - 1) + 129) (dP m s c), ?_, ?_⟩
            · rintro junk w11 ⟨e11, v11⟩
              refine (v9.ext e11).get fun u7 nu7 => ?_
              refine v11.get fun u11 nu11 => ?_
              refine c_l03Add nu7 (nu11.mono (Nat.le_refl _) (by omega)) (by omega) (by omega) fun u12 w12 e12 nu12 => ?_
              refine (v9.DC.ext (e11.trans e12)).put nu12 fun w13 v13 g13 _ => ?_
              rw [una_not, bin_addI1 (b := 1) (by omega)]
              refine ⟨g2 - 1, by omega, j + 1, rfl, by omega, ?_, ext_gr (e9.trans (e11.trans e12)) (Nat.le_refl _) g13, ?_⟩
              · rw [hcs]
                congr 1
                rcases Nat.mod_two_eq_zero_or_one c with h | h
                · rw [decide_eq_false (by omega), decide_eq_true (by omega)]; rfl
                · rw [decide_eq_true h, decide_eq_false (by omega)]; rfl
              · rw [hcs]; exact v13
            · refine cnd_dec (fun hodd => ?_) (fun heven => ?_)
              · refine v11.get fun u11 nu11 => ?_
                refine c_l03Neg nu11 (by omega) (by omega) fun u12 w12 e12 nu12 => ?_
                refine (v11.DC.ext e12).put nu12 fun w13 v13 g13 _ => ?_
                refine ⟨ext_gr (e10.trans e12) hg11 g13, ?_⟩
                rw [hdp, ← sgn_part, if_pos hodd]; exact v13
              · refine ⟨e10, ?_⟩
                rw [hdp, ← sgn_part, if_neg heven]; exact v11
          · have s59 := e9.size
            rw [bin_sub, wrap_i64 (by omega) (by omega), show (m.length : Int) - (k : Int) = ((m.length - k : Nat) : Int) by omega]
            refine (ha.ext (e1.trans E9)).entry hm (by omega) hjn fun hb1 hf1 => ?_
            have hsub : (s : Int) - ((2 ^ j : Nat) : Int) = ((s - 2 ^ j : Nat) : Int) := (Int.ofNat_sub hle).symm
            have hsle : s - 2 ^ j ≤ s := Nat.sub_le _ _
            rw [cnv_int_uint (by omega), bin_shlJ (by omega), bin_sub, hsub]
            generalize hs2 : s - 2 ^ j = s2 at *
            rw [wrap_i64 (by omega) (by omega)]
            refine SL.at (RS.ext l5 e9) (i := s2) (by rw [List.length_range, ← hs2]; have := Nat.two_pow_pos j; omega) u_s_impl_Dyadic i_impl_Dyadic u_impl_Dyadic rfl fun cc hcc => ?_
            rw [List.getElem_range] at hcc
            have hcc' : DQ w9 (.agg cc.toArray) (149 * (k - 1)) (136 * (k - 1) + 1) (sub (dA m) m.length ((cols s m.length).eraseIdx c)) := by
              have h9 : DQ w9 (.agg cc.toArray) (149 * (dF m s2).1) (136 * (dF m s2).1 + 1) (dF m s2).2 := hcc
              have a1 : (dF m s2).1 = k - 1 := hsl
              have a2 : (dF m s2).2 = sub (dA m) m.length ((cols s m.length).eraseIdx c) := by
                unfold dF; simp only; rw [hsb]
              rw [a1, a2] at h9
              exact h9
            have mulp : ∀ {w10 : World} {p57 : Value} {KM : Value → World → Prop}, Ext w9 w10 → DQ w10 p57 149 128 (fq (en m (m.length - k) j)) → (∀ p66 w11, Ext w10 w11 → DQ w11 p66 (149 * k) (136 * (k - 1) + 129) part → KM p66 w11) → call P f_spec_l03Mul [p57, .agg cc.toArray] w10 KM := by
              intro w10 p57 KM e10 h57 hK
              refine c_l03Mul h57 (hcc'.ext e10) (by decide) (by decide) (by omega) (by omega) fun p66 w11 e11 n11 => ?_
              have hx : fq (en m (m.length - k) j) * sub (dA m) m.length ((cols s m.length).eraseIdx c) = part := hpart
              rw [hx] at n11
              exact hK p66 w11 e11 (n11.mono (by omega) (by omega))
            refine ⟨?_, ?_⟩
            · refine c_l03Of hf1 hb1 fun p57 w10 e10 n57 => ?_
              refine ⟨e10, ?_, ?_⟩
              · refine mulp e10 n57 fun p66 w11 e11 n66 => ?_
                refine alc_DC fun x11 w12 c11 e12 => ?_
                refine ⟨e12, ?_⟩
                refine c11.put (n66.ext e12) fun w13 v13 g13 _ => ?_
                have E := e10.trans (e11.trans e12)
                have hsz : w9.heap.size ≤ w11.heap.size := (e10.trans e11).size
                exact ⟨_, ext_gr E hsz g13, hsz, v13⟩
              · refine alc_DC fun x11 w12 c11 e12 => ?_
                refine ⟨e12, ?_⟩
                refine mulp (e10.trans e12) (n57.ext e12) fun p66 w13 e13 n66 => ?_
                refine (c11.ext e13).put n66 fun w14 v14 g14 _ => ?_
                exact ⟨_, ext_gr (e10.trans (e12.trans e13)) e10.size g14, e10.size, v14⟩
            · refine alc_DC fun x11 w10 c11 e10 => ?_
              refine ⟨e10, ?_⟩
              refine c_l03Of hf1 hb1 fun p57 w12 e12 n57 => ?_
              refine ⟨e12, ?_⟩
              refine mulp (e10.trans e12) n57 fun p66 w13 e13 n66 => ?_
              refine ((c11.ext e12).ext e13).put n66 fun w14 v14 g14 _ => ?_
              exact ⟨_, ext_gr (e10.trans (e12.trans e13)) (Nat.le_refl _) g14, Nat.le_refl _, v14⟩
        · have hd1 : decide (((s / 2 ^ j % 2 : Nat) : Int) = 0) = true := decide_eq_true (by
            have : ¬ s / 2 ^ j % 2 = 1 := fun h => hb (bit_iff.1 h)
            omega)
          rw [hd1, cnd_true, bin_addI1 (b := 1) (by omega)]
          have hcs : cols s (j + 1) = cols s j := by rw [cols_succ, if_neg hb]; simp
          refine ⟨g2 - 1, by omega, j + 1, rfl, by omega, ?_, e9, ?_⟩
          · rw [hcs]
          · rw [hcs]; exact v9.mono (Nat.le_refl _) (by omega)
      · have hjn : j = m.length := by omega
        subst hjn
        refine v9.get fun u9 nu9 => ?_
        have hval : sumN (cols s m.length).length (dP m s) = (dF m s).2 := by
          unfold dF
          simp only
          rw [sub_step _ _ hkp hkl]
          rfl
        rw [hval] at nu9
        refine RS.push (n := s) (RS.ext l5 e9) (nu9.mono (Nat.le_refl _) (by show _ ≤ 136 * (cols s m.length).length + 1; omega)) (e5.trans e9).size (by omega) fun v' w10 l10 hE => ?_
        rw [bin_addI1 (b := 1) (by omega)]
        refine ⟨g - 1, by omega, s + 1, rfl, by omega, by omega, hE (e5.trans e9) (Nat.le_refl _), l10⟩
  · have hs : s = 2 ^ m.length := by
      have : ¬ (s : Int) < ((2 ^ m.length : Nat) : Int) := hge
      omega
    subst hs
    rw [SL.len l5 u_s_impl_Dyadic, List.length_range, bin_sub, wrap_i64 (by omega) (by omega), show ((2 ^ m.length : Nat) : Int) - 1 = ((2 ^ m.length - 1 : Nat) : Int) by omega]
    refine SL.at l5 (i := 2 ^ m.length - 1) (by rw [List.length_range]; omega) u_s_impl_Dyadic i_impl_Dyadic u_impl_Dyadic rfl fun c hc => ?_
    rw [List.getElem_range] at hc
    have hfin : DQ w5 (.agg c.toArray) 1192 1089 (det m.length (dA m)) := by
      have h9 : DQ w5 (.agg c.toArray) (149 * (dF m (2 ^ m.length - 1)).1) (136 * (dF m (2 ^ m.length - 1)).1 + 1) (dF m (2 ^ m.length - 1)).2 := hc
      have hl := dF_len_le m (2 ^ m.length - 1)
      have hd2 : (dF m (2 ^ m.length - 1)).2 = det m.length (dA m) := by
        unfold dF sub
        simp only
        rw [full_cols, List.length_range]
        refine det_congr fun i k hi hk => ?_
        rw [Nat.sub_self, Nat.zero_add]
        simp [List.getD_eq_getElem?_getD, hk]
      rw [hd2] at h9
      exact h9.mono (by omega) (by omega)
    refine (c2.ext (e13.trans e5)).put hfin fun w6 v6 g6 _ => ?_
    refine v6.getc fun u nu => ?_
    exact H _ _ (ext_gr (e1.trans (e13.trans e5)) (Nat.le_refl _) g6) nu
end Go.Proofs.Ytabgkpfcpncmhaa

/- The interface for exact numbers. -/
set_option linter.unusedVariables false
namespace Go.Proofs.Ytabgkpfcpncmhaa
open Go Go.Vc

variable {w : World} {K : Value → World → Prop} {lo hi : Nat} {v : Value}

abbrev DY := Int × List Int × Int
def I_Dyadic (w : World) (v : Value) (d : DY) : Prop := ∃ s, v = .agg #[.int .i64 d.1, s, .int .i64 d.2.2] ∧ FI w s d.2.1
theorem I_Dyadic.ext {w' : World} {d : DY} (h : I_Dyadic w v d) (he : Ext w w') : I_Dyadic w' v d := let ⟨s, h1, h2⟩ := h; ⟨s, h1, h2.ext he⟩
def O_Dyadic (w : World) (lo hi : Nat) (v : Value) (d : DY) : Prop := ∃ s, v = .agg #[.int .i64 d.1, s, .int .i64 d.2.2] ∧ OIR w lo hi s d.2.1
theorem O_Dyadic.ext {w' : World} {d : DY} (h : O_Dyadic w lo hi v d) (he : Ext w w') : O_Dyadic w' lo hi v d := let ⟨s, h1, h2⟩ := h; ⟨s, h1, h2.ext he⟩
theorem O_Dyadic.chg {w' : World} {d : DY} {lo' hi' : Nat} (h : O_Dyadic w lo hi v d) (hc : Chg lo' hi' w w') (hd : hi ≤ lo' ∨ hi' ≤ lo) : O_Dyadic w' lo hi v d := let ⟨s, h1, h2⟩ := h; ⟨s, h1, h2.chg hc hd⟩
theorem O_Dyadic.I {d : DY} (h : O_Dyadic w lo hi v d) : I_Dyadic w v d := let ⟨s, h1, h2⟩ := h; ⟨s, h1, OIR.FI h2⟩
def cnt_Dyadic (d : DY) : Nat := d.2.1.length
def mk_Dyadic (k : Int) (d : DY) : DY := (d.1, mkI k d.2.1.length, d.2.2)
theorem Dyadic_agg {d : DY} (h : I_Dyadic w v d) : ∃ cs : List Value, v = .agg cs.toArray ∧ cs.length = 3 ∧ ∀ x ∈ cs, x.oneCell' = true := by
  obtain ⟨s, h1, h2⟩ := h
  exact ⟨[.int .i64 d.1, s, .int .i64 d.2.2], h1, rfl, one_3 rfl h2.one rfl⟩

theorem c_eqWhole {n : Int} {s t : Value} {l : List Int} (h1 : FI w s l) (h2 : FI w t l) (H : ∀ w', Ext w w' → K (.bool true) w') : call P f_laws_eqWhole [.agg #[.int .i64 n, s], .agg #[.int .i64 n, t]] w K := by
  refine I_laws_eqWhole ?_
  unfold D_laws_eqWhole
  refine bx_Wh fun p w1 p1 e1 => ?_
  refine bx_Wh fun q w2 p2 e2 => ?_
  have p1 := p1.ext e2
  have E := e1.trans e2
  refine wh_s p1 ?_
  refine wh_s p2 ?_
  refine neq_no rfl ?_
  rw [cnd_false]
  refine wh_l p1 ?_
  refine wh_l p2 ?_
  refine c_eqInt64S (h1.ext E) (h2.ext E) ?_
  rw [una_not, Bool.not_true, cnd_false]
  exact H _ E
theorem c_eq_Dyadic {u : Value} {d : DY} (h1 : I_Dyadic w u d) (h2 : I_Dyadic w v d) (H : ∀ w', Ext w w' → K (.bool true) w') : call P f_laws_eqDyadic [u, v] w K := by
  obtain ⟨s, rfl, a1⟩ := h1
  obtain ⟨t, rfl, a2⟩ := h2
  refine I_laws_eqDyadic ?_
  unfold D_laws_eqDyadic
  refine bx_Dy fun p w1 p1 e1 => ?_
  refine bx_Dy fun q w2 p2 e2 => ?_
  have p1 := p1.ext e2
  have E := e1.trans e2
  refine dy_w p1 ?_
  refine dy_w p2 ?_
  refine c_eqWhole (a1.ext E) (a2.ext E) fun w3 e3 => ?_
  rw [una_not, Bool.not_true, cnd_false]
  refine dy_e (p1.ext e3) ?_
  refine dy_e (p2.ext e3) ?_
  refine neq_no rfl ?_
  rw [cnd_false]
  exact H _ (E.trans e3)
theorem c_mark_Dyadic {d : DY} {k : Int} (h : O_Dyadic w lo hi v d) (h0 : 0 ≤ k) (h1 : k + cnt_Dyadic d ≤ 4611686018427387904) (H : ∀ w', O_Dyadic w' lo hi v (mk_Dyadic k d) → Chg lo hi w w' → K (.int .i64 (k + cnt_Dyadic d)) w') :
    call P f_laws_markDyadic [v, .int .i64 k] w K := by
  obtain ⟨s, rfl, a1⟩ := h
  unfold cnt_Dyadic at *
  refine I_laws_markDyadic ?_
  unfold D_laws_markDyadic
  refine bx_Dy fun p w1 p1 e1 => ?_
  refine dy_w p1 ?_
  refine I_laws_markWhole ?_
  unfold D_laws_markWhole
  refine bx_Wh fun q w2 p2 e2 => ?_
  refine wh_l p2 ?_
  have E := e1.trans e2
  have a2 := OwnR.ext a1 E
  refine c_markInt64S a2 h0 h1 fun w3 a3 g3 => ?_
  exact H w3 ⟨s, rfl, a3⟩ ((Chg.of_ext E).trans (OwnR.grown a2 g3))
theorem c_held_Dyadic {d : DY} {k : Int} (h : I_Dyadic w v (mk_Dyadic k d)) (h0 : 0 ≤ k) (h1 : k + cnt_Dyadic d ≤ 4611686018427387904) (H : ∀ w', Ext w w' → K (.int .i64 (k + cnt_Dyadic d)) w') : call P f_laws_heldDyadic [v, .int .i64 k] w K := by
  obtain ⟨s, rfl, a1⟩ := h
  unfold cnt_Dyadic at *
  refine I_laws_heldDyadic ?_
  unfold D_laws_heldDyadic
  refine bx_Dy fun p w1 p1 e1 => ?_
  refine dy_w p1 ?_
  refine I_laws_heldWhole ?_
  unfold D_laws_heldWhole
  refine bx_Wh fun q w2 p2 e2 => ?_
  refine wh_l p2 ?_
  have E := e1.trans e2
  refine c_heldInt64S (a1.ext E) h0 h1 ?_
  refine lss_no (by omega) ?_
  rw [cnd_false]
  refine lss_no (by omega) ?_
  rw [cnd_false]
  exact H _ E

/-! ### the canonical pair of a number, and its limbs -/
open Classical in
noncomputable def cnQ (q : Rat) : Int × Int := if h : ∃ p : Int × Int, Canon p.1 p.2 ∧ q = dy p.1 p.2 then Classical.choose h else (0, 0)
theorem Cn.cnQ {lo hi : Nat} {q : Rat} {m e : Int} (h : Cn lo hi q m e) : cnQ q = (m, e) := by
  have hx : ∃ p : Int × Int, Canon p.1 p.2 ∧ q = dy p.1 p.2 := ⟨(m, e), h.canon, h.val⟩
  unfold Go.Proofs.Ytabgkpfcpncmhaa.cnQ
  rw [dif_pos hx]
  obtain ⟨h1, h2⟩ := Classical.choose_spec hx
  obtain ⟨e1, e2⟩ := canon_inj h1 h.canon (h2.symm.trans h.val)
  exact Prod.ext e1 e2
open Classical in
noncomputable def lmb (m : Int) : List Nat := if h : ∃ l, Wl l m then Classical.choose h else []
theorem Wl.lmb {l : List Nat} {m : Int} (h : Wl l m) : lmb m = l := by
  have hx : ∃ l, Wl l m := ⟨l, h⟩
  unfold Go.Proofs.Ytabgkpfcpncmhaa.lmb
  rw [dif_pos hx]
  have h1 := Classical.choose_spec hx
  exact Vc.val_inj h1.1 h.1 (h1.2.trans h.2.symm)
theorem lmb_len {m : Int} (h : bl m.natAbs ≤ 2400) : (lmb m).length ≤ 45812984491 := by
  unfold lmb
  split
  · rename_i hx
    exact (Classical.choose_spec hx).len (by omega)
  · simp
noncomputable def dyV (m e : Int) : DY := (m.sign, (lmb m).map (fun (n : Nat) => (n : Int)), e)
theorem Dr.I {m e : Int} (h : Dr w v m e) : I_Dyadic w v (dyV m e) := by
  obtain ⟨s, l, h1, h2, h3⟩ := h
  refine ⟨s, h1, ?_⟩
  unfold dyV
  rw [h3.lmb]
  have := h2.row
  unfold FI
  rw [List.map_map, List.length_map]
  exact this
theorem Do.O {lo hi : Nat} {m e : Int} (h : Do w lo hi v m e) : O_Dyadic w lo hi v (dyV m e) := by
  obtain ⟨s, l, h1, h2, h3⟩ := h
  refine ⟨s, h1, ?_⟩
  unfold dyV
  rw [h3.lmb]
  unfold OIR
  rw [List.map_map, List.length_map]
  exact h2
noncomputable def dyOut (q : Rat) : DY × Int := (dyV (dyR (cnQ q).1 (cnQ q).2).1.1 (dyR (cnQ q).1 (cnQ q).2).1.2, (dyR (cnQ q).1 (cnQ q).2).2)
theorem small_dyOut (q : Rat) : cnt_Dyadic (dyOut q).1 ≤ 45812984491 := by
  unfold dyOut cnt_Dyadic dyV
  simp only [List.length_map]
  unfold dyR
  split
  · rename_i h; exact lmb_len h.1
  · exact lmb_len (by decide)
theorem dyV_zero : dyV 0 0 = (0, [], 0) := by unfold dyV; rw [Wl.zero.lmb]; rfl
end Go.Proofs.Ytabgkpfcpncmhaa

/- The contracts of DeterminantOf, as the law wants them. -/
set_option linter.unusedVariables false
namespace Go.Proofs.Ytabgkpfcpncmhaa
open Go Go.Vc

variable {w : World} {K : Value → World → Prop}

noncomputable def detF (m : List (List Nat)) : DY × Int := if matB m then dyOut (det m.length (dA m)) else ((0, [], 0), 1)
theorem small_DeterminantOf_0 (m : List (List Nat)) : cnt_Dyadic (detF m).1 ≤ 45812984491 := by
  unfold detF
  split
  · exact small_dyOut _
  · simp [cnt_Dyadic]
theorem O_zero (w : World) (lo hi : Nat) : O_Dyadic w lo hi (.agg #[.int .i64 0, .slice none 0 0, .int .i64 0]) (0, [], 0) := by
  have := (Do.zero w lo hi).O
  rw [dyV_zero] at this; exact this
theorem p_DeterminantOf {a : Value} {m : List (List Nat)} (ha : I_Float32SS w a m)
    (H : ∀ u w', Ext w w' → O_Dyadic w' w.heap.size w'.heap.size u (detF m).1 → K (.tuple #[u, .int .i64 (detF m).2]) w') : call P f_impl_DeterminantOf [a] w K := by
  refine I_impl_DeterminantOf ?_
  unfold D_impl_DeterminantOf
  refine alc_Dy fun x4 w1 ⟨cs, hcs, b1⟩ e1 => ?_
  have h1 := ha.1.ext e1
  refine c_impl_IsMatrix h1 ?_
  rw [una_not]
  by_cases hm : matB m = true
  · rw [hm, Bool.not_true, cnd_false]
    have hg : detF m = dyOut (det m.length (dA m)) := by unfold detF; rw [if_pos hm]
    rw [hg] at H
    refine c_impl_determinant h1 hm fun u w3 e3 hq => ?_
    refine c_num_dyadic hq (by decide) (by decide) fun v4 w4 n e e4 hc hd => ?_
    rw [xtr_0, xtr_1]
    have E4 := e1.trans (e3.trans e4)
    obtain ⟨s, l, hv4, ho, hw⟩ := hd
    have b4 := (b1.ext e3).ext e4
    subst hv4
    refine dy_ret b4 hcs (own_one ho) fun w5 g5 => ?_
    have e5 : Ext w w5 := ext_of_grown E4 (fun g hg => (b4.blk_lt hg).1) g5
    have o5 := keep_row ho.own g5 (Ty.box b4) (by decide)
    unfold dyOut at H
    rw [hc.cnQ] at H
    exact H _ _ e5 (Do.O ⟨s, l, rfl, ⟨owns_base o5 (e1.trans e3).size, fun k hk => Nat.lt_of_lt_of_le (ho.top k hk) g5.size⟩, hw⟩)
  · rw [Bool.not_eq_true] at hm
    rw [hm, Bool.not_false, cnd_true]
    rw [bld_Dyadic0]
    refine dy_ret b1 hcs rfl fun w2 g2 => ?_
    have e2 : Ext w w2 := ext_of_grown e1 (fun g hg => (b1.blk_lt hg).1) g2
    have hc : detF m = ((0, [], 0), 1) := by unfold detF; rw [if_neg (by rw [hm]; decide)]
    rw [hc] at H
    exact H _ _ e2 (O_zero _ _ _)
theorem s_DeterminantOf {a : Value} {m : List (List Nat)} (ha : I_Float32SS w a m)
    (H : ∀ u w', Ext w w' → I_Dyadic w' u (detF m).1 → K (.tuple #[u, .int .i64 (detF m).2]) w') : call P f_spec_DeterminantOf [a] w K := by
  refine I_spec_DeterminantOf ?_
  unfold D_spec_DeterminantOf
  refine alc_Dy fun x4 w1 ⟨cs, hcs, b1⟩ e1 => ?_
  have h1 := ha.1.ext e1
  refine c_spec_l10Is h1 ?_
  rw [una_not]
  by_cases hm : matB m = true
  · rw [hm, Bool.not_true, cnd_false]
    have hg : detF m = dyOut (det m.length (dA m)) := by unfold detF; rw [if_pos hm]
    rw [hg] at H
    refine c_spec_l10Determinant h1 hm fun u w3 e3 hq => ?_
    obtain ⟨n, e, hd, hc⟩ := hq
    refine c_l03Fit hd hc.canon fun v4 w4 e4 hd4 => ?_
    rw [xtr_0, xtr_1]
    have E4 := e1.trans (e3.trans e4)
    refine alc_Dy fun x6 w5 ⟨cs', hcs', b6⟩ e5 => ?_
    refine (hd4.ext e5).put b6 hcs' fun w6 ⟨s6, hv6, b6'⟩ g6 => ?_
    have hd6 := (hd4.ext e5).kt g6 (Ty.box b6) (by decide)
    have e6 : Ext w4 w6 := ext_of_grown e5 (fun g hg => (b6.blk_lt hg).1) g6
    rw [hv6] at hd6
    refine dy_all b6' ?_
    have b4 := ((b1.ext e3).ext e4).ext e6
    refine hd6.put b4 hcs fun w7 ⟨s7, hv7, b7⟩ g7 => ?_
    have hd7 := hd6.kt g7 (Ty.box b4) (by decide)
    rw [hv7] at hd7
    refine b7.getc u_impl_Dyadic rfl i_impl_Dyadic rfl ?_
    have e7 : Ext w w7 := ext_of_grown (E4.trans e6) (fun g hg => (b4.blk_lt hg).1) g7
    unfold dyOut at H
    rw [hc.cnQ] at H
    exact H _ _ e7 hd7.I
  · rw [Bool.not_eq_true] at hm
    rw [hm, Bool.not_false, cnd_true]
    rw [bld_Dyadic0]
    refine dy_ret b1 hcs rfl fun w2 g2 => ?_
    have e2 : Ext w w2 := ext_of_grown e1 (fun g hg => (b1.blk_lt hg).1) g2
    have hc : detF m = ((0, [], 0), 1) := by unfold detF; rw [if_neg (by rw [hm]; decide)]
    rw [hc] at H
    exact H _ _ e2 (O_zero _ 0 0).I
end Go.Proofs.Ytabgkpfcpncmhaa

/- The interface for scalars. -/
set_option linter.unusedVariables false
namespace Go.Proofs.Ytabgkpfcpncmhaa
open Go Go.Vc

set_option maxRecDepth 20000
def A_int64 (d : Int) : Prop := -9223372036854775808 ≤ d ∧ d ≤ 9223372036854775807
theorem okWide_int64 {w : World} {r : Reach} {base : Nat} {v : Value} (h : Value.okWide P w r base t_int64 v) : ∃ d, A_int64 d ∧ v = .int .i64 d := by
  simp only [Value.okWide, u_int64, Cell.okWide] at h
  cases v <;> simp only [Cell.ok, u_int64] at h
  obtain ⟨rfl, h⟩ := h
  refine ⟨_, ?_, rfl⟩
  unfold A_int64
  simpa [IntKind.has, IntKind.min, IntKind.max, IntKind.bits, IntKind.signed] using h
end Go.Proofs.Ytabgkpfcpncmhaa

/- No function of a list calls itself, if the list has an order. -/
set_option linter.unusedVariables false
namespace Go.Proofs.Ytabgkpfcpncmhaa
open Go

theorem closureVia_sub {P : Program} {Q : FuncId → Prop} (hQ : ∀ g, Q g → ∀ h ∈ (P.funcs[g]?).elim [] P.leadsTo, Q h) :
    ∀ (n : Nat) (todo seen : List FuncId), (∀ x ∈ todo, Q x) → (∀ x ∈ seen, Q x) → ∀ x ∈ P.closureVia n todo seen, Q x
  | 0, todo, seen, _, h2, x, hx => h2 x (by simpa [Program.closureVia] using hx)
  | n + 1, [], seen, _, h2, x, hx => h2 x (by simpa [Program.closureVia] using hx)
  | n + 1, f :: todo, seen, h1, h2, x, hx => by
    rw [Program.closureVia] at hx
    split at hx
    · exact closureVia_sub hQ n todo seen (fun y hy => h1 y (List.mem_cons_of_mem _ hy)) h2 x hx
    · refine closureVia_sub hQ n _ _ (fun y hy => ?_) (fun y hy => ?_) x hx
      · rcases List.mem_append.1 hy with hy | hy
        · exact hQ f (h1 f List.mem_cons_self) y hy
        · exact h1 y (List.mem_cons_of_mem _ hy)
      · rcases List.mem_cons.1 hy with rfl | hy
        · exact h1 _ List.mem_cons_self
        · exact h2 y hy

theorem norec_of {P : Program} {S L : List FuncId} (h : (S.all fun g => ((P.funcs[g]?).elim [] P.leadsTo).all fun h => S.contains h && decide (L.idxOf h < L.idxOf g)) = true) :
    S.any (fun g => ((P.funcs[g]?).elim [] P.leadsTo).any fun h => (P.closure h).contains g) = false := by
  simp only [List.all_eq_true, Bool.and_eq_true, decide_eq_true_eq, List.contains_iff_mem] at h
  refine Bool.eq_false_iff.2 fun hc => ?_
  simp only [List.any_eq_true, List.contains_iff_mem] at hc
  obtain ⟨g, hg, x, hx, hm⟩ := hc
  have h0 := h g hg x hx
  have := closureVia_sub (P := P) (Q := fun y => y ∈ S ∧ L.idxOf y < L.idxOf g) (fun a ha b hb => ?_) _ [x] [] (fun y hy => ?_) (fun y hy => by cases hy) g hm
  · exact Nat.lt_irrefl _ this.2
  · have h1 := h a ha.1 b hb
    exact ⟨h1.1, Nat.lt_trans h1.2 ha.2⟩
  · rw [List.mem_singleton] at hy
    rw [hy]; exact h0
end Go.Proofs.Ytabgkpfcpncmhaa

/- The closed facts of FnExactDeterminantOf's row. -/
set_option linter.unusedVariables false
namespace Go.Proofs.Ytabgkpfcpncmhaa
open Go Go.Vc
theorem reach_FnExactDeterminantOf : Try.pinned.checked.prog.closure 3 = [3, 4, 13, 6, 17, 5, 14, 26, 50, 16, 29, 55, 78, 28, 53, 77, 54, 31, 57, 80, 79, 30, 56, 32, 58, 33, 60, 59, 81, 82, 83, 15, 27, 51, 52, 7, 18, 34, 61, 84, 19, 35, 62, 37, 64, 65, 86, 36, 63, 85, 38, 39, 40, 66, 41, 67, 87, 88, 96, 98, 97, 99, 89, 42, 68, 90, 91, 94, 93, 43, 69, 20, 44, 70, 71, 73, 92, 72, 45, 74, 75, 76, 95, 8, 21, 46, 9, 22, 47, 10, 23, 11, 24, 48, 12, 25, 49] := by kernel_rfl
theorem norec_FnExactDeterminantOf : ([3, 4, 13, 6, 17, 5, 14, 26, 50, 16, 29, 55, 78, 28, 53, 77, 54, 31, 57, 80, 79, 30, 56, 32, 58, 33, 60, 59, 81, 82, 83, 15, 27, 51, 52, 7, 18, 34, 61, 84, 19, 35, 62, 37, 64, 65, 86, 36, 63, 85, 38, 39, 40, 66, 41, 67, 87, 88, 96, 98, 97, 99, 89, 42, 68, 90, 91, 94, 93, 43, 69, 20, 44, 70, 71, 73, 92, 72, 45, 74, 75, 76, 95, 8, 21, 46, 9, 22, 47, 10, 23, 11, 24, 48, 12, 25, 49] : List FuncId).any (fun g => ((Try.pinned.checked.prog.funcs[g]?).elim [] Try.pinned.checked.prog.leadsTo).any fun h => (Try.pinned.checked.prog.closure h).contains g) = false :=
  norec_of (L := [13, 4, 17, 6, 50, 26, 14, 78, 55, 29, 77, 53, 54, 28, 80, 79, 57, 31, 56, 30, 58, 32, 60, 81, 82, 83, 59, 33, 16, 52, 51, 27, 15, 5, 84, 61, 34, 18, 62, 86, 65, 64, 37, 35, 85, 63, 36, 38, 39, 66, 40, 87, 98, 96, 99, 97, 88, 89, 67, 41, 91, 94, 93, 90, 68, 42, 69, 43, 19, 70, 73, 92, 71, 72, 44, 74, 75, 95, 76, 45, 20, 7, 46, 21, 8, 47, 22, 9, 23, 10, 48, 24, 11, 49, 25, 12, 3]) (by kernel_rfl)
theorem joined_FnExactDeterminantOf : joinedFacts Try.pinned.checked.prog 3 Try.f3 Rows.fnExactDeterminantOfSpec Rows.fnExactDeterminantOfRow = true := by
  unfold joinedFacts Program.recurses Program.inPlace Program.varsNamed Program.unfollowed
  rw [reach_FnExactDeterminantOf]
  rw [norec_FnExactDeterminantOf]
  kernel_rfl
end Go.Proofs.Ytabgkpfcpncmhaa
