import Derived.Test.YtabgkpfcpncmhaaGreatU8
import Derived.Test.YtabgkpfcpncmhaaGreatVcK
import Derived.ProofKit
import Derived.Test.YtabgkpfcpncmhaaGreatRows
import Derived.Test.YtabgkpfcpncmhaaGreatQResidualOf3
set_option linter.unusedSimpArgs false
set_option linter.unusedVariables false
/- The interface for lists of whole numbers and eliminations. -/
set_option linter.unusedVariables false
namespace Go.Proofs.YtabgkpfcpncmhaaGreat
open Go Go.Vc

variable {w : World} {K : Value → World → Prop} {lo hi : Nat} {v : Value}

/-! ### lists of whole numbers -/
abbrev vI (n : Int) : Value := .int .i64 n
def FI (w : World) (v : Value) (l : List Int) : Prop := Row 1 w v l.length (l.map vI)
theorem FI.ext {w' : World} {l : List Int} (h : FI w v l) (he : Ext w w') : FI w' v l := Row.ext h he
abbrev OIR (w : World) (lo hi : Nat) (v : Value) (l : List Int) : Prop := OwnR w lo hi t_int64 1 v l.length (l.map vI)
theorem OIR.FI {l : List Int} (h : OIR w lo hi v l) : FI w v l := owns_Row h.own
def mkI (k : Int) (n : Nat) : List Int := (List.range n).map (fun j => k + (j : Nat))
@[simp] theorem mkI_length (k : Int) (n : Nat) : (mkI k n).length = n := by simp [mkI]
theorem mkI_get (k : Int) (n i : Nat) (h : i < (mkI k n).length) : (mkI k n)[i] = k + (i : Nat) := by simp [mkI]

/-! ### eliminations -/
abbrev DE := List Int × List (List Nat)
def I_Elimination (w : World) (v : Value) (d : DE) : Prop := ∃ ov tv, v = .agg #[ov, tv] ∧ FI w ov d.1 ∧ I_Float32SS w tv d.2
theorem I_Elimination.ext {w' : World} {d : DE} (h : I_Elimination w v d) (he : Ext w w') : I_Elimination w' v d := by
  obtain ⟨ov, tv, h1, h2, h3⟩ := h
  exact ⟨ov, tv, h1, h2.ext he, A_Float32SS.ext h3 he⟩
def O_Elimination (w : World) (lo hi : Nat) (v : Value) (d : DE) : Prop := ∃ ov tv vs, v = .agg #[ov, tv] ∧ OIR w lo hi ov d.1 ∧ OM w lo hi tv d.2 vs ∧ bits d.2
theorem O_Elimination.ext {w' : World} {d : DE} (h : O_Elimination w lo hi v d) (he : Ext w w') : O_Elimination w' lo hi v d := by
  obtain ⟨ov, tv, vs, h1, h2, h3, h4⟩ := h
  exact ⟨ov, tv, vs, h1, h2.ext he, h3.ext he, h4⟩
theorem O_Elimination.chg {w' : World} {d : DE} {lo' hi' : Nat} (h : O_Elimination w lo hi v d) (hc : Chg lo' hi' w w') (hd : hi ≤ lo' ∨ hi' ≤ lo) : O_Elimination w' lo hi v d := by
  obtain ⟨ov, tv, vs, h1, h2, h3, h4⟩ := h
  exact ⟨ov, tv, vs, h1, h2.chg hc hd, h3.chg hc hd, h4⟩
theorem O_Elimination.I {d : DE} (h : O_Elimination w lo hi v d) : I_Elimination w v d := by
  obtain ⟨ov, tv, vs, h1, h2, h3, h4⟩ := h
  exact ⟨ov, tv, h1, OIR.FI h2, h3.FSS h4, h4⟩
def cnt_Elimination (d : DE) : Nat := d.1.length + total d.2
def mk_Elimination (k : Int) (d : DE) : DE := (mkI k d.1.length, mkM (k + d.1.length) d.2)
theorem FI.one {l : List Int} (h : FI w v l) : v.oneCell' = true := by
  obtain ⟨_, _, a, cap, rfl, _⟩ := h
  rfl
theorem FSS.one {m : List (List Nat)} (h : FSS w v m) : v.oneCell' = true := by
  obtain ⟨vs, h, _⟩ := h.ex
  obtain ⟨_, _, a, cap, rfl, _⟩ := h
  rfl
theorem Elimination_agg {d : DE} (h : I_Elimination w v d) : ∃ cs : List Value, v = .agg cs.toArray ∧ cs.length = 2 ∧ ∀ x ∈ cs, x.oneCell' = true := by
  obtain ⟨ov, tv, h1, h2, h3⟩ := h
  exact ⟨[ov, tv], h1, rfl, one2 h2.one h3.1.one⟩
end Go.Proofs.YtabgkpfcpncmhaaGreat

/- Contracts: gaps of matrices. -/
set_option linter.unusedVariables false
namespace Go.Proofs.YtabgkpfcpncmhaaGreat
open Go Go.Vc

variable {w : World} {K : Value → World → Prop}

def en (m : List (List Nat)) (i j : Nat) : Nat := (m.getD i []).getD j 0
theorem en_eq {m : List (List Nat)} {i j : Nat} (hi : i < m.length) (hj : j < m[i].length) : m[i][j] = en m i j := by
  unfold en; simp [hi, hj]
theorem FSS.entry {a : Value} {m : List (List Nat)} (ha : FSS w a m) (hm : matB m = true) {i j : Nat} (hi : i < m.length) (hj : j < m.length) {K : Value → Prop}
    (H : en m i j < 4294967296 → Vc.Fin Ieee.single (en m i j) → K (fl (en m i j))) :
    ixa P t_s_s_float32 a (.int .i64 (i : Int)) w fun x => ld P t_s_float32 x w fun r => ixa P t_s_float32 r (.int .i64 (j : Int)) w fun y => ld P t_float32 y w K := by
  obtain ⟨h1, h2, h3⟩ := matB_parts hm
  refine ha.at hi fun x hx => ?_
  have h4 := h1 m[i] (List.getElem_mem hi)
  have hj' : j < m[i].length := by omega
  refine hx.at hj' ?_
  have h5 := hx.lt m[i][j] (List.getElem_mem hj')
  have h6 := finB_iff.1 (List.all_eq_true.1 h4.2 m[i][j] (List.getElem_mem hj'))
  rw [en_eq hi hj'] at h5 h6 ⊢
  exact H h5 h6

/-! ### the plain law -/
def gK (m b : List (List Nat)) (i j : Nat) : Nat → Rat
  | 0 => if i = j then 1 else 0
  | k + 1 => gK m b i j k - fq (en b i k) * fq (en m k j)
def gJ (m b : List (List Nat)) (n i : Nat) : Nat → Rat
  | 0 => 0
  | j + 1 => gJ m b n i j + absQ (gK m b i j n)
def gI (m b : List (List Nat)) (n : Nat) : Nat → Rat
  | 0 => 0
  | i + 1 => if 0 < cmpQ (gJ m b n i n) (gI m b n i) then gJ m b n i n else gI m b n i
theorem dy_one : dy 1 0 = 1 := by simp [dy]
theorem fq_one : fq 1065353216 = 1 := by
  show dy (fM 1065353216) (fE 1065353216) = 1
  rw [show fM 1065353216 = 1 * 2 ^ 23 from by decide, dy_shift' (m := 1) (e := 0) (by decide)]
  exact dy_one
theorem fin_one : Vc.Fin Ieee.single 1065353216 := by decide

end Go.Proofs.YtabgkpfcpncmhaaGreat

/- Contracts: doubles scaled by a power of two (math.Ldexp), narrowed. -/
set_option linter.unusedVariables false
namespace Go.Proofs.YtabgkpfcpncmhaaGreat
open Go Go.Vc Ieee

variable {w : World} {K : Value → World → Prop}

theorem and_split' {a b x y k : Nat} (ha : a < 2 ^ k) (hb : b < 2 ^ k) : (2 ^ k * x + a) &&& (2 ^ k * y + b) = 2 ^ k * (x &&& y) + (a &&& b) := by
  have hab : a &&& b < 2 ^ k := Nat.and_lt_two_pow _ hb
  apply Nat.eq_of_testBit_eq
  intro j
  rw [Nat.testBit_and, Nat.testBit_two_pow_mul_add _ ha, Nat.testBit_two_pow_mul_add _ hb, Nat.testBit_two_pow_mul_add _ hab]
  split <;> rw [Nat.testBit_and]
theorem or_split {a x k : Nat} (ha : a < 2 ^ k) : a ||| (2 ^ k * x) = 2 ^ k * x + a := by
  rw [Nat.or_comm, ← Nat.two_pow_add_eq_or_of_lt ha]
theorem bin_andNot0 {t : TypeId} {cx cy : Bool} {x y : Int} {K : Value → Prop} : bin P .andNot t cx cy (.int .u64 x) (.int .u64 y) w K = K (.int .u64 (IntKind.u64.wrap ((BitVec.ofInt 64 x &&& ~~~(BitVec.ofInt 64 y)).toNat : Nat))) :=
  bin_of (eqg_int ..) (by unfold binOp Op.intBits; rfl)
theorem andNot_nat {a b : Nat} (ha : a < 2 ^ 64) (hb : b < 2 ^ 64) : (BitVec.ofInt 64 (a : Int) &&& ~~~(BitVec.ofInt 64 (b : Int))).toNat = a &&& (2 ^ 64 - 1 - b) := by
  rw [BitVec.toNat_and, BitVec.toNat_not, BitVec.ofInt_natCast, BitVec.ofInt_natCast, BitVec.toNat_ofNat, BitVec.toNat_ofNat, Nat.mod_eq_of_lt ha, Nat.mod_eq_of_lt hb]
theorem wrap_u64 {n : Nat} (h : n < 2 ^ 64) : IntKind.u64.wrap (n : Int) = n := by
  rw [wrap_nat]
  have : n ≤ 18446744073709551615 := by have : (2 : Nat) ^ 64 = 18446744073709551616 := by decide
                                        omega
  rw [show IntKind.u64.max = 18446744073709551615 from rfl]
  omega
/-- The sign taken off. -/
theorem bin_clear {t : TypeId} {cx cy : Bool} {a : Nat} {K : Value → Prop} (ha : a < 2 ^ 63) : bin P .andNot t cx cy (.int .u64 (a : Int)) (.int .u64 9223372036854775808) w K = K (.int .u64 (a : Int)) := by
  have h64 : a < 2 ^ 64 := Nat.lt_trans ha (by decide)
  rw [bin_andNot0]
  have e := andNot_nat (b := 9223372036854775808) h64 (by decide)
  rw [show ((9223372036854775808 : Nat) : Int) = (9223372036854775808 : Int) from rfl] at e
  rw [e, show (2 ^ 64 - 1 - 9223372036854775808 : Nat) = 2 ^ 63 - 1 from by decide, Nat.and_two_pow_sub_one_eq_mod, Nat.mod_eq_of_lt ha, wrap_u64 h64]
/-- The exponent taken off. -/
theorem bin_frac {t : TypeId} {cx cy : Bool} {n f : Nat} {K : Value → Prop} (hn : n < 2 ^ 11) (hf : f < 2 ^ 52) : bin P .andNot t cx cy (.int .u64 ((2 ^ 52 * n + f : Nat) : Int)) (.int .u64 9218868437227405312) w K = K (.int .u64 (f : Int)) := by
  have h63 : 2 ^ 52 * n + f < 2 ^ 63 := by
    have h1 : 2 ^ 52 * (n + 1) ≤ 2 ^ 52 * 2 ^ 11 := Nat.mul_le_mul_left _ hn
    rw [← Nat.pow_add] at h1
    rw [Nat.mul_succ] at h1
    exact Nat.lt_of_lt_of_le (Nat.add_lt_add_left hf _) h1
  have h64 : 2 ^ 52 * n + f < 2 ^ 64 := Nat.lt_trans h63 (by decide)
  rw [bin_andNot0]
  have e := andNot_nat (b := 9218868437227405312) h64 (by decide)
  rw [show ((9218868437227405312 : Nat) : Int) = (9218868437227405312 : Int) from rfl] at e
  rw [e, show (2 ^ 64 - 1 - 9218868437227405312 : Nat) = 2 ^ 52 * 2048 + (2 ^ 52 - 1) from by decide, and_split' hf (by decide), Nat.and_two_pow_sub_one_eq_mod, Nat.mod_eq_of_lt hf]
  have h0 : n &&& 2048 = 0 := by
    have h2 := and_split' (a := n) (b := 0) (x := 0) (y := 1) (k := 11) hn (by decide)
    rw [Nat.mul_zero, Nat.zero_add, Nat.and_zero, Nat.zero_and, Nat.mul_zero] at h2
    exact h2
  rw [h0, Nat.mul_zero, Nat.zero_add, wrap_u64 (Nat.lt_trans hf (by decide))]

theorem c_Float64bits {b : Nat} (H : K (.int .u64 b) w) : call P f_math_Float64bits [.float .f64 b] w K :=
  call_extern fun_math_Float64bits (by kernel_rfl) rfl (by kernel_rfl) (e := Extern.MathFloatBits.float64bits) (by kernel_rfl) (SemA_pure H)
theorem c_Float64frombits {b : Nat} (H : K (.float .f64 b) w) : call P f_math_Float64frombits [.int .u64 (b : Int)] w K :=
  call_extern fun_math_Float64frombits (by kernel_rfl) rfl (by kernel_rfl) (e := Extern.MathFloatBits.float64frombits) (by kernel_rfl) (SemA_pure H)
theorem c_Abs64 {b : Nat} (hb : b < 2 ^ 63) (H : K (.float .f64 b) w) : call P f_math_Abs [.float .f64 b] w K := by
  refine I_math_Abs ?_
  unfold D_math_Abs
  refine c_Float64bits ?_
  rw [bin_clear hb]
  exact c_Float64frombits H

/-! ### 'Ldexp' -/
set_option maxRecDepth 20000 in
theorem rcnv_narrow {s d : TypeId} {b : Nat} {sg : Bool} {k : Nat} {l : Int} {r : Nat} {K : Value → Prop} (hs : P.underlying s = some (.float .f64)) (hd : P.underlying d = some (.float .f32)) (hr : double.read b = .number sg k l) (hw : single.write (.number sg k l) = r) (hi : (single.read r).isInfinity = false) (H : K (.float .f32 r)) : rcnv P s d (.float .f64 b) w K := by
  unfold rcnv convert
  rw [rd_bind']
  refine rd_of_rv _ (rv_underlying hs) ?_
  rw [rd_bind']
  refine rd_of_rv _ (rv_underlying hd) ?_
  simp only [Conv.floatToFloat]
  rw [if_neg (by decide)]
  have hdec : FloatKind.f64.decode b = .number sg k l := hr
  rw [hdec]
  simp only []
  have hw' : FloatKind.f32.encode (.number sg k l) = r := hw
  have hi' : (FloatKind.f32.decode r).isInfinity = false := hi
  rw [hw', hi']
  exact H
set_option maxRecDepth 20000 in
theorem rcnv_inf {s d : TypeId} {b : Nat} {sg : Bool} {K : Value → Prop} (hs : P.underlying s = some (.float .f64)) (hd : P.underlying d = some (.float .f32)) (hr : double.read b = .infinity sg) (H : K (.float .f32 (single.write (.infinity sg)))) : rcnv P s d (.float .f64 b) w K := by
  unfold rcnv convert
  rw [rd_bind']
  refine rd_of_rv _ (rv_underlying hs) ?_
  rw [rd_bind']
  refine rd_of_rv _ (rv_underlying hd) ?_
  simp only [Conv.floatToFloat]
  rw [if_neg (by decide)]
  have hdec : FloatKind.f64.decode b = .infinity sg := hr
  rw [hdec]
  exact H
set_option maxRecDepth 20000 in
theorem rcnv_cut {s d : TypeId} {t : Nat} {q : Int} {sg : Bool} {K : Value → Prop} (hs : P.underlying s = some (.float .f64)) (hd : P.underlying d = some (.float .f32)) (h : Cut t q) (H : K (.float .f32 (W single sg t q))) : rcnv P s d (.float .f64 (W double sg t q)) w K := by
  obtain ⟨k, l, h1, h2, h3⟩ := narrow_W (s := sg) h
  exact rcnv_narrow hs hd h1 h2 h3 H
theorem order_W (s : Bool) {m n : Nat} {e g : Int} (h1 : Has double m e) (h2 : Has double n g) : ∃ x y : Int, double.order (W double false m e) (W double false n g) = some (compare x y) ∧ (x ≤ y ↔ dy m e ≤ dy n g) ∧ (y ≤ x ↔ dy n g ≤ dy m e) := by
  obtain ⟨k, l, r1, s1⟩ := read_any (s := false) hsd h1
  obtain ⟨k', l', r2, s2⟩ := read_any (s := false) hsd h2
  have a1 : dy ((k : Int) * 2 ^ (l - min l l').toNat) (min l l') = dy m e := by rw [s1.dy]; exact dy_shift' (by omega)
  have a2 : dy ((k' : Int) * 2 ^ (l' - min l l').toNat) (min l l') = dy n g := by rw [s2.dy]; exact dy_shift' (by omega)
  refine ⟨(k : Int) * 2 ^ (l - min l l').toNat, (k' : Int) * 2 ^ (l' - min l l').toNat, ?_, ?_, ?_⟩
  · unfold Format.order
    rw [r1, r2]
    simp only [Datum.order, signed_eq, Bool.false_eq_true, if_false, Int.one_mul]
  · rw [← a1, ← a2, dy_le]
  · rw [← a1, ← a2, dy_le]
theorem max64 : (9218868437227405311 : Nat) = W double false 9007199254740991 971 := by decide
theorem zero64 : (0 : Nat) = W double false 0 0 := by decide
theorem W64_lt {t : Nat} {e : Int} : W double false t e < 2 ^ 63 := by
  obtain ⟨r, hr⟩ := W_sign double t e
  have h1 := double.write_lt (.number true t e)
  have h2 : double.write (.number true t e) = double.word true r := hr true
  rw [h2] at h1
  rw [hr false, word_false]
  have e1 : double.word true r = 2 ^ 63 + r := rfl
  rw [e1] at h1
  have e2 : (2 : Nat) ^ double.width = 2 ^ 63 + 2 ^ 63 := by decide
  rw [e2] at h1
  exact Nat.lt_of_add_lt_add_left h1
theorem bin_and2047 {t : TypeId} {cx cy : Bool} {a : Nat} {K : Value → Prop} (h : a < 2048) : bin P .and t cx cy (.int .i64 (a : Int)) (.int .i64 2047) w K = K (.int .i64 (a : Int)) := by
  rw [bin_and, show (2047 : Int) = ((2047 : Nat) : Int) from rfl]
  have e : (BitVec.ofInt 64 (a : Int) &&& BitVec.ofInt 64 ((2047 : Nat) : Int)).toNat = a := by
    rw [BitVec.toNat_and, toNat_word (Nat.lt_trans h (by decide)), toNat_word (by decide), show (2047 : Nat) = 2 ^ 11 - 1 from by decide, Nat.and_two_pow_sub_one_eq_mod, Nat.mod_eq_of_lt h]
  show K (.int .i64 (IntKind.i64.wrap ((BitVec.ofInt 64 (a : Int) &&& BitVec.ofInt 64 ((2047 : Nat) : Int)).toNat : Nat))) = _
  rw [e, wrap_i64 (by omega) (by omega)]
theorem dy_le_up {t N k : Nat} (h : t ≤ N) : dy (t : Int) 0 ≤ dy (N : Int) (k : Int) := by
  rw [← dy_shift' (m := (N : Int)) (e := (k : Int)) (e' := 0) (k := k) (by omega), dy_le]
  have h1 : t ≤ N * 2 ^ k := Nat.le_trans h (Nat.le_mul_of_pos_right _ (Nat.two_pow_pos k))
  have h2 : ((N * 2 ^ k : Nat) : Int) = (N : Int) * 2 ^ k := by rw [Int.natCast_mul, Int.natCast_pow]; rfl
  rw [← h2]
  exact Int.ofNat_le.2 h1
theorem dy_ge_down {t k : Nat} (h : t ≠ 0) : dy ((1 : Nat) : Int) (-(k : Int)) ≤ dy (t : Int) 0 := by
  rw [← dy_shift' (m := (t : Int)) (e := 0) (e' := -(k : Int)) (k := k) (by omega), dy_le]
  have h1 : 1 ≤ t * 2 ^ k := Nat.mul_pos (Nat.pos_of_ne_zero h) (Nat.two_pow_pos k)
  have h2 : ((t * 2 ^ k : Nat) : Int) = (t : Int) * 2 ^ k := by rw [Int.natCast_mul, Int.natCast_pow]; rfl
  rw [← h2]
  exact Int.ofNat_le.2 h1
theorem one64 : (4607182418800017408 : Nat) = W double false 1 0 := by decide
theorem tiny64 : (4503599627370496 : Nat) = W double false 1 (-1022) := by decide

theorem c_Ldexp {t : Nat} {q : Int} (h : Cut t q) (H : K (.float .f64 (W double false t q)) w) : call P f_math_Ldexp [.float .f64 (W double false t 0), .int .i64 q] w K := by
  have hb25 : bl t ≤ 25 := bl_le.2 (by show t < 33554432; have := h.t_le; omega)
  have hq1 := h.q_ge
  have hq2 := h.top
  have ht := h.t_le
  have has0 : Has double t 0 := Has64 (by omega) (by omega) (by omega)
  refine I_math_Ldexp ?_
  unfold D_math_Ldexp
  rw [cnd_false]
  refine I_math_ldexp ?_
  unfold D_math_ldexp
  obtain ⟨x, y, ho, h1, h2⟩ := order_W false has0 (Has64 (m := 0) (e := 0) (by decide) (by decide) (by decide))
  rw [← zero64] at ho
  rw [bin_feql, show FloatKind.f64.format = double from rfl, ho]
  by_cases h0 : t = 0
  · subst h0
    have hxy : x = y := Int.le_antisymm (h1.2 (dy_le.2 (Int.le_refl _))) (h2.2 (dy_le.2 (Int.le_refl _)))
    subst hxy
    refine cnd_yes (by simp) ?_
    rw [W_zero] at H ⊢
    exact H
  have hb0 := bl_pos h0
  have hgt : compare x y = .gt := by
    rw [Int.compare_eq_gt]
    refine Int.not_le.1 fun hc => ?_
    have := dy_le.1 (h1.1 hc)
    omega
  rw [hgt]
  refine cnd_no (by decide) ?_
  refine I_math_IsInf ?_
  unfold D_math_IsInf
  rw [bin_eql]
  refine cnd_yes (by decide) ?_
  refine c_Abs64 W64_lt ?_
  obtain ⟨x1, y1, ho1, h3, h4⟩ := order_W false has0 (Has64 (m := 9007199254740991) (e := 971) (by decide) (by decide) (by decide))
  rw [← max64] at ho1
  rw [bin_fgtr, show FloatKind.f64.format = double from rfl, ho1]
  have hle : x1 ≤ y1 := by
    refine h3.2 ?_
    exact dy_le_up (k := 971) (by omega)
  have hng : (some (compare x1 y1) == some Ordering.gt) = false := by
    have : compare x1 y1 ≠ .gt := fun hc => by rw [Int.compare_eq_gt] at hc; omega
    simpa using this
  rw [hng]
  refine ⟨_, fun _ _ _ h => h, ?_⟩
  rw [grd_false_false]
  refine I_math_IsNaN ?_
  unfold D_math_IsNaN
  obtain ⟨x2, y2, ho2, h5, h6⟩ := order_W false has0 has0
  have hxy2 : x2 = y2 := Int.le_antisymm (h5.2 (dy_le.2 (Int.le_refl _))) (h6.2 (dy_le.2 (Int.le_refl _)))
  subst hxy2
  rw [bin_fneq, show FloatKind.f64.format = double from rfl, ho2]
  rw [show (some (compare x2 x2) != some Ordering.eq) = false by simp]
  dsimp only
  rw [pick_bool, cond_false, cnd_false]
  refine I_math_normalize ?_
  unfold D_math_normalize
  refine c_Abs64 W64_lt ?_
  obtain ⟨x3, y3, ho3, h7, h8⟩ := order_W false has0 (Has64 (m := 1) (e := -1022) (by decide) (by decide) (by decide))
  rw [← tiny64] at ho3
  rw [bin_flss, show FloatKind.f64.format = double from rfl, ho3]
  have hge : y3 ≤ x3 := by
    refine h8.2 ?_
    exact dy_ge_down (k := 1022) h0
  have hnl : (some (compare x3 y3) == some Ordering.lt) = false := by
    have : compare x3 y3 ≠ .lt := fun hc => by rw [Int.compare_eq_lt] at hc; omega
    simpa using this
  rw [hnl, cnd_false]
  dsimp only
  rw [xtr_0, xtr_1, bin_add, wrap_i64 (by omega) (by omega)]
  refine c_Float64bits ?_
  obtain ⟨n, hn⟩ : ∃ n : Nat, (bl t : Int) + 0 + 1022 = n := ⟨bl t + 1022, by omega⟩
  obtain ⟨n', hn'⟩ : ∃ n' : Nat, (bl t : Int) + q + 1022 = n' := ⟨((bl t : Int) + q + 1022).toNat, by omega⟩
  obtain ⟨w1, w2, w3⟩ := W64_bits h0 (by omega) hn (by omega) (by omega)
  obtain ⟨w4, _, _⟩ := W64_bits h0 (by omega) hn' (by omega) (by omega)
  have hf : t * 2 ^ (53 - bl t) - B52 < 2 ^ 52 := by
    show _ < B52
    omega
  generalize t * 2 ^ (53 - bl t) - B52 = f at *
  rw [w1, show n * B52 + f = 2 ^ 52 * n + f by rw [Nat.mul_comm]; rfl]
  rw [bin_shrN (s := 52) (by decide), Nat.mul_add_div (Nat.two_pow_pos 52), Nat.div_eq_of_lt hf, Nat.add_zero]
  rw [cnv_int_int u_uint64 u_int, wrap_i64 (by omega) (by omega), bin_and2047 (by omega), bin_sub, wrap_i64 (by omega) (by omega), bin_add, wrap_i64 (by omega) (by omega)]
  rw [bin_lss]
  refine cnd_no (by simp; omega) ?_
  rw [bin_gtr]
  refine cnd_no (by simp; omega) ?_
  refine ⟨fun a b w' => w' = w ∧ a = .int .i64 (q + 0 + ((n : Int) - 1023)) ∧ b = .float .f64 (W double false 1 0), ?_, ?_⟩
  · rintro a b junk w' ⟨rfl, rfl, rfl⟩
    rw [bin_frac (by omega) hf, bin_add, wrap_i64 (by omega) (by omega)]
    rw [show q + 0 + ((n : Int) - 1023) + 1023 = ((n' : Nat) : Int) by omega]
    have hu : (n' : Int) ≤ IntKind.u64.max := by rw [max_u64]; omega
    rw [cnv_int_int u_int u_uint64, wrap_nat hu]
    have hsh : n' * 2 ^ 52 < 2 ^ 63 := by
      have h1 : n' * 2 ^ 52 < 2 ^ 11 * 2 ^ 52 := Nat.mul_lt_mul_of_pos_right (show n' < 2 ^ 11 by omega) (Nat.two_pow_pos 52)
      rw [← Nat.pow_add] at h1
      exact h1
    have hsh64 : n' * 2 ^ 52 < 2 ^ 64 := Nat.lt_trans hsh (by decide)
    rw [bin_shlN (s := 52) (by decide) (by
      rw [max_u64]
      have h64 : (2 : Nat) ^ 64 = 18446744073709551616 := by decide
      rw [h64] at hsh64
      omega)]
    rw [bin_orN (Nat.lt_trans hf (by decide)) hsh64 rfl, Nat.mul_comm n', or_split hf]
    refine c_Float64frombits ?_
    have e4 : 2 ^ 52 * n' + f = W double false t q := by rw [w4, Nat.mul_comm]; rfl
    rw [e4]
    refine rbin_float (by simp) fun r hr => ?_
    have hm := mul_W (s := false) (t := false) hsd (Has64 (m := 1) (e := 0) (by decide) (by decide) (by decide)) h.has64
    have := FR_some hr (show floatBits .mul .f64 _ _ = some _ from hm)
    subst this
    rw [Bool.xor_false, Nat.one_mul, Int.zero_add]
    exact H
  · rw [bin_lss]
    refine cnd_no (by simp; omega) ?_
    exact ⟨rfl, rfl, by rw [← one64]⟩
end Go.Proofs.YtabgkpfcpncmhaaGreat

/- Contracts: the program's rounding beyond the greatest float. -/
set_option linter.unusedVariables false
set_option linter.unusedSimpArgs false
namespace Go.Proofs.YtabgkpfcpncmhaaGreat
open Go Go.Vc Ieee

variable {w : World} {K : Value → World → Prop}

theorem callv_call0 {f : FuncId} {cap : Array Value} (H : call P f cap.toList w K) : callv P (.func (.func f) #[] cap) [] w K := by
  unfold callv
  have e : (do let d ← Deferred.ofValue (.func (.func f) #[] cap) ([] : List Value).toArray; invoke d.target d.args) = callFunc f cap.toList.toArray := by
    show callFunc f ((#[] ++ ([] : List Value).toArray) ++ cap) = _
    congr 1
    simp
  rw [e]; exact H
theorem c_Float32frombits' {b : Nat} (H : K (fl b) w) : call P f_math_Float32frombits [.int .u32 (b : Int)] w K :=
  call_extern fun_math_Float32frombits (by kernel_rfl) rfl (by kernel_rfl) (e := Extern.MathFloatBits.float32frombits) (by kernel_rfl) (SemA_pure H)
theorem cnv_i64_u32 {n : Nat} {K : Value → Prop} (h : n ≤ 4294967295) : cnv P t_int64 t_uint32 (.int .i64 (n : Int)) w K = K (.int .u32 (n : Int)) := by
  rw [cnv_int_int u_int64 u_uint32, wrap_nat (by rw [max_u32]; omega)]
theorem c_atPlace_max (H : K (fl 2139095039) w) : call P f_impl_atPlace [.int .i64 2139095039] w K := by
  refine I_impl_atPlace ?_
  unfold D_impl_atPlace
  rw [bin_lss]
  refine cnd_no (by decide) ?_
  rw [show (2139095039 : Int) = ((2139095039 : Nat) : Int) from rfl, cnv_i64_u32 (by decide)]
  exact c_Float32frombits' H
theorem c_atPlace_min (H : K (fl 4286578687) w) : call P f_impl_atPlace [.int .i64 (-2139095039)] w K := by
  refine I_impl_atPlace ?_
  unfold D_impl_atPlace
  rw [bin_lss]
  refine cnd_yes (by decide) ?_
  rw [una_neg_int, wrap_i64 (by decide) (by decide), show (0 : Int) - -2139095039 = ((2139095039 : Nat) : Int) from rfl, cnv_i64_u32 (by decide)]
  rw [bin_orN (b := 2147483648) (by decide) (by decide) rfl, show (2139095039 ||| 2147483648 : Nat) = 4286578687 from by decide]
  exact c_Float32frombits' H
set_option maxRecDepth 20000 in
theorem c_infinite_pos (H : K (fl 2139095040) w) : call P f_impl_infinite [.int .i64 1] w K := by
  refine I_impl_infinite ?_
  unfold D_impl_infinite
  refine I_math_Inf ?_
  unfold D_math_Inf
  rw [bin_geq]
  refine cnd_yes (by decide) ?_
  rw [show (9218868437227405312 : Int) = ((9218868437227405312 : Nat) : Int) from rfl]
  refine c_Float64frombits ?_
  refine rcnv_inf (sg := false) u_float64 u_float32 (by decide) ?_
  exact H
set_option maxRecDepth 20000 in
theorem c_infinite_neg (H : K (fl 4286578688) w) : call P f_impl_infinite [.int .i64 (-1)] w K := by
  refine I_impl_infinite ?_
  unfold D_impl_infinite
  refine I_math_Inf ?_
  unfold D_math_Inf
  rw [bin_geq]
  refine cnd_no (by decide) ?_
  rw [show (18442240474082181120 : Int) = ((18442240474082181120 : Nat) : Int) from rfl]
  refine c_Float64frombits ?_
  refine rcnv_inf (sg := true) u_float64 u_float32 (by decide) ?_
  exact H

theorem overB_pos (md : Int) : overB md (decide ((1 : Int) < 0)) = if md = 3 ∨ md = 1 then 2139095039 else 2139095040 := by
  unfold overB; simp
theorem overB_neg (md : Int) : overB md (decide ((-1 : Int) < 0)) = if md = 3 ∨ md = 2 then 4286578687 else 4286578688 := by
  unfold overB; simp; split <;> rfl
theorem c_round_1 {b b' : Nat} {x3 x6 : Value} {md sg : Int} (h3 : Bx w b t_int64 x3 [.int .i64 md]) (h6 : Bx w b' t_int x6 [.int .i64 sg]) (hs : sg = 1 ∨ sg = -1)
    (H : K (.tuple #[fl (overB md (decide (sg < 0))), .int .i64 5]) w) : call P f_impl_num_round_1 [x3, x6] w K := by
  have e3 : ∀ K, ld P t_int64 x3 w K = K (.int .i64 md) := fun K => by
    obtain ⟨g, rfl, hc⟩ := h3.cell
    exact ld_scalar u_int64 rfl (hc 0 _ rfl).1
  have e6 : ∀ K, ld P t_int x6 w K = K (.int .i64 sg) := fun K => by
    obtain ⟨g, rfl, hc⟩ := h6.cell
    exact ld_scalar u_int rfl (hc 0 _ rfl).1
  refine I_impl_num_round_1 ?_
  unfold D_impl_num_round_1
  by_cases m3 : md = 3
  · have d3 : decide (md = 3) = true := decide_eq_true m3
    rw [e3, bin_eql, d3]
    rcases hs with rfl | rfl
    · repeat (first | (refine ⟨_, fun _ _ _ h => h, ?_⟩) | simp only [e3, e6, bin_eql, bin_gtr, bin_lss, d3, grd_true_true, grd_true_false, grd_false_false, grd_false_true, pick_bool, cond_true, cond_false, cnd_true, cnd_false])
      rw [bin_mul, wrap_i64 (by decide) (by decide), show (1 : Int) * 2139095039 = 2139095039 from rfl]
      refine c_atPlace_max ?_
      have : overB md (decide ((1 : Int) < 0)) = 2139095039 := by rw [overB_pos]; first | rw [if_pos (by omega)] | rw [if_neg (by omega)]
      rw [this] at H; exact H
    · repeat (first | (refine ⟨_, fun _ _ _ h => h, ?_⟩) | simp only [e3, e6, bin_eql, bin_gtr, bin_lss, d3, grd_true_true, grd_true_false, grd_false_false, grd_false_true, pick_bool, cond_true, cond_false, cnd_true, cnd_false])
      rw [bin_mul, wrap_i64 (by decide) (by decide), show (-1 : Int) * 2139095039 = -2139095039 from rfl]
      refine c_atPlace_min ?_
      have : overB md (decide ((-1 : Int) < 0)) = 4286578687 := by rw [overB_neg]; first | rw [if_pos (by omega)] | rw [if_neg (by omega)]
      rw [this] at H; exact H
  · have d3 : decide (md = 3) = false := decide_eq_false m3
    rw [e3, bin_eql, d3]
    by_cases m1 : md = 1
    · have d1 : decide (md = 1) = true := decide_eq_true m1
      have d2 : decide (md = 2) = false := decide_eq_false (by omega)
      have p1 : decide (0 < (1 : Int)) = true := rfl
      have p2 : decide (0 < (-1 : Int)) = false := rfl
      rcases hs with rfl | rfl
      · repeat (first | (refine ⟨_, fun _ _ _ h => h, ?_⟩) | simp only [e3, e6, bin_eql, bin_gtr, bin_lss, d1, d2, d3, p1, grd_true_true, grd_true_false, grd_false_false, grd_false_true, pick_bool, cond_true, cond_false, cnd_true, cnd_false])
        rw [bin_mul, wrap_i64 (by decide) (by decide), show (1 : Int) * 2139095039 = 2139095039 from rfl]
        refine c_atPlace_max ?_
        have : overB md (decide ((1 : Int) < 0)) = 2139095039 := by rw [overB_pos]; first | rw [if_pos (by omega)] | rw [if_neg (by omega)]
        rw [this] at H; exact H
      · repeat (first | (refine ⟨_, fun _ _ _ h => h, ?_⟩) | simp only [e3, e6, bin_eql, bin_gtr, bin_lss, d1, d2, d3, p2, grd_true_true, grd_true_false, grd_false_false, grd_false_true, pick_bool, cond_true, cond_false, cnd_true, cnd_false])
        refine c_infinite_neg ?_
        have : overB md (decide ((-1 : Int) < 0)) = 4286578688 := by rw [overB_neg]; first | rw [if_pos (by omega)] | rw [if_neg (by omega)]
        rw [this] at H; exact H
    · have d1 : decide (md = 1) = false := decide_eq_false m1
      by_cases m2 : md = 2
      · have d2 : decide (md = 2) = true := decide_eq_true m2
        have p1 : decide ((1 : Int) < 0) = false := rfl
        have p2 : decide ((-1 : Int) < 0) = true := rfl
        rcases hs with rfl | rfl
        · repeat (first | (refine ⟨_, fun _ _ _ h => h, ?_⟩) | simp only [e3, e6, bin_eql, bin_gtr, bin_lss, d1, d2, d3, p1, grd_true_true, grd_true_false, grd_false_false, grd_false_true, pick_bool, cond_true, cond_false, cnd_true, cnd_false])
          refine c_infinite_pos ?_
          have : overB md (decide ((1 : Int) < 0)) = 2139095040 := by rw [overB_pos]; first | rw [if_pos (by omega)] | rw [if_neg (by omega)]
          rw [this] at H; exact H
        · repeat (first | (refine ⟨_, fun _ _ _ h => h, ?_⟩) | simp only [e3, e6, bin_eql, bin_gtr, bin_lss, d1, d2, d3, p2, grd_true_true, grd_true_false, grd_false_false, grd_false_true, pick_bool, cond_true, cond_false, cnd_true, cnd_false])
          rw [bin_mul, wrap_i64 (by decide) (by decide), show (-1 : Int) * 2139095039 = -2139095039 from rfl]
          refine c_atPlace_min ?_
          have : overB md (decide ((-1 : Int) < 0)) = 4286578687 := by rw [overB_neg]; first | rw [if_pos (by omega)] | rw [if_neg (by omega)]
          rw [this] at H; exact H
      · have d2 : decide (md = 2) = false := decide_eq_false m2
        have no : ∀ b, ¬ (md = 3 ∨ (md = 1 ∧ b = false) ∨ (md = 2 ∧ b = true)) := by
          rintro b (h | ⟨h, _⟩ | ⟨h, _⟩)
          · exact m3 h
          · exact m1 h
          · exact m2 h
        rcases hs with rfl | rfl
        · repeat (first | (refine ⟨_, fun _ _ _ h => h, ?_⟩) | simp only [e3, e6, bin_eql, bin_gtr, bin_lss, d1, d2, d3, grd_true_true, grd_true_false, grd_false_false, grd_false_true, pick_bool, cond_true, cond_false, cnd_true, cnd_false])
          refine c_infinite_pos ?_
          have : overB md (decide ((1 : Int) < 0)) = 2139095040 := by rw [overB_pos]; first | rw [if_pos (by omega)] | rw [if_neg (by omega)]
          rw [this] at H; exact H
        · repeat (first | (refine ⟨_, fun _ _ _ h => h, ?_⟩) | simp only [e3, e6, bin_eql, bin_gtr, bin_lss, d1, d2, d3, grd_true_true, grd_true_false, grd_false_false, grd_false_true, pick_bool, cond_true, cond_false, cnd_true, cnd_false])
          refine c_infinite_neg ?_
          have : overB md (decide ((-1 : Int) < 0)) = 4286578688 := by rw [overB_neg]; first | rw [if_pos (by omega)] | rw [if_neg (by omega)]
          rw [this] at H; exact H
end Go.Proofs.YtabgkpfcpncmhaaGreat

/- Contracts: the program's rounding. -/
set_option linter.unusedVariables false
set_option linter.unusedSimpArgs false
namespace Go.Proofs.YtabgkpfcpncmhaaGreat
open Go Go.Vc Ieee

variable {w : World} {K : Value → World → Prop}

open Classical in
noncomputable def rndQ (md : Int) (q : Rat) : Nat × Int := if h : ∃ p : Int × Int, q = dy p.1 p.2 then roundF md (Classical.choose h).1 (Classical.choose h).2 else (0, 0)
theorem rndQ_dy (md m e : Int) : rndQ md (dy m e) = roundF md m e := by
  have hx : ∃ p : Int × Int, dy m e = dy p.1 p.2 := ⟨(m, e), rfl⟩
  unfold rndQ
  rw [dif_pos hx]
  exact roundF_same md (Classical.choose_spec hx).symm
theorem c_nsign' {p : Value} {m e : Int} (h : IntR w p m) (H : ∀ w', Ext w w' → K (.int .i64 m.sign) w') : call P f_impl_num_sign [.agg #[p, .int .i64 e]] w K := c_nsign ⟨p, rfl, h⟩ H
theorem alc_int {KW : Value → World → Prop} (H : ∀ x w', Bx w' w.heap.size t_int x [.int .i64 0] → Ext w w' → KW x w') : alc P t_int w KW :=
  alc_bx i_int fun x w' b e _ => H x w' b e
theorem IntR.notnew {p : Value} {m : Int} {base : Nat} {z : Value} (h : IntR w p m) (hz : ∀ k, blk z = some k → w.heap.size ≤ k) (hb : ∃ k, blk z = some k) : p ≠ z := by
  rintro rfl
  obtain ⟨s, h1, _⟩ := h
  obtain ⟨k, hk⟩ := hb
  have := hz k hk
  have := (h1.blk_lt hk).2
  omega
theorem ZO.some {base : Nat} {z : Value} (h : ZO w base z) : ∃ k, blk z = some k := by
  obtain ⟨b, s, ⟨g, rfl, _⟩, _⟩ := h
  exact ⟨g, rfl⟩
theorem IntR.ne_new {p z : Value} {m : Int} {w' : World} (h : IntR w p m) (hz : ZO w' w.heap.size z) : p ≠ z := h.notnew (base := 0) (fun k hk => hz.blk_ge hk) hz.some

set_option maxRecDepth 20000 in
/-- The end: the number that is cut, as a float. -/
theorem round_end {t : Nat} {q : Int} {sg fl' : Int} {b : Nat} {x6 x46 : Value} {neg : Bool} (hi : IntR w x46 (t : Int)) (hc : Cut t q) (h6 : Bx w b t_int x6 [.int .i64 sg]) (hn : neg = decide (sg < 0))
    (H : K (.tuple #[fl (W single neg t q), .int .i64 fl']) w) :
    call P f_impl_integer_Int64 [x46] w fun x131 w48 => cnv P t_int64 t_float64 x131 w48 fun x132 => call P f_math_Ldexp [x132, .int .i64 q] w48 fun x134 w51 => rcnv P t_float64 t_float32 x134 w51 fun x135 =>
      ld P t_int x6 w51 fun x136 => bin P .lss t_int false true x136 (.int .i64 0) w51 fun x137 => cnd x137 (una P .neg x135 w51 fun x139 => K (.tuple #[x139, .int .i64 fl']) w51) (K (.tuple #[x135, .int .i64 fl']) w51) := by
  have ht := hc.t_le
  refine c_Int64 hi (by omega) ?_
  rw [cnv_int_float u_int64 u_float64]
  have hf : floatOfInt .f64 (t : Int) = W double false t 0 := by
    show double.write (.number (decide ((t : Int) < 0)) (t : Int).natAbs 0) = _
    rw [decide_eq_false (by omega), Int.natAbs_natCast]
    rfl
  rw [hf]
  refine c_Ldexp hc ?_
  refine rcnv_cut u_float64 u_float32 hc ?_
  refine h6.get1 u_int rfl ?_
  rw [bin_lss]
  obtain ⟨h1, h2⟩ := W32_true t q
  refine cnd_dec (fun hlt => ?_) (fun hge => ?_)
  · rw [una_neg_float, neg32 _ (Nat.lt_trans h1 (by decide)), if_pos h1, ← h2]
    rw [hn, decide_eq_true hlt] at H
    exact H
  · rw [hn, decide_eq_false hge] at H
    exact H
theorem sign_cases {m : Int} (h : m ≠ 0) : m.sign = 1 ∨ m.sign = -1 := by
  rcases Int.lt_trichotomy m 0 with h1 | h1 | h1
  · exact .inr (Int.sign_eq_neg_one_of_neg h1)
  · exact absurd h1 h
  · exact .inl (Int.sign_eq_one_of_pos h1)
theorem dec_sign (m : Int) : decide (m.sign < 0) = decide (m < 0) := by
  rw [decide_eq_decide]
  exact Int.sign_neg_iff

/-- Whether it is rounded up. -/
theorem round_up {r half : Value} {x3 x6 x46 : Value} {md sg : Int} {b b' : Nat} {a g d : Nat} {KB : Value → World → Prop} (h3 : Bx w b t_int64 x3 [.int .i64 md]) (h6 : Bx w b' t_int x6 [.int .i64 sg]) (hs : sg = 1 ∨ sg = -1)
    (h46 : IntR w x46 ((a / g : Nat) : Int)) (hg : g = 2 ^ d * 2)
    (H : KB (.bool (upB md (decide (sg < 0)) (a / g) (a % g) g)) w) :
    ∃ J95 : Value → World → Prop, (∀ (x16_98 : Value) (junk96 : Env) (w97 : World), J95 x16_98 w97 → KB x16_98 w97) ∧
                  (ld P 2 x3 w fun x92_103 =>
                  bin P .eql 2 false true x92_103 (.int .i64 0) w fun x94_104 =>
                  cnd x94_104
                    (bin P .gtr 3 false true (.int .i64 (cmpI ((a % g : Nat) : Int) (2 ^ d))) (.int .i64 0) w fun x96_105 =>
                    ∃ J106 : Value → World → Prop, (∀ (x100_107 : Value) (junk109 : Env) (w108 : World), J106 x100_107 w108 →
                      ∃ J110 : Value → World → Prop, (∀ (x103_111 : Value) (junk113 : Env) (w112 : World), J110 x103_111 w112 →
                      ∃ J114 : Value → World → Prop, (∀ (x104_115 : Value) (junk117 : Env) (w116 : World), J114 x104_115 w116 →
                      pick x96_105 (.bool true) x104_115 fun x105_118 =>
                          J95 x105_118 w116) ∧
                      grd x96_105 false
                        (pick x100_107 x103_111 (.bool false) fun x104_119 =>
                            J114 x104_119 w112)
                        (J114 undef w112)) ∧
                      grd x100_107 true
                        (call P f_impl_integer_Bit [x46, (.int .i64 0)] w108 fun x102_120 w121 =>
                          bin P .eql 189 false true x102_120 (.int .u64 1) w121 fun x103_122 =>
                          J110 x103_122 w121)
                        (J110 undef w108)) ∧
                      grd x96_105 false
                        (bin P .eql 3 false true (.int .i64 (cmpI ((a % g : Nat) : Int) (2 ^ d))) (.int .i64 0) w fun x99_123 =>
                        J106 x99_123 w)
                        (J106 undef w))
                    (bin P .eql 2 false true x92_103 (.int .i64 1) w fun x107_124 =>
                    cnd x107_124
                      (ld P 3 x6 w fun x108_125 =>
                      bin P .lss 3 false true x108_125 (.int .i64 0) w fun x109_126 =>
                      J95 x109_126 w)
                      (bin P .eql 2 false true x92_103 (.int .i64 2) w fun x111_127 =>
                      cnd x111_127
                        (ld P 3 x6 w fun x112_128 =>
                        bin P .gtr 3 false true x112_128 (.int .i64 0) w fun x113_129 =>
                        J95 x113_129 w)
                        (bin P .eql 2 false true x92_103 (.int .i64 4) w fun x115_130 =>
                        cnd x115_130
                          (J95 (.bool true) w)
                          (J95 (.bool false) w))))) := by
  refine ⟨_, fun _ _ _ h => h, ?_⟩
  have hpow : ((2 ^ d : Nat) : Int) = 2 ^ d := by rw [Int.natCast_pow]; rfl
  refine h3.get1 u_int64 rfl ?_
  rw [bin_eql]
  unfold upB at H
  by_cases m0 : md = 0
  · rw [if_pos m0] at H
    rw [decide_eq_true m0, cnd_true, bin_gtr]
    rw [← hpow]
    by_cases c1 : g < 2 * (a % g)
    · have hc : cmpI ((a % g : Nat) : Int) ((2 ^ d : Nat) : Int) = 1 := by unfold cmpI; rw [if_neg (by omega), if_pos (by omega)]
      rw [hc]
      rw [decide_eq_true c1, Bool.true_or] at H
      have p1 : decide (0 < (1 : Int)) = true := rfl
      rw [p1]
      repeat (first | (refine ⟨_, fun _ _ _ h => h, ?_⟩) | simp only [bin_eql, bin_gtr, bin_lss, grd_true_true, grd_true_false, grd_false_false, grd_false_true, pick_bool, cond_true, cond_false, cnd_true, cnd_false])
      exact H
    · rw [decide_eq_false c1, Bool.false_or] at H
      by_cases c2 : 2 * (a % g) = g
      · have hc : cmpI ((a % g : Nat) : Int) ((2 ^ d : Nat) : Int) = 0 := by unfold cmpI; rw [if_neg (by omega), if_neg (by omega)]
        rw [hc]
        rw [decide_eq_true c2, Bool.true_and] at H
        have p1 : decide (0 < (0 : Int)) = false := rfl
        have p2 : decide ((0 : Int) = 0) = true := rfl
        rw [p1]
        repeat (first | (refine ⟨_, fun _ _ _ h => h, ?_⟩) | simp only [bin_eql, bin_gtr, bin_lss, p2, grd_true_true, grd_true_false, grd_false_false, grd_false_true, pick_bool, cond_true, cond_false, cnd_true, cnd_false])
        refine c_Bit (i := 0) h46 (by decide) ?_
        rw [Int.natAbs_natCast, Nat.pow_zero, Nat.div_one]
        have e : (((a / g % 2 : Nat) : Int) = 1) = (a / g % 2 = 1) := propext ⟨fun h => by omega, fun h => by omega⟩
        simp only [bin_eql, e]
        repeat (first | (refine ⟨_, fun _ _ _ h => h, ?_⟩) | simp only [grd_true_true, grd_true_false, grd_false_false, grd_false_true, pick_bool, cond_true, cond_false, cnd_true, cnd_false])
        exact H
      · have hc : cmpI ((a % g : Nat) : Int) ((2 ^ d : Nat) : Int) = -1 := by unfold cmpI; rw [if_pos (by omega)]
        rw [hc]
        rw [decide_eq_false c2, Bool.false_and] at H
        have p1 : decide (0 < (-1 : Int)) = false := rfl
        have p2 : decide ((-1 : Int) = 0) = false := rfl
        rw [p1]
        repeat (first | (refine ⟨_, fun _ _ _ h => h, ?_⟩) | simp only [bin_eql, bin_gtr, bin_lss, p2, grd_true_true, grd_true_false, grd_false_false, grd_false_true, pick_bool, cond_true, cond_false, cnd_true, cnd_false])
        exact H
  · rw [if_neg m0] at H
    rw [decide_eq_false m0, cnd_false, bin_eql]
    by_cases m1 : md = 1
    · rw [if_pos m1] at H
      rw [decide_eq_true m1, cnd_true]
      refine h6.get1 u_int rfl ?_
      rw [bin_lss]
      exact H
    · rw [if_neg m1] at H
      rw [decide_eq_false m1, cnd_false, bin_eql]
      by_cases m2 : md = 2
      · rw [if_pos m2] at H
        rw [decide_eq_true m2, cnd_true]
        refine h6.get1 u_int rfl ?_
        rw [bin_gtr]
        rcases hs with rfl | rfl
        · exact H
        · exact H
      · rw [if_neg m2] at H
        rw [decide_eq_false m2, cnd_false, bin_eql]
        by_cases m4 : md = 4
        · rw [if_pos m4] at H
          rw [decide_eq_true m4, cnd_true]
          exact H
        · rw [if_neg m4] at H
          rw [decide_eq_false m4, cnd_false]
          exact H
end Go.Proofs.YtabgkpfcpncmhaaGreat

/- Contracts: the program's rounding, whole. -/
set_option linter.unusedVariables false
namespace Go.Proofs.YtabgkpfcpncmhaaGreat
open Go Go.Vc Ieee

variable {w : World} {K : Value → World → Prop}

theorem roundF_over {md m e : Int} (h : m ≠ 0) (ho : 128 < (bl (cutT md (decide (m < 0)) m.natAbs e).1 : Int) + qOf m.natAbs e) : roundF md m e = (overB md (decide (m < 0)), 5) := by
  unfold roundF
  rw [if_neg h]
  simp only
  rw [if_pos ho]
theorem roundF_in {md m e : Int} (h : m ≠ 0) (ho : ¬ 128 < (bl (cutT md (decide (m < 0)) m.natAbs e).1 : Int) + qOf m.natAbs e) :
    roundF md m e = (W single (decide (m < 0)) (cutT md (decide (m < 0)) m.natAbs e).1 (qOf m.natAbs e), if (cutT md (decide (m < 0)) m.natAbs e).2 then 0 else if (bl m.natAbs : Int) + e ≤ -126 then 3 else 1) := by
  unfold roundF
  rw [if_neg h]
  simp only
  rw [if_neg ho]
  rfl
theorem cutT_exact {md : Int} {neg : Bool} {a : Nat} {e : Int} (h : qOf a e ≤ e) : cutT md neg a e = (a * 2 ^ (e - qOf a e).toNat, true) := by
  unfold cutT; simp only; rw [if_pos h]
theorem cutT_rest {md : Int} {neg : Bool} {a : Nat} {e : Int} (h : ¬ qOf a e ≤ e) : cutT md neg a e = if a % 2 ^ (qOf a e - e).toNat = 0 then (a / 2 ^ (qOf a e - e).toNat, true) else (a / 2 ^ (qOf a e - e).toNat + (upB md neg (a / 2 ^ (qOf a e - e).toNat) (a % 2 ^ (qOf a e - e).toNat) (2 ^ (qOf a e - e).toNat)).toNat, false) := by
  unfold cutT; simp only; rw [if_neg h]

theorem sub_one_u64 {t : TypeId} {cx cy : Bool} {d : Nat} {K : Value → Prop} (h : d ≤ 1099511627776) : bin P .sub t cx cy (.int .u64 ((d + 1 : Nat) : Int)) (.int .u64 1) w K = K (.int .u64 (d : Int)) := by
  rw [bin_sub, show ((d + 1 : Nat) : Int) - 1 = (d : Int) by omega, wrap_nat (by rw [max_u64]; omega)]
theorem c_num_round {v : Value} {lo hi : Nat} {q : Rat} {md : Int} (h : NQ w v lo hi q) (hl : lo ≤ 1000000000) (hh : hi ≤ 1000000000)
    (H : ∀ w', Ext w w' → K (.tuple #[fl (rndQ md q).1, .int .i64 (rndQ md q).2]) w') : call P f_impl_num_round [v, .int .i64 md] w K := by
  obtain ⟨m, e, ⟨p, rfl, ip⟩, hb, rfl⟩ := h
  rw [rndQ_dy] at H
  have hbl := hb.bl
  have := hb.low; have := hb.top
  refine I_impl_num_round ?_
  unfold D_impl_num_round
  refine bx_num (x := undef) fun x2 w1 b2 e1 => ?_
  refine bx_bx fun x3 w2 b3 e2 _ => ?_
  have b3 : Bx w2 w1.heap.size t_int64 x3 [.int .i64 md] := b3
  have b2 := b2.ext e2
  have E2 := e1.trans e2
  refine num_all b2 ?_
  refine c_nsign' (ip.ext E2) fun w3 e3 => ?_
  have E3 := E2.trans e3
  rw [bin_eql]
  refine cnd_dec (fun h0 => ?_) (fun h0 => ?_)
  · have hm : m = 0 := Int.sign_eq_zero_iff_zero.1 h0
    have : roundF md m e = (0, 0) := by unfold roundF; rw [if_pos hm]
    rw [this] at H
    exact H _ E3
  have hm : m ≠ 0 := by rintro rfl; exact h0 rfl
  have ha : m.natAbs ≠ 0 := by omega
  have hsg := sign_cases hm
  have b2 := b2.ext e3
  have b3 := b3.ext e3
  have ip3 := ip.ext E3
  refine ⟨fun x6 x7 w' => Ext w3 w' ∧ x7 = .int .i64 (bl m.natAbs : Nat) ∧ Bx w' w3.heap.size t_int x6 [.int .i64 m.sign], ?_, ?_⟩
  · rintro x6 x7 junk w4 ⟨e4, rfl, b6⟩
    have E4 := E3.trans e4
    have b2 := b2.ext e4
    have b3 := b3.ext e4
    have ip4 := ip3.ext e4
    refine num_e b2 ?_
    rw [bin_add, wrap_i64 (by omega) (by omega), bin_gtr]
    -- beyond the greatest
    have over : ∀ (w' : World), Ext w w' → Bx w' w3.heap.size t_int x6 [.int .i64 m.sign] → Bx w' w1.heap.size t_int64 x3 [.int .i64 md] → 128 < (bl (cutT md (decide (m < 0)) m.natAbs e).1 : Int) + qOf m.natAbs e →
        callv P (.func (.func f_impl_num_round_1) #[] #[x3, x6]) [] w' fun x33 w19 => xtr P x33 0 w19 fun x34 => xtr P x33 1 w19 fun x35 => K (.tuple #[x34, x35]) w19 := by
      intro w' he h6 h3 ho
      refine callv_call0 ?_
      refine c_round_1 h3 h6 hsg ?_
      rw [xtr_0, xtr_1, dec_sign]
      have := H w' he
      rw [roundF_over hm ho] at this
      exact this
    refine cnd_dec (fun hbig => over w4 E4 b6 b3 (over_early ha hbig)) (fun hsm => ?_)
    refine num_e b2 ?_
    rw [bin_add, wrap_i64 (by omega) (by omega), bin_sub, wrap_i64 (by omega) (by omega), bl0_max_i64]
    rw [show max (((bl m.natAbs : Nat) : Int) + e - 24) (-149) = qOf m.natAbs e from rfl]
    have hq1 : -149 ≤ qOf m.natAbs e ∧ qOf m.natAbs e ≤ 104 ∧ (bl m.natAbs : Int) + e - 24 ≤ qOf m.natAbs e := by unfold qOf; omega
    generalize hqd : qOf m.natAbs e = Q at *
    refine alc_Z fun x42 w5 z42 _ e5 => ?_
    have b2 := b2.ext e5
    have ip5 := ip4.ext e5
    refine num_m b2 ?_
    refine c_Abs z42 ip5 (by omega) fun w6 z42 i42 g6 => ?_
    have e6 : Ext w4 w6 := ext_of_grown e5 (fun k hk => z42.blk_ge hk) g6
    refine alc_Z fun x46 w7 z46 _ e7 => ?_
    have e7' : Ext w4 w7 := e6.trans e7
    have n1 : x42 ≠ x46 := i42.ne_new z46
    have i42 := i42.ext e7
    have b2 : Bx w7 w.heap.size t_impl_num x2 (nm p e) := (((‹Bx w4 w.heap.size t_impl_num x2 (nm p e)›).ext e7'))
    generalize ham : m.natAbs = a at *
    refine ⟨fun x11 w' => Ext w4 w' ∧ IntR w' x46 ((cutT md (decide (m < 0)) a e).1 : Int) ∧ x11 = .int .i64 (if (cutT md (decide (m < 0)) a e).2 then 0 else if (bl a : Int) + e ≤ -126 then 3 else 1), ?_, ?_⟩
    · rintro x11 junk w8 ⟨e8, i46, rfl⟩
      have hcl := cutT_le md (decide (m < 0)) a e
      have hc25 : bl (cutT md (decide (m < 0)) a e).1 ≤ 25 := bl_le.2 (by show _ < 33554432; omega)
      refine c_BitLen i46 (by rw [Int.natAbs_natCast]; omega) ?_
      rw [Int.natAbs_natCast, bin_add, wrap_i64 (by omega) (by omega), bin_gtr]
      refine cnd_dec (fun hbig => over w8 (E4.trans e8) (b6.ext e8) (b3.ext e8) hbig) (fun hin => ?_)
      have HH := H w8 (E4.trans e8)
      rw [roundF_in hm (by rw [ham, hqd]; exact hin), ham, hqd] at HH
      refine round_end (neg := decide (m < 0)) i46 ⟨hcl, hq1.1, by omega⟩ (b6.ext e8) (dec_sign m).symm ?_
      exact HH
    · refine num_e b2 ?_
      rw [bin_geq]
      refine cnd_dec (fun hge => ?_) (fun hlt => ?_)
      · refine num_e b2 ?_
        rw [bin_sub, wrap_i64 (by omega) (by omega), show e - Q = (((e - Q).toNat : Nat) : Int) by omega, cnv_int_uint (by omega)]
        refine c_Lsh z46 i42 (by rw [Int.natAbs_natCast]; omega) (by omega) fun w8 z8 i8 g8 => ?_
        refine ⟨ext_of_grown e7' (fun k hk => Nat.le_trans e6.size (z46.blk_ge hk)) g8, ?_, ?_⟩
        · rw [cutT_exact (by rw [hqd]; omega), hqd]
          rw [Int.natCast_mul, Int.natCast_pow]; exact i8
        · rw [cutT_exact (by rw [hqd]; omega)]; rfl
      · have hd : 1 ≤ (Q - e).toNat := by omega
        obtain ⟨d, hdd⟩ : ∃ d, (Q - e).toNat = d + 1 := ⟨(Q - e).toNat - 1, by omega⟩
        have hcut := cutT_rest (md := md) (neg := decide (m < 0)) (a := a) (e := e) (by rw [hqd]; omega)
        rw [hqd, hdd] at hcut
        refine num_e b2 ?_
        rw [bin_sub, wrap_i64 (by omega) (by omega), show Q - e = ((d + 1 : Nat) : Int) by omega, cnv_int_uint (by omega)]
        refine c_Rsh z46 i42 (by rw [Int.natAbs_natCast]; omega) (by omega) fun w8 z8 i8 g8 => ?_
        have e8 : Ext w4 w8 := ext_of_grown e7' (fun k hk => Nat.le_trans e6.size (z46.blk_ge hk)) g8
        have i42' := i42.kept z46 g8 n1
        have hdiv : (a : Int) / 2 ^ (d + 1) = ((a / 2 ^ (d + 1) : Nat) : Int) := by rw [Int.natCast_ediv, Int.natCast_pow]; rfl
        rw [hdiv] at i8
        refine alc_Z fun x68 w9 z68 _ e9 => ?_
        refine alc_Z fun x70 w10 z70 _ e10 => ?_
        have E10 := e9.trans e10
        have hb2 : bl (a / 2 ^ (d + 1)) ≤ bl a := bl_mono (Nat.div_le_self _ _)
        have n70 : x46 ≠ x70 := (i8.ext e9).ne_new z70
        have n70' : x42 ≠ x70 := (i42'.ext e9).ne_new z70
        refine c_Lsh z70 (i8.ext E10) (by rw [Int.natAbs_natCast]; omega) (by omega) fun w11 z70' i70 g11 => ?_
        have e11 : Ext w8 w11 := ext_of_grown E10 (fun k hk => Nat.le_trans e9.size (z70.blk_ge hk)) g11
        have z68' : ZO w11 w8.heap.size x68 := by
          have h68 := (z68.ext e10)
          obtain ⟨b, s, ⟨g, rfl, hg0, hg1⟩, hs⟩ := h68
          refine ⟨b, s, ⟨g, rfl, hg0, ?_⟩, hs⟩
          have hlt : g < w10.heap.size := by
            rcases Nat.lt_or_ge g w10.heap.size with h | h
            · exact h
            · rw [Array.getElem?_eq_none h] at hg1; cases hg1
          have hlt9 : g < w9.heap.size := by
            obtain ⟨b', s', ⟨g', hp, _, hg1'⟩, _⟩ := z68
            cases hp
            rcases Nat.lt_or_ge g w9.heap.size with h | h
            · exact h
            · rw [Array.getElem?_eq_none h] at hg1'; cases hg1'
          rw [g11.block g hlt (fun hc => by
            have := z70.blk_ge hc.symm
            omega)]
          exact hg1
        have hsub : (a : Int) - ((a / 2 ^ (d + 1) : Nat) : Int) * 2 ^ (d + 1) = ((a % 2 ^ (d + 1) : Nat) : Int) := by
          have h1 := Nat.div_add_mod a (2 ^ (d + 1))
          have h2 : ((2 ^ (d + 1) * (a / 2 ^ (d + 1)) + a % 2 ^ (d + 1) : Nat) : Int) = (a : Int) := by rw [h1]
          rw [Int.natCast_add, Int.natCast_mul, Int.natCast_pow] at h2
          rw [Int.mul_comm]
          show (a : Int) - (((2 : Nat) : Int)) ^ (d + 1) * _ = _
          omega
        have hb70 : bl (((a / 2 ^ (d + 1) : Nat) : Int) * 2 ^ (d + 1)).natAbs ≤ bl a := by
          refine bl_mono ?_
          have h1 : (((a / 2 ^ (d + 1) : Nat) : Int) * 2 ^ (d + 1)).natAbs = a / 2 ^ (d + 1) * 2 ^ (d + 1) := by rw [Int.natAbs_mul, Int.natAbs_natCast, natAbs_two_pow]
          rw [h1]
          exact Nat.div_mul_le_self _ _
        refine c_Sub z68' (i42'.ext e11) i70 (by rw [Int.natAbs_natCast]; omega) (by omega) fun w12 z12 i12 g12 => ?_
        rw [hsub] at i12
        have e12 : Ext w8 w12 := ext_of_grown e11 (fun k hk => z68'.blk_ge hk) g12
        have E12 : Ext w4 w12 := e8.trans e12
        refine c_Sign i12 ?_
        rw [bin_neq]
        have i46 := i8.ext e12
        refine cnd_dec (fun hne => ?_) (fun heq => ?_)
        · have hr : a % 2 ^ (d + 1) ≠ 0 := fun hc => hne (by rw [hc]; rfl)
          rw [if_neg hr] at hcut
          have b2' : Bx w12 w.heap.size t_impl_num x2 (nm p e) := (‹Bx w4 w.heap.size t_impl_num x2 (nm p e)›).ext E12
          refine ⟨fun x11 w' => w' = w12 ∧ x11 = .int .i64 (if (bl a : Int) + e ≤ -126 then 3 else 1), ?_, ?_⟩
          · rintro x11 junk w13 ⟨rfl, rfl⟩
            refine alc_Z fun x86 w14 z86 _ e14 => ?_
            refine c_newInt (by decide) (by decide) fun x87 w15 e15 z87 i87 => ?_
            rw [sub_one_u64 (by omega)]
            refine c_Lsh (z86.ext e15) i87 (by decide) (by omega) fun w16 z16 i16 g16 => ?_
            have e16 : Ext w13 w16 := ext_of_grown (e14.trans e15) (fun k hk => z86.blk_ge hk) g16
            rw [Int.one_mul] at i16
            refine c_Cmp (i12.ext e16) i16 ?_
            have b3' := b3.ext (E12.trans e16)
            have b6' := b6.ext (E12.trans e16)
            refine round_up (r := x68) (half := x86) (a := a) (g := 2 ^ (d + 1)) (d := d) (KB := fun x16_98 w97 => cnd x16_98 (call P f_impl_newInt [(.int .i64 1)] w97 fun x119_99 w100 => call P f_impl_integer_Add [x46, x46, x119_99] w100 fun x120_101 w102 => _) _) b3' b6' hsg (i46.ext e16) (Nat.pow_succ ..) ?_
            rw [dec_sign]
            refine cnd_split (fun hup => ?_) (fun hup => ?_)
            · refine c_newInt (by decide) (by decide) fun x119 w17 e17 z119 i119 => ?_
              have E17 := e12.trans (e16.trans e17)
              refine c_Add (base := w4.heap.size) ((z8.low (by have := e6.size; omega)).ext E17) (i8.ext E17) i119 (by rw [Int.natAbs_natCast]; omega) (by decide) fun w18 z18 i18 g18 => ?_
              have e18 : Ext w4 w18 := ext_of_grown (e8.trans E17) (fun k hk => Nat.le_trans e6.size (z8.blk_ge hk)) g18
              refine ⟨e18, ?_, ?_⟩
              · rw [hcut, hup]; exact i18
              · rw [hcut]; rfl
            · refine ⟨E12.trans e16, ?_, ?_⟩
              · rw [hcut, hup]; exact i46.ext e16
              · rw [hcut]; rfl
          · refine num_e b2' ?_
            rw [bin_add, wrap_i64 (by omega) (by omega), bin_leq]
            refine cnd_dec (fun hle => ?_) (fun hgt => ?_)
            · rw [if_pos hle]
              have e12 : ∀ KK : Value → Prop, bin P .or 2 false true (.int .i64 1) (.int .i64 2) w12 KK = KK (.int .i64 3) := fun KK => by rw [bin_or]; rfl
              rw [e12]
              exact ⟨rfl, rfl⟩
            · rw [if_neg hgt]
              exact ⟨rfl, rfl⟩
        · have hr : a % 2 ^ (d + 1) = 0 := by
            have h1 : ((a % 2 ^ (d + 1) : Nat) : Int).sign = 0 := by
              refine Classical.byContradiction fun hc => heq hc
            have := Int.sign_eq_zero_iff_zero.1 h1
            omega
          rw [if_pos hr] at hcut
          refine ⟨E12, ?_, ?_⟩
          · rw [hcut]; exact i46
          · rw [hcut]; rfl
  · -- the sign, the length and its variable, in any order
    refine num_all b2 ?_
    refine num_m b2 ?_
    have fin : ∀ (x6 : Value) (w' : World) (g : Nat), Ext w3 w' → w3.heap.size ≤ g → Bx w' g t_int x6 [.int .i64 0] → ∀ (KJ : World → Prop), (∀ w'', Ext w3 w'' → Bx w'' w3.heap.size t_int x6 [.int .i64 m.sign] → KJ w'') → sto P t_int x6 (.int .i64 m.sign) w' KJ := by
      intro x6 w' g he hg hbx KJ hK
      refine hbx.put1 i_int rfl fun w'' b'' g'' => ?_
      exact hK _ (ext_of_grown he (fun k hk => Nat.le_trans hg (hbx.blk_lt hk).1) g'') (b''.low hg)
    refine ⟨?_, ?_⟩
    · refine c_nsign' ip3 fun w4 e4 => ?_
      refine ⟨e4, ?_, ?_⟩
      · refine c_BitLen (ip3.ext e4) (by omega) ?_
        refine alc_int fun x6 w5 b6 e5 => ?_
        refine ⟨e5, ?_⟩
        exact fin x6 w5 _ (e4.trans e5) e4.size b6 _ fun w'' he hb => ⟨he, rfl, hb⟩
      · refine alc_int fun x6 w5 b6 e5 => ?_
        refine ⟨e5, ?_⟩
        refine c_BitLen ((ip3.ext e4).ext e5) (by omega) ?_
        exact fin x6 w5 _ (e4.trans e5) e4.size b6 _ fun w'' he hb => ⟨he, rfl, hb⟩
    · refine alc_int fun x6 w4 b6 e4 => ?_
      refine ⟨e4, ?_⟩
      refine c_nsign' (ip3.ext e4) fun w5 e5 => ?_
      refine ⟨e5, ?_⟩
      refine c_BitLen ((ip3.ext e4).ext e5) (by omega) ?_
      exact fin x6 w5 _ (e4.trans e5) (Nat.le_refl _) (b6.ext e5) _ fun w'' he hb => ⟨he, rfl, hb⟩
end Go.Proofs.YtabgkpfcpncmhaaGreat

/- Contracts: the reference's rounding: the multiple. -/
set_option linter.unusedVariables false
set_option linter.unusedSimpArgs false
namespace Go.Proofs.YtabgkpfcpncmhaaGreat
open Go Go.Vc Ieee

variable {w : World} {K : Value → World → Prop} {g : Nat} {x v : Value} {m : Int}

/-! ### variables of whole numbers -/
def WC (w : World) (g : Nat) (x : Value) : Prop := blk x = some g ∧ ∃ cs, cs.length = 2 ∧ Bx w g t_impl_Whole x cs
def WV (w : World) (g : Nat) (x : Value) (m : Int) : Prop := blk x = some g ∧ ∃ s, Bx w g t_impl_Whole x [.int .i64 m.sign, s] ∧ Wr w (.agg #[.int .i64 m.sign, s]) m
theorem WC.ext {w' : World} (h : WC w g x) (he : Ext w w') : WC w' g x := let ⟨a, cs, b, c⟩ := h; ⟨a, cs, b, c.ext he⟩
theorem Wr.kt {w' : World} {row : Option Nat} {e' : TypeId} (h : Wr w v m) (hg : w.grownBy w' row) (ht : Ty w row e') (h1 : t_int64 ≠ e') : Wr w' v m := let ⟨s, l, a, b, c⟩ := h; ⟨s, l, a, b.kt hg ht h1, c⟩
theorem WV.ext {w' : World} (h : WV w g x m) (he : Ext w w') : WV w' g x m := let ⟨a, s, b, c⟩ := h; ⟨a, s, b.ext he, c.ext he⟩
theorem WV.WC (h : WV w g x m) : WC w g x := let ⟨a, _, b, _⟩ := h; ⟨a, _, rfl, b⟩
theorem WV.get {K : Value → Prop} (h : WV w g x m) (H : ∀ v, Wr w v m → K v) : ld P t_impl_Whole x w K := let ⟨_, _, b, c⟩ := h; wh_all b (H _ c)
theorem WV.getc {K : Value → Prop} (h : WV w g x m) (H : ∀ v, Wr w v m → K v) : ldc P t_impl_Whole x w K := let ⟨_, _, b, c⟩ := h; b.getc u_impl_Whole rfl i_impl_Whole rfl (H _ c)
theorem WC.put {K : World → Prop} (h : WC w g x) (hv : Wr w v m) (H : ∀ w', WV w' g x m → w.grownBy w' (some g) → Ty w (some g) t_impl_Whole → K w') : sto P t_impl_Whole x v w K := by
  obtain ⟨hg, cs, hl, b⟩ := h
  have t := Ty.box b
  obtain ⟨s, l, rfl, hr, hw⟩ := hv
  refine b.put i_impl_Whole (ds := [.int .i64 m.sign, s]) rfl hl (one_2 rfl (sl_one (IR.sl hr.toIR))) fun w' b' g' => ?_
  rw [hg] at g' t
  exact H w' ⟨hg, s, b', s, l, rfl, hr.kt g' t (by decide), hw⟩ g' t
theorem alc_WC {KW : Value → World → Prop} (H : ∀ x w', WC w' w.heap.size x → Ext w w' → KW x w') : alc P t_impl_Whole w KW :=
  alc_bx i_impl_Whole fun x w' b e hp => H x w' ⟨hp, _, rfl, b⟩ e
theorem WV.ty (h : WV w g x m) : Ty w (some g) t_impl_Whole := let ⟨a, _, b, _⟩ := h; a ▸ Ty.box b

/-! ### the plain law: an odd number's half -/
theorem up_canon {neg : Bool} {a d : Nat} (ha : a % 2 = 1) : upB 0 neg (a / 2 ^ (d + 1)) (a % 2 ^ (d + 1)) (2 ^ (d + 1)) = (decide (a / 2 ^ d % 2 = 1) && (decide (1 < d + 1) || decide (a / 2 ^ (d + 1) % 2 = 1))) := by
  unfold upB
  rw [if_pos rfl]
  have hp := Nat.two_pow_pos d
  have h1 : 2 ^ (d + 1) = 2 ^ d * 2 := Nat.pow_succ ..
  have hm := Nat.mod_mul (x := a) (a := 2 ^ d) (b := 2)
  rw [← h1] at hm
  have hr := Nat.mod_lt a hp
  have hb := Nat.mod_lt (a / 2 ^ d) (show 0 < 2 by decide)
  generalize hB : a / 2 ^ d % 2 = B at *
  generalize hR : a % 2 ^ d = R at *
  rw [hm, h1]
  by_cases hB1 : B = 1
  · subst hB1
    have e1 : decide ((1 : Nat) = 1) = true := rfl
    rw [e1, Bool.true_and, Nat.mul_one]
    by_cases hd : d = 0
    · subst hd
      have : R = 0 := by have : R < 1 := hr; omega
      subst this
      rfl
    · have h2 : decide (1 < d + 1) = true := decide_eq_true (by omega)
      have hRp : 0 < R := by
        obtain ⟨k, rfl⟩ : ∃ k, d = k + 1 := ⟨d - 1, by omega⟩
        have h3 := Nat.mod_mul (x := a) (a := 2) (b := 2 ^ k)
        rw [show 2 * 2 ^ k = 2 ^ (k + 1) by rw [Nat.pow_succ, Nat.mul_comm], hR, ha] at h3
        omega
      have h3 : decide (2 ^ d * 2 < 2 * (R + 2 ^ d)) = true := decide_eq_true (by omega)
      rw [h2, h3, Bool.true_or, Bool.true_or]
  · have hB0 : B = 0 := by omega
    subst hB0
    have e1 : decide ((0 : Nat) = 1) = false := rfl
    rw [e1, Bool.false_and, Nat.mul_zero, Nat.add_zero]
    have h3 : decide (2 ^ d * 2 < 2 * R) = false := decide_eq_false (by omega)
    have h4 : decide (2 * R = 2 ^ d * 2) = false := decide_eq_false (by omega)
    rw [h3, h4]; rfl

theorem natAbs_odd {m : Int} (h : m % 2 = 1) : m.natAbs % 2 = 1 := by omega

theorem c_l03Multiple {m e : Int} {lo hi : Nat} {md : Int} (h : Dr w v m e) (hb : Bd lo hi m e) (hl : lo ≤ 1000000000) (hh : hi ≤ 1000000000) (hodd : m % 2 = 1)
    (H : ∀ u w', Ext w w' → Wr w' u ((cutT md (decide (m < 0)) m.natAbs e).1 : Int) → K (.tuple #[u, .int .i64 (qOf m.natAbs e), .bool (cutT md (decide (m < 0)) m.natAbs e).2]) w') : call P f_spec_l03Multiple [v, .int .i64 md] w K := by
  obtain ⟨s, l, rfl, h1, wl⟩ := h
  have hbl := hb.bl
  have := hb.low; have := hb.top
  have hm : m ≠ 0 := by rintro rfl; cases hodd
  have hao := natAbs_odd hodd
  refine I_spec_l03Multiple ?_
  unfold D_spec_l03Multiple
  refine bx_Dy fun x1 w1 b1 e1 => ?_
  refine alc_WC fun x4 w2 c4 e2 => ?_
  have b1 := b1.ext e2
  have E2 := e1.trans e2
  refine dy_w b1 ?_
  refine c_l02Abs ⟨s, l, rfl, h1.ext E2, wl⟩ (by omega) fun u3 w3 e3 h3 => ?_
  refine alc_WC fun x7 w4 c7 e4 => ?_
  refine c7.put (h3.Wr.ext e4) fun w5 v7 g5 _ => ?_
  have e5 : Ext w2 w5 := ext_gr (e3.trans e4) e3.size g5
  have b1 := b1.ext e5
  have c4 := c4.ext e5
  refine v7.get fun u7 hu7 => ?_
  refine dy_e b1 ?_
  refine c_l02Length hu7 (by rw [Int.natAbs_natCast]; omega) fun w6 e6 => ?_
  refine ⟨e6, ?_⟩
  have b1 := b1.ext e6
  have c4 := c4.ext e6
  have v7 := v7.ext e6
  have E6 := E2.trans (e5.trans e6)
  have s1 := e1.size
  have s3 := e3.size
  rw [Int.natAbs_natCast, bin_add, wrap_i64 (by omega) (by omega), bin_sub, wrap_i64 (by omega) (by omega), bl0_max_i64]
  rw [show max (((bl m.natAbs : Nat) : Int) + e - 24) (-149) = qOf m.natAbs e from rfl]
  have hq1 : -149 ≤ qOf m.natAbs e ∧ qOf m.natAbs e ≤ 3000000000 := by unfold qOf; omega
  generalize hqd : qOf m.natAbs e = Q at *
  refine dy_e b1 ?_
  rw [bin_sub, wrap_i64 (by omega) (by omega), bin_leq]
  refine cnd_dec (fun hle => ?_) (fun hgt => ?_)
  · refine v7.get fun u8 hu8 => ?_
    rw [una_neg_int, wrap_i64 (by omega) (by omega), show (0 : Int) - (Q - e) = (((e - Q).toNat : Nat) : Int) by omega]
    refine c_l02Left hu8 (by rw [Int.natAbs_natCast]; omega) (by omega) fun u9 w9 e9 h9 => ?_
    refine (c4.ext e9).put h9.Wr fun w10 v4 g10 _ => ?_
    refine v4.getc fun u10 hu10 => ?_
    have := H u10 w10 (ext_gr (E6.trans e9) e1.size g10)
    rw [cutT_exact (by rw [hqd]; omega), hqd] at this
    refine this ?_
    rw [Int.natCast_mul, Int.natCast_pow]; exact hu10
  · obtain ⟨d, hdd⟩ : ∃ d : Nat, Q - e = ((d + 1 : Nat) : Int) := ⟨(Q - e).toNat - 1, by omega⟩
    have hcut := cutT_rest (md := md) (neg := decide (m < 0)) (a := m.natAbs) (e := e) (by rw [hqd]; omega)
    rw [hqd, show (Q - e).toNat = d + 1 by omega] at hcut
    have hr : m.natAbs % 2 ^ (d + 1) ≠ 0 := by
      intro hc
      have : m.natAbs % 2 = m.natAbs % 2 ^ (d + 1) % 2 := by rw [Nat.mod_mod_of_dvd _ ⟨2 ^ d, by rw [Nat.pow_succ, Nat.mul_comm]⟩]
      rw [hc] at this; omega
    rw [if_neg hr] at hcut
    refine v7.get fun u8 hu8 => ?_
    rw [hdd]
    refine c_l02Cut (m' := ((m.natAbs / 2 ^ (d + 1) : Nat) : Int)) hu8 (by rw [Int.natAbs_natCast]; omega) (by omega) (by rw [Int.natAbs_natCast, Int.natAbs_natCast]) (fun hne => ?_) fun u9 w9 e9 h9 => ?_
    · have hp : 0 < m.natAbs / 2 ^ (d + 1) := Nat.pos_of_ne_zero fun hc => hne (by rw [hc]; rfl)
      rw [Int.sign_eq_one_of_pos (Int.natCast_pos.2 hp), Int.sign_eq_one_of_pos (Int.natCast_pos.2 (by omega))]
    refine alc_WC fun x10 w10 c10 e10 => ?_
    refine c10.put (h9.Wr.ext e10) fun w11 v10 g11 _ => ?_
    have e11 : Ext w6 w11 := ext_gr (e9.trans e10) e9.size g11
    have s9 := e9.size
    have hbt : bl (m.natAbs / 2 ^ (d + 1)) ≤ bl m.natAbs := bl_mono (Nat.div_le_self _ _)
    have fin : ∀ (up : Bool) (w12 : World), up = upB md (decide (m < 0)) (m.natAbs / 2 ^ (d + 1)) (m.natAbs % 2 ^ (d + 1)) (2 ^ (d + 1)) → Ext w11 w12 →
        cnd (.bool up)
        (ld P 26 x10 w12 fun x68_43 =>
        call P f_spec_l02Of [(.int .i64 1)] w12 fun x69_44 w45 =>
        Ext w12 w45 ∧ call P f_spec_l02Add [x68_43, x69_44] w45 fun x70_46 w47 =>
        sto P 26 x10 x70_46 w47 fun w49 =>
        ld P 26 x10 w49 fun x71_50 =>
        sto P 26 x4 x71_50 w49 fun w52 =>
        ldc P 26 x4 w52 fun r53 =>
        K (.tuple #[r53, .int .i64 Q, (.bool false)]) w52)
        (ld P 26 x10 w12 fun x71_54 =>
        sto P 26 x4 x71_54 w12 fun w56 =>
        ldc P 26 x4 w56 fun r57 =>
        K (.tuple #[r57, .int .i64 Q, (.bool false)]) w56) := by
      intro up w12 hup e12
      have v10 := v10.ext e12
      have c4 := (c4.ext e11).ext e12
      have E12 := E6.trans (e11.trans e12)
      have H := H
      rw [hcut] at H
      refine cnd_split (fun hu => ?_) (fun hu => ?_)
      · refine v10.get fun u12 hu12 => ?_
        refine c_l02Of (by decide) (by decide) fun u13 w13 e13 h13 => ?_
        refine ⟨e13, ?_⟩
        refine c_l02Add (hu12.ext e13) h13.Wr (by rw [Int.natAbs_natCast]; omega) (by decide) fun u14 w14 e14 h14 => ?_
        refine ((v10.WC.ext e13).ext e14).put h14.Wr fun w15 v15 g15 _ => ?_
        have e15 : Ext w6 w15 := ext_gr (e11.trans (e12.trans (e13.trans e14))) e9.size g15
        refine v15.get fun u15 hu15 => ?_
        refine (((‹WC w6 w1.heap.size x4›).ext e15)).put hu15 fun w16 v16 g16 _ => ?_
        refine v16.getc fun u16 hu16 => ?_
        have := H u16 w16 (ext_gr (E6.trans e15) e1.size g16)
        rw [← hup, hu] at this
        exact this hu16
      · refine v10.get fun u12 hu12 => ?_
        refine c4.put hu12 fun w16 v16 g16 _ => ?_
        refine v16.getc fun u16 hu16 => ?_
        have := H u16 w16 (ext_gr E12 e1.size g16)
        rw [← hup, hu] at this
        exact this hu16
    refine ⟨fun x11 w' => Ext w11 w' ∧ x11 = .bool (upB md (decide (m < 0)) (m.natAbs / 2 ^ (d + 1)) (m.natAbs % 2 ^ (d + 1)) (2 ^ (d + 1))), ?_, ?_⟩
    · rintro x11 junk w12 ⟨e12, rfl⟩
      exact fin _ w12 rfl e12
    · rw [bin_eql]
      have b1 := b1.ext e11
      have v7 := v7.ext e11
      by_cases m0 : md = 0
      · rw [decide_eq_true m0, cnd_true, m0, up_canon hao]
        refine v7.get fun u12 hu12 => ?_
        rw [bin_sub, wrap_i64 (by omega) (by omega), show ((d + 1 : Nat) : Int) - 1 = (d : Int) by omega]
        refine c_l02Bit hu12 (by omega) fun w12 e12 => ?_
        rw [Int.natAbs_natCast, bin_eql]
        have e : (((m.natAbs / 2 ^ d % 2 : Nat) : Int) = 1) = (m.natAbs / 2 ^ d % 2 = 1) := propext ⟨fun h => by omega, fun h => by omega⟩
        simp only [e]
        by_cases c1 : m.natAbs / 2 ^ d % 2 = 1
        · rw [decide_eq_true c1, Bool.true_and]
          by_cases c2 : 1 < d + 1
          · have p1 : decide (1 < ((d + 1 : Nat) : Int)) = true := decide_eq_true (by omega)
            rw [decide_eq_true c2, Bool.true_or]
            repeat (first | (refine ⟨_, fun _ _ _ h => h, ?_⟩) | simp only [bin_gtr, p1, grd_true_true, grd_true_false, grd_false_false, grd_false_true, pick_bool, cond_true, cond_false])
            exact ⟨e12, trivial⟩
          · have p1 : decide (1 < ((d + 1 : Nat) : Int)) = false := decide_eq_false (by omega)
            rw [decide_eq_false c2, Bool.false_or]
            repeat (first | (refine ⟨_, fun _ _ _ h => h, ?_⟩) | simp only [bin_gtr, p1, grd_true_true, grd_true_false, grd_false_false, grd_false_true, pick_bool, cond_true, cond_false])
            refine (v10.ext e12).get fun u13 hu13 => ?_
            refine c_l02Bit (i := 0) hu13 (by decide) fun w13 e13 => ?_
            rw [Int.natAbs_natCast, Nat.pow_zero, Nat.div_one]
            have e' : (((m.natAbs / 2 ^ (d + 1) % 2 : Nat) : Int) = 1) = (m.natAbs / 2 ^ (d + 1) % 2 = 1) := propext ⟨fun h => by omega, fun h => by omega⟩
            simp only [bin_eql, e']
            repeat (first | (refine ⟨_, fun _ _ _ h => h, ?_⟩) | simp only [bin_gtr, p1, grd_true_true, grd_true_false, grd_false_false, grd_false_true, pick_bool, cond_true, cond_false])
            exact ⟨e12.trans e13, trivial⟩
        · rw [decide_eq_false c1, Bool.false_and]
          repeat (first | (refine ⟨_, fun _ _ _ h => h, ?_⟩) | simp only [bin_gtr, grd_true_true, grd_true_false, grd_false_false, grd_false_true, pick_bool, cond_true, cond_false])
          exact ⟨e12, trivial⟩
      · rw [decide_eq_false m0, cnd_false, bin_eql]
        unfold upB
        rw [if_neg m0]
        by_cases m1 : md = 1
        · rw [decide_eq_true m1, cnd_true, if_pos m1]
          refine dy_ws b1 ?_
          rw [bin_lss, dec_sign]
          exact ⟨Ext.refl _, rfl⟩
        · rw [decide_eq_false m1, cnd_false, if_neg m1, bin_eql]
          by_cases m2 : md = 2
          · rw [decide_eq_true m2, cnd_true, if_pos m2]
            refine dy_ws b1 ?_
            rw [bin_gtr]
            refine ⟨Ext.refl _, ?_⟩
            congr 1
            rcases sign_cases hm with hs | hs
            · rw [hs, ← dec_sign, hs]; rfl
            · rw [hs, ← dec_sign, hs]; rfl
          · rw [decide_eq_false m2, cnd_false, if_neg m2, bin_eql]
            by_cases m4 : md = 4
            · rw [decide_eq_true m4, cnd_true, if_pos m4]
              exact ⟨Ext.refl _, rfl⟩
            · rw [decide_eq_false m4, cnd_false, if_neg m4]
              exact ⟨Ext.refl _, rfl⟩
end Go.Proofs.YtabgkpfcpncmhaaGreat

/- Contracts: the reference's rounding, whole. -/
set_option linter.unusedVariables false
set_option linter.unusedSimpArgs false
namespace Go.Proofs.YtabgkpfcpncmhaaGreat
open Go Go.Vc Ieee

variable {w : World} {K : Value → World → Prop}

theorem c_l01Huge (H : K (fl 2139095040) w) : call P f_spec_l01Huge [] w K := by
  refine I_spec_l01Huge ?_
  unfold D_spec_l01Huge
  refine rbin_float (by simp) fun r hr => ?_
  have := FR_some hr (r' := 2139095040) (by decide +kernel)
  subst this
  exact H
set_option maxRecDepth 20000 in
theorem c_l01At_max (H : K (fl 2139095039) w) : call P f_spec_l01At [.int .i64 2139095039] w K := by
  refine I_spec_l01At ?_
  unfold D_spec_l01At
  rw [bin_lss]
  refine cnd_no (by decide) ?_
  have e1 : ∀ KK : Value → Prop, bin P .shr 2 false true (.int .i64 2139095039) (.int .u64 23) w KK = KK (.int .i64 254) := fun KK => by
    have := bin_shrN (w := w) (t := t_int64) (cx := false) (cy := true) (k := .i64) (yk := .u64) (a := 2139095039) (s := 23) (K := KK) (by decide)
    exact this
  have e2 : ∀ KK : Value → Prop, bin P .and 2 false true (.int .i64 2139095039) (.int .i64 8388607) w KK = KK (.int .i64 8388607) := fun KK => by rw [bin_and]; rfl
  rw [e1, e2, bin_eql]
  refine cnd_no (by decide) ?_
  rw [bin_eql]
  refine cnd_no (by decide) ?_
  have hf : floatOfInt .f64 (8388607 + 8388608) = W64 false 16777215 0 := by decide
  rw [bin_add, wrap_i64 (by decide) (by decide), cnv_int_float u_int64 u_float64, hf, bin_sub, wrap_i64 (by decide) (by decide), show (254 : Int) - 150 = 104 from rfl]
  refine c_l01Twos (by decide) (by decide) (by decide) (by decide) (by decide) ?_
  refine rcnv_cut (t := 16777215) (q := 104) (sg := false) u_float64 u_float32 ⟨by decide, by decide, by decide⟩ ?_
  have : W single false 16777215 104 = 2139095039 := by decide
  rw [this]
  exact H

theorem c_l03Over {md sg : Int} (hs : sg = 1 ∨ sg = -1) (H : K (fl (overB md (decide (sg < 0)))) w) : call P f_spec_l03Over [.int .i64 sg, .int .i64 md] w K := by
  refine I_spec_l03Over ?_
  unfold D_spec_l03Over
  refine c_l01Huge ?_
  have fin : ∀ (b : Nat) (hb : b = 2139095039 ∨ b = 2139095040), (overB md (decide (sg < 0)) = if sg < 0 then b + 2147483648 else b) → bin P .lss 2 false true (.int .i64 sg) (.int .i64 0) w fun x27_7 =>
      cnd x27_7 (una P .neg (fl b) w fun x29_8 => K x29_8 w) (K (fl b) w) := by
    intro b hb ho
    rw [bin_lss]
    refine cnd_dec (fun hlt => ?_) (fun hge => ?_)
    · rw [una_neg_float, neg32 b (by omega), if_pos (by omega)]
      rw [if_pos hlt] at ho
      rw [ho] at H; exact H
    · rw [if_neg hge] at ho
      rw [ho] at H; exact H
  refine ⟨fun x w' => w' = w ∧ ∃ b, x = fl b ∧ (b = 2139095039 ∨ b = 2139095040) ∧ (overB md (decide (sg < 0)) = if sg < 0 then b + 2147483648 else b), ?_, ?_⟩
  · rintro x junk w' ⟨rfl, b, rfl, hb, ho⟩
    exact fin b hb ho
  · have yes : (md = 3 ∨ (md = 1 ∧ sg = 1) ∨ (md = 2 ∧ sg = -1)) → overB md (decide (sg < 0)) = if sg < 0 then 2139095039 + 2147483648 else 2139095039 := by
      intro h
      rcases hs with rfl | rfl
      · rw [overB_pos, if_pos (by omega)]; rfl
      · rw [overB_neg, if_pos (by omega)]; rfl
    have no : ¬ (md = 3 ∨ (md = 1 ∧ sg = 1) ∨ (md = 2 ∧ sg = -1)) → overB md (decide (sg < 0)) = if sg < 0 then 2139095040 + 2147483648 else 2139095040 := by
      intro h
      rcases hs with rfl | rfl
      · rw [overB_pos, if_neg (by omega)]; rfl
      · rw [overB_neg, if_neg (by omega)]; rfl
    rw [bin_eql]
    by_cases m3 : md = 3
    · have d3 : decide (md = 3) = true := decide_eq_true m3
      rw [d3]
      repeat (first | (refine ⟨_, fun _ _ _ h => h, ?_⟩) | simp only [bin_eql, bin_gtr, bin_lss, d3, grd_true_true, grd_true_false, grd_false_false, grd_false_true, pick_bool, cond_true, cond_false, cnd_true, cnd_false])
      refine c_l01At_max ⟨rfl, _, rfl, .inl rfl, yes (.inl m3)⟩
    · have d3 : decide (md = 3) = false := decide_eq_false m3
      rw [d3]
      by_cases m1 : md = 1
      · have d1 : decide (md = 1) = true := decide_eq_true m1
        have d2 : decide (md = 2) = false := decide_eq_false (by omega)
        have p1 : decide (0 < (1 : Int)) = true := rfl
        have p2 : decide (0 < (-1 : Int)) = false := rfl
        rcases hs with rfl | rfl
        · repeat (first | (refine ⟨_, fun _ _ _ h => h, ?_⟩) | simp only [bin_eql, bin_gtr, bin_lss, d1, d2, d3, p1, grd_true_true, grd_true_false, grd_false_false, grd_false_true, pick_bool, cond_true, cond_false, cnd_true, cnd_false])
          refine c_l01At_max ⟨rfl, _, rfl, .inl rfl, yes (.inr (.inl ⟨m1, rfl⟩))⟩
        · repeat (first | (refine ⟨_, fun _ _ _ h => h, ?_⟩) | simp only [bin_eql, bin_gtr, bin_lss, d1, d2, d3, p2, grd_true_true, grd_true_false, grd_false_false, grd_false_true, pick_bool, cond_true, cond_false, cnd_true, cnd_false])
          exact ⟨trivial, _, rfl, .inr rfl, no (by omega)⟩
      · have d1 : decide (md = 1) = false := decide_eq_false m1
        by_cases m2 : md = 2
        · have d2 : decide (md = 2) = true := decide_eq_true m2
          have p1 : decide ((1 : Int) < 0) = false := rfl
          have p2 : decide ((-1 : Int) < 0) = true := rfl
          rcases hs with rfl | rfl
          · repeat (first | (refine ⟨_, fun _ _ _ h => h, ?_⟩) | simp only [bin_eql, bin_gtr, bin_lss, d1, d2, d3, p1, grd_true_true, grd_true_false, grd_false_false, grd_false_true, pick_bool, cond_true, cond_false, cnd_true, cnd_false])
            exact ⟨trivial, _, rfl, .inr rfl, no (by omega)⟩
          · repeat (first | (refine ⟨_, fun _ _ _ h => h, ?_⟩) | simp only [bin_eql, bin_gtr, bin_lss, d1, d2, d3, p2, grd_true_true, grd_true_false, grd_false_false, grd_false_true, pick_bool, cond_true, cond_false, cnd_true, cnd_false])
            refine c_l01At_max ⟨rfl, _, rfl, .inl rfl, yes (.inr (.inr ⟨m2, rfl⟩))⟩
        · have d2 : decide (md = 2) = false := decide_eq_false m2
          repeat (first | (refine ⟨_, fun _ _ _ h => h, ?_⟩) | simp only [bin_eql, bin_gtr, bin_lss, d1, d2, d3, grd_true_true, grd_true_false, grd_false_false, grd_false_true, pick_bool, cond_true, cond_false, cnd_true, cnd_false])
          exact ⟨trivial, _, rfl, .inr rfl, no (by omega)⟩

theorem c_l01Turned {t : Nat} {q : Int} (h : Cut t q) (H : K (fl (W single true t q)) w) : call P f_spec_l01Turned [fl (W single false t q)] w K := by
  refine I_spec_l01Turned ?_
  unfold D_spec_l01Turned
  have e1 : (3212836864 : Nat) = W single true 1 0 := by decide
  refine rbin_float (by simp) fun r hr => ?_
  have hm := mul_W (s := false) (t := true) hss h.has (Has32 (m := 1) (e := 0) (by decide) (by decide) (by decide))
  rw [← e1] at hm
  have := FR_some hr (show floatBits .mul .f32 _ _ = some _ from hm)
  subst this
  rw [Bool.false_xor, Nat.mul_one, Int.add_zero]
  exact H

theorem val_drop_le {l : List Nat} {t : Nat} (h : val 16777216 l = t) (i : Nat) : val 16777216 (l.drop i) * 16777216 ^ i ≤ t := by
  induction i generalizing l t with
  | zero => rw [List.drop_zero, Nat.pow_zero, Nat.mul_one, h]; exact Nat.le_refl _
  | succ i ih =>
    cases l with
    | nil => simp [val]
    | cons a l =>
      rw [List.drop_succ_cons, Nat.pow_succ, ← Nat.mul_assoc]
      have := ih (l := l) rfl
      simp only [val] at h
      have h2 := Nat.mul_le_mul_right 16777216 this
      omega

set_option maxRecDepth 20000 in
theorem c_l03Round {v : Value} {m e : Int} {lo hi : Nat} {md : Int} (h : Dr w v m e) (hb : Bd lo hi m e) (hl : lo ≤ 1000000000) (hh : hi ≤ 1000000000) (hcn : Canon m e)
    (H : ∀ w', Ext w w' → K (.tuple #[fl (roundF md m e).1, .int .i64 (roundF md m e).2]) w') : call P f_spec_l03Round [v, .int .i64 md] w K := by
  obtain ⟨s, l, rfl, h1, wl⟩ := h
  have hbl := hb.bl
  have := hb.low; have := hb.top
  refine I_spec_l03Round ?_
  unfold D_spec_l03Round
  refine bx_Dy fun x1 w1 b1 e1 => ?_
  refine dy_ws b1 ?_
  rw [bin_eql]
  refine cnd_dec (fun h0 => ?_) (fun h0 => ?_)
  · have hm : m = 0 := Int.sign_eq_zero_iff_zero.1 h0
    have : roundF md m e = (0, 0) := by unfold roundF; rw [if_pos hm]
    rw [this] at H
    exact H _ e1
  have hm : m ≠ 0 := by rintro rfl; exact h0 rfl
  have hodd : m % 2 = 1 := by rcases hcn with ⟨h, _⟩ | h <;> omega
  refine dy_all b1 ?_
  refine c_l03Multiple (md := md) ⟨s, l, rfl, h1.ext e1, wl⟩ hb hl hh hodd fun u2 w2 e2 h2 => ?_
  rw [xtr_0, xtr_1, xtr_2]
  have hcl := cutT_le md (decide (m < 0)) m.natAbs e
  have hq1 : -149 ≤ qOf m.natAbs e ∧ qOf m.natAbs e ≤ 3000000000 := by unfold qOf; omega
  have H1 := fun ho => roundF_over (md := md) (e := e) hm ho
  have H2 := fun ho => roundF_in (md := md) (e := e) hm ho
  generalize hqd : qOf m.natAbs e = Q at *
  generalize hT : cutT md (decide (m < 0)) m.natAbs e = T at *
  obtain ⟨t, ex⟩ := T
  simp only at h2 hcl H1 H2
  have hc25 : bl t ≤ 25 := bl_le.2 (by show _ < 33554432; omega)
  refine alc_WC fun x6 w3 c6 e3 => ?_
  refine c6.put (h2.ext e3) fun w4 v6 g4 _ => ?_
  have e4 : Ext w2 w4 := ext_gr e3 (Nat.le_refl _) g4
  have E4 := e1.trans (e2.trans e4)
  have b1 := (b1.ext e2).ext e4
  refine v6.get fun u6 hu6 => ?_
  refine c_l02Length hu6 (by rw [Int.natAbs_natCast]; omega) fun w5 e5 => ?_
  have b1 := b1.ext e5
  have v6 := v6.ext e5
  have E5 := E4.trans e5
  rw [Int.natAbs_natCast, bin_add, wrap_i64 (by omega) (by omega), bin_gtr]
  refine cnd_dec (fun hbig => ?_) (fun hin => ?_)
  · refine dy_ws b1 ?_
    have HH := H w5 E5
    rw [H1 hbig] at HH
    refine c_l03Over (sign_cases hm) ?_
    rw [dec_sign]
    exact HH
  · have HH := fun w' he => H w' he
    rw [H2 hin] at HH
    have cut : Cut t Q := ⟨hcl, hq1.1, by omega⟩
    obtain ⟨hblk, s6, b6, s6', l6, hv6, hr6, hw6⟩ := v6
    simp only [Value.agg.injEq, Array.mk.injEq, List.cons.injEq, true_and, and_true] at hv6
    subst hv6
    have hval : val 16777216 l6 = t := by have := hw6.2; rw [Int.natAbs_natCast] at this; exact this
    have hlen : l6.length ≤ 45812984491 := hw6.len (by rw [Int.natAbs_natCast]; omega)
    refine wh_l b6 ?_
    rw [hr6.row.len u_s_int64]
    rw [bin_sub, wrap_i64 (by omega) (by omega)]
    refine ⟨fun k x y w' => w' = w5 ∧ k ≤ l6.length ∧ x = .float .f64 (W64 false (val 16777216 (l6.drop k)) 0) ∧ y = .int .i64 ((k : Int) - 1), ⟨l6.length, rfl, Nat.le_refl _, ?_, rfl⟩, ?_⟩
    · rw [List.drop_of_length_le (Nat.le_refl _)]
      exact congrArg (Value.float .f64) zero64
    rintro k x y junk w6 ⟨rfl, hk, rfl, rfl⟩
    rw [bin_geq]
    refine cnd_dec (fun hge => ?_) (fun hlt => ?_)
    · obtain ⟨i, rfl⟩ : ∃ i, k = i + 1 := ⟨k - 1, by omega⟩
      have hi : i < l6.length := by omega
      have hdrop : val 16777216 (l6.drop i) = l6[i] + 16777216 * val 16777216 (l6.drop (i + 1)) := by
        rw [List.drop_eq_getElem_cons hi]; rfl
      have hle1 := val_drop_le hval i
      have hle2 := val_drop_le hval (i + 1)
      have hp1 : 1 ≤ 16777216 ^ i := Nat.pow_pos (by decide)
      have hp2 : 16777216 ≤ 16777216 ^ (i + 1) := by rw [Nat.pow_succ]; omega
      have hvi : val 16777216 (l6.drop i) ≤ t := Nat.le_trans (Nat.le_mul_of_pos_right _ hp1) hle1
      have hlim := hw6.1.1 l6[i] (List.getElem_mem hi)
      generalize hP : val 16777216 (l6.drop (i + 1)) = p at *
      have hp : 16777216 * p ≤ t := by omega
      have bp : bl p ≤ 25 := bl_le.2 (by show p < 33554432; omega)
      have bp2 : bl (p * 16777216) ≤ 25 := bl_le.2 (by show p * 16777216 < 33554432; omega)
      have bl1 : bl l6[i] ≤ 25 := bl_le.2 (by show l6[i] < 33554432; omega)
      refine rbin_float (by simp) fun r hr => ?_
      have hm1 := mul_W (s := false) (t := false) hsd (Has64 (m := p) (e := 0) (by omega) (by omega) (by omega)) (Has64 (m := 16777216) (e := 0) (by decide) (by decide) (by decide))
      rw [← p2464] at hm1
      have := FR_some hr (show floatBits .mul .f64 _ _ = some _ from hm1)
      subst this
      refine wh_l b6 ?_
      rw [show (((i + 1 : Nat) : Int) - 1) = (i : Int) by omega]
      refine IR.at (i := i) hr6.toIR hi u_s_int64 i_int64 u_int64 ?_
      rw [cnv_int_float u_int64 u_float64]
      have hf : floatOfInt .f64 ((l6[i] : Nat) : Int) = W64 false l6[i] 0 := by
        show double.write (.number (decide (((l6[i] : Nat) : Int) < 0)) ((l6[i] : Nat) : Int).natAbs 0) = _
        rw [decide_eq_false (by omega), Int.natAbs_natCast]
        rfl
      rw [hf]
      refine rbin_float (by simp) fun r hr => ?_
      have hm2 := add_W (f := double) hsd (Has64 (m := p * 16777216) (e := 0 + 0) (by omega) (by omega) (by omega)) (Has64 (m := l6[i]) (e := 0) (by omega) (by omega) (by omega)) (val 16777216 (l6.drop i)) 0 (by
        rw [hdrop, Int.add_zero, dy_add]
        congr 1
        rw [Int.natCast_add, Int.natCast_mul, Int.natCast_mul, Int.add_comm, Int.mul_comm])
      rw [Bool.xor_false] at hr
      have := FR_some hr (show floatBits .add .f64 _ _ = some _ from hm2)
      subst this
      rw [bin_sub, wrap_i64 (by omega) (by omega)]
      exact ⟨i, by omega, rfl, by omega, rfl, rfl⟩
    · have hk0 : k = 0 := by omega
      subst hk0
      rw [List.drop_zero, hval]
      refine c_l01Twos (by omega) (by omega) (by omega) (by omega) (by have := cut.top; have := bl_pos (n := t); omega) ?_
      rw [Int.zero_add]
      refine rcnv_cut u_float64 u_float32 cut ?_
      have fin : ∀ (f : Int) (w7 : World), Ext w w7 → f = (if ex then 0 else if (bl m.natAbs : Int) + e ≤ -126 then 3 else 1) → Bx w7 w.heap.size t_impl_Dyadic x1 (dv3 m.sign s e) →
          fda P t_impl_Dyadic x1 0 w7 fun x66_54 => fda P t_impl_Whole x66_54 0 w7 fun x67_55 => ld P t_int64 x67_55 w7 fun x68_56 => bin P .lss 2 false true x68_56 (.int .i64 0) w7 fun x69_57 =>
            cnd x69_57 (call P f_spec_l01Turned [.float .f32 (W single false t Q)] w7 fun x71_58 w59 => K (.tuple #[x71_58, .int .i64 f]) w59) (K (.tuple #[.float .f32 (W single false t Q), .int .i64 f]) w7) := by
        intro f w7 he hf hb7
        have HH := HH w7 he
        rw [← hf] at HH
        refine dy_ws hb7 ?_
        rw [bin_lss, dec_sign]
        refine cnd_dec (fun hlt => ?_) (fun hge => ?_)
        · refine c_l01Turned cut ?_
          rw [decide_eq_true hlt] at HH
          exact HH
        · rw [decide_eq_false hge] at HH
          exact HH
      refine ⟨fun x w' => Ext w6 w' ∧ x = .int .i64 (if ex then 0 else if (bl m.natAbs : Int) + e ≤ -126 then 3 else 1), ?_, ?_⟩
      · rintro x junk w7 ⟨e7, rfl⟩
        exact fin _ w7 (E5.trans e7) rfl (b1.ext e7)
      · rw [una_not]
        cases ex with
        | true => exact ⟨Ext.refl _, rfl⟩
        | false =>
          rw [Bool.not_false, cnd_true]
          refine dy_w b1 ?_
          refine dy_e b1 ?_
          refine c_l02Length ⟨s, l, rfl, h1.ext E5, wl⟩ (by omega) fun w7 e7 => ?_
          refine ⟨e7, ?_⟩
          rw [bin_add, wrap_i64 (by omega) (by omega), bin_leq]
          refine cnd_dec (fun hle => ?_) (fun hgt => ?_)
          · rw [bin_add, wrap_i64 (by decide) (by decide)]
            refine ⟨e7, ?_⟩
            rw [if_pos hle]; rfl
          · refine ⟨e7, ?_⟩
            rw [if_neg hgt]; rfl
end Go.Proofs.YtabgkpfcpncmhaaGreat

/- Norms of matrices. -/
set_option linter.unusedVariables false
namespace Go.Proofs.YtabgkpfcpncmhaaGreat
open Go Go.Vc

variable {w : World} {K : Value → World → Prop}

theorem c_dq_round {v : Value} {lo hi : Nat} {q : Rat} {md : Int} (h : DQ w v lo hi q) (hl : lo ≤ 1000000000) (hh : hi ≤ 1000000000)
    (H : ∀ w', Ext w w' → K (.tuple #[fl (rndQ md q).1, .int .i64 (rndQ md q).2]) w') : call P f_spec_l03Round [v, .int .i64 md] w K := by
  obtain ⟨m, e, hd, hc⟩ := h
  rw [hc.val, rndQ_dy] at H
  exact c_l03Round hd hc.bd hl hh hc.canon H
theorem fq_abs {a b : Nat} (hf : Vc.Fin Ieee.single a) (ha : a < 4294967296) (hr : Ieee.single.read a = .number false (fM b).natAbs (fE b)) : fq a = absQ (fq b) := by
  have h1 := read_f hf ha
  rw [hr] at h1
  simp only [Ieee.Datum.number.injEq] at h1
  obtain ⟨h2, h3, h4⟩ := h1
  have h5 : ¬ fM a < 0 := by
    intro h
    have h6 := (sgn_f ha).1 h
    have : a / 2147483648 % 2 = 1 := by omega
    rw [this] at h2
    cases h2
  unfold fq
  rw [absQ_dy, h3, h4]
  congr 1
  omega

def nJ (m : List (List Nat)) (i : Nat) : Nat → Rat
  | 0 => 0
  | j + 1 => nJ m i j + absQ (fq (en m i j))
def nI (m : List (List Nat)) (n : Nat) : Nat → Rat
  | 0 => 0
  | i + 1 => if 0 < cmpQ (nJ m i n) (nI m n i) then nJ m i n else nI m n i
noncomputable def normF (m : List (List Nat)) : Nat × Int := if matB m then ((rndQ 2 (nI m m.length m.length)).1, 0) else (0, 1)

end Go.Proofs.YtabgkpfcpncmhaaGreat

/- Lists of exact numbers. -/
set_option linter.unusedVariables false
namespace Go.Proofs.YtabgkpfcpncmhaaGreat
open Go Go.Vc

variable {w : World} {K : Value → World → Prop}

theorem heap_new {o : Obj} : (w.alloc o).heap[w.heap.size]? = some o := by
  show (w.heap.push o)[w.heap.size]? = some o
  simp
/-- A list of one's own whose elements take s cells. -/
def SL {α : Type} (R : World → List Value → α → Prop) (s : Nat) (e : TypeId) (w : World) (base : Nat) (v : Value) (ls : List α) : Prop :=
  ∃ cs : List (List Value), cs.length = ls.length ∧ (∀ c ∈ cs, c.length = s) ∧ w.ownsRow base e s v ls.length cs.flatten ∧ ∀ i (h : i < cs.length) (h' : i < ls.length), R w cs[i] ls[i]

theorem flatten_get {s : Nat} : ∀ {cs : List (List Value)}, (∀ c ∈ cs, c.length = s) → ∀ {i j : Nat} (hi : i < cs.length) {u : Value}, cs[i][j]? = some u → cs.flatten[i * s + j]? = some u
  | [], _, i, j, hi, _, _ => absurd hi (Nat.not_lt_zero _)
  | c :: cs, h, 0, j, hi, u, hu => by
    rw [Nat.zero_mul, Nat.zero_add, List.flatten_cons]
    simp only [List.getElem_cons_zero] at hu
    have hj := (List.getElem?_eq_some_iff.1 hu).1
    rw [List.getElem?_append_left hj]; exact hu
  | c :: cs, h, i + 1, j, hi, u, hu => by
    have hc := h c List.mem_cons_self
    simp only [List.getElem_cons_succ] at hu
    have := flatten_get (s := s) (fun c' hc' => h c' (List.mem_cons_of_mem _ hc')) (i := i) (j := j) (by simpa using hi) hu
    rw [List.flatten_cons, List.getElem?_append_right (by rw [hc, Nat.succ_mul]; omega), hc]
    rw [show (i + 1) * s + j - s = i * s + j by rw [Nat.succ_mul]; omega]
    exact this

theorem Row.atA {s n : Nat} {v : Value} {xs cs : List Value} {t e : TypeId} {z : Value} {b : Nat} {d : TypeDesc} {K : Value → Prop} {k : IntKind} {i : Nat} (h : Row s w v n xs) (hi : i < n) (hl : cs.length = s) (hx : ∀ j u, cs[j]? = some u → xs[i * s + j]? = some u)
    (hu : P.underlying t = some (.slice e)) (ht : TI P e z s b) (hue : P.underlying e = some d) (hd : aggB d = true) (H : K (.agg cs.toArray)) :
    ixa P t v (.int k (i : Int)) w (fun a => ld P e a w K) := by
  obtain ⟨h1, h2, a, cap, rfl, h3⟩ := h
  obtain ⟨bl, o, rfl, hc⟩ := h3 (by omega)
  rw [ixa_slice hu ht (by omega) (by omega)]
  rw [ld_agg hue hd ht hl (fun j u hj => ?_)]
  · exact H
  · rw [Addr.add_lit, Int.toNat_natCast, Nat.add_assoc]
    exact hc _ u (hx j u hj)

set_option maxRecDepth 20000 in
theorem bsl_num {KW : Value → World → Prop} {a b : Value} (ha : a.oneCell' = true) (hb : b.oneCell' = true) (h : KW (.slice (some ⟨w.heap.size, 0, none⟩) 1 1) (w.alloc (.cells #[a, b] t_impl_num))) : bsl P t_s_impl_num 1 [(0, .agg #[a, b])] w KW := by
  unfold bsl Instr.buildSlice
  refine SemA_rv (rv_underlying u_s_impl_num) ?_
  refine SemA_rv (sm := sizeOf t_impl_num) (rv_sizeOf i_impl_num) ?_
  simp only [Nat.one_mul]
  rw [if_neg (by omega), if_neg (by omega)]
  refine SemA_bind (s := zeroValue t_impl_num) ?_
  refine SemA_of_rd (rd_of_rv _ (rv_zeroValue i_impl_num) ?_)
  refine SemA_bind (SemA_pure ?_)
  have : Instr.fill (fun i => some (i * 2, 2)) ((Array.range 2).map (fun i => ((Value.agg #[(.pointer none), (.int .i64 0)]).cells)[i % ((Value.agg #[(.pointer none), (.int .i64 0)]).cells).size]!)) [(0, .agg #[a, b])].toArray.toList = some #[a, b] := by
    have hr : Array.range 2 = #[0, 1] := rfl
    simp [Instr.fill, hr, Value.cells]
  simp only [this]
  exact SemA_bind (SemA_bind (SemA_new (SemA_pure (SemA_pure h))))
set_option maxRecDepth 20000 in
theorem bsl_Dy {KW : Value → World → Prop} {a b c : Value} (h : KW (.slice (some ⟨w.heap.size, 0, none⟩) 1 1) (w.alloc (.cells #[a, b, c] t_impl_Dyadic))) : bsl P t_s_impl_Dyadic 1 [(0, .agg #[a, b, c])] w KW := by
  unfold bsl Instr.buildSlice
  refine SemA_rv (rv_underlying u_s_impl_Dyadic) ?_
  refine SemA_rv (sm := sizeOf t_impl_Dyadic) (rv_sizeOf i_impl_Dyadic) ?_
  simp only [Nat.one_mul]
  rw [if_neg (by omega), if_neg (by omega)]
  refine SemA_bind (s := zeroValue t_impl_Dyadic) ?_
  refine SemA_of_rd (rd_of_rv _ (rv_zeroValue i_impl_Dyadic) ?_)
  refine SemA_bind (SemA_pure ?_)
  have : Instr.fill (fun i => some (i * 3, 3)) ((Array.range 3).map (fun i => ((Value.agg #[(.int .i64 0), (.slice none 0 0), (.int .i64 0)]).cells)[i % ((Value.agg #[(.int .i64 0), (.slice none 0 0), (.int .i64 0)]).cells).size]!)) [(0, .agg #[a, b, c])].toArray.toList = some #[a, b, c] := by
    have hr : Array.range 3 = #[0, 1, 2] := rfl
    simp [Instr.fill, hr, Value.cells]
  simp only [this]
  exact SemA_bind (SemA_bind (SemA_new (SemA_pure (SemA_pure h))))

section
variable {α : Type} {R : World → List Value → α → Prop} {s : Nat} {e t : TypeId} {base : Nat} {v : Value} {ls : List α} {z : Value} {b : Nat} {d : TypeDesc}
theorem SL.ext {w' : World} (hR : ∀ c a, R w c a → R w' c a) (h : SL R s e w base v ls) (he : Ext w w') : SL R s e w' base v ls := by
  obtain ⟨cs, h1, h2, h3, h4⟩ := h
  exact ⟨cs, h1, h2, owns_ext h3 he, fun i hi hi' => hR _ _ (h4 i hi hi')⟩
theorem SL.len {ty : TypeId} {K : Value → Prop} (h : SL R s e w base v ls) (hu : P.underlying t = some (.slice e)) : bl0 P .len #[t] ty [v] w K = K (.int .i64 ls.length) := by
  obtain ⟨cs, h1, h2, h3, h4⟩ := h
  exact (owns_Row h3).len hu
theorem SL.at {K : Value → Prop} {k : IntKind} {i : Nat} (h : SL R s e w base v ls) (hi : i < ls.length) (hu : P.underlying t = some (.slice e)) (ht : TI P e z s b) (hue : P.underlying e = some d) (hd : aggB d = true)
    (H : ∀ c, R w c ls[i] → K (.agg c.toArray)) : ixa P t v (.int k (i : Int)) w (fun a => ld P e a w K) := by
  obtain ⟨cs, h1, h2, h3, h4⟩ := h
  have hi' : i < cs.length := by omega
  exact Row.atA (owns_Row h3) hi (h2 _ (List.getElem_mem hi')) (fun j u hj => flatten_get h2 hi' hj) hu ht hue hd (H _ (h4 i hi' hi))
theorem SL.nil {KW : Value → World → Prop} (hu : P.underlying t = some (.slice e)) (ht : TI P e z s b) (H : ∀ v w', Ext w w' → SL R s e w' w.heap.size v ([] : List α) → KW v w') : bsl P t 0 [] w KW := by
  refine bsl_nil hu ht (H _ _ (Ext_alloc w _) ⟨[], rfl, (fun c hc => by cases hc), ?_, fun i hi => by cases hi⟩)
  have := World.ownsRow_lit (w := w) (base := w.heap.size) (e := e) (size := s) #[] 0 (Nat.le_refl _) (by decide) (by simp)
  simpa using this
/-- One more element. -/
theorem SL.push {KW : Value → World → Prop} {ty : TypeId} {c : List Value} {a : α} {w0 : World} {x : Value} (h : SL R s e w0 base v ls) (hx : Row s w x 1 c) (hc : c.length = s) (h1 : ∀ u ∈ c, u.oneCell' = true) (he : Ext w0 w) (hbase : base ≤ w0.heap.size)
    (hR : ∀ w' c a row, R w0 c a → (∀ k, row = some k → base ≤ k) → w.grownBy w' row → Ty w row e → R w' c a) (ha : R w0 c a)
    (hu : P.underlying t = some (.slice e)) (ht : TI P e z s b) (hzs : z.cells.size = s) (hs : 0 < s) (hn : ls.length ≤ 1048576) (hb : b ≤ 1024)
    (H : ∀ v' w', SL R s e w' base v' (ls ++ [a]) → w.grownBy w' v.ownBlock → (∀ k, v.ownBlock = some k → base ≤ k) → KW v' w') : bl2 P .append #[t, t] ty [v, x] w KW := by
  obtain ⟨cs, g1, g2, g3, g4⟩ := h
  have g3' := owns_ext g3 he
  have hby : (ls.length + 1) * b ≤ 140737488355328 := by
    have : (ls.length + 1) * b ≤ 1048577 * 1024 := Nat.mul_le_mul (by omega) hb
    omega
  refine append_intro g3' hx h1 hu ht hzs hs (by simp only [maxLen]; omega) hby (Nat.le_trans hbase he.size) fun v' w' ho hg => ?_
  have hk : ∀ k, v.ownBlock = some k → base ≤ k := fun k hk => (g3'.lt k hk).1
  refine H v' w' ⟨cs ++ [c], by simp [g1], fun c' hc' => ?_, ?_, fun i hi hi' => ?_⟩ hg hk
  · rcases List.mem_append.1 hc' with hc' | hc'
    · exact g2 c' hc'
    · rw [List.mem_singleton] at hc'; rw [hc']; exact hc
  · rw [List.flatten_append, List.length_append]
    simpa using ho
  · have ty' := Ty.owns g3'
    by_cases hlt : i < cs.length
    · have hlt' : i < ls.length := by omega
      rw [List.getElem_append_left hlt, List.getElem_append_left hlt']
      exact hR w' _ _ _ (g4 i hlt hlt') hk hg ty'
    · have hi0 : i = cs.length := by simp at hi; omega
      subst hi0
      rw [List.getElem_append_right (Nat.le_refl _), List.getElem_append_right (by omega)]
      simp only [Nat.sub_self, g1, List.getElem_cons_zero]
      exact hR w' _ _ _ ha hk hg ty'
end

/-! ### numbers of the program; of the reference -/
def RN (lo hi : Nat) (w : World) (c : List Value) (q : Rat) : Prop := NQ w (.agg c.toArray) lo hi q
def RD (lo hi : Nat) (w : World) (c : List Value) (q : Rat) : Prop := DQ w (.agg c.toArray) lo hi q
abbrev NL (w : World) (base : Nat) (v : Value) (lo hi : Nat) (qs : List Rat) : Prop := SL (RN lo hi) 2 t_impl_num w base v qs
abbrev DL (w : World) (base : Nat) (v : Value) (lo hi : Nat) (qs : List Rat) : Prop := SL (RD lo hi) 3 t_impl_Dyadic w base v qs
section
variable {base : Nat} {v : Value} {lo hi : Nat} {qs : List Rat}
theorem NL.ext {w' : World} (h : NL w base v lo hi qs) (he : Ext w w') : NL w' base v lo hi qs := SL.ext (fun c a (h : NQ _ _ _ _ _) => (h.ext he : NQ _ _ _ _ _)) h he
theorem DL.ext {w' : World} (h : DL w base v lo hi qs) (he : Ext w w') : DL w' base v lo hi qs := SL.ext (fun c a (h : DQ _ _ _ _ _) => (h.ext he : DQ _ _ _ _ _)) h he
theorem NL.push {KW : Value → World → Prop} {ty : TypeId} {u : Value} {q : Rat} (h : NL w base v lo hi qs) (hu : NQ w u lo hi q) (hbase : base ≤ w.heap.size) (hn : qs.length ≤ 1048576)
    (H : ∀ v' w', NL w' base v' lo hi (qs ++ [q]) → (∀ {w0}, Ext w0 w → w0.heap.size ≤ base → Ext w0 w') → KW v' w') : bsl P t_s_impl_num 1 [(0, u)] w fun x w1 => bl2 P .append #[t_s_impl_num, t_s_impl_num] ty [v, x] w1 KW := by
  have hu0 := hu
  obtain ⟨m, e, ⟨p, rfl, ip⟩, hb, hq⟩ := hu
  refine bsl_num ip.one rfl ?_
  have he := Ext_alloc w (.cells #[p, .int .i64 e] t_impl_num)
  have hrow : Row 2 (w.alloc (.cells #[p, .int .i64 e] t_impl_num)) (.slice (some ⟨w.heap.size, 0, none⟩) 1 1) 1 [p, .int .i64 e] := by
    refine ⟨rfl, by decide, _, _, rfl, fun _ => ⟨w.heap.size, 0, rfl, fun j u hj => ?_⟩⟩
    match j, hj with
    | 0, hj => cases hj; simp only [World.cell?, heap_new]; rfl
    | 1, hj => cases hj; simp only [World.cell?, heap_new]; rfl
    | _ + 2, hj => simp at hj
  refine SL.push (a := q) h hrow rfl (one_2 ip.one rfl) he hbase (fun w' c a row hr hk hg ht => ?_) hu0 u_s_impl_num i_impl_num rfl (by decide) hn (by decide) fun v' w' h' hg hk => ?_
  · exact NQ.kt (NQ.ext hr he) hg ht (by decide) (by decide)
  · exact H v' w' h' fun he0 hs => ext_of_grown (he0.trans he) (fun k hk' => Nat.le_trans hs (hk k hk')) hg
theorem DL.push {KW : Value → World → Prop} {ty : TypeId} {u : Value} {q : Rat} (h : DL w base v lo hi qs) (hu : DQ w u lo hi q) (hbase : base ≤ w.heap.size) (hn : qs.length ≤ 1048576)
    (H : ∀ v' w', DL w' base v' lo hi (qs ++ [q]) → (∀ {w0}, Ext w0 w → w0.heap.size ≤ base → Ext w0 w') → KW v' w') : bsl P t_s_impl_Dyadic 1 [(0, u)] w fun x w1 => bl2 P .append #[t_s_impl_Dyadic, t_s_impl_Dyadic] ty [v, x] w1 KW := by
  have hu0 := hu
  obtain ⟨m, e, ⟨s, l, rfl, hl, hw⟩, hc⟩ := hu
  refine bsl_Dy ?_
  have he := Ext_alloc w (.cells #[.int .i64 m.sign, s, .int .i64 e] t_impl_Dyadic)
  have hrow : Row 3 (w.alloc (.cells #[.int .i64 m.sign, s, .int .i64 e] t_impl_Dyadic)) (.slice (some ⟨w.heap.size, 0, none⟩) 1 1) 1 [.int .i64 m.sign, s, .int .i64 e] := by
    refine ⟨rfl, by decide, _, _, rfl, fun _ => ⟨w.heap.size, 0, rfl, fun j u hj => ?_⟩⟩
    match j, hj with
    | 0, hj => cases hj; simp only [World.cell?, heap_new]; rfl
    | 1, hj => cases hj; simp only [World.cell?, heap_new]; rfl
    | 2, hj => cases hj; simp only [World.cell?, heap_new]; rfl
    | _ + 3, hj => simp at hj
  refine SL.push (a := q) h hrow rfl (one_3 rfl (sl_one (IR.sl hl.toIR)) rfl) he hbase (fun w' c a row hr hk hg ht => ?_) hu0 u_s_impl_Dyadic i_impl_Dyadic rfl (by decide) hn (by decide) fun v' w' h' hg hk => ?_
  · exact DQ.kt (DQ.ext hr he) hg ht (by decide)
  · exact H v' w' h' fun he0 hs => ext_of_grown (he0.trans he) (fun k hk' => Nat.le_trans hs (hk k hk')) hg
end
end Go.Proofs.YtabgkpfcpncmhaaGreat

/- The contracts of the exported functions, as the laws want them. -/
set_option linter.unusedVariables false
namespace Go.Proofs.YtabgkpfcpncmhaaGreat
open Go Go.Vc

variable {w : World} {K : Value → World → Prop}

theorem total_le {m : List (List Nat)} {k : Nat} (h : ∀ r ∈ m, r.length ≤ k) : total m ≤ m.length * k := by
  unfold total
  induction m with
  | nil => simp
  | cons a m ih =>
    have h1 := h a (by simp)
    have h2 := ih fun r hr => h r (by simp [hr])
    simp only [List.map_cons, List.sum_cons, List.length_cons, Nat.add_mul]
    omega
theorem small_TimesMatrix_0 (m b : List (List Nat)) : cnt_Float32SS (tmF m b).1 ≤ 1099511627776 := by
  obtain ⟨h1, h2⟩ := tmF_small m b
  have := total_le h2
  unfold cnt_Float32SS
  omega
end Go.Proofs.YtabgkpfcpncmhaaGreat

/- The contracts of EliminationOf, as the law wants them. -/
set_option linter.unusedVariables false
namespace Go.Proofs.YtabgkpfcpncmhaaGreat
open Go Go.Vc

variable {w : World} {K : Value → World → Prop}

theorem colsE_good {p : List Nat} {q n : Nat} : ∀ {f j : Nat} {r s : List Nat}, colsE p q f j r = some s → r.length = n → r.all finB = true → (∀ b ∈ r, b < 4294967296) → s.length = n ∧ s.all finB = true ∧ ∀ b ∈ s, b < 4294967296
  | 0, j, r, s, h, h1, h2, h3 => by simp only [colsE, Option.some.injEq] at h; subst h; exact ⟨h1, h2, h3⟩
  | f + 1, j, r, s, h, h1, h2, h3 => by
    rw [colsE] at h
    split at h
    · rename_i hf
      exact colsE_good h (by rw [List.length_set]; exact h1) (all_set h2 hf) (lt_set h3 opF_lt)
    · cases h
theorem rowE_good {n k : Nat} {p r s : List Nat} (h : rowE n k p r = some s) (h1 : r.length = n) (h2 : r.all finB = true) (h3 : ∀ b ∈ r, b < 4294967296) : s.length = n ∧ s.all finB = true ∧ ∀ b ∈ s, b < 4294967296 := by
  unfold rowE at h
  split at h
  · rename_i hf
    exact colsE_good h (by rw [List.length_set]; exact h1) (all_set h2 hf) (lt_set h3 opF_lt)
  · cases h
theorem rowsE_good {n k : Nat} : ∀ {f i : Nat} {m t : List (List Nat)}, rowsE n k f i m = some t → f + i ≤ n → Good n m → Good n t
  | 0, i, m, t, h, _, hG => by simp only [rowsE, Option.some.injEq] at h; subst h; exact hG
  | f + 1, i, m, t, h, hi, hG => by
    rw [rowsE] at h
    have hil : i < m.length := by rw [hG.len]; omega
    cases hr : rowE n k (m.getD k []) (m.getD i []) with
    | none => rw [hr] at h; cases h
    | some r =>
      rw [hr] at h
      rw [getD_lt hil] at hr
      obtain ⟨a1, a2, a3⟩ := rowE_good hr (hG.row hil) (hG.fin _ (List.getElem_mem hil)) (hG.lt _ (List.getElem_mem hil))
      exact rowsE_good h (by omega) (hG.set i a1 a2 a3)
theorem elimE_good {n : Nat} : ∀ {f k : Nat} {o o' : List Nat} {m t : List (List Nat)}, elimE n f k o m = .ok (o', t) → f + k = n → Good n m → o.length = n → Good n t ∧ o'.length = n
  | 0, k, o, o', m, t, h, _, hG, ho => by simp only [elimE, Except.ok.injEq, Prod.mk.injEq] at h; obtain ⟨rfl, rfl⟩ := h; exact ⟨hG, ho⟩
  | f + 1, k, o, o', m, t, h, hk, hG, ho => by
    rw [elimE] at h
    split at h
    · cases h
    · have hb := (bestF_range (m := m) (k := k) (n := n) (f := n - k) (i := k) (b := k) (by omega) (by omega) (Nat.le_refl _) (Nat.le_refl _)).1
      have hG' : Good n (swapL m k (bestF m k (n - k) k k) []) := hG.swap (by rw [hG.len]; omega) (by rw [hG.len]; omega)
      cases hr : rowsE n k (n - (k + 1)) (k + 1) (swapL m k (bestF m k (n - k) k k) []) with
      | none => rw [hr] at h; cases h
      | some t' =>
        rw [hr] at h
        exact elimE_good h (by omega) (rowsE_good hr (by omega) hG') (by rw [swapL_length]; exact ho)
theorem elimF_good {m t : List (List Nat)} {o : List Nat} (h : elimF m = .ok (o, t)) (hm : matB m = true) (hb : bits m) : Good m.length t ∧ o.length = m.length :=
  elimE_good h rfl (Good.of hm hb) (by simp)

def elimR (m : List (List Nat)) : DE × Int :=
  if matB m then (match elimF m with
    | .error e => (([], []), e)
    | .ok (o, t) => ((o.map Int.ofNat, t), 0)) else (([], []), 1)

theorem OI.OIR {w : World} {lo hi : Nat} {v : Value} {o : List Nat} (h : OI w lo v o) (ht : ∀ k, v.ownBlock = some k → k < hi) : OIR w lo hi v (o.map Int.ofNat) := by
  refine ⟨?_, ht⟩
  rw [List.length_map, List.map_map]
  exact h

theorem o_empty (w : World) (lo hi : Nat) : O_Elimination w lo hi (.agg #[nilS, nilS]) ([], []) :=
  ⟨nilS, nilS, [], rfl, ⟨⟨rfl, .inl ⟨rfl, rfl⟩⟩, fun k hk => by cases hk⟩, OM.nil _ _ _, by intro r hr; simp at hr⟩

theorem small_EliminationOf_0 (m : List (List Nat)) : cnt_Elimination (elimR m).1 ≤ 1099511627776 := by
  unfold elimR
  by_cases hm : matB m = true
  · simp only [hm, if_true]
    cases h : elimF m with
    | error e => simp [cnt_Elimination, total]
    | ok x =>
      obtain ⟨o, t⟩ := x
      have h8 := (matB_parts hm).2.2
      have key : ∀ {f k : Nat} {n : Nat} {o o' : List Nat} {m t : List (List Nat)}, elimE n f k o m = .ok (o', t) → f + k = n → square n m → o.length = n → square n t ∧ o'.length = n := by
        intro f
        induction f with
        | zero => intro k n o o' m t h _ hG ho; simp only [elimE, Except.ok.injEq, Prod.mk.injEq] at h; obtain ⟨rfl, rfl⟩ := h; exact ⟨hG, ho⟩
        | succ f ih =>
          intro k n o o' m t h hk hG ho
          rw [elimE] at h
          split at h
          · cases h
          · cases hr : rowsE n k (n - (k + 1)) (k + 1) (swapL m k (bestF m k (n - k) k k) []) with
            | none => rw [hr] at h; cases h
            | some t' =>
              rw [hr] at h
              have hb := (bestF_range (m := m) (k := k) (n := n) (f := n - k) (i := k) (b := k) (by omega) (by omega) (Nat.le_refl _) (Nat.le_refl _)).1
              have hsq : square n (swapL m k (bestF m k (n - k) k k) []) := ⟨by rw [swapL_length]; exact hG.1, fun x hx => hG.2 x (mem_swapL (by rw [hG.1]; omega) (by rw [hG.1]; omega) hx)⟩
              refine ih h (by omega) ?_ (by rw [swapL_length]; exact ho)
              have rows : ∀ {f i : Nat} {m t : List (List Nat)}, rowsE n k f i m = some t → f + i ≤ n → square n m → square n t := by
                intro f
                induction f with
                | zero => intro i m t h _ hG; simp only [rowsE, Option.some.injEq] at h; subst h; exact hG
                | succ f ih =>
                  intro i m t h hi hG
                  rw [rowsE] at h
                  have hil : i < m.length := by rw [hG.1]; omega
                  cases hr : rowE n k (m.getD k []) (m.getD i []) with
                  | none => rw [hr] at h; cases h
                  | some r =>
                    rw [hr] at h
                    have hrl : r.length = n := by
                      rw [getD_lt hil] at hr
                      unfold rowE at hr
                      split at hr
                      · have cl : ∀ {f j : Nat} {r s : List Nat} {p : List Nat} {q : Nat}, colsE p q f j r = some s → s.length = r.length := by
                          intro f
                          induction f with
                          | zero => intro j r s p q h; simp only [colsE, Option.some.injEq] at h; subst h; rfl
                          | succ f ih =>
                            intro j r s p q h
                            rw [colsE] at h
                            split at h
                            · rw [ih h, List.length_set]
                            · cases h
                        rw [cl hr, List.length_set]; exact hG.row hil
                      · cases hr
                    refine ih h (by omega) ⟨by rw [List.length_set]; exact hG.1, fun x hx => ?_⟩
                    rcases List.mem_or_eq_of_mem_set hx with hx | rfl
                    · exact hG.2 x hx
                    · exact hrl
              exact rows hr (by omega) hsq
      obtain ⟨k1, k2⟩ := key h rfl ⟨rfl, fun r hr => ((matB_parts hm).1 r hr).1⟩ (by simp)
      have := total_le (m := t) (k := m.length) fun r hr => Nat.le_of_eq (k1.2 r hr)
      have h3 := k1.1
      unfold cnt_Elimination
      simp only [List.length_map]
      have h64 : t.length * m.length ≤ 8 * 8 := Nat.mul_le_mul (by omega) h8
      omega
  · have hm : matB m = false := by simpa using hm
    simp only [hm, Bool.false_eq_true, if_false]
    simp [cnt_Elimination, total]
end Go.Proofs.YtabgkpfcpncmhaaGreat

/- The solution by an elimination: what is computed; the reference's. -/
set_option linter.unusedVariables false
namespace Go.Proofs.YtabgkpfcpncmhaaGreat
open Go Go.Vc

variable {w : World} {K : Value → World → Prop}

/-- A number less the products of a row's and a list's numbers. -/
def subsF (row x : List Nat) : Nat → Nat → Nat → Option Nat
  | 0, _, s => some s
  | f + 1, j, s => if finB (opF .sub s (opF .mul (row.getD j 0) (x.getD j 0))) then subsF row x f (j + 1) (opF .sub s (opF .mul (row.getD j 0) (x.getD j 0))) else none
def fwdF (t : List (List Nat)) (o b : List Nat) : Nat → Nat → List Nat → Option (List Nat)
  | 0, _, y => some y
  | f + 1, i, y => match subsF (t.getD i []) y i 0 (b.getD (o.getD i 0) 0) with
    | none => none
    | some s => fwdF t o b f (i + 1) (y ++ [s])
def backF (t : List (List Nat)) (n : Nat) : Nat → List Nat → Option (List Nat)
  | 0, y => some y
  | i + 1, y => match subsF (t.getD i []) y (n - (i + 1)) (i + 1) (y.getD i 0) with
    | none => none
    | some s => if isZ (cell t i i) then none else if finB (opF .quo s (cell t i i)) then backF t n i (y.set i (opF .quo s (cell t i i))) else none
def solveF (o : List Nat) (t : List (List Nat)) (b : List Nat) : Option (List Nat) := match fwdF t o b b.length 0 [] with
  | none => none
  | some y => backF t b.length b.length y

theorem subsF_step {row x : List Nat} {n j s : Nat} (h : j < n) : subsF row x (n - j) j s = if finB (opF .sub s (opF .mul (row.getD j 0) (x.getD j 0))) then subsF row x (n - (j + 1)) (j + 1) (opF .sub s (opF .mul (row.getD j 0) (x.getD j 0))) else none := by
  rw [show n - j = (n - (j + 1)) + 1 by omega, subsF]
theorem subsF_end {row x : List Nat} {n j s : Nat} (h : n ≤ j) : subsF row x (n - j) j s = some s := by
  rw [show n - j = 0 by omega, subsF]
theorem fwdF_step {t : List (List Nat)} {o b y : List Nat} {n i : Nat} (h : i < n) : fwdF t o b (n - i) i y = match subsF (t.getD i []) y i 0 (b.getD (o.getD i 0) 0) with
    | none => none
    | some s => fwdF t o b (n - (i + 1)) (i + 1) (y ++ [s]) := by
  rw [show n - i = (n - (i + 1)) + 1 by omega, fwdF]
theorem fwdF_end {t : List (List Nat)} {o b y : List Nat} {n i : Nat} (h : n ≤ i) : fwdF t o b (n - i) i y = some y := by
  rw [show n - i = 0 by omega, fwdF]

theorem quo_zero {a b q : Nat} (ha : finB a = true) (hb : finB b = true) (hz : isZ b = true) (hq : FR .quo .f32 a b q) : finB q = false := by
  rw [finB_iff] at ha hb
  obtain ⟨s, e, h1, _⟩ := read_isZ hb hz
  obtain ⟨m, g, h2⟩ := read_fin ha
  rw [finB_not]
  by_cases hm : m = 0
  · have : floatBits .quo .f32 a b = none := by
      show Ieee.single.div a b = _
      unfold Ieee.Format.div; rw [h1, h2]; simp [Ieee.Datum.quotient, hm]
    exact not_fin_of_nan (FR_nan hq this)
  · have : floatBits .quo .f32 a b = some (Ieee.single.write (.infinity ((a / Ieee.single.signWeight % 2 == 1) ^^ s))) := by
      show Ieee.single.div a b = _
      unfold Ieee.Format.div; rw [h1, h2]; simp [Ieee.Datum.quotient, hm]
    rw [FR_some hq this]
    exact not_fin_of_inf (write_inf _ _)

/-- An elimination that is read. -/
structure ER (w : World) (v ov tv : Value) (o : List Nat) (t : List (List Nat)) (n : Nat) : Prop where
  val : v = .agg #[ov, tv]
  ord : FI w ov (o.map Int.ofNat)
  tab : FSS w tv t
  good : Good n t
  len : o.length = n
  lt : ∀ x ∈ o, x < n
theorem ER.ext {w' : World} {v ov tv : Value} {o : List Nat} {t : List (List Nat)} {n : Nat} (h : ER w v ov tv o t n) (he : Ext w w') : ER w' v ov tv o t n := ⟨h.val, h.ord.ext he, h.tab.ext he, h.good, h.len, h.lt⟩
theorem ER.at {w' : World} {v ov tv : Value} {o : List Nat} {t : List (List Nat)} {n : Nat} (h : ER w v ov tv o t n) (he : Ext w w') {i : Nat} (hi : i < o.length) {K : Value → Prop} (H : K (ivN o[i])) : ixa P t_s_int64 ov (.int .i64 (i : Int)) w' (fun a => ld P t_int64 a w' K) := by
  refine Row.at1 (h.ord.ext he) (i := i) (x := ivN o[i]) ?_ u_s_int64 i_int64 u_int64 rfl H
  simp [hi]

structure FinL (n : Nat) (b : List Nat) : Prop where
  len : b.length = n
  fin : b.all finB = true
  lt : ∀ x ∈ b, x < 4294967296

theorem bslFe {KW : Value → World → Prop} (H : ∀ u w', Ext w w' → OS w' w.heap.size u [] → KW u w') : bsl P t_s_float32 0 [] w KW := bsl_nil u_s_float32 i_float32 (H _ _ (Ext_alloc _ _) (OS_lit0 w))

/-- One subtraction: as both packages do it. -/
theorem sub_case {a b s p q : Nat} (ha : finB a = true) (hb : finB b = true) (hs : finB s = true) (hp : FR .mul .f32 a b p) (hq : FR .sub .f32 s p q) : q = opF .sub s (opF .mul a b) ∧ [p, q].all finB = finB q := by
  obtain ⟨h1, h2, h3⟩ := step_sub ha hb hs hp hq
  refine ⟨h2, ?_⟩
  have eall : [p, q].all finB = (finB p && finB q) := by simp
  rw [eall]
  rcases h3 with h3 | ⟨h3, h4⟩
  · rw [h3, Bool.true_and]
  · rw [h3, h4]; rfl

theorem FinL.get {n : Nat} {b : List Nat} (h : FinL n b) {i : Nat} (hi : i < b.length) : finB b[i] = true := all_get h.fin hi
theorem FinL.set {n : Nat} {b : List Nat} (h : FinL n b) {i x : Nat} (h1 : finB x = true) (h2 : x < 4294967296) : FinL n (b.set i x) := ⟨by rw [List.length_set]; exact h.len, all_set h.fin h1, lt_set h.lt h2⟩

end Go.Proofs.YtabgkpfcpncmhaaGreat

/- The solution by an elimination: the program's, with its closure. -/
set_option linter.unusedVariables false
namespace Go.Proofs.YtabgkpfcpncmhaaGreat
open Go Go.Vc

variable {w : World} {K : Value → World → Prop}

theorem callv_call {f : FuncId} {cap : Array Value} {args : List Value} (H : call P f (args ++ cap.toList) w K) : callv P (.func (.func f) #[] cap) args w K := by
  unfold callv
  have e : (do let d ← Deferred.ofValue (.func (.func f) #[] cap) args.toArray; invoke d.target d.args) = callFunc f (args ++ cap.toList).toArray := by
    show callFunc f ((#[] ++ args.toArray) ++ cap) = _
    congr 1
    simp
  rw [e]; exact H

/-- The variables of 'solve'. -/
structure XS (w : World) (B : Nat) (pe px ov tv xv : Value) (xl : List Nat) : Prop where
  be : Bx w B t_impl_Elimination pe [ov, tv]
  bx : Bx w B t_s_float32 px [xv]
  xs : OS w B xv xl
theorem XS.ext {B : Nat} {pe px ov tv xv : Value} {xl : List Nat} {w' : World} (h : XS w B pe px ov tv xv xl) (he : Ext w w') : XS w' B pe px ov tv xv xl := ⟨h.be.ext he, h.bx.ext he, owns_ext h.xs he⟩
theorem XS.getX {B : Nat} {pe px ov tv xv : Value} {xl : List Nat} (h : XS w B pe px ov tv xv xl) {K : Value → Prop} (H : K xv) : ld P t_s_float32 px w K := h.bx.get1 u_s_float32 rfl H
theorem XS.at {B : Nat} {pe px ov tv xv : Value} {xl : List Nat} (h : XS w B pe px ov tv xv xl) {i : Nat} (hi : i < xl.length) {K : Value → Prop} (H : K (fl xl[i])) : ixa P t_s_float32 xv (.int .i64 (i : Int)) w (fun a => ld P t_float32 a w K) :=
  (owns_Row h.xs).at1 (get_map hi) u_s_float32 i_float32 u_float32 rfl H
theorem XS.put {B i x : Nat} {pe px ov tv xv : Value} {xl : List Nat} {K : World → Prop} (h : XS w B pe px ov tv xv xl) (hi : i < xl.length) (H : ∀ w', XS w' B pe px ov tv xv (xl.set i x) → (∀ {A w0}, A ≤ B → A ≤ w.heap.size → RowKit.Below A w0 w → RowKit.Below A w0 w') → K w') :
    ixa P t_s_float32 xv (.int .i64 (i : Int)) w (fun a => sto P t_float32 a (fl x) w K) := by
  refine owns_set h.xs (x := fl x) hi rfl u_s_float32 i_float32 fun w' ho hg => H w' ⟨keep_box h.be hg (Ty.owns h.xs) (by decide), keep_box h.bx hg (Ty.owns h.xs) (by decide), ?_⟩ fun hA hs hb => hb.grown hg hs fun k hk => Nat.le_trans hA (h.xs.lt k hk).1
  show w'.ownsRow B t_float32 1 xv (xl.set i x).length ((xl.set i x).map fl)
  rw [List.length_set, List.map_set]; exact ho

theorem getD_app {y : List Nat} {c : Nat} {r : List Nat} {i : Nat} (h : y.length = i) : (y ++ c :: r).getD i 0 = c := by
  subst h
  rw [List.getD_eq_getElem?_getD, List.getElem?_append_right (Nat.le_refl _)]; simp
theorem getD_appl {y r : List Nat} {j : Nat} (h : j < y.length) : (y ++ r).getD j 0 = y.getD j 0 := by
  rw [List.getD_eq_getElem?_getD, List.getElem?_append_left h, ← List.getD_eq_getElem?_getD]
theorem set_app {y : List Nat} {c d : Nat} {r : List Nat} {i : Nat} (h : y.length = i) : (y ++ c :: r).set i d = y ++ d :: r := by
  subst h
  rw [List.set_append_right _ _ (Nat.le_refl _)]; simp

end Go.Proofs.YtabgkpfcpncmhaaGreat

/- The contracts of SolveSystem, as the law wants them. -/
set_option linter.unusedVariables false
namespace Go.Proofs.YtabgkpfcpncmhaaGreat
open Go Go.Vc

variable {w : World} {K : Value → World → Prop}

theorem elimE_lt {n : Nat} : ∀ {f k : Nat} {o o' : List Nat} {m t : List (List Nat)}, elimE n f k o m = .ok (o', t) → f + k = n → o.length = n → (∀ x ∈ o, x < n) → ∀ x ∈ o', x < n
  | 0, k, o, o', m, t, h, _, ho, hx => by simp only [elimE, Except.ok.injEq, Prod.mk.injEq] at h; obtain ⟨rfl, rfl⟩ := h; exact hx
  | f + 1, k, o, o', m, t, h, hk, ho, hx => by
    rw [elimE] at h
    split at h
    · cases h
    · have hb := (bestF_range (m := m) (k := k) (n := n) (f := n - k) (i := k) (b := k) (by omega) (by omega) (Nat.le_refl _) (Nat.le_refl _)).1
      cases hr : rowsE n k (n - (k + 1)) (k + 1) (swapL m k (bestF m k (n - k) k k) []) with
      | none => rw [hr] at h; cases h
      | some t' =>
        rw [hr] at h
        exact elimE_lt h (by omega) (by rw [swapL_length]; exact ho) fun x hx' => hx x (mem_swapL (by omega) (by omega) hx')
theorem elimF_lt {m t : List (List Nat)} {o : List Nat} (h : elimF m = .ok (o, t)) : ∀ x ∈ o, x < m.length :=
  elimE_lt h rfl (by simp) (by simp)
theorem elimE_err {n : Nat} : ∀ {f k : Nat} {o : List Nat} {m : List (List Nat)} {e : Int}, elimE n f k o m = .error e → e = 3 ∨ e = 5
  | 0, k, o, m, e, h => by simp [elimE] at h
  | f + 1, k, o, m, e, h => by
    rw [elimE] at h
    split at h
    · simp at h; exact .inr h.symm
    · cases hr : rowsE n k (n - (k + 1)) (k + 1) (swapL m k (bestF m k (n - k) k k) []) with
      | none => rw [hr] at h; simp at h; exact .inl h.symm
      | some t' => rw [hr] at h; exact elimE_err h

def solveR (m : List (List Nat)) (b : List Nat) : List Nat × Int :=
  if codeF m [b] = 0 then (match elimF m with
    | .error e => ([], e)
    | .ok (o, t) => match solveF o t b with
      | none => ([], 3)
      | some q => (q, 0)) else ([], codeF m [b])

theorem FinL.of {m : List (List Nat)} {b : List Nat} {v : Value} (h : codeF m [b] = 0) (hv : FS w v b) : FinL m.length b := by
  obtain ⟨h1, h2, h3⟩ := code_zero h
  have := h2 b (by simp)
  unfold vecB at this
  simp only [Bool.and_eq_true] at this
  exact ⟨h3 b (by simp), this.1, hv.lt⟩
theorem ER_of {lo hi : Nat} {ov tv : Value} {o : List Nat} {m t : List (List Nat)} {vs : List Value} (he : elimF m = .ok (o, t)) (hm : matB m = true) (hb : bits m) (ho : OI w lo ov o) (ht : OM w lo hi tv t vs) : ER w (.agg #[ov, tv]) ov tv o t m.length := by
  obtain ⟨g1, g2⟩ := elimF_good he hm hb
  exact ⟨rfl, OIR.FI (OI.OIR (hi := w.heap.size) ho fun k hk => (ho.lt k hk).2), ht.FSS g1.lt, g1, g2, elimF_lt he⟩
theorem ER_put {lo hi base : Nat} {w2 w3 w4 : World} {p ov tv : Value} {cs : List Value} {o : List Nat} {m t : List (List Nat)} {vs : List Value} (he : elimF m = .ok (o, t)) (hm : matB m = true) (hb : bits m) (ho : OI w2 lo ov o) (ht : OM w2 lo hi tv t vs)
    (e3 : Ext w2 w3) (b3 : Bx w3 base t_impl_Elimination p cs) (g4 : w3.grownBy w4 (blk p)) : ER w4 (.agg #[ov, tv]) ov tv o t m.length := by
  have tb := Ty.box b3
  exact ER_of he hm hb (keep_row (owns_ext ho e3) g4 tb (by decide)) ((ht.ext e3).keep g4 tb (by decide) (by decide))

theorem solve_good {n : Nat} {t : List (List Nat)} {o b : List Nat} : ∀ {f i : Nat} {y q : List Nat}, fwdF t o b f i y = some q → q.length = y.length + f
  | 0, i, y, q, h => by simp only [fwdF, Option.some.injEq] at h; subst h; rfl
  | f + 1, i, y, q, h => by
    rw [fwdF] at h
    split at h
    · cases h
    · have := solve_good (n := n) h
      simp at this; omega
theorem subsF_lt {row x : List Nat} : ∀ {f j s q : Nat}, s < 4294967296 → subsF row x f j s = some q → q < 4294967296
  | 0, j, s, q, hs, h => by simp only [subsF, Option.some.injEq] at h; subst h; exact hs
  | f + 1, j, s, q, hs, h => by
    rw [subsF] at h
    split at h
    · exact subsF_lt opF_lt h
    · cases h
theorem backF_good {t : List (List Nat)} {n : Nat} : ∀ {c : Nat} {y q : List Nat}, backF t n c y = some q → (∀ x ∈ y, x < 4294967296) → q.length = y.length ∧ ∀ x ∈ q, x < 4294967296
  | 0, y, q, h, hy => by simp only [backF, Option.some.injEq] at h; subst h; exact ⟨rfl, hy⟩
  | i + 1, y, q, h, hy => by
    rw [backF] at h
    split at h
    · cases h
    · split at h
      · cases h
      · split at h
        · have := backF_good h (lt_set hy opF_lt)
          rw [List.length_set] at this; exact this
        · cases h
theorem fwdF_lt {t : List (List Nat)} {o b : List Nat} (hb : ∀ x ∈ b, x < 4294967296) : ∀ {f i : Nat} {y q : List Nat}, fwdF t o b f i y = some q → (∀ x ∈ y, x < 4294967296) → ∀ x ∈ q, x < 4294967296
  | 0, i, y, q, h, hy => by simp only [fwdF, Option.some.injEq] at h; subst h; exact hy
  | f + 1, i, y, q, h, hy => by
    rw [fwdF] at h
    split at h
    · cases h
    · rename_i s hs
      refine fwdF_lt hb h fun x hx => ?_
      rcases List.mem_append.1 hx with hx | hx
      · exact hy x hx
      · simp at hx; subst hx
        refine subsF_lt ?_ hs
        rcases Nat.lt_or_ge (o.getD i 0) b.length with hl | hl
        · rw [getDn hl]; exact hb _ (List.getElem_mem hl)
        · rw [List.getD_eq_getElem?_getD, List.getElem?_eq_none hl]; decide
theorem solveF_good {t : List (List Nat)} {o b q : List Nat} (h : solveF o t b = some q) (hb : ∀ x ∈ b, x < 4294967296) : q.length = b.length ∧ ∀ x ∈ q, x < 4294967296 := by
  unfold solveF at h
  split at h
  · cases h
  · rename_i y hy
    have h1 := solve_good (n := 0) hy
    have h2 := fwdF_lt hb hy (by simp)
    obtain ⟨h3, h4⟩ := backF_good h h2
    exact ⟨by simp at h1; omega, h4⟩
theorem solveR_bits {m : List (List Nat)} {x : List Nat} (hx : ∀ b ∈ x, b < 4294967296) : ∀ b ∈ (solveR m x).1, b < 4294967296 := by
  unfold solveR
  split
  · cases h : elimF m with
    | error e => simp
    | ok p =>
      obtain ⟨o, t⟩ := p
      simp only []
      cases h2 : solveF o t x with
      | none => simp
      | some q => exact (solveF_good h2 hx).2
  · simp

theorem fwdF_len {t : List (List Nat)} {o b : List Nat} : ∀ {f i : Nat} {y q : List Nat}, fwdF t o b f i y = some q → q.length = y.length + f := fun h => solve_good (n := 0) h
theorem backF_len {t : List (List Nat)} {n : Nat} : ∀ {c : Nat} {y q : List Nat}, backF t n c y = some q → q.length = y.length
  | 0, y, q, h => by simp only [backF, Option.some.injEq] at h; subst h; rfl
  | i + 1, y, q, h => by
    rw [backF] at h
    split at h
    · cases h
    · split at h
      · cases h
      · split at h
        · have := backF_len h
          rw [List.length_set] at this; exact this
        · cases h
theorem solveF_len {t : List (List Nat)} {o b q : List Nat} (h : solveF o t b = some q) : q.length = b.length := by
  unfold solveF at h
  split at h
  · cases h
  · rename_i y hy
    have h1 := fwdF_len hy
    have h2 := backF_len h
    simp at h1; omega
theorem small_SolveSystem_0 (m : List (List Nat)) (x : List Nat) : cnt_Float32S (solveR m x).1 ≤ 1099511627776 := by
  unfold solveR
  split
  · rename_i hc
    cases h : elimF m with
    | error e => simp [cnt_Float32S]
    | ok p =>
      obtain ⟨o, t⟩ := p
      simp only []
      cases h2 : solveF o t x with
      | none => simp [cnt_Float32S]
      | some q =>
        have h3 := solveF_len h2
        obtain ⟨c1, _, c3⟩ := code_zero hc
        have h8 := (matB_parts c1).2.2
        have := c3 x (by simp)
        show q.length ≤ _
        omega
  · simp [cnt_Float32S]
end Go.Proofs.YtabgkpfcpncmhaaGreat

/- Residuals of systems. -/
set_option linter.unusedVariables false
set_option linter.unusedSimpArgs false
namespace Go.Proofs.YtabgkpfcpncmhaaGreat
open Go Go.Vc

variable {w : World} {K : Value → World → Prop}

theorem rndQ_lt (md : Int) (q : Rat) : (rndQ md q).1 < 4294967296 := by
  have ho : ∀ b, overB md b < 4294967296 := by
    intro b
    unfold overB
    cases b <;> simp <;> split <;> omega
  have hr : ∀ m e, (roundF md m e).1 < 4294967296 := by
    intro m e
    unfold roundF
    split
    · decide
    · simp only
      split
      · exact ho _
      · exact W32_lt _ _ _
  unfold rndQ
  split
  · exact hr _ _
  · decide
theorem FS.entry {v : Value} {n : Nat} {x : List Nat} (h : FS w v x) (hx : FinL n x) {j : Nat} (hj : j < n) {K : Value → Prop} (H : x.getD j 0 < 4294967296 → Vc.Fin Ieee.single (x.getD j 0) → K (fl (x.getD j 0))) :
    ixa P t_s_float32 v (.int .i64 (j : Int)) w fun y => ld P t_float32 y w K := by
  have hj' : j < x.length := by have := hx.len; omega
  refine h.at hj' ?_
  have e : x.getD j 0 = x[j] := by simp [hj']
  rw [e] at H
  exact H (hx.lt _ (List.getElem_mem hj')) (finB_iff.1 (List.all_eq_true.1 hx.fin _ (List.getElem_mem hj')))

/-! ### the plain law -/
def rK (m : List (List Nat)) (x b : List Nat) (i : Nat) : Nat → Rat
  | 0 => fq (b.getD i 0)
  | k + 1 => rK m x b i k - fq (en m i k) * fq (x.getD k 0)
def restQ (m : List (List Nat)) (x b : List Nat) (n : Nat) : List Rat := (List.range n).map fun i => rK m x b i m.length
theorem restQ_succ (m : List (List Nat)) (x b : List Nat) (n : Nat) : restQ m x b (n + 1) = restQ m x b n ++ [rK m x b n m.length] := by
  unfold restQ; rw [List.range_succ, List.map_append]; rfl
theorem restQ_len (m : List (List Nat)) (x b : List Nat) (n : Nat) : (restQ m x b n).length = n := by unfold restQ; simp
noncomputable def rndL (qs : List Rat) : List Nat := qs.map fun q => (rndQ 0 q).1
noncomputable def resL (m : List (List Nat)) (x b : List Nat) : List Nat := rndL (restQ m x b m.length)
theorem resL_len (m : List (List Nat)) (x b : List Nat) : (resL m x b).length = m.length := by unfold resL rndL; simp [restQ_len]
theorem resL_lt (m : List (List Nat)) (x b : List Nat) : ∀ y ∈ resL m x b, y < 4294967296 := by
  intro y hy
  unfold resL rndL at hy
  rw [List.mem_map] at hy
  obtain ⟨q, _, rfl⟩ := hy
  exact rndQ_lt _ _

theorem c_impl_residual {a v c : Value} {m : List (List Nat)} {x b : List Nat} (ha : FSS w a m) (hv : FS w v x) (hc : FS w c b) (hm : matB m = true) (hx : FinL m.length x) (hb : FinL m.length b)
    (H : ∀ u w', Ext w w' → NL w' w.heap.size u 298 264 (restQ m x b m.length) → K u w') : call P f_impl_residual [a, v, c] w K := by
  obtain ⟨hrow, _, h8⟩ := matB_parts hm
  refine I_impl_residual ?_
  unfold D_impl_residual
  refine SL.nil (R := RN 298 264) u_s_impl_num i_impl_num fun u0 w1 e1 l0 => ?_
  rw [(ha.ext e1).len]
  refine ⟨fun g y z w' => ∃ i : Nat, z = .int .i64 i ∧ g + i = m.length ∧ Ext w w' ∧ NL w' w.heap.size y 298 264 (restQ m x b i), ⟨m.length, 0, rfl, rfl, e1, l0⟩, ?_⟩
  rintro g y z junk w2 ⟨i, rfl, hg, e2, l2⟩
  rw [bin_lss]
  refine cnd_dec (fun hlt => ?_) (fun hge => ?_)
  · have hi : i < m.length := by omega
    refine (ha.ext e2).at hi fun r hr => ?_
    have hrl : m[i].length = m.length := (hrow m[i] (List.getElem_mem hi)).1
    refine (hc.ext e2).entry hb hi fun hb1 hf1 => ?_
    refine c_numOf hb1 hf1 fun p1 w3 e3 np1 => ?_
    refine alc_NC fun x10 w4 n4 e4 => ?_
    refine n4.put (np1.ext e4) fun w5 v5 g5 _ => ?_
    have e5 : Ext w2 w5 := ext_gr (e3.trans e4) e3.size g5
    have s3 := e3.size
    rw [(hr.ext e5).row.len u_s_float32]
    refine ⟨fun g z w' => ∃ k : Nat, z = .int .i64 k ∧ g + k = m.length ∧ Ext w2 w' ∧ NV w' w3.heap.size x10 298 (256 + k) (rK m x b i k), ⟨m.length, 0, rfl, rfl, e5, v5.mono (by decide) (by decide)⟩, ?_⟩
    rintro g' z junk w6 ⟨k, rfl, hg', e6, v6⟩
    rw [bin_lss]
    refine cnd_dec (fun hlt' => ?_) (fun hge' => ?_)
    · have hk : k < m[i].length := by omega
      have E6 := e2.trans e6
      refine (hr.ext e6).at hk ?_
      have hb2 := hr.lt m[i][k] (List.getElem_mem hk)
      have hf2 := finB_iff.1 (List.all_eq_true.1 (hrow m[i] (List.getElem_mem hi)).2 m[i][k] (List.getElem_mem hk))
      rw [en_eq hi hk] at hb2 hf2 ⊢
      refine v6.get fun u6 nu6 => ?_
      refine (hv.ext E6).entry hx (by omega) fun hb3 hf3 => ?_
      refine c_numOf hb2 hf2 fun p2 w7 e7 np2 => ?_
      refine ⟨e7, ?_⟩
      refine c_numOf hb3 hf3 fun p3 w8 e8 np3 => ?_
      refine ⟨e8, ?_⟩
      refine c_num_mul (np2.ext e8) np3 (by decide) (by decide) (by decide) (by decide) fun p4 w9 e9 np4 => ?_
      refine ⟨e9, ?_⟩
      have E9 := e7.trans (e8.trans e9)
      refine c_num_sub (nu6.ext E9) (np4.mono (by omega) (by omega)) (by omega) (by omega) fun p5 w10 e10 np5 => ?_
      refine (v6.NC.ext (E9.trans e10)).put np5 fun w11 v11 g11 _ => ?_
      rw [bin_add, wrap_i64 (by omega) (by omega)]
      refine ⟨g' - 1, by omega, k + 1, rfl, by omega, ?_, v11⟩
      exact ext_gr (e6.trans (E9.trans e10)) s3 g11
    · have hk : k = m.length := by omega
      subst hk
      refine v6.get fun u6 nu6 => ?_
      refine NL.push (l2.ext e6) (nu6.mono (Nat.le_refl _) (show 256 + m.length ≤ 264 by omega)) (Nat.le_trans e2.size e6.size) (by rw [restQ_len]; omega) fun v' w7 l7 hE => ?_
      rw [bin_add, wrap_i64 (by omega) (by omega)]
      refine ⟨g - 1, by omega, i + 1, rfl, by omega, hE (e2.trans e6) (Nat.le_refl _), ?_⟩
      rw [restQ_succ]; exact l7
  · have hi : i = m.length := by omega
    subst hi
    exact H _ _ e2 l2

theorem c_spec_l10Rest {a v c : Value} {m : List (List Nat)} {x b : List Nat} (ha : FSS w a m) (hv : FS w v x) (hc : FS w c b) (hm : matB m = true) (hx : FinL m.length x) (hb : FinL m.length b)
    (H : ∀ u w', Ext w w' → DL w' w.heap.size u 298 264 (restQ m x b m.length) → K u w') : call P f_spec_l10Rest [a, v, c] w K := by
  obtain ⟨hrow, _, h8⟩ := matB_parts hm
  refine I_spec_l10Rest ?_
  unfold D_spec_l10Rest
  refine SL.nil (R := RD 298 264) u_s_impl_Dyadic i_impl_Dyadic fun u0 w1 e1 l0 => ?_
  refine ⟨fun g y z w' => ∃ i : Nat, z = .int .i64 i ∧ g + i = m.length ∧ Ext w w' ∧ DL w' w.heap.size y 298 264 (restQ m x b i), ⟨m.length, 0, rfl, rfl, e1, l0⟩, ?_⟩
  rintro g y z junk w2 ⟨i, rfl, hg, e2, l2⟩
  rw [(ha.ext e2).len, bin_lss]
  refine cnd_dec (fun hlt => ?_) (fun hge => ?_)
  · have hi : i < m.length := by omega
    refine (hc.ext e2).entry hb hi fun hb1 hf1 => ?_
    refine c_l03Of hf1 hb1 fun p1 w3 e3 np1 => ?_
    refine alc_DC fun x10 w4 n4 e4 => ?_
    refine n4.put (np1.ext e4) fun w5 v5 g5 _ => ?_
    have e5 : Ext w2 w5 := ext_gr (e3.trans e4) e3.size g5
    have s3 := e3.size
    refine ⟨fun g z w' => ∃ k : Nat, z = .int .i64 k ∧ g + k = m.length ∧ Ext w2 w' ∧ DV w' w3.heap.size x10 298 (256 + k) (rK m x b i k), ⟨m.length, 0, rfl, rfl, e5, v5.mono (by decide) (by decide)⟩, ?_⟩
    rintro g' z junk w6 ⟨k, rfl, hg', e6, v6⟩
    have E6 := e2.trans e6
    have hxl := hx.len
    rw [(hv.ext E6).row.len u_s_float32, bin_lss]
    refine cnd_dec (fun hlt' => ?_) (fun hge' => ?_)
    · have hk : k < m.length := by omega
      refine v6.get fun u6 nu6 => ?_
      refine (ha.ext E6).entry hm hi hk fun hb2 hf2 => ?_
      refine (hv.ext E6).entry hx hk fun hb3 hf3 => ?_
      refine c_l03Of hf2 hb2 fun p2 w7 e7 np2 => ?_
      refine ⟨e7, ?_⟩
      refine c_l03Of hf3 hb3 fun p3 w8 e8 np3 => ?_
      refine ⟨e8, ?_⟩
      refine c_l03Mul (np2.ext e8) np3 (by decide) (by decide) (by decide) (by decide) fun p4 w9 e9 np4 => ?_
      refine ⟨e9, ?_⟩
      have E9 := e7.trans (e8.trans e9)
      refine c_l03Sub (nu6.ext E9) (np4.mono (by omega) (by omega)) (by omega) (by omega) fun p5 w10 e10 np5 => ?_
      refine (v6.DC.ext (E9.trans e10)).put np5 fun w11 v11 g11 _ => ?_
      rw [bin_add, wrap_i64 (by omega) (by omega)]
      refine ⟨g' - 1, by omega, k + 1, rfl, by omega, ?_, v11⟩
      exact ext_gr (e6.trans (E9.trans e10)) s3 g11
    · have hk : k = m.length := by omega
      subst hk
      refine v6.get fun u6 nu6 => ?_
      refine DL.push (l2.ext e6) (nu6.mono (Nat.le_refl _) (show 256 + m.length ≤ 264 by omega)) (Nat.le_trans e2.size e6.size) (by rw [restQ_len]; omega) fun v' w7 l7 hE => ?_
      rw [bin_add, wrap_i64 (by omega) (by omega)]
      refine ⟨g - 1, by omega, i + 1, rfl, by omega, hE (e2.trans e6) (Nat.le_refl _), ?_⟩
      rw [restQ_succ]; exact l7
  · have hi : i = m.length := by omega
    subst hi
    exact H _ _ e2 l2

theorem rndL_take (qs : List Rat) {i : Nat} (hi : i < qs.length) : rndL (qs.take (i + 1)) = rndL (qs.take i) ++ [(rndQ 0 qs[i]).1] := by
  unfold rndL
  rw [List.take_succ_eq_append_getElem hi, List.map_append]; rfl
theorem rndL_lt (qs : List Rat) : ∀ y ∈ rndL qs, y < 4294967296 := by
  intro y hy
  unfold rndL at hy
  rw [List.mem_map] at hy
  obtain ⟨q, _, rfl⟩ := hy
  exact rndQ_lt _ _

theorem c_impl_roundedResidual {a v c : Value} {m : List (List Nat)} {x b : List Nat} (ha : FSS w a m) (hv : FS w v x) (hc : FS w c b) (hm : matB m = true) (hx : FinL m.length x) (hb : FinL m.length b)
    (H : ∀ u w', Ext w w' → OS w' w.heap.size u (resL m x b) → K (.tuple #[u, .bool ((resL m x b).all finB)]) w') : call P f_impl_roundedResidual [a, v, c] w K := by
  obtain ⟨hrow, _, h8⟩ := matB_parts hm
  refine I_impl_roundedResidual ?_
  unfold D_impl_roundedResidual
  refine bslFe fun u0 w1 e1 o1 => ?_
  refine c_impl_residual (ha.ext e1) (hv.ext e1) (hc.ext e1) hm hx hb fun u2 w2 e2 l2 => ?_
  have o2 := owns_ext o1 e2
  have E2 := e1.trans e2
  rw [SL.len l2 u_s_impl_num]
  have hlen := restQ_len m x b m.length
  unfold resL at H
  generalize restQ m x b m.length = qs at *
  refine ⟨fun g y z w' => ∃ i : Nat, z = .int .i64 i ∧ g + i = qs.length ∧ Ext w w' ∧ NL w' w1.heap.size u2 298 264 qs ∧ OS w' w.heap.size y (rndL (qs.take i)), ⟨qs.length, 0, rfl, rfl, E2, l2, o2⟩, ?_⟩
  rintro g y z junk w3 ⟨i, rfl, hg, e3, l3, o3⟩
  rw [bin_lss]
  refine cnd_dec (fun hlt => ?_) (fun hge => ?_)
  · have hi : i < qs.length := by omega
    refine SL.at l3 hi u_s_impl_num i_impl_num u_impl_num rfl fun c hc => ?_
    refine alc_NC fun x10 w4 n4 e4 => ?_
    refine n4.put (NQ.ext hc e4) fun w5 v5 g5 _ => ?_
    have e5 : Ext w3 w5 := ext_gr e4 (Nat.le_refl _) g5
    refine v5.get fun u5 nu5 => ?_
    refine c_num_round (md := 0) nu5 (by decide) (by decide) fun w6 e6 => ?_
    rw [xtr_0, xtr_1]
    have E6 := e5.trans e6
    have o6 := owns_ext o3 E6
    refine appF o6 (by unfold rndL; simp; omega) (Nat.le_trans e3.size E6.size) fun v' w7 o7 g7 => ?_
    rw [bin_add, wrap_i64 (by omega) (by omega)]
    refine ⟨g - 1, by omega, i + 1, rfl, by omega, ?_, ?_, ?_⟩
    · exact ext_of_grown (e3.trans E6) (fun k hk => (o6.lt k hk).1) g7
    · have l6 := NL.ext l3 E6
      have ty := Ty.owns o6
      obtain ⟨cs, h1, h2, h3, h4⟩ := l6
      exact ⟨cs, h1, h2, keep_row h3 g7 ty (by decide), fun j hj hj' => NQ.kt (h4 j hj hj') g7 ty (by decide) (by decide)⟩
    · rw [rndL_take qs hi]; exact o7
  · have hi : i = qs.length := by omega
    subst hi
    rw [List.take_of_length_le (Nat.le_refl _)] at o3
    refine c_areFinite (o3.FS (rndL_lt _)) ?_
    exact H _ _ e3 o3

theorem c_spec_l10Residual {a v c : Value} {m : List (List Nat)} {x b : List Nat} (ha : FSS w a m) (hv : FS w v x) (hc : FS w c b) (hm : matB m = true) (hx : FinL m.length x) (hb : FinL m.length b)
    (H0 : (resL m x b).all finB = false → ∀ w', Ext w w' → K (.tuple #[.slice none 0 0, .bool false]) w')
    (H : (resL m x b).all finB = true → ∀ u w', Ext w w' → OS w' w.heap.size u (resL m x b) → K (.tuple #[u, .bool true]) w') : call P f_spec_l10Residual [a, v, c] w K := by
  obtain ⟨hrow, _, h8⟩ := matB_parts hm
  refine I_spec_l10Residual ?_
  unfold D_spec_l10Residual
  refine c_spec_l10Rest ha hv hc hm hx hb fun u2 w2 e2 l2 => ?_
  refine bslFe fun u0 w1 e1 o1 => ?_
  have l1 := DL.ext l2 e1
  have E1 := e2.trans e1
  have hlen := restQ_len m x b m.length
  unfold resL at H H0
  generalize restQ m x b m.length = qs at *
  refine ⟨fun g y z w' => ∃ i : Nat, z = .int .i64 i ∧ g + i = qs.length ∧ Ext w2 w' ∧ DL w' w.heap.size u2 298 264 qs ∧ OS w' w2.heap.size y (rndL (qs.take i)) ∧ (rndL (qs.take i)).all finB = true, ⟨qs.length, 0, rfl, rfl, e1, l1, o1, rfl⟩, ?_⟩
  rintro g y z junk w3 ⟨i, rfl, hg, e3, l3, o3, ha3⟩
  rw [SL.len l3 u_s_impl_Dyadic, bin_lss]
  refine cnd_dec (fun hlt => ?_) (fun hge => ?_)
  · have hi : i < qs.length := by omega
    refine SL.at l3 hi u_s_impl_Dyadic i_impl_Dyadic u_impl_Dyadic rfl fun c hc => ?_
    refine c_dq_round (md := 0) hc (by decide) (by decide) fun w6 e6 => ?_
    rw [xtr_0, xtr_1]
    refine c_l01Finite ?_
    rw [una_not]
    have o6 := owns_ext o3 e6
    by_cases hf : finB (rndQ 0 qs[i]).1 = true
    · rw [hf, Bool.not_true, cnd_false]
      refine appF o6 (by unfold rndL; simp; omega) (e3.trans e6).size fun v' w7 o7 g7 => ?_
      rw [bin_add, wrap_i64 (by omega) (by omega)]
      refine ⟨g - 1, by omega, i + 1, rfl, by omega, ?_, ?_, ?_, ?_⟩
      · exact ext_of_grown (e3.trans e6) (fun k hk => (o6.lt k hk).1) g7
      · have l6 := DL.ext l3 e6
        have ty := Ty.owns o6
        obtain ⟨cs, h1, h2, h3, h4⟩ := l6
        exact ⟨cs, h1, h2, keep_row h3 g7 ty (by decide), fun j hj hj' => DQ.kt (h4 j hj hj') g7 ty (by decide)⟩
      · rw [rndL_take qs hi]; exact o7
      · rw [rndL_take qs hi, List.all_append, ha3]; simpa using hf
    · rw [Bool.not_eq_true] at hf
      rw [hf, Bool.not_false, cnd_true]
      refine H0 ?_ _ (e2.trans (e3.trans e6))
      refine Bool.eq_false_iff.2 fun hall => ?_
      have := List.all_eq_true.1 hall (rndQ 0 qs[i]).1 (by unfold rndL; exact List.mem_map.2 ⟨_, List.getElem_mem hi, rfl⟩)
      rw [hf] at this; cases this
  · have hi : i = qs.length := by omega
    subst hi
    rw [List.take_of_length_le (Nat.le_refl _)] at o3 ha3
    exact H ha3 _ _ (e2.trans e3) (owns_base o3 e2.size)
end Go.Proofs.YtabgkpfcpncmhaaGreat

/- The contracts of ResidualOf, as the law wants them. -/
set_option linter.unusedVariables false
set_option linter.unusedSimpArgs false
namespace Go.Proofs.YtabgkpfcpncmhaaGreat
open Go Go.Vc

variable {w : World} {K : Value → World → Prop}

theorem FSS_lit2 {u v : Value} {x y : List Nat} (hu : FS w u x) (hv : FS w v y) : FSS (w.alloc (.cells #[u, v] t_s_float32)) (.slice (some ⟨w.heap.size, 0, none⟩) 2 2) [x, y] := by
  have he := Ext_alloc w (.cells #[u, v] t_s_float32)
  refine ⟨[u, v], owns_Row (owns_lit w [u, v] t_s_float32 (by simp [maxLen])), fun i hi => ?_⟩
  match i, hi with
  | 0, _ => exact ⟨u, rfl, hu.ext he⟩
  | 1, _ => exact ⟨v, rfl, hv.ext he⟩
theorem codeF_two (m : List (List Nat)) (x b : List Nat) : codeF m [x, b] = if matB m && (vecB x && vecB b) then (if x.length = m.length ∧ b.length = m.length then 0 else 2) else 1 := by
  unfold codeF
  simp only [List.all_cons, List.all_nil, Bool.and_true, Bool.and_eq_true, decide_eq_true_eq]
theorem c_impl_systemCode {a v c : Value} {m : List (List Nat)} {x b : List Nat} (ha : FSS w a m) (hv : FS w v x) (hc : FS w c b) (H : K (.int .i64 (codeF m [x, b])) w) : call P f_impl_systemCode [a, v, c] w K := by
  refine I_impl_systemCode ?_
  unfold D_impl_systemCode
  refine c_impl_IsMatrix ha ?_
  rw [una_not]
  rw [codeF_two] at H
  have hb1 := hv.bound
  have hb2 := hc.bound
  have hb3 := ha.bound
  cases h1 : matB m with
  | false =>
    rw [h1] at H
    repeat (first | (refine ⟨_, fun _ _ _ h => h, ?_⟩) | simp only [Bool.not_true, Bool.not_false, grd_true_true, grd_true_false, grd_false_false, grd_false_true, pick_bool, cond_true, cond_false, cnd_true, cnd_false])
    exact H
  | true =>
    rw [h1] at H
    repeat (first | (refine ⟨_, fun _ _ _ h => h, ?_⟩) | simp only [Bool.not_true, Bool.not_false, grd_true_true, grd_true_false, grd_false_false, grd_false_true, pick_bool, cond_true, cond_false, cnd_true, cnd_false])
    refine c_isVector hv ?_
    rw [una_not]
    cases h2 : vecB x with
    | false =>
      rw [h2] at H
      repeat (first | (refine ⟨_, fun _ _ _ h => h, ?_⟩) | simp only [Bool.not_true, Bool.not_false, grd_true_true, grd_true_false, grd_false_false, grd_false_true, pick_bool, cond_true, cond_false, cnd_true, cnd_false])
      exact H
    | true =>
      rw [h2] at H
      repeat (first | (refine ⟨_, fun _ _ _ h => h, ?_⟩) | simp only [Bool.not_true, Bool.not_false, grd_true_true, grd_true_false, grd_false_false, grd_false_true, pick_bool, cond_true, cond_false, cnd_true, cnd_false])
      refine c_isVector hc ?_
      rw [una_not]
      cases h3 : vecB b with
      | false =>
        rw [h3] at H
        repeat (first | (refine ⟨_, fun _ _ _ h => h, ?_⟩) | simp only [Bool.not_true, Bool.not_false, grd_true_true, grd_true_false, grd_false_false, grd_false_true, pick_bool, cond_true, cond_false, cnd_true, cnd_false])
        exact H
      | true =>
        rw [h3] at H
        simp only [Bool.and_self, if_true] at H
        repeat (first | (refine ⟨_, fun _ _ _ h => h, ?_⟩) | simp only [Bool.not_true, Bool.not_false, grd_true_true, grd_true_false, grd_false_false, grd_false_true, pick_bool, cond_true, cond_false, cnd_true, cnd_false])
        rw [ha.len, hv.row.len u_s_float32, bin_neq]
        by_cases e1 : x.length = m.length
        · have d1 : decide ((m.length : Int) ≠ (x.length : Int)) = false := by rw [decide_eq_false_iff_not]; omega
          rw [d1]
          repeat (first | (refine ⟨_, fun _ _ _ h => h, ?_⟩) | simp only [grd_true_true, grd_true_false, grd_false_false, grd_false_true, pick_bool, cond_true, cond_false, cnd_true, cnd_false])
          rw [ha.len, hc.row.len u_s_float32, bin_neq]
          refine cnd_dec (fun hne => ?_) (fun heq => ?_)
          · rw [if_neg (by omega)] at H; exact H
          · rw [if_pos ⟨e1, by omega⟩] at H; exact H
        · have d1 : decide ((m.length : Int) ≠ (x.length : Int)) = true := decide_eq_true (by omega)
          rw [d1]
          repeat (first | (refine ⟨_, fun _ _ _ h => h, ?_⟩) | simp only [grd_true_true, grd_true_false, grd_false_false, grd_false_true, pick_bool, cond_true, cond_false, cnd_true, cnd_false])
          rw [if_neg (fun h => e1 h.1)] at H; exact H
theorem FinL.of2 {m : List (List Nat)} {x b : List Nat} {v c : Value} (h : codeF m [x, b] = 0) (hv : FS w v x) (hc : FS w c b) : matB m = true ∧ FinL m.length x ∧ FinL m.length b := by
  obtain ⟨h1, h2, h3⟩ := code_zero h
  have a1 := h2 x (by simp)
  have a2 := h2 b (by simp)
  unfold vecB at a1 a2
  simp only [Bool.and_eq_true] at a1 a2
  exact ⟨h1, ⟨h3 x (by simp), a1.1, hv.lt⟩, ⟨h3 b (by simp), a2.1, hc.lt⟩⟩

noncomputable def residualF (m : List (List Nat)) (x b : List Nat) : List Nat × Int := if codeF m [x, b] = 0 then (if (resL m x b).all finB then (resL m x b, 0) else ([], 3)) else ([], codeF m [x, b])
theorem residualF_lt (m : List (List Nat)) (x b : List Nat) : ∀ y ∈ (residualF m x b).1, y < 4294967296 := by
  unfold residualF
  split
  · split
    · exact resL_lt m x b
    · intro y hy; cases hy
  · intro y hy; cases hy
theorem small_ResidualOf_0 (m : List (List Nat)) (x b : List Nat) : cnt_Float32S (residualF m x b).1 ≤ 1099511627776 := by
  unfold residualF cnt_Float32S
  split
  · rename_i h
    have := (matB_parts (code_zero h).1).2.2
    split
    · show (resL m x b).length ≤ _
      rw [resL_len]; omega
    · simp
  · simp

theorem c_impl_ResidualOf {a v c : Value} {m : List (List Nat)} {x b : List Nat} (ha : FSS w a m) (hv : FS w v x) (hc : FS w c b)
    (H : ∀ u w', Ext w w' → OS w' w.heap.size u (residualF m x b).1 → K (.tuple #[u, .int .i64 (residualF m x b).2]) w') : call P f_impl_ResidualOf [a, v, c] w K := by
  refine I_impl_ResidualOf ?_
  unfold D_impl_ResidualOf
  refine c_impl_systemCode ha hv hc ?_
  rw [bin_neq]
  unfold residualF at H
  refine cnd_dec (fun hne => ?_) (fun heq => ?_)
  · rw [if_neg hne] at H
    exact H _ _ (Ext.refl _) (OS.nil _ _)
  · have h0 : codeF m [x, b] = 0 := by omega
    obtain ⟨hm, hx, hb⟩ := FinL.of2 h0 hv hc
    rw [if_pos h0] at H
    refine c_impl_roundedResidual ha hv hc hm hx hb fun u w2 e2 o2 => ?_
    rw [xtr_0, xtr_1, una_not]
    by_cases hf : (resL m x b).all finB = true
    · rw [if_pos hf] at H
      rw [hf, Bool.not_true, cnd_false]
      exact H _ _ e2 o2
    · rw [if_neg hf] at H
      rw [Bool.not_eq_true] at hf
      rw [hf, Bool.not_false, cnd_true]
      exact H _ _ e2 (OS.nil _ _)
theorem c_spec_ResidualOf {a v c : Value} {m : List (List Nat)} {x b : List Nat} (ha : FSS w a m) (hv : FS w v x) (hc : FS w c b)
    (H : ∀ u w', Ext w w' → OS w' w.heap.size u (residualF m x b).1 → K (.tuple #[u, .int .i64 (residualF m x b).2]) w') : call P f_spec_ResidualOf [a, v, c] w K := by
  refine I_spec_ResidualOf ?_
  unfold D_spec_ResidualOf
  refine bsl_two u_s_s_float32 i_s_float32 hv.one hc.one rfl ?_
  have he := Ext_alloc w (.cells #[v, c] t_s_float32)
  refine c_spec_l10Code (ha.ext he) (FSS_lit2 hv hc) ?_
  generalize w.alloc (.cells #[v, c] t_s_float32) = w1 at he ⊢
  rw [bin_neq]
  unfold residualF at H
  refine cnd_dec (fun hne => ?_) (fun heq => ?_)
  · rw [if_neg hne] at H
    exact H _ _ he (OS.nil _ _)
  · have h0 : codeF m [x, b] = 0 := by omega
    obtain ⟨hm, hx, hb⟩ := FinL.of2 h0 hv hc
    rw [if_pos h0] at H
    refine c_spec_l10Residual (ha.ext he) (hv.ext he) (hc.ext he) hm hx hb (fun hf w2 e2 => ?_) (fun hf u w2 e2 o2 => ?_)
    · rw [xtr_0, xtr_1, una_not, Bool.not_false, cnd_true]
      rw [if_neg (by rw [hf]; decide)] at H
      exact H _ _ (he.trans e2) (OS.nil _ _)
    · rw [xtr_0, xtr_1, una_not, Bool.not_true, cnd_false]
      rw [if_pos hf] at H
      exact H _ _ (he.trans e2) (owns_base o2 he.size)
theorem s_ResidualOf {a v c : Value} {m : List (List Nat)} {x b : List Nat} (ha : I_Float32SS w a m) (hv : I_Float32S w v x) (hc : I_Float32S w c b) (H : ∀ u w', Ext w w' → I_Float32S w' u (residualF m x b).1 → K (.tuple #[u, .int .i64 (residualF m x b).2]) w') : call P f_spec_ResidualOf [a, v, c] w K :=
  c_spec_ResidualOf ha.1 hv hc fun u w' he ho => H u w' he (ho.FS (residualF_lt m x b))
theorem p_ResidualOf {a v c : Value} {m : List (List Nat)} {x b : List Nat} (ha : I_Float32SS w a m) (hv : I_Float32S w v x) (hc : I_Float32S w c b) (H : ∀ u w', Ext w w' → O_Float32S w' w.heap.size w'.heap.size u (residualF m x b).1 → K (.tuple #[u, .int .i64 (residualF m x b).2]) w') : call P f_impl_ResidualOf [a, v, c] w K :=
  c_impl_ResidualOf ha.1 hv hc fun u w' he ho => H u w' he ⟨OwnR.of ho, residualF_lt m x b⟩
end Go.Proofs.YtabgkpfcpncmhaaGreat

/- No function of a list calls itself, if the list has an order. -/
set_option linter.unusedVariables false
namespace Go.Proofs.YtabgkpfcpncmhaaGreat
open Go

theorem closureVia_sub {P : Program} {Q : FuncId → Prop} (hQ : ∀ g, Q g → ∀ h ∈ (P.funcs[g]?).elim [] P.leadsTo, Q h) :
    ∀ (n : Nat) (todo seen : List FuncId), (∀ x ∈ todo, Q x) → (∀ x ∈ seen, Q x) → ∀ x ∈ P.closureVia n todo seen, Q x
  | 0, todo, seen, _, h2, x, hx => h2 x (by simpa [Program.closureVia] using hx)
  | n + 1, [], seen, _, h2, x, hx => h2 x (by simpa [Program.closureVia] using hx)
  | n + 1, f :: todo, seen, h1, h2, x, hx => by
    rw [Program.closureVia] at hx
    split at hx
    · exact closureVia_sub hQ n todo seen (fun y hy => h1 y (List.mem_cons_of_mem _ hy)) h2 x hx
    · refine closureVia_sub hQ n _ _ (fun y hy => ?_) (fun y hy => ?_) x hx
      · rcases List.mem_append.1 hy with hy | hy
        · exact hQ f (h1 f List.mem_cons_self) y hy
        · exact h1 y (List.mem_cons_of_mem _ hy)
      · rcases List.mem_cons.1 hy with rfl | hy
        · exact h1 _ List.mem_cons_self
        · exact h2 y hy

theorem norec_of {P : Program} {S L : List FuncId} (h : (S.all fun g => ((P.funcs[g]?).elim [] P.leadsTo).all fun h => S.contains h && decide (L.idxOf h < L.idxOf g)) = true) :
    S.any (fun g => ((P.funcs[g]?).elim [] P.leadsTo).any fun h => (P.closure h).contains g) = false := by
  simp only [List.all_eq_true, Bool.and_eq_true, decide_eq_true_eq, List.contains_iff_mem] at h
  refine Bool.eq_false_iff.2 fun hc => ?_
  simp only [List.any_eq_true, List.contains_iff_mem] at hc
  obtain ⟨g, hg, x, hx, hm⟩ := hc
  have h0 := h g hg x hx
  have := closureVia_sub (P := P) (Q := fun y => y ∈ S ∧ L.idxOf y < L.idxOf g) (fun a ha b hb => ?_) _ [x] [] (fun y hy => ?_) (fun y hy => by cases hy) g hm
  · exact Nat.lt_irrefl _ this.2
  · have h1 := h a ha.1 b hb
    exact ⟨h1.1, Nat.lt_trans h1.2 ha.2⟩
  · rw [List.mem_singleton] at hy
    rw [hy]; exact h0
end Go.Proofs.YtabgkpfcpncmhaaGreat

/- The closed facts of FnExactResidualOf's row. -/
set_option linter.unusedVariables false
namespace Go.Proofs.YtabgkpfcpncmhaaGreat
open Go Go.Vc
theorem reach_FnExactResidualOf : Tryz.pinned.checked.prog.closure 5 = [5, 14, 87, 16, 27, 26, 107, 88, 161, 131, 108, 196, 97, 177, 98, 209, 164, 242, 284, 163, 240, 271, 241, 166, 243, 165, 211, 273, 96, 176, 175, 246, 247, 248, 118, 206, 167, 207, 208, 218, 272, 210, 28, 109, 59, 135, 226, 229, 138, 110, 197, 103, 181, 182, 250, 251, 285, 169, 212, 274, 168, 214, 276, 252, 102, 178, 191, 180, 188, 256, 179, 249, 259, 260, 287, 305, 288, 306, 258, 106, 184, 253, 185, 186, 254, 187, 255, 286, 183, 189, 257, 190, 192, 193, 195, 263, 194, 261, 262, 289, 307, 292, 290, 291, 293, 29, 25, 19, 20, 30, 31] := by kernel_rfl
theorem joined_FnExactResidualOf : joinedFacts Tryz.pinned.checked.prog 5 Tryz.f5 Rows.fnExactResidualOfSpec Rows.fnExactResidualOfRow = true := by
  unfold joinedFacts Program.recurses Program.inPlace Program.varsNamed Program.unfollowed
  rw [reach_FnExactResidualOf]
  kernel_rfl
end Go.Proofs.YtabgkpfcpncmhaaGreat
