import Derived.Test.YtabgkpfcpncmhaaU9
import Derived.Test.YtabgkpfcpncmhaaU2
import Derived.Test.YtabgkpfcpncmhaaU1
import Derived.Test.YtabgkpfcpncmhaaU3
import Derived.Test.YtabgkpfcpncmhaaQDeterminantOf2
set_option linter.unusedSimpArgs false
set_option linter.unusedVariables false
/- Contracts: the program's whole numbers. -/
set_option linter.unusedVariables false
namespace Go.Proofs.Ytabgkpfcpncmhaa
open Go Go.Vc

variable {w : World} {K : Value → World → Prop}

def isSl : Value → Prop
  | .slice _ _ _ => True
  | _ => False
/-- A whole number, read; a variable for one, of one's own. -/
def IntR (w : World) (p : Value) (m : Int) : Prop := ∃ s, Bx w 0 t_impl_integer p [.bool (decide (m < 0)), s] ∧ Mg w s m.natAbs
def ZO (w : World) (base : Nat) (z : Value) : Prop := ∃ b s, Bx w base t_impl_integer z [.bool b, s] ∧ isSl s
theorem IntR.ext {w' : World} {p : Value} {m : Int} (h : IntR w p m) (he : Ext w w') : IntR w' p m := let ⟨s, h1, h2⟩ := h; ⟨s, h1.ext he, h2.ext he⟩
theorem ZO.ext {w' : World} {base : Nat} {z : Value} (h : ZO w base z) (he : Ext w w') : ZO w' base z := let ⟨b, s, h1, h2⟩ := h; ⟨b, s, h1.ext he, h2⟩
theorem ZO.low {base base' : Nat} {z : Value} (h : ZO w base z) (hb : base' ≤ base) : ZO w base' z := let ⟨b, s, h1, h2⟩ := h; ⟨b, s, h1.low hb, h2⟩
theorem Mg.isSl {v : Value} {n : Nat} (h : Mg w v n) : isSl v := by
  obtain ⟨l, h1, _⟩ := h
  obtain ⟨_, _, a, cap, rfl, _⟩ := h1.row
  trivial
theorem isSl.one {v : Value} (h : isSl v) : v.oneCell' = true := by
  unfold isSl at h
  split at h
  · rfl
  · exact h.elim
theorem nch_bx {base : Nat} {t : TypeId} {p : Value} {cs : List Value} {K : Value → Prop} (h : Bx w base t p cs) : nch p K = K p := by
  obtain ⟨g, rfl, _⟩ := h
  rfl
/-- A row of digits lies apart from a variable for a whole number. -/
theorem IR_kept {k : IntKind} {w' : World} {v z : Value} {l : List Nat} {base : Nat} (h : IR k w v l) (hz : ZO w base z) (hg : w.grownBy w' (blk z)) : IR k w' v l := by
  obtain ⟨b, s, ⟨g, rfl, _, hb⟩, hs⟩ := hz
  refine ⟨?_, h.cap⟩
  obtain ⟨r1, r2, a, cap, rfl, r3⟩ := h.row
  refine ⟨r1, r2, a, cap, rfl, fun hn => ?_⟩
  obtain ⟨bb, o, rfl, q⟩ := r3 hn
  refine ⟨bb, o, rfl, fun j u hu => ?_⟩
  have hq := q j u hu
  have hne : bb ≠ g := by
    rintro rfl
    obtain ⟨d, hd⟩ : ∃ d : Nat, u = iv k d := by
      rw [List.getElem?_map] at hu
      cases hl : l[j]? with
      | none => rw [hl] at hu; cases hu
      | some d => rw [hl] at hu; cases hu; exact ⟨d, rfl⟩
    subst hd
    unfold World.cell? at hq
    simp only [hb] at hq
    have : [Value.bool b, s][o + j]? = some (iv k d) := by simpa using hq
    match o + j, this with
    | 0, h => simp at h
    | 1, h => simp at h; subst h; exact hs
    | _ + 2, h => simp at h
  have hlt : bb < w.heap.size := by
    unfold World.cell? at hq
    rcases Nat.lt_or_ge bb w.heap.size with h | h
    · exact h
    · rw [Array.getElem?_eq_none h] at hq; simp at hq
  unfold World.cell? at hq ⊢
  rw [hg.block bb hlt (by simp [blk]; omega)]
  exact hq
theorem Mg.kept_box {w' : World} {v z : Value} {n : Nat} {base : Nat} (h : Mg w v n) (hz : ZO w base z) (hg : w.grownBy w' (blk z)) : Mg w' v n :=
  let ⟨l, h1, h2, h3, h4⟩ := h; ⟨l, IR_kept h1 hz hg, h2, h3, by
    obtain ⟨b, s, hb, _⟩ := hz
    intro k hk
    obtain ⟨c, f, hc⟩ := h4 k hk
    have hne : some k ≠ blk z := by
      intro e
      obtain ⟨c', f', hc'⟩ := Ty.box hb k e.symm
      rw [hc] at hc'
      simp only [Option.some.injEq, Obj.cells.injEq] at hc'
      exact absurd hc'.2.1 (by decide)
    exact ⟨c, f, by rw [hg.block k (heap_lt hc) hne]; exact hc⟩⟩
theorem IntR.kept {w' : World} {x z : Value} {m : Int} {base : Nat} (h : IntR w x m) (hz : ZO w base z) (hg : w.grownBy w' (blk z)) (hne : x ≠ z) : IntR w' x m := by
  obtain ⟨s, h1, h2⟩ := h
  refine ⟨s, h1.kept hg ?_, h2.kept_box hz hg⟩
  obtain ⟨b, s', ⟨g, rfl, _⟩, _⟩ := hz
  obtain ⟨g', rfl, _⟩ := h1
  right
  simp [blk] at hne ⊢
  omega
/-- A change of blocks of another type. -/
theorem IR.kept_at {k : IntKind} {w' : World} {v : Value} {l : List Nat} {row : Option Nat} (h : IR k w v l) (hg : w.grownBy w' row) (hne : v.ownBlock = none ∨ v.ownBlock ≠ row) : IR k w' v l := by
  refine ⟨?_, h.cap⟩
  obtain ⟨r1, r2, a, cap, rfl, r3⟩ := h.row
  refine ⟨r1, r2, a, cap, rfl, fun hn => ?_⟩
  obtain ⟨bb, o, rfl, q⟩ := r3 hn
  refine ⟨bb, o, rfl, fun j u hu => ?_⟩
  have hq := q j u hu
  have hlt : bb < w.heap.size := by
    unfold World.cell? at hq
    rcases Nat.lt_or_ge bb w.heap.size with h | h
    · exact h
    · rw [Array.getElem?_eq_none h] at hq; simp at hq
  unfold World.cell? at hq ⊢
  rw [hg.block bb hlt (by
    rcases hne with h | h
    · simp [Value.ownBlock] at h
    · simpa [Value.ownBlock] using h)]
  exact hq
theorem Ty_kept {w' : World} {k row : Option Nat} {e e' : TypeId} (h : Ty w k e) (hg : w.grownBy w' row) (ht : Ty w row e') (hne : e ≠ e') : Ty w' k e := fun b hb => by
  obtain ⟨c, f, hc⟩ := h b hb
  refine ⟨c, f, ?_⟩
  rw [hg.block b (heap_lt hc) (fun e1 => by
    obtain ⟨c', f', hc'⟩ := ht b e1.symm
    rw [hc] at hc'
    simp only [Option.some.injEq, Obj.cells.injEq] at hc'
    exact hne hc'.2.1)]
  exact hc
theorem Mg.kt {w' : World} {v : Value} {n : Nat} {row : Option Nat} {e' : TypeId} (h : Mg w v n) (hg : w.grownBy w' row) (ht : Ty w row e') (hne : t_uint32 ≠ e') : Mg w' v n :=
  let ⟨l, h1, h2, h3, h4⟩ := h; ⟨l, IR.kept_at h1 hg (h4.apart ht hne), h2, h3, Ty_kept h4 hg ht hne⟩
theorem IntR.kt {w' : World} {p : Value} {m : Int} {row : Option Nat} {e' : TypeId} (h : IntR w p m) (hg : w.grownBy w' row) (ht : Ty w row e') (h1 : t_uint32 ≠ e') (h2 : t_impl_integer ≠ e') : IntR w' p m :=
  let ⟨s, a, b⟩ := h; ⟨s, keep_box a hg ht h2, b.kt hg ht h1⟩
theorem ZO.kt {w' : World} {base : Nat} {p : Value} {row : Option Nat} {e' : TypeId} (h : ZO w base p) (hg : w.grownBy w' row) (ht : Ty w row e') (h2 : t_impl_integer ≠ e') : ZO w' base p :=
  let ⟨b, s, a, c⟩ := h; ⟨b, s, keep_box a hg ht h2, c⟩
theorem ZO.ty {base : Nat} {p : Value} (h : ZO w base p) : Ty w (blk p) t_impl_integer := let ⟨_, _, a, _⟩ := h; Ty.box a
theorem ZO.blk_ge {base : Nat} {z : Value} (h : ZO w base z) {k : Nat} (hk : blk z = some k) : base ≤ k := by
  obtain ⟨b, s, h1, _⟩ := h
  exact (h1.blk_lt hk).1
/-- A fresh variable. -/
theorem alc_Z {KW : Value → World → Prop} (H : ∀ p w', ZO w' w.heap.size p → IntR w' p 0 → Ext w w' → KW p w') : alc P t_impl_integer w KW :=
  alc_bx i_impl_integer fun p w' hb he _ => H p w' ⟨false, .slice none 0 0, hb, trivial⟩ ⟨.slice none 0 0, hb.low (Nat.zero_le _), Mg.nil _⟩ he

section
variable {p : Value} {m : Int} {K : Value → Prop}
/-- Its sign; its digits. -/
theorem IntR.neg {base : Nat} {s : Value} {b : Bool} (h : Bx w base t_impl_integer p [.bool b, s]) (H : K (.bool b)) : fda P t_impl_integer p 0 w (fun a => ld P t_bool a w K) :=
  h.fld (off := 0) rfl u_impl_integer rfl i_bool u_bool rfl H
theorem IntR.mag {base : Nat} {s : Value} {b : Bool} (h : Bx w base t_impl_integer p [.bool b, s]) (H : K s) : fda P t_impl_integer p 1 w (fun a => ld P t_s_uint32 a w K) :=
  h.fld (off := 1) rfl u_impl_integer rfl i_s_uint32 u_s_uint32 rfl H
end

def sgnI (neg : Bool) (n : Nat) : Int := if neg then -(n : Int) else n
theorem sgnI_abs (neg : Bool) (n : Nat) : (sgnI neg n).natAbs = n := by unfold sgnI; split <;> simp
theorem sgnI_neg (neg : Bool) (n : Nat) : decide (sgnI neg n < 0) = (neg && decide (0 < n)) := by
  unfold sgnI
  cases neg
  · simp
  · simp

theorem c_put {z s : Value} {neg : Bool} {l : List Nat} {base : Nat} (hz : ZO w base z) (hs : IR .u32 w s l) (hty : Ty w s.ownBlock t_uint32) (hd : Dig 4294967296 l)
    (H : ∀ w', ZO w' base z → IntR w' z (sgnI neg (val 4294967296 l)) → w.grownBy w' (blk z) → K z w') : call P f_impl_integer_put [z, .bool neg, s] w K := by
  refine I_impl_integer_put ?_
  unfold D_impl_integer_put
  refine c_magTrim hs fun s' hs' _ hbk => ?_
  obtain ⟨b, s0, hb, hs0⟩ := hz
  have hz : ZO w base z := ⟨b, s0, hb, hs0⟩
  rw [nch_bx hb]
  have hM : Mg w s' (val 4294967296 l) := ⟨_, hs', Norm.trim hd, val_trim _ _, by
    rcases hbk with e | e
    · rw [e]; exact Ty_none _ _
    · rw [e]; exact hty⟩
  refine hb.fput (off := 1) (by simp) u_impl_integer rfl i_s_uint32 hM.isSl.one fun w1 hb1 g1 => ?_
  have hM1 := hM.kept_box hz g1
  have hs1 := IR_kept hs' hz g1
  have hb1 : Bx w1 base t_impl_integer z [.bool b, s'] := hb1
  refine ⟨fun x w' => w' = w1 ∧ (x = .bool (decide (0 < val 4294967296 l)) ∨ neg = false), ?_, ?_⟩
  · rintro x junk w' ⟨rfl, hx⟩
    have hp : ∃ y, y = (neg && decide (0 < val 4294967296 l)) ∧ pick (.bool neg) x (.bool false) = fun K => K (.bool y) := by
      refine ⟨_, rfl, ?_⟩
      funext K
      rw [pick_bool]
      rcases hx with rfl | rfl
      · cases neg <;> simp
      · simp
    obtain ⟨y, hy, hp⟩ := hp
    rw [hp]
    show nch z _
    rw [nch_bx hb1]
    refine hb1.fput (off := 0) (by simp) u_impl_integer rfl i_bool rfl fun w2 hb2 g2 => ?_
    have hb2 : Bx w2 base t_impl_integer z [.bool y, s'] := hb2
    have hz1 : ZO w' base z := ⟨b, s', hb1, hM.isSl⟩
    refine H w2 ⟨y, s', hb2, hM.isSl⟩ ⟨s', ?_, ?_⟩ (grown_trans g1 g2)
    · rw [sgnI_neg, ← hy]
      exact hb2.low (Nat.zero_le _)
    · rw [sgnI_abs]
      exact hM1.kept_box hz1 g2
  · refine grd_split (fun hn => ?_) (fun hn => ?_)
    · rw [nch_bx hb1]
      refine IntR.mag hb1 ?_
      rw [hs1.row.len u_s_uint32, bin_gtr]
      refine ⟨rfl, .inl ?_⟩
      congr 1
      rw [decide_eq_decide]
      have h1 := (Norm.trim hd).eq_nil (by decide)
      rw [val_trim] at h1
      have h2 : (trim l).length = 0 ↔ val 4294967296 l = 0 := List.length_eq_zero_iff.trans h1
      omega
    · exact ⟨rfl, .inr (by simpa using hn)⟩

/-- 'put', with digits of one's own. -/
theorem c_putM {z s : Value} {neg : Bool} {n : Nat} {base : Nat} (hz : ZO w base z) (hs : Mg w s n)
    (H : ∀ w', ZO w' base z → IntR w' z (sgnI neg n) → w.grownBy w' (blk z) → K z w') : call P f_impl_integer_put [z, .bool neg, s] w K := by
  obtain ⟨l, h1, h2, rfl, h4⟩ := hs
  exact c_put hz h1 h4 h2.1 H

theorem grown_ext {a b c : World} {row : Option Nat} (he : Ext a b) (hg : b.grownBy c row) : a.grownBy c row := ext_grown he hg

/-! ### what is read -/
theorem c_Sign {p : Value} {m : Int} (h : IntR w p m) (H : K (.int .i64 m.sign) w) : call P f_impl_integer_Sign [p] w K := by
  obtain ⟨s, hb, hm⟩ := h
  refine I_impl_integer_Sign ?_
  unfold D_impl_integer_Sign
  rw [nch_bx hb]
  refine IntR.neg hb ?_
  refine cnd_dec (fun hn => ?_) (fun hn => ?_)
  · rw [Int.sign_eq_neg_one_of_neg hn] at H; exact H
  · rw [nch_bx hb]
    refine IntR.mag hb ?_
    obtain ⟨l, h1, h2, h3, _⟩ := hm
    rw [h1.row.len u_s_uint32, bin_gtr]
    have e := h2.eq_nil (by decide)
    rw [h3] at e
    have e2 : l.length = 0 ↔ m.natAbs = 0 := List.length_eq_zero_iff.trans e
    refine cnd_dec (fun hp => ?_) (fun hp => ?_)
    · have : 0 < m := by omega
      rw [Int.sign_eq_one_of_pos this] at H; exact H
    · have : m = 0 := by omega
      subst this; exact H
theorem c_BitLen {p : Value} {m : Int} (h : IntR w p m) (hb : bl m.natAbs ≤ 1099511627776) (H : K (.int .i64 (bl m.natAbs : Nat)) w) : call P f_impl_integer_BitLen [p] w K := by
  obtain ⟨s, hx, hm⟩ := h
  refine I_impl_integer_BitLen ?_
  unfold D_impl_integer_BitLen
  rw [nch_bx hx]
  exact IntR.mag hx (c_magBits hm hb H)
def cmpI (a b : Int) : Int := if a < b then -1 else if b < a then 1 else 0
/-! ### what is made -/
section
variable {z x y : Value} {a b : Int} {base : Nat}
theorem c_Neg (hz : ZO w base z) (hx : IntR w x a) (ba : bl a.natAbs ≤ 1099511627776) (H : ∀ w', ZO w' base z → IntR w' z (-a) → w.grownBy w' (blk z) → K z w') : call P f_impl_integer_Neg [z, x] w K := by
  obtain ⟨s, hb, hm⟩ := hx
  refine I_impl_integer_Neg ?_
  unfold D_impl_integer_Neg
  rw [nch_bx hb]
  refine IntR.neg hb ?_
  rw [una_not, nch_bx hb]
  refine IntR.mag hb ?_
  refine c_Clone hm ba fun v w1 e1 h1 => ?_
  refine ⟨e1, c_putM (hz.ext e1) h1.Mg fun w2 z2 i2 g2 => H w2 z2 ?_ (grown_ext e1 g2)⟩
  have : sgnI (!decide (a < 0)) a.natAbs = -a := by unfold sgnI; by_cases h : a < 0 <;> simp [h] <;> omega
  rw [this] at i2; exact i2
theorem c_Abs (hz : ZO w base z) (hx : IntR w x a) (ba : bl a.natAbs ≤ 1099511627776) (H : ∀ w', ZO w' base z → IntR w' z a.natAbs → w.grownBy w' (blk z) → K z w') : call P f_impl_integer_Abs [z, x] w K := by
  obtain ⟨s, hb, hm⟩ := hx
  refine I_impl_integer_Abs ?_
  unfold D_impl_integer_Abs
  rw [nch_bx hb]
  refine IntR.mag hb ?_
  refine c_Clone hm ba fun v w1 e1 h1 => ?_
  exact c_putM (hz.ext e1) h1.Mg fun w2 z2 i2 g2 => H w2 z2 i2 (grown_ext e1 g2)
theorem c_plus {s : Value} {neg : Bool} {n : Nat} (hz : ZO w base z) (hx : IntR w x a) (hs : Mg w s n) (ba : bl a.natAbs ≤ 1099511627776) (bb : bl n ≤ 1099511627776)
    (hn : n = 0 → True) (H : ∀ w', ZO w' base z → IntR w' z (a + sgnI neg n) → w.grownBy w' (blk z) → K z w') : call P f_impl_integer_plus [z, x, .bool neg, s] w K := by
  obtain ⟨s1, hb, hm⟩ := hx
  refine I_impl_integer_plus ?_
  unfold D_impl_integer_plus
  rw [nch_bx hb]
  refine IntR.neg hb ?_
  rw [bin_beql _ _ _ _ _ _ u_bool]
  refine cnd_split (fun h => ?_) (fun h => ?_)
  · have h : decide (a < 0) = neg := by simpa using h
    rw [nch_bx hb]
    refine IntR.mag hb ?_
    refine c_magAdd hm hs ba bb fun v w1 e1 h1 => ?_
    refine c_putM (hz.ext e1) h1.Mg fun w2 z2 i2 g2 => H w2 z2 ?_ (grown_ext e1 g2)
    have : sgnI neg (a.natAbs + n) = a + sgnI neg n := by unfold sgnI; subst h; by_cases h : a < 0 <;> simp [h] <;> omega
    rw [this] at i2; exact i2
  · have h : (decide (a < 0)) = !neg := by
      cases neg <;> by_cases ha : a < 0 <;> simp [ha] at h ⊢
    rw [nch_bx hb]
    refine IntR.mag hb ?_
    refine c_magCmp hm hs ?_
    rw [bin_geq]
    refine cnd_dec (fun hc => ?_) (fun hc => ?_)
    · have hle : n ≤ a.natAbs := by unfold cmpN at hc; split at hc <;> (try split at hc) <;> omega
      rw [nch_bx hb]
      refine IntR.neg hb ?_
      rw [nch_bx hb]
      refine IntR.mag hb ?_
      refine c_magSub hm hs hle ba fun v w1 e1 h1 => ?_
      refine ⟨e1, c_putM (hz.ext e1) h1.Mg fun w2 z2 i2 g2 => H w2 z2 ?_ (grown_ext e1 g2)⟩
      have : sgnI (decide (a < 0)) (a.natAbs - n) = a + sgnI neg n := by unfold sgnI; rw [h]; cases neg <;> simp at h ⊢ <;> omega
      rw [this] at i2; exact i2
    · have hle : a.natAbs ≤ n := by unfold cmpN at hc; split at hc <;> (try split at hc) <;> omega
      rw [nch_bx hb]
      refine IntR.mag hb ?_
      refine c_magSub hs hm hle bb fun v w1 e1 h1 => ?_
      refine c_putM (hz.ext e1) h1.Mg fun w2 z2 i2 g2 => H w2 z2 ?_ (grown_ext e1 g2)
      have : sgnI neg (n - a.natAbs) = a + sgnI neg n := by unfold sgnI; cases neg <;> simp at h ⊢ <;> omega
      rw [this] at i2; exact i2
theorem c_Sub (hz : ZO w base z) (hx : IntR w x a) (hy : IntR w y b) (ba : bl a.natAbs ≤ 1099511627776) (bb : bl b.natAbs ≤ 1099511627776)
    (H : ∀ w', ZO w' base z → IntR w' z (a - b) → w.grownBy w' (blk z) → K z w') : call P f_impl_integer_Sub [z, x, y] w K := by
  obtain ⟨s, hb, hm⟩ := hy
  refine I_impl_integer_Sub ?_
  unfold D_impl_integer_Sub
  rw [nch_bx hb]
  refine IntR.neg hb ?_
  rw [una_not, nch_bx hb]
  refine IntR.mag hb ?_
  refine c_plus hz hx hm ba bb (fun _ => trivial) fun w2 z2 i2 g2 => H w2 z2 ?_ g2
  have : a + sgnI (!decide (b < 0)) b.natAbs = a - b := by unfold sgnI; by_cases h : b < 0 <;> simp [h] <;> omega
  rw [this] at i2; exact i2
theorem c_Mul (hz : ZO w base z) (hx : IntR w x a) (hy : IntR w y b) (ba : bl a.natAbs ≤ 1099511627776) (bb : bl b.natAbs ≤ 1099511627776)
    (H : ∀ w', ZO w' base z → IntR w' z (a * b) → w.grownBy w' (blk z) → K z w') : call P f_impl_integer_Mul [z, x, y] w K := by
  obtain ⟨s, hb, hm⟩ := hx
  obtain ⟨s', hb', hm'⟩ := hy
  refine I_impl_integer_Mul ?_
  unfold D_impl_integer_Mul
  rw [nch_bx hb]
  refine IntR.neg hb ?_
  rw [nch_bx hb']
  refine IntR.neg hb' ?_
  rw [bin_bneq _ _ _ _ _ _ u_bool, nch_bx hb]
  refine IntR.mag hb ?_
  rw [nch_bx hb']
  refine IntR.mag hb' ?_
  refine c_magMul hm hm' ba bb fun v w1 e1 h1 => ?_
  refine ⟨e1, c_putM (hz.ext e1) h1.Mg fun w2 z2 i2 g2 => H w2 z2 ?_ (grown_ext e1 g2)⟩
  have : sgnI (!(decide (a < 0) == decide (b < 0))) (a.natAbs * b.natAbs) = a * b := by
    rw [← Int.natAbs_mul]
    unfold sgnI
    by_cases h1 : a < 0 <;> by_cases h2 : b < 0 <;> simp [h1, h2]
    · exact Int.le_of_lt (Int.mul_pos_of_neg_of_neg h1 h2) |> fun h => by omega
    · have := Int.mul_nonpos_of_nonpos_of_nonneg (Int.le_of_lt h1) (Int.not_lt.1 h2); omega
    · have := Int.mul_nonpos_of_nonneg_of_nonpos (Int.not_lt.1 h1) (Int.le_of_lt h2); omega
    · have := Int.mul_nonneg (Int.not_lt.1 h1) (Int.not_lt.1 h2); omega
  rw [this] at i2; exact i2
theorem c_Lsh {n : Nat} (hz : ZO w base z) (hx : IntR w x a) (ba : bl a.natAbs ≤ 1099511627776) (bn : n ≤ 1099511627776)
    (H : ∀ w', ZO w' base z → IntR w' z (a * 2 ^ n) → w.grownBy w' (blk z) → K z w') : call P f_impl_integer_Lsh [z, x, .int .u64 (n : Int)] w K := by
  obtain ⟨s, hb, hm⟩ := hx
  refine I_impl_integer_Lsh ?_
  unfold D_impl_integer_Lsh
  rw [nch_bx hb]
  refine IntR.neg hb ?_
  rw [nch_bx hb]
  refine IntR.mag hb ?_
  refine c_magLeft hm ba bn fun v w1 e1 h1 => ?_
  refine ⟨e1, c_putM (hz.ext e1) h1.Mg fun w2 z2 i2 g2 => H w2 z2 ?_ (grown_ext e1 g2)⟩
  have : sgnI (decide (a < 0)) (a.natAbs * 2 ^ n) = a * 2 ^ n := by
    unfold sgnI
    by_cases h : a < 0
    · simp only [h, decide_true, if_true, Int.natCast_mul, Int.natCast_pow]
      have : (a.natAbs : Int) = -a := by omega
      rw [this, Int.neg_mul, Int.neg_neg]; rfl
    · simp only [h, decide_false, Bool.false_eq_true, if_false, Int.natCast_mul, Int.natCast_pow]
      have : (a.natAbs : Int) = a := by omega
      rw [this]; rfl
  rw [this] at i2; exact i2
theorem neg_div {a p : Int} (h : a < 0) (hp : 0 < p) : -((-a - 1) / p + 1) = a / p := by
  have h1 := Int.mul_ediv_add_emod (-a - 1) p
  have h2 := Int.emod_nonneg (-a - 1) (Int.ne_of_gt hp)
  have h3 := Int.emod_lt_of_pos (-a - 1) hp
  generalize (-a - 1) / p = d at *
  generalize (-a - 1) % p = r at *
  have h4 : a = (p - r - 1) + p * (-(d + 1)) := by grind
  rw [h4, Int.add_mul_ediv_left _ _ (Int.ne_of_gt hp), Int.ediv_eq_zero_of_lt (by omega) (by omega)]
  omega
theorem one_u32 : (IR .u32 w (.slice none 0 0) []) := IR.nil _ _
theorem bsl_u32 {d : Nat} {KW : Value → World → Prop} (hd : d < 4294967296) (h0 : d ≠ 0) (H : ∀ v w', Ext w w' → Mg w' v d → KW v w') : bsl P t_s_uint32 1 [(0, .int .u32 (d : Int))] w KW := by
  refine bsl_one u_s_uint32 i_uint32 rfl rfl ?_
  have he := Ext_alloc w (.cells #[.int .u32 (d : Int)] t_uint32)
  have ho : OD .u32 t_uint32 (w.alloc (.cells #[.int .u32 (d : Int)] t_uint32)) w.heap.size (.slice (some ⟨w.heap.size, 0, none⟩) 1 1) [d] := owns_lit w [.int .u32 (d : Int)] t_uint32 (by simp [maxLen])
  exact H _ _ he ⟨[d], ho.IR, ⟨fun x hx => by simp at hx; omega, by simpa using h0⟩, by simp [val], Ty.owns ho⟩
theorem c_Rsh {n : Nat} (hz : ZO w base z) (hx : IntR w x a) (ba : bl a.natAbs ≤ 1099511627775) (bn : n ≤ 9223372036854775807)
    (H : ∀ w', ZO w' base z → IntR w' z (a / 2 ^ n) → w.grownBy w' (blk z) → K z w') : call P f_impl_integer_Rsh [z, x, .int .u64 (n : Int)] w K := by
  obtain ⟨s, hb, hm⟩ := hx
  refine I_impl_integer_Rsh ?_
  unfold D_impl_integer_Rsh
  have hpc : ((2 ^ n : Nat) : Int) = (2 : Int) ^ n := by simp
  rw [nch_bx hb]
  refine IntR.neg hb ?_
  rw [una_not]
  refine cnd_split (fun h => ?_) (fun h => ?_)
  · have h : ¬ a < 0 := by simpa using h
    rw [nch_bx hb]
    refine IntR.mag hb ?_
    refine c_magRight hm (by omega) bn fun v w1 e1 h1 => ?_
    refine c_putM (hz.ext e1) h1.Mg fun w2 z2 i2 g2 => H w2 z2 ?_ (grown_ext e1 g2)
    have : sgnI false (a.natAbs / 2 ^ n) = a / 2 ^ n := by
      show ((a.natAbs / 2 ^ n : Nat) : Int) = _
      rw [Int.natCast_ediv, hpc, show (a.natAbs : Int) = a by omega]
    rw [this] at i2; exact i2
  · have h : a < 0 := by simpa using h
    rw [nch_bx hb]
    refine IntR.mag hb ?_
    refine bsl_u32 (d := 1) (by decide) (by decide) fun v1 w1 e1 m1 => ?_
    refine c_magSub (hm.ext e1) m1 (by omega) (by omega) fun v2 w2 e2 m2 => ?_
    have hs := bl_sub_le a.natAbs 1
    refine c_magRight m2.Mg (by omega) bn fun v3 w3 e3 m3 => ?_
    refine bsl_u32 (d := 1) (by decide) (by decide) fun v4 w4 e4 m4 => ?_
    have hs2 := bl_shr (a.natAbs - 1) n
    refine c_magAdd (m3.Mg.ext e4) m4 (by omega) (by rw [bl_one]; decide) fun v5 w5 e5 m5 => ?_
    have E := e1.trans (e2.trans (e3.trans (e4.trans e5)))
    refine c_putM (hz.ext E) m5.Mg fun w6 z6 i6 g6 => H w6 z6 ?_ (grown_ext E g6)
    have : sgnI true ((a.natAbs - 1) / 2 ^ n + 1) = a / 2 ^ n := by
      have hp : (0 : Int) < 2 ^ n := Int.pow_pos (by decide)
      show -((((a.natAbs - 1) / 2 ^ n + 1 : Nat)) : Int) = _
      rw [Int.natCast_add, Int.natCast_ediv, hpc]
      have h2 : ((a.natAbs - 1 : Nat) : Int) = -a - 1 := by omega
      rw [h2]
      exact neg_div (by omega) hp
    rw [this] at i6; exact i6
end
end Go.Proofs.Ytabgkpfcpncmhaa

/- Contracts: whole numbers out of words, their bits, their lowest digits. -/
set_option linter.unusedVariables false
namespace Go.Proofs.Ytabgkpfcpncmhaa
open Go Go.Vc

variable {w : World} {K : Value → World → Prop}

/-! ### numbers of 64 bits -/
theorem c_SetInt64 {z : Value} {n : Int} {base : Nat} (hz : ZO w base z) (h1 : -9223372036854775808 ≤ n) (h2 : n ≤ 9223372036854775807)
    (H : ∀ w', ZO w' base z → IntR w' z n → w.grownBy w' (blk z) → K z w') : call P f_impl_integer_SetInt64 [z, .int .i64 n] w K := by
  refine I_impl_integer_SetInt64 ?_
  unfold D_impl_integer_SetInt64
  rw [cnv_int_int u_int64 u_uint64]
  refine ⟨fun x w' => w' = w ∧ x = .int .u64 (n.natAbs : Int), ?_, ?_⟩
  · rintro x junk w' ⟨rfl, rfl⟩
    rw [bin_lss, cnv_64_32, bin_shrN (s := 32) (by decide), cnv_64_32]
    rw [show (2 : Nat) ^ 32 = 4294967296 from rfl]
    have hm : n.natAbs / 4294967296 % 4294967296 = n.natAbs / 4294967296 := Nat.mod_eq_of_lt (by omega)
    rw [hm]
    refine bsl_two u_s_uint32 i_uint32 rfl rfl rfl ?_
    have he := Ext_alloc w' (.cells #[.int .u32 ((n.natAbs % 4294967296 : Nat) : Int), .int .u32 ((n.natAbs / 4294967296 : Nat) : Int)] t_uint32)
    have ho : OD .u32 t_uint32 (w'.alloc (.cells #[.int .u32 ((n.natAbs % 4294967296 : Nat) : Int), .int .u32 ((n.natAbs / 4294967296 : Nat) : Int)] t_uint32)) w'.heap.size (.slice (some ⟨w'.heap.size, 0, none⟩) 2 2) [n.natAbs % 4294967296, n.natAbs / 4294967296] :=
      owns_lit w' [.int .u32 ((n.natAbs % 4294967296 : Nat) : Int), .int .u32 ((n.natAbs / 4294967296 : Nat) : Int)] t_uint32 (by simp [maxLen])
    have hd : Dig 4294967296 [n.natAbs % 4294967296, n.natAbs / 4294967296] := fun d hd => by
      simp only [List.mem_cons, List.not_mem_nil, or_false] at hd
      rcases hd with rfl | rfl
      · exact Nat.mod_lt _ (by decide)
      · omega
    refine c_put (hz.ext he) ho.IR (Ty.owns ho) hd fun w2 z2 i2 g2 => H w2 z2 ?_ (grown_ext he g2)
    have e : val 4294967296 [n.natAbs % 4294967296, n.natAbs / 4294967296] = n.natAbs := by
      simp only [val]
      have := Nat.div_add_mod n.natAbs 4294967296
      omega
    rw [e] at i2
    have : sgnI (decide (n < 0)) n.natAbs = n := by unfold sgnI; by_cases h : n < 0 <;> simp [h] <;> omega
    rw [this] at i2; exact i2
  · rw [bin_lss]
    have hw : IntKind.u64.wrap n = if n < 0 then n + 18446744073709551616 else n := by
      simp [IntKind.wrap, IntKind.bits, IntKind.signed]; split <;> omega
    refine cnd_dec (fun h => ?_) (fun h => ?_)
    · rw [una_neg_int, hw, if_pos h]
      refine ⟨rfl, ?_⟩
      congr 1
      have : IntKind.u64.wrap (0 - (n + 18446744073709551616)) = (-n) % 18446744073709551616 := by
        simp [IntKind.wrap, IntKind.bits, IntKind.signed]; omega
      rw [this]; omega
    · rw [hw, if_neg h]
      exact ⟨rfl, by congr 1; omega⟩
theorem c_newInt {n : Int} (h1 : -9223372036854775808 ≤ n) (h2 : n ≤ 9223372036854775807)
    (H : ∀ p w', Ext w w' → ZO w' w.heap.size p → IntR w' p n → K p w') : call P f_impl_newInt [.int .i64 n] w K := by
  refine I_impl_newInt ?_
  unfold D_impl_newInt
  refine alc_Z fun p w1 z1 _ e1 => ?_
  exact c_SetInt64 z1 h1 h2 fun w2 z2 i2 g2 => H p w2 (ext_of_grown e1 (fun g hg => z1.blk_ge hg) g2) z2 i2

/-! ### lowest digits -/
theorem bl0_min_i64 {ats : Array TypeId} {ty : TypeId} {k : IntKind} {a b : Int} {K : Value → Prop} : bl0 P .min ats ty [.int k a, .int k b] w K = K (.int k (min a b)) := by
  unfold bl0
  have : rv P (builtin .min ats ty #[] [.int k a, .int k b].toArray) w = some (.value (.int k (min a b))) := by
    have e : min a b = if b < a then b else a := by split <;> omega
    rw [e]
    simp [builtin, Builtin.min_, Builtin.min2]
  rw [this]
  simp [valK]
theorem bl0_max_i64 {ats : Array TypeId} {ty : TypeId} {k : IntKind} {a b : Int} {K : Value → Prop} : bl0 P .max ats ty [.int k a, .int k b] w K = K (.int k (max a b)) := by
  unfold bl0
  have : rv P (builtin .max ats ty #[] [.int k a, .int k b].toArray) w = some (.value (.int k (max a b))) := by
    have e : max a b = if a < b then b else a := by split <;> omega
    rw [e]
    simp [builtin, Builtin.max_, Builtin.max2]
  rw [this]
  simp [valK]
theorem c_low {p : Value} {m : Int} (h : IntR w p m) (hm : m.natAbs < 18446744073709551616) (H : K (.int .u64 (m.natAbs : Int)) w) : call P f_impl_integer_low [p] w K := by
  obtain ⟨s, hb, l, h1, h2, h3, _⟩ := h
  have b1 := h1.bound
  refine I_impl_integer_low ?_
  unfold D_impl_integer_low
  rw [nch_bx hb]
  refine IntR.mag hb ?_
  rw [h1.row.len u_s_uint32]
  have hlen : l.length ≤ 2 := by
    refine Nat.le_of_not_lt fun hc => ?_
    have := h2.ge (by rintro rfl; simp at hc)
    have h4 : (4294967296 : Nat) ^ 2 ≤ 4294967296 ^ (l.length - 1) := Nat.pow_le_pow_right (by decide) (by omega)
    have h5 : (4294967296 : Nat) ^ 2 = 18446744073709551616 := by decide
    omega
  have hmin : bl0 P .min #[t_int, t_int] t_int [.int .i64 (l.length : Int), .int .i64 2] w = fun K => K (.int .i64 (l.length : Int)) := by
    funext K
    rw [bl0_min_i64]
    congr 2; omega
  rw [hmin]
  show bin P .sub t_int false true (.int .i64 (l.length : Int)) (.int .i64 1) w _
  rw [bin_sub, wrap_i64 (by omega) (by omega)]
  refine ⟨fun g x y w' => w' = w ∧ ∃ u : Nat, x = .int .u64 (u : Int) ∧ y = .int .i64 ((g : Int) - 1) ∧ g ≤ l.length ∧ u = val 4294967296 (l.drop g), ⟨l.length, rfl, 0, rfl, rfl, Nat.le_refl _, by simp [val]⟩, ?_⟩
  rintro g x y junk w' ⟨rfl, u, rfl, rfl, hg, hu⟩
  rw [bin_geq]
  refine cnd_dec (fun hge => ?_) (fun hlt => ?_)
  · have hg0 : 0 < g := by omega
    have hi : g - 1 < l.length := by omega
    have g1 := Dig_get h2.1 hi
    have hul : u < 4294967296 := by
      have := val_lt (h2.1.drop g)
      rw [List.length_drop, ← hu] at this
      have h4 : (4294967296 : Nat) ^ (l.length - g) ≤ 4294967296 ^ 1 := Nat.pow_le_pow_right (by decide) (by omega)
      omega
    rw [bin_shlN (s := 32) (by decide) (by rw [max_u64, show (2 : Nat) ^ 32 = 4294967296 from rfl]; omega), show (2 : Nat) ^ 32 = 4294967296 from rfl]
    rw [nch_bx hb]
    refine IntR.mag hb ?_
    rw [show (g : Int) - 1 = ((g - 1 : Nat) : Int) by omega]
    refine h1.at hi u_s_uint32 i_uint32 u_uint32 ?_
    rw [cnv_32_64' g1, bin_orN (b := l[g - 1]) (by simp only [IntKind.bits]; omega) (by simp only [IntKind.bits]; omega) rfl, Nat.or_comm, right_or g1]
    rw [bin_sub, wrap_i64 (by omega) (by omega)]
    refine ⟨g - 1, by omega, rfl, _, rfl, by congr 1, by omega, ?_⟩
    rw [List.drop_eq_getElem_cons hi, val, show g - 1 + 1 = g by omega, ← hu, Nat.mul_comm]
  · have : g = 0 := by omega
    subst this
    rw [List.drop_zero, h3] at hu
    subst hu
    exact H
theorem c_Int64 {p : Value} {m : Int} (h : IntR w p m) (hm : m.natAbs < 9223372036854775808) (H : K (.int .i64 m) w) : call P f_impl_integer_Int64 [p] w K := by
  have h0 := h
  obtain ⟨s, hb, l, h1, h2, h3, _⟩ := h
  refine I_impl_integer_Int64 ?_
  unfold D_impl_integer_Int64
  rw [nch_bx hb]
  refine IntR.neg hb ?_
  refine cnd_dec (fun hn => ?_) (fun hn => ?_)
  · refine c_low h0 (by omega) ?_
    rw [cnv_int_int u_uint64 u_int64, wrap_i64 (by omega) (by omega), una_neg_int, wrap_i64 (by omega) (by omega)]
    rw [show (0 : Int) - (m.natAbs : Int) = m by omega]
    exact H
  · refine c_low h0 (by omega) ?_
    rw [cnv_int_int u_uint64 u_int64, wrap_i64 (by omega) (by omega)]
    rw [show (m.natAbs : Int) = m by omega]
    exact H

/-! ### bits -/
theorem bit_val {l : List Nat} (hd : Dig 4294967296 l) (i : Nat) : val 4294967296 l / 2 ^ i % 2 = l.getD (i / 32) 0 / 2 ^ (i % 32) % 2 := by
  have hn : 2 ^ i = 4294967296 ^ (i / 32) * 2 ^ (i % 32) := by
    conv => lhs; rw [← Nat.div_add_mod i 32, Nat.pow_add, Nat.pow_mul]
  have hs : i % 32 < 32 := Nat.mod_lt _ (by decide)
  rw [hn, ← Nat.div_div_eq_div_mul]
  by_cases h : i / 32 < l.length
  · have hp : 0 < 4294967296 ^ (i / 32) := Nat.pow_pos (by decide)
    have h1 : val 4294967296 l / 4294967296 ^ (i / 32) = val 4294967296 (l.drop (i / 32)) := by
      rw [val_split _ l (Nat.le_of_lt h), Nat.add_mul_div_left _ _ hp, Nat.div_eq_of_lt, Nat.zero_add]
      have := val_lt (hd.take (i / 32))
      rw [List.length_take, Nat.min_eq_left (by omega)] at this
      exact this
    rw [h1, List.drop_eq_getElem_cons h, val, getD_get h]
    have h2 : (4294967296 : Nat) = 2 ^ (i % 32) * (2 * 2 ^ (31 - i % 32)) := by
      rw [← Nat.pow_succ', ← Nat.pow_add, show i % 32 + (31 - i % 32).succ = 32 by omega]
    have h3 : ∀ X, 4294967296 * X = 2 ^ (i % 32) * (2 * (2 ^ (31 - i % 32) * X)) := fun X => by
      conv => lhs; rw [h2]
      grind
    rw [h3, Nat.add_mul_div_left _ _ (Nat.two_pow_pos _), Nat.add_mul_mod_self_left]
  · have h1 : val 4294967296 l / 4294967296 ^ (i / 32) = 0 :=
      Nat.div_eq_of_lt (Nat.lt_of_lt_of_le (val_lt hd) (Nat.pow_le_pow_right (by decide) (by omega)))
    have h2 : l.getD (i / 32) 0 = 0 := by rw [List.getD_eq_getElem?_getD]; simp [show l.length ≤ i / 32 by omega]
    rw [h1, h2]
theorem c_Bit {p : Value} {m : Int} {i : Nat} (h : IntR w p m) (hi : i ≤ 9223372036854775807) (H : K (.int .u64 ((m.natAbs / 2 ^ i % 2 : Nat) : Int)) w) : call P f_impl_integer_Bit [p, .int .i64 (i : Int)] w K := by
  obtain ⟨s, hb, l, h1, h2, h3, _⟩ := h
  have hv := bit_val h2.1 i
  rw [h3] at hv
  rw [hv] at H
  refine I_impl_integer_Bit ?_
  unfold D_impl_integer_Bit
  rw [bin_quoN (b := 32) (by rw [max_i64]; omega) (by decide), nch_bx hb]
  refine IntR.mag hb ?_
  rw [h1.row.len u_s_uint32, bin_geq]
  refine cnd_dec (fun hge => ?_) (fun hlt => ?_)
  · have h2 : l.getD (i / 32) 0 = 0 := by rw [List.getD_eq_getElem?_getD]; simp [show l.length ≤ i / 32 by omega]
    rw [h2] at H
    simpa using H
  · have hlt : i / 32 < l.length := by omega
    rw [nch_bx hb]
    refine IntR.mag hb ?_
    rw [bin_quoN (b := 32) (by rw [max_i64]; omega) (by decide)]
    refine h1.at hlt u_s_uint32 i_uint32 u_uint32 ?_
    have g1 := Dig_get h2.1 hlt
    rw [bin_remN (b := 32) (by decide), bin_shrN (s := i % 32) (by simp only [IntKind.bits]; omega)]
    have hq : l[i / 32] / 2 ^ (i % 32) < 2 ^ IntKind.u32.bits := Nat.lt_of_le_of_lt (Nat.div_le_self _ _) g1
    rw [bin_andN (b := 1) hq (by decide) rfl, Nat.and_one_is_mod, cnv_int_int u_uint32 u_uint, w_u64' (by omega)]
    rw [getD_get hlt] at H
    exact H

/-- How many of the lowest bits are 0. -/
def IsTz (n k : Nat) : Prop := if n = 0 then k = 0 else n % 2 ^ k = 0 ∧ n / 2 ^ k % 2 = 1
theorem c_TrailingZeroBits {p : Value} {m : Int} (h : IntR w p m) (hb : bl m.natAbs ≤ 1099511627776) (H : ∀ k : Nat, IsTz m.natAbs k → k ≤ bl m.natAbs → K (.int .u64 (k : Int)) w) : call P f_impl_integer_TrailingZeroBits [p] w K := by
  refine I_impl_integer_TrailingZeroBits ?_
  unfold D_impl_integer_TrailingZeroBits
  refine ⟨fun g x w' => w' = w ∧ ∃ k : Nat, x = .int .i64 (k : Int) ∧ g + k = bl m.natAbs ∧ m.natAbs % 2 ^ k = 0, ⟨bl m.natAbs, rfl, 0, rfl, rfl, by simp [Nat.mod_one]⟩, ?_⟩
  rintro g x junk w' ⟨rfl, k, rfl, hg, hz⟩
  refine c_BitLen h hb ?_
  rw [bin_lss]
  refine ⟨_, fun _ _ _ h => h, ?_⟩
  refine grd_split (fun h1 => ?_) (fun h1 => ?_)
  · simp only [decide_eq_true_eq] at h1
    refine c_Bit h (by omega) ?_
    rw [bin_eql, pick_bool, decide_eq_true h1, cond_true]
    refine cnd_dec (fun h2 => ?_) (fun h2 => ?_)
    · rw [bin_addI1 (b := 1) (by omega)]
      refine ⟨g - 1, by omega, rfl, k + 1, rfl, by omega, ?_⟩
      have h3 : m.natAbs / 2 ^ k % 2 = 0 := by omega
      rw [Nat.mod_pow_succ, hz, h3]; rfl
    · rw [cnv_int_int u_int u_uint, w_u64' (by omega)]
      refine H k ?_ (by omega)
      unfold IsTz
      rw [if_neg (by
        intro h0
        rw [h0, bl_zero] at h1
        omega)]
      exact ⟨hz, by have := Nat.mod_lt (m.natAbs / 2 ^ k) (show 0 < 2 by decide); omega⟩
  · rw [h1, pick_bool]
    simp only [Bool.not_true, decide_eq_false_iff_not] at h1
    rw [Bool.not_true, cond_false, cnd_false, cnv_int_int u_int u_uint, w_u64' (by omega)]
    have hk : k = bl m.natAbs := by omega
    have h0 : m.natAbs = 0 := by
      refine Classical.byContradiction fun h0 => ?_
      have := Nat.le_of_dvd (Nat.pos_of_ne_zero h0) (Nat.dvd_of_mod_eq_zero hz)
      have := lt_two_bl m.natAbs
      rw [hk] at *
      omega
    refine H k ?_ (by omega)
    unfold IsTz
    rw [if_pos h0, hk, h0]; rfl
end Go.Proofs.Ytabgkpfcpncmhaa

/- Contracts: quotients of magnitudes. -/
set_option linter.unusedVariables false
namespace Go.Proofs.Ytabgkpfcpncmhaa
open Go Go.Vc

variable {w : World} {K : Value → World → Prop}

/-- A list's top three digits. -/
theorem val_top3 {b : Nat} {l : List Nat} {n : Nat} (h : ∀ j, n + 3 ≤ j → l.getD j 0 = 0) (hl : n + 3 ≤ l.length) :
    val b l = ((l.getD (n + 2) 0 * b + l.getD (n + 1) 0) * b + l.getD n 0) * b ^ n + val b (l.take n) := by
  have hz : val b (l.drop (n + 3)) = 0 := by
    refine val_zero fun d hd => ?_
    obtain ⟨j, hj, rfl⟩ := List.mem_iff_getElem.1 hd
    have := h (n + 3 + j) (by omega)
    rw [List.getD_eq_getElem?_getD] at this
    rw [List.getElem_drop]
    have hlt : n + 3 + j < l.length := by simp at hj; omega
    rw [List.getElem?_eq_getElem hlt] at this
    exact this
  rw [val_split b l hl, hz, Nat.mul_zero, Nat.add_zero, val_take_succD, val_take_succD, val_take_succD]
  have e1 : b ^ (n + 1) = b ^ n * b := Nat.pow_succ ..
  have e2 : b ^ (n + 1 + 1) = b ^ (n + 1) * b := Nat.pow_succ ..
  rw [e2, e1]
  grind
theorem val_top2 {b : Nat} {l : List Nat} {n : Nat} (hl : l.length = n + 2) : val b l = (l.getD (n + 1) 0 * b + l.getD n 0) * b ^ n + val b (l.take n) := by
  have : l.take (n + 2) = l := List.take_of_length_le (by omega)
  conv => lhs; rw [← this]
  rw [val_take_succD, val_take_succD]
  have e1 : b ^ (n + 1) = b ^ n * b := Nat.pow_succ ..
  rw [e1]
  grind

theorem bl_full {l : List Nat} (h : Norm 4294967296 l) (hl : l ≠ []) : bl (val 4294967296 l) ≤ 32 * l.length ∧ 32 * (l.length - 1) < bl (val 4294967296 l) := by
  have h1 := Norm.len_le (s := 32) (by decide) (l := l) h
  have h2 := Norm.len_lt (s := 32) (by decide) (l := l) h hl
  have e : (2 : Nat) ^ 32 = 4294967296 := by decide
  rw [e] at h1 h2
  omega

theorem div_small {r d x B : Nat} (hr : r < d) (hx : x < B) : r * B + x < B * d := by
  have h := Nat.mul_le_mul_right B (show r + 1 ≤ d from hr)
  rw [Nat.succ_mul] at h
  rw [Nat.mul_comm B d]; omega
set_option maxRecDepth 20000 in
/-- One digit: the whole loop. -/
theorem c_div1 {u v : Value} {l : List Nat} {d : Nat} (hu : IR .u32 w u l) (hd : Dig 4294967296 l) (hv : IR .u32 w v [d]) (d0 : 0 < d) (dl : d < 4294967296) (hlen : l.length ≤ 34359738369)
    (H : ∀ x y w', Ext w w' → MgO w' w.heap.size x (val 4294967296 l / d) → Mg w' y (val 4294967296 l % d) → K (.tuple #[x, y]) w') :
    bl0 P .len #[t_s_uint32] t_int [u] w fun x33_8 =>
      mks P t_s_uint32 x33_8 x33_8 w fun x34_9 w10 =>
      bl0 P .len #[t_s_uint32] t_int [u] w10 fun x36_11 =>
      bin P .sub t_int false true x36_11 (.int .i64 1) w10 fun x37_12 =>
      ∃ I13 : Nat → Value → Value → World → Prop, (∃ m46, I13 m46 (.int .u64 0) x37_12 w10) ∧ ∀ (m16 : Nat) (x7_17 : Value) (x8_18 : Value) (junk14 : Env) (w15 : World), I13 m16 x7_17 x8_18 w15 →
        bin P .geq t_int false true x8_18 (.int .i64 0) w15 fun x39_19 =>
        cnd x39_19
          (bin P .shl t_uint64 false true x7_17 (.int .u64 32) w15 fun x43_20 =>
          ixa P t_s_uint32 u x8_18 w15 fun x46_21 =>
          ld P t_uint32 x46_21 w15 fun x47_22 =>
          cnv P t_uint32 t_uint64 x47_22 w15 fun x48_23 =>
          bin P .or t_uint64 false false x43_20 x48_23 w15 fun x49_24 =>
          ixa P t_s_uint32 v (.int .i64 0) w15 fun x54_25 =>
          ld P t_uint32 x54_25 w15 fun x55_26 =>
          cnv P t_uint32 t_uint64 x55_26 w15 fun x56_27 =>
          bin P .quo t_uint64 false false x49_24 x56_27 w15 fun x57_28 =>
          cnv P t_uint64 t_uint32 x57_28 w15 fun x58_29 =>
          ixa P t_s_uint32 x34_9 x8_18 w15 fun x59_30 =>
          sto P t_uint32 x59_30 x58_29 w15 fun w32 =>
          ixa P t_s_uint32 v (.int .i64 0) w32 fun x62_33 =>
          ld P t_uint32 x62_33 w32 fun x63_34 =>
          cnv P t_uint32 t_uint64 x63_34 w32 fun x64_35 =>
          bin P .rem t_uint64 false false x49_24 x64_35 w32 fun x65_36 =>
          bin P .sub t_int false true x8_18 (.int .i64 1) w32 fun x41_37 =>
          ∃ m38, m38 < m16 ∧ I13 m38 x65_36 x41_37 w32)
          (call P f_impl_magTrim [x34_9] w15 fun x67_39 w40 =>
          cnv P t_uint64 t_uint32 x7_17 w40 fun x69_41 =>
          bsl P t_s_uint32 1 [(0, x69_41)] w40 fun x70_42 w43 =>
          call P f_impl_magTrim [x70_42] w43 fun x71_44 w45 =>
          K (.tuple #[x67_39, x71_44]) w45) := by
  rw [hu.row.len u_s_uint32]
  refine OD.make u_s_uint32 i_uint32 (by omega) (by simp only [maxLen]; omega) fun w1 o ho he => ?_
  rw [(hu.ext he).row.len u_s_uint32, bin_sub, wrap_i64 (by omega) (by omega)]
  refine ⟨fun m x y w' => ∃ (r : Nat) (q : List Nat), x = .int .u64 (r : Int) ∧ y = .int .i64 ((m : Int) - 1) ∧ m ≤ l.length ∧ Ext w w' ∧ OD .u32 t_uint32 w' w.heap.size o q ∧ q.length = l.length ∧ Dig 4294967296 q ∧ r < d ∧ (∀ j, j < m → q.getD j 0 = 0) ∧
    val 4294967296 l = val 4294967296 (l.take m) + r * 4294967296 ^ m + d * val 4294967296 q, ⟨l.length, 0, _, rfl, rfl, Nat.le_refl _, he, ho, by simp, Dig_rep _ _ (by decide), d0, fun j _ => by simp [List.getElem?_replicate]; split <;> rfl, by rw [List.take_of_length_le (Nat.le_refl _), val_replicate]; simp⟩, ?_⟩
  rintro m x y junk w2 ⟨r, q, rfl, rfl, hm, e2, oq, hq, dq, hr, hz, hv2⟩
  rw [bin_geq]
  refine cnd_dec (fun hge => ?_) (fun hlt => ?_)
  · obtain ⟨i, rfl⟩ : ∃ i, m = i + 1 := ⟨m - 1, by omega⟩
    have hi : i < l.length := by omega
    have g1 := Dig_get hd hi
    rw [bin_shlN (s := 32) (by decide) (by rw [max_u64]; have : (2 : Nat) ^ 32 = 4294967296 := by decide
                                           omega)]
    rw [show ((i + 1 : Nat) : Int) - 1 = (i : Int) by omega]
    refine (hu.ext e2).at hi u_s_uint32 i_uint32 u_uint32 ?_
    rw [cnv_32_64' g1]
    have hr32 : r * 2 ^ 32 < 2 ^ 64 := by
      have h1 : (2 : Nat) ^ 32 = 4294967296 := by decide
      have h2 : (2 : Nat) ^ 64 = 18446744073709551616 := by decide
      omega
    rw [bin_orN hr32 (Nat.lt_trans g1 (by decide)) rfl]
    have hor : r * 2 ^ 32 ||| l[i] = r * 4294967296 + l[i] := by
      rw [Nat.mul_comm, ← Nat.two_pow_add_eq_or_of_lt (show l[i] < 2 ^ 32 from g1), Nat.mul_comm]
    rw [hor]
    refine IR.at (i := 0) (hv.ext e2) (by simp) u_s_uint32 i_uint32 u_uint32 ?_
    simp only [List.getElem_cons_zero]
    have hs : r * 4294967296 + l[i] ≤ 18446744073709551615 := by omega
    rw [cnv_32_64' dl, bin_quoN (b := d) (by rw [max_u64]; omega) (by omega), cnv_64_32]
    have hqd : (r * 4294967296 + l[i]) / d < 4294967296 := by
      exact (Nat.div_lt_iff_lt_mul d0).2 (div_small hr g1)
    have hrd := Nat.mod_lt (r * 4294967296 + l[i]) d0
    rw [Nat.mod_eq_of_lt hqd]
    refine OD.set oq (by omega) u_s_uint32 i_uint32 fun w3 oq' hg => ?_
    have e3 : Ext w w3 := own_step e2 oq hg
    refine IR.at (i := 0) (hv.ext e3) (by simp) u_s_uint32 i_uint32 u_uint32 ?_
    simp only [List.getElem_cons_zero]
    rw [cnv_32_64' dl, bin_remN (b := d) (by omega), bin_sub, wrap_i64 (by omega) (by omega)]
    have hiq : i < q.length := by omega
    refine ⟨i, by omega, _, _, rfl, by congr 1, by omega, e3, oq', by simpa using hq, Dig_set dq hqd, hrd, fun j hj => ?_, ?_⟩
    · rw [getD_set hiq, if_neg (by omega)]; exact hz j (by omega)
    · have h3 := val_set_all 4294967296 (l := q) (x := (r * 4294967296 + l[i]) / d) hiq
      have h4 := hz i (by omega)
      rw [getD_get hiq] at h4
      rw [h4, Nat.mul_zero, Nat.add_zero] at h3
      rw [h3, hv2, val_take_succD, getD_get hi, pB]
      have h5 := Nat.div_add_mod (r * 4294967296 + l[i]) d
      generalize (r * 4294967296 + l[i]) / d = Q at *
      generalize (r * 4294967296 + l[i]) % d = R at *
      generalize (4294967296 : Nat) ^ i = p at *
      have h6 : p * (d * Q + R) = p * (r * 4294967296 + l[i]) := by rw [h5]
      grind
  · have hm0 : m = 0 := by omega
    subst hm0
    rw [List.take_zero, Nat.pow_zero, Nat.mul_one] at hv2
    simp only [val, Nat.zero_add] at hv2
    have hQ : val 4294967296 q = val 4294967296 l / d := by
      rw [hv2, Nat.add_mul_div_left _ _ d0, Nat.div_eq_of_lt hr, Nat.zero_add]
    have hR : r = val 4294967296 l % d := by
      rw [hv2, Nat.add_mul_mod_self_left, Nat.mod_eq_of_lt hr]
    refine c_trimO oq dq fun v' hv' => ?_
    rw [cnv_64_32, Nat.mod_eq_of_lt (by omega)]
    refine bsl_one u_s_uint32 i_uint32 rfl rfl ?_
    have he4 := Ext_alloc w2 (.cells #[.int .u32 (r : Int)] t_uint32)
    have ho4 : OD .u32 t_uint32 (w2.alloc (.cells #[.int .u32 (r : Int)] t_uint32)) w2.heap.size (.slice (some ⟨w2.heap.size, 0, none⟩) 1 1) [r] := owns_lit w2 [.int .u32 (r : Int)] t_uint32 (by simp [maxLen])
    generalize w2.alloc (.cells #[.int .u32 (r : Int)] t_uint32) = w4 at he4 ho4 ⊢
    refine c_trimO ho4 (fun x hx => by simp at hx; omega) fun v4 hv4 => ?_
    rw [hQ] at hv'
    have e5 : val 4294967296 [r] = val 4294967296 l % d := by simp [val]; exact hR
    rw [e5] at hv4
    exact H _ _ _ (e2.trans he4) (hv'.ext he4) hv4.Mg
end Go.Proofs.Ytabgkpfcpncmhaa

/- Contracts: quotients of magnitudes: one digit's subtraction and its repair. -/
set_option linter.unusedVariables false
set_option linter.unusedSimpArgs false
namespace Go.Proofs.Ytabgkpfcpncmhaa
open Go Go.Vc

variable {w : World} {K : Value → World → Prop}

theorem key_sub {o t be : Nat} (ho : o < 4294967296) (hbe : be ≤ 1) :
    ((o + 18446744073709551616 - t % 4294967296) % 18446744073709551616 + 18446744073709551616 - be) % 18446744073709551616 % 4294967296 + t % 4294967296 + be = o + ((o + 18446744073709551616 - t % 4294967296) % 18446744073709551616 + 18446744073709551616 - be) % 18446744073709551616 / 9223372036854775808 * 4294967296 ∧
    ((o + 18446744073709551616 - t % 4294967296) % 18446744073709551616 + 18446744073709551616 - be) % 18446744073709551616 / 9223372036854775808 ≤ 1 := by
  have := Nat.mod_lt t (show 0 < 4294967296 by decide)
  generalize t % 4294967296 = l at *
  omega

/-- The multiple of the divisor, taken from the window. -/
theorem c_msub {wb : World} {x10 x81 : Value} {R bd : List Nat} {L0 i g : Nat} {KL : Value → World → Prop}
    (hb : IR .u32 wb x81 bd) (db : Dig 4294967296 bd) (ew : Ext wb w) (hL : wb.heap.size ≤ L0) (hr : OD .u32 t_uint32 w L0 x10 R) (dr : Dig 4294967296 R) (hi : i + bd.length < R.length) (hlen : R.length ≤ 1099511627776) (hg : g < 4294967296)
    (H : ∀ be q w', be ≤ 1 → OD .u32 t_uint32 w' L0 x10 q → q.length = R.length → Dig 4294967296 q → w.grownBy w' x10.ownBlock → (∀ j, i + bd.length < j → q.getD j 0 = R.getD j 0) →
      val 4294967296 q + g * val 4294967296 bd * 4294967296 ^ i = val 4294967296 R + be * 4294967296 ^ (i + (bd.length + 1)) → KL (.int .u64 (be : Int)) w') :
    ∃ I112 : Nat → Value → Value → Value → World → Prop, (∃ m188, I112 m188 (.int .u64 0) (.int .u64 0) (.int .i64 0) w) ∧ ∀ (m115 : Nat) (x17_116 : Value) (x18_117 : Value) (x19_118 : Value) (junk113 : Env) (w114 : World), I112 m115 x17_116 x18_117 x19_118 w114 →
                  bin P .leq t_int false false x19_118 (.int .i64 (bd.length : Int)) w114 fun x182_119 =>
                  cnd x182_119
                    (∃ J120 : Value → World → Prop, (∀ (x17_123 : Value) (junk121 : Env) (w122 : World), J120 x17_123 w122 →
                      bin P .add t_int false false (.int .i64 (i : Int)) x19_118 w122 fun x200_124 =>
                      ixa P t_s_uint32 x10 x200_124 w122 fun x201_125 =>
                      ld P t_uint32 x201_125 w122 fun x202_126 =>
                      cnv P t_uint32 t_uint64 x202_126 w122 fun x203_127 =>
                      bin P .and t_uint64 false true x17_123 (.int .u64 4294967295) w122 fun x205_128 =>
                      bin P .sub t_uint64 false false x203_127 x205_128 w122 fun x206_129 =>
                      bin P .sub t_uint64 false false x206_129 x18_117 w122 fun x208_130 =>
                      bin P .add t_int false false (.int .i64 (i : Int)) x19_118 w122 fun x212_131 =>
                      cnv P t_uint64 t_uint32 x208_130 w122 fun x214_132 =>
                      ixa P t_s_uint32 x10 x212_131 w122 fun x215_133 =>
                      sto P t_uint32 x215_133 x214_132 w122 fun w135 =>
                      bin P .shr t_uint64 false true x208_130 (.int .u64 63) w135 fun x217_136 =>
                      bin P .shr t_uint64 false true x17_123 (.int .u64 32) w135 fun x219_137 =>
                      bin P .add t_int false true x19_118 (.int .i64 1) w135 fun x184_138 =>
                      ∃ m139, m139 < m115 ∧ I112 m139 x219_137 x217_136 x184_138 w135) ∧
                      (bin P .lss t_int false false x19_118 (.int .i64 (bd.length : Int)) w114 fun x187_140 =>
                      cnd x187_140
                        (ixa P t_s_uint32 x81 x19_118 w114 fun x192_141 =>
                        ld P t_uint32 x192_141 w114 fun x193_142 =>
                        cnv P t_uint32 t_uint64 x193_142 w114 fun x194_143 =>
                        bin P .mul t_uint64 false false (.int .u64 (g : Int)) x194_143 w114 fun x195_144 =>
                        bin P .add t_uint64 false false x17_116 x195_144 w114 fun x196_145 =>
                        J120 x196_145 w114)
                        (J120 x17_116 w114)))
                    (KL x18_117 w114) := by
  refine ⟨fun m x y z w' => ∃ (k c be : Nat) (q : List Nat), m + k = bd.length + 1 ∧ x = .int .u64 (c : Int) ∧ y = .int .u64 (be : Int) ∧ z = .int .i64 (k : Int) ∧ w.grownBy w' x10.ownBlock ∧ OD .u32 t_uint32 w' L0 x10 q ∧ q.length = R.length ∧ Dig 4294967296 q ∧ c < 4294967296 ∧ be ≤ 1 ∧ (k = bd.length + 1 → c = 0) ∧
    (∀ j, i + k ≤ j → q.getD j 0 = R.getD j 0) ∧ val 4294967296 q + g * val 4294967296 (bd.take k) * 4294967296 ^ i = val 4294967296 R + (c + be) * 4294967296 ^ (i + k),
    ⟨bd.length + 1, 0, 0, 0, R, rfl, rfl, rfl, rfl, World.grownBy.refl _ _, hr, rfl, dr, by decide, by decide, by omega, fun j _ => rfl, by simp [val]⟩, ?_⟩
  rintro m x y z junk w1 ⟨k, c, be, q, hm, rfl, rfl, rfl, g1, oq, hq, dq, hc, hbe, hc0, htop, hv⟩
  rw [bin_leq]
  refine cnd_dec (fun hle => ?_) (fun hgt => ?_)
  · have hk : k ≤ bd.length := by omega
    have hik : i + k < q.length := by omega
    have go := Dig_get dq hik
    have hew : Ext wb w1 := ext_of_grown ew (fun k hk => Nat.le_trans hL (hr.lt k hk).1) g1
    refine ⟨fun x w' => w' = w1 ∧ ∃ t : Nat, x = .int .u64 (t : Int) ∧ t = c + g * bd.getD k 0 ∧ t < 18446744073709551616 ∧ (k = bd.length → t < 4294967296), ?_, ?_⟩
    · rintro x junk w2 ⟨rfl, t, rfl, ht, ht64, htn⟩
      rw [bin_addI (by omega)]
      refine oq.IR.at hik u_s_uint32 i_uint32 u_uint32 ?_
      rw [cnv_32_64' go, bin_andN (b := 4294967295) (by rw [show IntKind.u64.bits = 64 from rfl]; exact ht64) (by decide) rfl]
      have hand : t &&& 4294967295 = t % 4294967296 := Nat.and_two_pow_sub_one_eq_mod _ 32
      have hl := Nat.mod_lt t (show 0 < 4294967296 by decide)
      rw [hand, bin_subN (by omega) (by omega), bin_subN (Nat.mod_lt _ (by decide)) (by omega), bin_addI (by omega), cnv_64_32]
      obtain ⟨k1, k2⟩ := key_sub (o := q[i + k]) (t := t) go hbe
      refine OD.set oq hik u_s_uint32 i_uint32 fun w3 oq' hg3 => ?_
      rw [bin_shrN (s := 63) (by decide), bin_shrN (s := 32) (by decide), bin_addI1 (b := 1) (by omega)]
      rw [show (2 : Nat) ^ 63 = 9223372036854775808 from by decide, show (2 : Nat) ^ 32 = 4294967296 from by decide]
      generalize ((q[i + k] + 18446744073709551616 - t % 4294967296) % 18446744073709551616 + 18446744073709551616 - be) % 18446744073709551616 = now at *
      refine ⟨m - 1, by omega, k + 1, t / 4294967296, now / 9223372036854775808, _, by omega, rfl, rfl, rfl, grown_trans g1 hg3, oq', by simpa using hq, Dig_set dq (Nat.mod_lt _ (by decide)), ?_, k2, fun hk1 => ?_, fun j hj => ?_, ?_⟩
      · omega
      · have := htn (by omega)
        exact Nat.div_eq_of_lt this
      · rw [getD_set hik, if_neg (by omega)]; exact htop j (by omega)
      · rw [val_take_succD, show (4294967296 : Nat) ^ (i + (k + 1)) = 4294967296 ^ (i + k) * 4294967296 from pB (i + k)]
        exact msub_step (Nat.pow_add ..) hv ht k1 (val_set_all _ hik)
    · rw [bin_lss]
      refine cnd_dec (fun h => ?_) (fun h => ?_)
      · have hk2 : k < bd.length := by omega
        refine (hb.ext hew).at hk2 u_s_uint32 i_uint32 u_uint32 ?_
        have gb := Dig_get db hk2
        have hw := mul_word hg gb
        rw [cnv_32_64' gb, bin_mulN (by omega), bin_addN (by omega)]
        exact ⟨rfl, _, rfl, by rw [getD_get hk2], by omega, fun hk3 => by omega⟩
      · have h0 : bd.getD k 0 = 0 := by rw [List.getD_eq_getElem?_getD]; simp [show bd.length ≤ k by omega]
        exact ⟨rfl, c, rfl, by rw [h0, Nat.mul_zero, Nat.add_zero], by omega, fun _ => hc⟩
  · have hk : k = bd.length + 1 := by omega
    have c0 := hc0 hk
    subst hk c0
    rw [List.take_of_length_le (Nat.le_succ _), Nat.zero_add] at hv
    exact H be q w1 hbe oq hq dq g1 (fun j hj => htop j (by omega)) hv

/-- The divisor, added back. -/
theorem c_madd {wb : World} {x10 x81 : Value} {R bd : List Nat} {L0 i : Nat} {KL : World → Prop}
    (hb : IR .u32 wb x81 bd) (db : Dig 4294967296 bd) (ew : Ext wb w) (hL : wb.heap.size ≤ L0) (hr : OD .u32 t_uint32 w L0 x10 R) (dr : Dig 4294967296 R) (hi : i + bd.length < R.length) (hlen : R.length ≤ 1099511627776)
    (H : ∀ m q w', OD .u32 t_uint32 w' L0 x10 q → q.length = R.length → Dig 4294967296 q → w.grownBy w' x10.ownBlock → (∀ j, i + bd.length < j → q.getD j 0 = R.getD j 0) →
      val 4294967296 q + m * 4294967296 ^ (i + (bd.length + 1)) = val 4294967296 R + val 4294967296 bd * 4294967296 ^ i → KL w') :
    ∃ I158 : Nat → Value → Value → World → Prop, (∃ m187, I158 m187 (.int .u64 0) (.int .i64 0) w) ∧ ∀ (m161 : Nat) (x21_162 : Value) (x22_163 : Value) (junk159 : Env) (w160 : World), I158 m161 x21_162 x22_163 w160 →
                          bin P .leq t_int false false x22_163 (.int .i64 (bd.length : Int)) w160 fun x226_164 =>
                          cnd x226_164
                            (bin P .add t_int false false (.int .i64 (i : Int)) x22_163 w160 fun x233_165 =>
                            ixa P t_s_uint32 x10 x233_165 w160 fun x234_166 =>
                            ld P t_uint32 x234_166 w160 fun x235_167 =>
                            cnv P t_uint32 t_uint64 x235_167 w160 fun x236_168 =>
                            bin P .add t_uint64 false false x21_162 x236_168 w160 fun x237_169 =>
                            ∃ J170 : Value → World → Prop, (∀ (x21_173 : Value) (junk171 : Env) (w172 : World), J170 x21_173 w172 →
                              bin P .add t_int false false (.int .i64 (i : Int)) x22_163 w172 fun x251_174 =>
                              cnv P t_uint64 t_uint32 x21_173 w172 fun x253_175 =>
                              ixa P t_s_uint32 x10 x251_174 w172 fun x254_176 =>
                              sto P t_uint32 x254_176 x253_175 w172 fun w178 =>
                              bin P .shr t_uint64 false true x21_173 (.int .u64 32) w178 fun x256_179 =>
                              bin P .add t_int false true x22_163 (.int .i64 1) w178 fun x228_180 =>
                              ∃ m181, m181 < m161 ∧ I158 m181 x256_179 x228_180 w178) ∧
                              (bin P .lss t_int false false x22_163 (.int .i64 (bd.length : Int)) w160 fun x240_182 =>
                              cnd x240_182
                                (ixa P t_s_uint32 x81 x22_163 w160 fun x244_183 =>
                                ld P t_uint32 x244_183 w160 fun x245_184 =>
                                cnv P t_uint32 t_uint64 x245_184 w160 fun x246_185 =>
                                bin P .add t_uint64 false false x237_169 x246_185 w160 fun x247_186 =>
                                J170 x247_186 w160)
                                (J170 x237_169 w160)))
                            (KL w160) := by
  refine ⟨fun m x z w' => ∃ (k c : Nat) (q : List Nat), m + k = bd.length + 1 ∧ x = .int .u64 (c : Int) ∧ z = .int .i64 (k : Int) ∧ w.grownBy w' x10.ownBlock ∧ OD .u32 t_uint32 w' L0 x10 q ∧ q.length = R.length ∧ Dig 4294967296 q ∧ c ≤ 1 ∧
    (∀ j, i + k ≤ j → q.getD j 0 = R.getD j 0) ∧ val 4294967296 q + c * 4294967296 ^ (i + k) = val 4294967296 R + val 4294967296 (bd.take k) * 4294967296 ^ i,
    ⟨bd.length + 1, 0, 0, R, rfl, rfl, rfl, World.grownBy.refl _ _, hr, rfl, dr, by decide, fun j _ => rfl, by simp [val]⟩, ?_⟩
  rintro m x z junk w1 ⟨k, c, q, hm, rfl, rfl, g1, oq, hq, dq, hc, htop, hv⟩
  rw [bin_leq]
  refine cnd_dec (fun hle => ?_) (fun hgt => ?_)
  · have hk : k ≤ bd.length := by omega
    have hik : i + k < q.length := by omega
    have go := Dig_get dq hik
    have hew : Ext wb w1 := ext_of_grown ew (fun k hk => Nat.le_trans hL (hr.lt k hk).1) g1
    rw [bin_addI (by omega)]
    refine oq.IR.at hik u_s_uint32 i_uint32 u_uint32 ?_
    rw [cnv_32_64' go, bin_addN (by omega)]
    refine ⟨fun x w' => w' = w1 ∧ ∃ s : Nat, x = .int .u64 (s : Int) ∧ s = c + q[i + k] + bd.getD k 0 ∧ bd.getD k 0 < 4294967296, ?_, ?_⟩
    · rintro x junk w2 ⟨rfl, s, rfl, hs, hy⟩
      rw [bin_addI (by omega), cnv_64_32]
      refine OD.set oq hik u_s_uint32 i_uint32 fun w3 oq' hg3 => ?_
      rw [bin_shrN (s := 32) (by decide), bin_addI1 (b := 1) (by omega), show (2 : Nat) ^ 32 = 4294967296 from by decide]
      refine ⟨m - 1, by omega, k + 1, s / 4294967296, _, by omega, rfl, rfl, grown_trans g1 hg3, oq', by simpa using hq, Dig_set dq (Nat.mod_lt _ (by decide)), by omega, fun j hj => ?_, ?_⟩
      · rw [getD_set hik, if_neg (by omega)]; exact htop j (by omega)
      · rw [val_take_succD, show (4294967296 : Nat) ^ (i + (k + 1)) = 4294967296 ^ (i + k) * 4294967296 from pB (i + k)]
        exact madd_step (Nat.pow_add ..) hv hs (val_set_all _ hik)
    · rw [bin_lss]
      refine cnd_dec (fun h => ?_) (fun h => ?_)
      · have hk2 : k < bd.length := by omega
        refine (hb.ext hew).at hk2 u_s_uint32 i_uint32 u_uint32 ?_
        have gb := Dig_get db hk2
        rw [cnv_32_64' gb, bin_addN (by omega)]
        exact ⟨rfl, _, rfl, by rw [getD_get hk2], by rw [getD_get hk2]; exact gb⟩
      · have h0 : bd.getD k 0 = 0 := by rw [List.getD_eq_getElem?_getD]; simp [show bd.length ≤ k by omega]
        exact ⟨rfl, _, rfl, by rw [h0, Nat.add_zero], by rw [h0]; decide⟩
  · have hk : k = bd.length + 1 := by omega
    subst hk
    rw [List.take_of_length_le (Nat.le_succ _)] at hv
    exact H c q w1 oq hq dq g1 (fun j hj => htop j (by omega)) hv
end Go.Proofs.Ytabgkpfcpncmhaa

/- Contracts: quotients of magnitudes: the guess of a digit. -/
set_option linter.unusedVariables false
set_option linter.unusedSimpArgs false
namespace Go.Proofs.Ytabgkpfcpncmhaa
open Go Go.Vc

variable {w : World} {K : Value → World → Prop}

theorem or_word {a x : Nat} (hx : x < 4294967296) (ha : a < 4294967296) : a * 4294967296 ||| x = a * 4294967296 + x := by
  have := Nat.two_pow_add_eq_or_of_lt (b := x) (i := 32) hx a
  rw [show (2 : Nat) ^ 32 = 4294967296 from by decide] at this
  rw [Nat.mul_comm, ← this]
theorem bin_shl32 {t : TypeId} {cx cy : Bool} {a : Nat} {K : Value → Prop} (ha : a < 4294967296) : bin P .shl t cx cy (.int .u64 (a : Int)) (.int .u64 32) w K = K (.int .u64 ((a * 4294967296 : Nat) : Int)) := by
  have h := bin_shlN (w := w) (t := t) (cx := cx) (cy := cy) (k := .u64) (yk := .u64) (a := a) (s := 32) (K := K) (by decide) (by rw [max_u64, show (2 : Nat) ^ 32 = 4294967296 from by decide]; omega)
  rw [show (2 : Nat) ^ 32 = 4294967296 from by decide] at h
  exact h
theorem word_lt {a x : Nat} (hx : x < 4294967296) (ha : a < 4294967296) : a * 4294967296 < 18446744073709551616 ∧ a * 4294967296 + x < 18446744073709551616 := by omega

set_option maxRecDepth 20000 in
theorem c_guess {x10 x81 : Value} {R bd : List Nat} {n0 i : Nat} {JK : Value → World → Prop} {Pw V vl U ul : Nat}
    (hr : IR .u32 w x10 R) (dr : Dig 4294967296 R) (hb : IR .u32 w x81 bd) (db : Dig 4294967296 bd) (hn : bd.length = n0 + 2) (hi : i + bd.length < R.length) (hlen : R.length ≤ 1099511627776)
    (hG : Gs 4294967296 Pw V (bd.getD (n0 + 1) 0) (bd.getD n0 0) vl U (R.getD (i + (n0 + 2)) 0 * 4294967296 + R.getD (i + (n0 + 1)) 0) (R.getD (i + n0) 0) ul)
    (H : ∀ g, U / V ≤ g → g ≤ U / V + 1 → g < 4294967296 → JK (.int .u64 (g : Int)) w) :
    ∃ I189 : Nat → Value → Value → World → Prop, (∃ m224, I189 m224 (.int .u64 (((R.getD (i + (n0 + 2)) 0 * 4294967296 + R.getD (i + (n0 + 1)) 0) / bd.getD (n0 + 1) 0 : Nat) : Int)) (.int .u64 (((R.getD (i + (n0 + 2)) 0 * 4294967296 + R.getD (i + (n0 + 1)) 0) % bd.getD (n0 + 1) 0 : Nat) : Int)) w) ∧ ∀ (m192 : Nat) (x15_193 : Value) (x16_194 : Value) (junk190 : Env) (w191 : World), I189 m192 x15_193 x16_194 w191 →
                  bin P .shr t_uint64 false true x15_193 (.int .u64 32) w191 fun x143_195 =>
                  bin P .gtr t_uint64 false true x143_195 (.int .u64 0) w191 fun x144_196 =>
                  ∃ J197 : Value → World → Prop, (∀ (x165_198 : Value) (junk200 : Env) (w199 : World), J197 x165_198 w199 →
                    pick x144_196 (.bool true) x165_198 fun x166_201 =>
                    cnd x166_201
                      (bin P .sub t_uint64 false true x15_193 (.int .u64 1) w199 fun x168_202 =>
                      bin P .sub t_int false true (.int .i64 (bd.length : Int)) (.int .i64 1) w199 fun x172_203 =>
                      ixa P t_s_uint32 x81 x172_203 w199 fun x173_204 =>
                      ld P t_uint32 x173_204 w199 fun x174_205 =>
                      cnv P t_uint32 t_uint64 x174_205 w199 fun x175_206 =>
                      bin P .add t_uint64 false false x16_194 x175_206 w199 fun x176_207 =>
                      bin P .shr t_uint64 false true x176_207 (.int .u64 32) w199 fun x178_208 =>
                      bin P .gtr t_uint64 false true x178_208 (.int .u64 0) w199 fun x179_209 =>
                      cnd x179_209
                        (JK x168_202 w199)
                        (∃ m210, m210 < m192 ∧ I189 m210 x168_202 x176_207 w199))
                      (JK x15_193 w199)) ∧
                    grd x144_196 false
                      (bin P .sub t_int false true (.int .i64 (bd.length : Int)) (.int .i64 2) w191 fun x149_211 =>
                      ixa P t_s_uint32 x81 x149_211 w191 fun x150_212 =>
                      ld P t_uint32 x150_212 w191 fun x151_213 =>
                      cnv P t_uint32 t_uint64 x151_213 w191 fun x152_214 =>
                      bin P .mul t_uint64 false false x15_193 x152_214 w191 fun x153_215 =>
                      bin P .shl t_uint64 false true x16_194 (.int .u64 32) w191 fun x155_216 =>
                      bin P .add t_int false false (.int .i64 (i : Int)) (.int .i64 (bd.length : Int)) w191 fun x159_217 =>
                      bin P .sub t_int false true x159_217 (.int .i64 2) w191 fun x160_218 =>
                      ixa P t_s_uint32 x10 x160_218 w191 fun x161_219 =>
                      ld P t_uint32 x161_219 w191 fun x162_220 =>
                      cnv P t_uint32 t_uint64 x162_220 w191 fun x163_221 =>
                      bin P .or t_uint64 false false x155_216 x163_221 w191 fun x164_222 =>
                      bin P .gtr t_uint64 false false x153_215 x164_222 w191 fun x165_223 =>
                      J197 x165_223 w191)
                      (J197 undef w191) := by
  have b1 : n0 + 1 < bd.length := by omega
  have b0 : n0 < bd.length := by omega
  have r0 : i + n0 < R.length := by omega
  have dv1 := Dig_get db b1
  have dv0 := Dig_get db b0
  have dr0 := Dig_get dr r0
  rw [getD_get b1, getD_get b0, getD_get r0] at hG
  rw [getD_get b1]
  have e63 : (2 : Nat) ^ 32 = 4294967296 := by decide
  generalize hhead : R.getD (i + (n0 + 2)) 0 * 4294967296 + R.getD (i + (n0 + 1)) 0 = head at *
  have hv1 := hG.v1p
  have hq := hG.q_lt
  have hheadlt : head < 18446744073709551616 := by
    rw [← hhead, getD_get (show i + (n0 + 2) < R.length by omega), getD_get (show i + (n0 + 1) < R.length by omega)]
    have h1 := Dig_get dr (show i + (n0 + 2) < R.length by omega)
    have h2 := Dig_get dr (show i + (n0 + 1) < R.length by omega)
    exact (word_lt h2 h1).2
  refine ⟨fun m x y w' => w' = w ∧ ∃ g l : Nat, g = m ∧ x = .int .u64 (g : Int) ∧ y = .int .u64 (l : Int) ∧ U / V ≤ g ∧ l + g * bd[n0 + 1] = head ∧ l < 4294967296 ∧ g < 18446744073709551616,
    ⟨head / bd[n0 + 1], rfl, _, _, rfl, rfl, rfl, hG.start, ?_, Nat.lt_trans (Nat.mod_lt _ hv1) dv1, Nat.lt_of_le_of_lt (Nat.div_le_self _ _) hheadlt⟩, ?_⟩
  · have := Nat.div_add_mod head bd[n0 + 1]
    rw [Nat.mul_comm] at this
    omega
  rintro m x y junk w1 ⟨rfl, g, l, rfl, rfl, rfl, hqg, hl, hl32, hg64⟩
  rw [bin_shrN (s := 32) (by decide), e63, bin_gtr]
  have body : (4294967296 ≤ g ∨ l * 4294967296 + R[i + n0] < g * bd[n0]) →
      bin P .sub t_uint64 false true (.int .u64 (g : Int)) (.int .u64 1) w1 fun x168_202 =>
                      bin P .sub t_int false true (.int .i64 (bd.length : Int)) (.int .i64 1) w1 fun x172_203 =>
                      ixa P t_s_uint32 x81 x172_203 w1 fun x173_204 =>
                      ld P t_uint32 x173_204 w1 fun x174_205 =>
                      cnv P t_uint32 t_uint64 x174_205 w1 fun x175_206 =>
                      bin P .add t_uint64 false false (.int .u64 (l : Int)) x175_206 w1 fun x176_207 =>
                      bin P .shr t_uint64 false true x176_207 (.int .u64 32) w1 fun x178_208 =>
                      bin P .gtr t_uint64 false true x178_208 (.int .u64 0) w1 fun x179_209 =>
                      cnd x179_209
                        (JK x168_202 w1)
                        (∃ m210, m210 < g ∧ (w1 = w1 ∧ ∃ g' l' : Nat, g' = m210 ∧ x168_202 = .int .u64 (g' : Int) ∧ x176_207 = .int .u64 (l' : Int) ∧ U / V ≤ g' ∧ l' + g' * bd[n0 + 1] = head ∧ l' < 4294967296 ∧ g' < 18446744073709551616)) := by
    intro ht
    have hg1 : 1 ≤ g := by
      rcases ht with h | h
      · omega
      · refine Nat.pos_of_ne_zero fun hc => ?_
        subst hc; omega
    obtain ⟨g', rfl⟩ : ∃ g', g = g' + 1 := ⟨g - 1, by omega⟩
    have hdown := hG.down hqg hl ht
    rw [show g' + 1 - 1 = g' by omega] at hdown
    have e1 : ∀ KK : Value → Prop, bin P .sub t_uint64 false true (.int .u64 ((g' + 1 : Nat) : Int)) (.int .u64 1) w1 KK = KK (.int .u64 (g' : Int)) := fun KK => by
      rw [bin_sub, show ((g' + 1 : Nat) : Int) - 1 = (g' : Int) by omega, wrap_nat (by rw [max_u64]; omega)]
    rw [e1, bin_sub, wrap_i64 (by omega) (by omega), show (bd.length : Int) - 1 = ((n0 + 1 : Nat) : Int) by omega]
    refine hb.at b1 u_s_uint32 i_uint32 u_uint32 ?_
    rw [cnv_32_64' dv1, bin_addN (by omega), bin_shrN (s := 32) (by decide), e63, bin_gtr]
    have hl' : l + bd[n0 + 1] + g' * bd[n0 + 1] = head := by rw [← hl, Nat.succ_mul]; omega
    refine cnd_dec (fun hov => ?_) (fun hno => ?_)
    · have hB : 4294967296 ≤ l + bd[n0 + 1] := by omega
      have hp := hG.past hl' hB
      exact H g' hdown (by omega) (by omega)
    · exact ⟨g', by omega, rfl, g', l + bd[n0 + 1], rfl, rfl, rfl, hdown, hl', by omega, by omega⟩
  by_cases hgB : 4294967296 ≤ g
  · have d1 : decide ((0 : Int) < ((g / 4294967296 : Nat) : Int)) = true := decide_eq_true (by omega)
    rw [d1]
    refine ⟨_, fun _ _ _ h => h, ?_⟩
    rw [grd_true_false]
    dsimp only
    rw [pick_bool, cond_true, cnd_true]
    exact body (.inl hgB)
  · have d1 : decide ((0 : Int) < ((g / 4294967296 : Nat) : Int)) = false := decide_eq_false (by omega)
    have hg32 : g < 4294967296 := by omega
    rw [d1]
    refine ⟨_, fun _ _ _ h => h, ?_⟩
    rw [grd_false_false, bin_sub, wrap_i64 (by omega) (by omega), show (bd.length : Int) - 2 = (n0 : Int) by omega]
    refine hb.at b0 u_s_uint32 i_uint32 u_uint32 ?_
    have hw := mul_word hg32 dv0
    rw [cnv_32_64' dv0, bin_mulN (by omega), bin_shl32 hl32, bin_addI (by omega), bin_sub, wrap_i64 (by omega) (by omega), show ((i + bd.length : Nat) : Int) - 2 = ((i + n0 : Nat) : Int) by omega]
    refine hr.at r0 u_s_uint32 i_uint32 u_uint32 ?_
    obtain ⟨o1, o2⟩ := word_lt dr0 hl32
    rw [cnv_32_64' dr0, bin_orN (by rw [show IntKind.u64.bits = 64 from rfl]; exact o1) (Nat.lt_trans dr0 (by decide)) rfl, or_word dr0 hl32, bin_gtr]
    dsimp only
    rw [pick_bool, cond_false]
    refine cnd_dec (fun hgt => ?_) (fun hle => ?_)
    · exact body (.inr (Int.ofNat_lt.1 hgt))
    · exact H g hqg (hG.near hl hg32 (Nat.not_lt.1 fun h => hle (Int.ofNat_lt.2 h))) hg32
end Go.Proofs.Ytabgkpfcpncmhaa

/- Contracts: quotients of magnitudes: a digit. -/
set_option linter.unusedVariables false
set_option linter.unusedSimpArgs false
namespace Go.Proofs.Ytabgkpfcpncmhaa
open Go Go.Vc

variable {w : World} {K : Value → World → Prop}

theorem zero_of_lt {b k : Nat} {l : List Nat} (hb : 0 < b) (h : val b l < b ^ k) {j : Nat} (hj : k ≤ j) : l.getD j 0 = 0 := by
  by_cases hl : j < l.length
  · have hs := val_split b l (i := k) (by omega)
    have hz : val b (l.drop k) = 0 := by
      rcases Nat.eq_zero_or_pos (val b (l.drop k)) with h0 | h0
      · exact h0
      · have := Nat.mul_le_mul_left (b ^ k) h0
        omega
    have hs2 := val_split b (l.drop k) (i := j - k) (by simp; omega)
    rw [hz] at hs2
    have h3 : b ^ (j - k) * val b ((l.drop k).drop (j - k)) = 0 := by omega
    have h4 : val b ((l.drop k).drop (j - k)) = 0 := by
      rcases Nat.mul_eq_zero.1 h3 with h | h
      · have := Nat.pow_pos (n := j - k) hb; omega
      · exact h
    rw [List.drop_drop, show k + (j - k) = j by omega, List.drop_eq_getElem_cons hl] at h4
    simp only [val] at h4
    rw [getD_get hl]
    omega
  · rw [List.getD_eq_getElem?_getD]; simp [show l.length ≤ j by omega]
theorem lt_of_zero {b k : Nat} {l : List Nat} (hd : Dig b l) (h : ∀ j, k ≤ j → l.getD j 0 = 0) (hk : k ≤ l.length) : val b l < b ^ k := by
  have hz : val b (l.drop k) = 0 := by
    refine val_zero fun d hd => ?_
    obtain ⟨j, hj, rfl⟩ := List.mem_iff_getElem.1 hd
    have := h (k + j) (by omega)
    have hlt : k + j < l.length := by simp at hj; omega
    rw [getD_get hlt] at this
    rw [List.getElem_drop]; exact this
  rw [val_split b l hk, hz, Nat.mul_zero, Nat.add_zero]
  have := val_lt (Dig.take hd k)
  rw [List.length_take, Nat.min_eq_left hk] at this
  exact this
theorem owns_apart {w' : World} {base : Nat} {e : TypeId} {s n : Nat} {v : Value} {xs : List Value} {row : Option Nat} (h : w.ownsRow base e s v n xs) (hg : w.grownBy w' row) (hne : ∀ k, v.ownBlock = some k → row ≠ some k) : w'.ownsRow base e s v n xs := by
  refine ⟨h.1, ?_⟩
  rcases h.2 with h0 | ⟨g, cap, cur, rfl, hb, hgc, hr⟩
  · exact .inl h0
  · refine .inr ⟨g, cap, cur, rfl, hb, ?_, hr⟩
    have hlt : g < w.heap.size := by
      rcases Nat.lt_or_ge g w.heap.size with h | h
      · exact h
      · rw [Array.getElem?_eq_none h] at hgc; cases hgc
    rw [hg.block g hlt (fun e => hne g rfl e.symm)]; exact hgc

set_option maxRecDepth 20000 in
theorem c_digit {wb : World} {x10 x81 x101 : Value} {R bd Q : List Nat} {L0 H0 i n0 : Nat} {KN : World → Prop}
    (hb : IR .u32 wb x81 bd) (db : Dig 4294967296 bd) (ew : Ext wb w) (hL : wb.heap.size ≤ L0) (hr : OD .u32 t_uint32 w L0 x10 R) (htop : ∀ k, x10.ownBlock = some k → k < H0) (dr : Dig 4294967296 R)
    (ho : OD .u32 t_uint32 w H0 x101 Q) (hLH : L0 ≤ H0) (hn : bd.length = n0 + 2) (hv1 : 0 < bd.getD (n0 + 1) 0) (hi : i + bd.length < R.length) (hiQ : i < Q.length) (hlen : R.length ≤ 1099511627776) (hX : val 4294967296 R < val 4294967296 bd * 4294967296 ^ (i + 1))
    (H : ∀ R' q w', OD .u32 t_uint32 w' L0 x10 R' → R'.length = R.length → Dig 4294967296 R' → val 4294967296 R' + q * (val 4294967296 bd * 4294967296 ^ i) = val 4294967296 R → val 4294967296 R' < val 4294967296 bd * 4294967296 ^ i →
      OD .u32 t_uint32 w' H0 x101 (Q.set i q) → q < 4294967296 → Ext wb w' → KN w') :
              bin P .add t_int false false (.int .i64 (i : Int)) (.int .i64 (bd.length : Int)) w fun x112_87 =>
              ixa P t_s_uint32 x10 x112_87 w fun x113_88 =>
              ld P t_uint32 x113_88 w fun x114_89 =>
              cnv P t_uint32 t_uint64 x114_89 w fun x115_90 =>
              bin P .shl t_uint64 false true x115_90 (.int .u64 32) w fun x116_91 =>
              bin P .add t_int false false (.int .i64 (i : Int)) (.int .i64 (bd.length : Int)) w fun x120_92 =>
              bin P .sub t_int false true x120_92 (.int .i64 1) w fun x121_93 =>
              ixa P t_s_uint32 x10 x121_93 w fun x122_94 =>
              ld P t_uint32 x122_94 w fun x123_95 =>
              cnv P t_uint32 t_uint64 x123_95 w fun x124_96 =>
              bin P .or t_uint64 false false x116_91 x124_96 w fun x125_97 =>
              bin P .sub t_int false true (.int .i64 (bd.length : Int)) (.int .i64 1) w fun x129_98 =>
              ixa P t_s_uint32 x81 x129_98 w fun x130_99 =>
              ld P t_uint32 x130_99 w fun x131_100 =>
              cnv P t_uint32 t_uint64 x131_100 w fun x132_101 =>
              bin P .quo t_uint64 false false x125_97 x132_101 w fun x133_102 =>
              bin P .sub t_int false true (.int .i64 (bd.length : Int)) (.int .i64 1) w fun x137_103 =>
              ixa P t_s_uint32 x81 x137_103 w fun x138_104 =>
              ld P t_uint32 x138_104 w fun x139_105 =>
              cnv P t_uint32 t_uint64 x139_105 w fun x140_106 =>
              bin P .rem t_uint64 false false x125_97 x140_106 w fun x141_107 =>
              ∃ J108 : Value → World → Prop, (∀ (x15_111 : Value) (junk109 : Env) (w110 : World), J108 x15_111 w110 →
                ∃ I112 : Nat → Value → Value → Value → World → Prop, (∃ m188, I112 m188 (.int .u64 0) (.int .u64 0) (.int .i64 0) w110) ∧ ∀ (m115 : Nat) (x17_116 : Value) (x18_117 : Value) (x19_118 : Value) (junk113 : Env) (w114 : World), I112 m115 x17_116 x18_117 x19_118 w114 →
                  bin P .leq t_int false false x19_118 (.int .i64 (bd.length : Int)) w114 fun x182_119 =>
                  cnd x182_119
                    (∃ J120 : Value → World → Prop, (∀ (x17_123 : Value) (junk121 : Env) (w122 : World), J120 x17_123 w122 →
                      bin P .add t_int false false (.int .i64 (i : Int)) x19_118 w122 fun x200_124 =>
                      ixa P t_s_uint32 x10 x200_124 w122 fun x201_125 =>
                      ld P t_uint32 x201_125 w122 fun x202_126 =>
                      cnv P t_uint32 t_uint64 x202_126 w122 fun x203_127 =>
                      bin P .and t_uint64 false true x17_123 (.int .u64 4294967295) w122 fun x205_128 =>
                      bin P .sub t_uint64 false false x203_127 x205_128 w122 fun x206_129 =>
                      bin P .sub t_uint64 false false x206_129 x18_117 w122 fun x208_130 =>
                      bin P .add t_int false false (.int .i64 (i : Int)) x19_118 w122 fun x212_131 =>
                      cnv P t_uint64 t_uint32 x208_130 w122 fun x214_132 =>
                      ixa P t_s_uint32 x10 x212_131 w122 fun x215_133 =>
                      sto P t_uint32 x215_133 x214_132 w122 fun w135 =>
                      bin P .shr t_uint64 false true x208_130 (.int .u64 63) w135 fun x217_136 =>
                      bin P .shr t_uint64 false true x17_123 (.int .u64 32) w135 fun x219_137 =>
                      bin P .add t_int false true x19_118 (.int .i64 1) w135 fun x184_138 =>
                      ∃ m139, m139 < m115 ∧ I112 m139 x219_137 x217_136 x184_138 w135) ∧
                      (bin P .lss t_int false false x19_118 (.int .i64 (bd.length : Int)) w114 fun x187_140 =>
                      cnd x187_140
                        (ixa P t_s_uint32 x81 x19_118 w114 fun x192_141 =>
                        ld P t_uint32 x192_141 w114 fun x193_142 =>
                        cnv P t_uint32 t_uint64 x193_142 w114 fun x194_143 =>
                        bin P .mul t_uint64 false false x15_111 x194_143 w114 fun x195_144 =>
                        bin P .add t_uint64 false false x17_116 x195_144 w114 fun x196_145 =>
                        J120 x196_145 w114)
                        (J120 x17_116 w114)))
                    (∃ J146 : Value → World → Prop, (∀ (x15_149 : Value) (junk147 : Env) (w148 : World), J146 x15_149 w148 →
                      cnv P t_uint64 t_uint32 x15_149 w148 fun x260_150 =>
                      ixa P t_s_uint32 x101 (.int .i64 (i : Int)) w148 fun x261_151 =>
                      sto P t_uint32 x261_151 x260_150 w148 fun w153 => KN w153) ∧
                      (bin P .gtr t_uint64 false true x18_117 (.int .u64 0) w114 fun x221_156 =>
                      cnd x221_156
                        (bin P .sub t_uint64 false true x15_111 (.int .u64 1) w114 fun x223_157 =>
                        ∃ I158 : Nat → Value → Value → World → Prop, (∃ m187, I158 m187 (.int .u64 0) (.int .i64 0) w114) ∧ ∀ (m161 : Nat) (x21_162 : Value) (x22_163 : Value) (junk159 : Env) (w160 : World), I158 m161 x21_162 x22_163 w160 →
                          bin P .leq t_int false false x22_163 (.int .i64 (bd.length : Int)) w160 fun x226_164 =>
                          cnd x226_164
                            (bin P .add t_int false false (.int .i64 (i : Int)) x22_163 w160 fun x233_165 =>
                            ixa P t_s_uint32 x10 x233_165 w160 fun x234_166 =>
                            ld P t_uint32 x234_166 w160 fun x235_167 =>
                            cnv P t_uint32 t_uint64 x235_167 w160 fun x236_168 =>
                            bin P .add t_uint64 false false x21_162 x236_168 w160 fun x237_169 =>
                            ∃ J170 : Value → World → Prop, (∀ (x21_173 : Value) (junk171 : Env) (w172 : World), J170 x21_173 w172 →
                              bin P .add t_int false false (.int .i64 (i : Int)) x22_163 w172 fun x251_174 =>
                              cnv P t_uint64 t_uint32 x21_173 w172 fun x253_175 =>
                              ixa P t_s_uint32 x10 x251_174 w172 fun x254_176 =>
                              sto P t_uint32 x254_176 x253_175 w172 fun w178 =>
                              bin P .shr t_uint64 false true x21_173 (.int .u64 32) w178 fun x256_179 =>
                              bin P .add t_int false true x22_163 (.int .i64 1) w178 fun x228_180 =>
                              ∃ m181, m181 < m161 ∧ I158 m181 x256_179 x228_180 w178) ∧
                              (bin P .lss t_int false false x22_163 (.int .i64 (bd.length : Int)) w160 fun x240_182 =>
                              cnd x240_182
                                (ixa P t_s_uint32 x81 x22_163 w160 fun x244_183 =>
                                ld P t_uint32 x244_183 w160 fun x245_184 =>
                                cnv P t_uint32 t_uint64 x245_184 w160 fun x246_185 =>
                                bin P .add t_uint64 false false x237_169 x246_185 w160 fun x247_186 =>
                                J170 x247_186 w160)
                                (J170 x237_169 w160)))
                            (J146 x223_157 w160))
                        (J146 x15_111 w114)))) ∧
                (∃ I189 : Nat → Value → Value → World → Prop, (∃ m224, I189 m224 x133_102 x141_107 w) ∧ ∀ (m192 : Nat) (x15_193 : Value) (x16_194 : Value) (junk190 : Env) (w191 : World), I189 m192 x15_193 x16_194 w191 →
                  bin P .shr t_uint64 false true x15_193 (.int .u64 32) w191 fun x143_195 =>
                  bin P .gtr t_uint64 false true x143_195 (.int .u64 0) w191 fun x144_196 =>
                  ∃ J197 : Value → World → Prop, (∀ (x165_198 : Value) (junk200 : Env) (w199 : World), J197 x165_198 w199 →
                    pick x144_196 (.bool true) x165_198 fun x166_201 =>
                    cnd x166_201
                      (bin P .sub t_uint64 false true x15_193 (.int .u64 1) w199 fun x168_202 =>
                      bin P .sub t_int false true (.int .i64 (bd.length : Int)) (.int .i64 1) w199 fun x172_203 =>
                      ixa P t_s_uint32 x81 x172_203 w199 fun x173_204 =>
                      ld P t_uint32 x173_204 w199 fun x174_205 =>
                      cnv P t_uint32 t_uint64 x174_205 w199 fun x175_206 =>
                      bin P .add t_uint64 false false x16_194 x175_206 w199 fun x176_207 =>
                      bin P .shr t_uint64 false true x176_207 (.int .u64 32) w199 fun x178_208 =>
                      bin P .gtr t_uint64 false true x178_208 (.int .u64 0) w199 fun x179_209 =>
                      cnd x179_209
                        (J108 x168_202 w199)
                        (∃ m210, m210 < m192 ∧ I189 m210 x168_202 x176_207 w199))
                      (J108 x15_193 w199)) ∧
                    grd x144_196 false
                      (bin P .sub t_int false true (.int .i64 (bd.length : Int)) (.int .i64 2) w191 fun x149_211 =>
                      ixa P t_s_uint32 x81 x149_211 w191 fun x150_212 =>
                      ld P t_uint32 x150_212 w191 fun x151_213 =>
                      cnv P t_uint32 t_uint64 x151_213 w191 fun x152_214 =>
                      bin P .mul t_uint64 false false x15_193 x152_214 w191 fun x153_215 =>
                      bin P .shl t_uint64 false true x16_194 (.int .u64 32) w191 fun x155_216 =>
                      bin P .add t_int false false (.int .i64 (i : Int)) (.int .i64 (bd.length : Int)) w191 fun x159_217 =>
                      bin P .sub t_int false true x159_217 (.int .i64 2) w191 fun x160_218 =>
                      ixa P t_s_uint32 x10 x160_218 w191 fun x161_219 =>
                      ld P t_uint32 x161_219 w191 fun x162_220 =>
                      cnv P t_uint32 t_uint64 x162_220 w191 fun x163_221 =>
                      bin P .or t_uint64 false false x155_216 x163_221 w191 fun x164_222 =>
                      bin P .gtr t_uint64 false false x153_215 x164_222 w191 fun x165_223 =>
                      J197 x165_223 w191)
                      (J197 undef w191)) := by
  have hbw := hb.ext ew
  have hrI : IR .u32 w x10 R := hr.IR
  have rn : i + (n0 + 2) < R.length := by omega
  have rn1 : i + (n0 + 1) < R.length := by omega
  have b1 : n0 + 1 < bd.length := by omega
  have g0 := Dig_get dr rn
  have g1 := Dig_get dr rn1
  have gb := Dig_get db b1
  have hv1' : 0 < bd[n0 + 1] := by rw [← getD_get b1]; exact hv1
  obtain ⟨o1, o2⟩ := word_lt g1 g0
  rw [bin_addI (by omega), show i + bd.length = i + (n0 + 2) by omega]
  refine hrI.at rn u_s_uint32 i_uint32 u_uint32 ?_
  rw [cnv_32_64' g0, bin_shl32 g0, bin_addI (by omega), bin_sub, wrap_i64 (by omega) (by omega), show ((i + bd.length : Nat) : Int) - 1 = ((i + (n0 + 1) : Nat) : Int) by omega]
  refine hrI.at rn1 u_s_uint32 i_uint32 u_uint32 ?_
  rw [cnv_32_64' g1, bin_orN (by rw [show IntKind.u64.bits = 64 from rfl]; exact o1) (Nat.lt_trans g1 (by decide)) rfl, or_word g1 g0]
  rw [bin_sub, wrap_i64 (by omega) (by omega), show (bd.length : Int) - 1 = ((n0 + 1 : Nat) : Int) by omega]
  refine hbw.at b1 u_s_uint32 i_uint32 u_uint32 ?_
  rw [cnv_32_64' gb, bin_quoN (b := bd[n0 + 1]) (by rw [max_u64]; omega) (by omega), bin_sub, wrap_i64 (by omega) (by omega), show (bd.length : Int) - 1 = ((n0 + 1 : Nat) : Int) by omega]
  refine hbw.at b1 u_s_uint32 i_uint32 u_uint32 ?_
  rw [cnv_32_64' gb, bin_remN (b := bd[n0 + 1]) (by omega)]
  -- the guess
  have hVlt : val 4294967296 bd < 4294967296 ^ bd.length := val_lt db
  have hVp : 0 < val 4294967296 bd := by
    rcases Nat.eq_zero_or_pos (val 4294967296 bd) with h | h
    · rw [h, Nat.zero_mul] at hX; omega
    · exact h
  have hlowlt : val 4294967296 (R.take i) < 4294967296 ^ i := by
    have := val_lt (Dig.take dr i)
    rw [List.length_take, Nat.min_eq_left (by omega)] at this
    exact this
  have hsplit := val_split 4294967296 R (i := i) (by omega)
  have hUlt : val 4294967296 (R.drop i) < val 4294967296 bd * 4294967296 := by
    have h1 : 4294967296 ^ i * val 4294967296 (R.drop i) < 4294967296 ^ i * (val 4294967296 bd * 4294967296) := by
      rw [pB] at hX
      have : val 4294967296 bd * (4294967296 ^ i * 4294967296) = 4294967296 ^ i * (val 4294967296 bd * 4294967296) := by
        rw [← Nat.mul_assoc, Nat.mul_comm (val 4294967296 bd), Nat.mul_assoc]
      rw [this] at hX
      exact Nat.lt_of_le_of_lt (by rw [hsplit]; exact Nat.le_add_left _ _) hX
    exact Nat.lt_of_mul_lt_mul_left h1
  have hRT : val 4294967296 R < 4294967296 ^ (i + (bd.length + 1)) := by
    refine Nat.lt_trans hX ?_
    rw [show i + (bd.length + 1) = bd.length + (i + 1) by omega, Nat.pow_add 4294967296 bd.length (i + 1)]
    exact Nat.mul_lt_mul_of_pos_right hVlt (Nat.pow_pos (n := i + 1) (show 0 < 4294967296 by decide))
  have hget : ∀ j, (R.drop i).getD j 0 = R.getD (i + j) 0 := fun j => by simp [List.getD_eq_getElem?_getD]
  have hG : Gs 4294967296 (4294967296 ^ n0) (val 4294967296 bd) (bd.getD (n0 + 1) 0) (bd.getD n0 0) (val 4294967296 (bd.take n0)) (val 4294967296 (R.drop i)) (R.getD (i + (n0 + 2)) 0 * 4294967296 + R.getD (i + (n0 + 1)) 0) (R.getD (i + n0) 0) (val 4294967296 ((R.drop i).take n0)) := by
    refine ⟨val_top2 hn, ?_, Nat.pow_pos (by decide), hv1, ?_, ?_, ?_, ?_, hUlt⟩
    · have := val_top3 (b := 4294967296) (l := R.drop i) (n := n0) (fun j hj => by rw [hget]; exact zero_of_lt (by decide) hRT (by omega)) (by rw [List.length_drop]; omega)
      rw [this, hget, hget, hget]
    · have hb0 : n0 < bd.length := by omega
      rw [getD_get hb0]; exact Dig_get db hb0
    · have := val_lt (Dig.take db n0)
      rw [List.length_take, Nat.min_eq_left (by omega)] at this
      exact this
    · have hb0 : i + n0 < R.length := by omega
      rw [getD_get hb0]; exact Dig_get dr hb0
    · have := val_lt (Dig.take (Dig.drop dr i) n0)
      rw [List.length_take, List.length_drop, Nat.min_eq_left (by omega)] at this
      exact this
  have hqlt := hG.q_lt
  obtain ⟨wb1, wb2⟩ := win_bounds hsplit hlowlt hVp
  have hGT : val 4294967296 bd * 4294967296 ^ i ≤ 4294967296 ^ (i + (bd.length + 1)) := by
    rw [show i + (bd.length + 1) = (bd.length + 1) + i by omega, Nat.pow_add]
    refine Nat.mul_le_mul_right _ (Nat.le_trans (Nat.le_of_lt hVlt) (Nat.pow_le_pow_right (by decide) (by omega)))
  generalize hq : val 4294967296 (R.drop i) / val 4294967296 bd = qd at *
  refine ⟨fun x w' => w' = w ∧ ∃ g : Nat, x = .int .u64 (g : Int) ∧ qd ≤ g ∧ g ≤ qd + 1 ∧ g < 4294967296, ?_, ?_⟩
  · rintro x junk w1 ⟨rfl, g, rfl, hqg, hgq, hg32⟩
    refine c_msub hb db ew hL hr dr hi hlen hg32 fun be q1 w2 hbe oq1 hq1 dq1 gr1 hz1 hv1 => ?_
    have hY : val 4294967296 q1 < 4294967296 ^ (i + (bd.length + 1)) := lt_of_zero dq1 (fun j hj => by rw [hz1 j (by omega)]; exact zero_of_lt (by decide) hRT hj) (by omega)
    have e2 : Ext wb w2 := ext_of_grown ew (fun k hk => Nat.le_trans hL (hr.lt k hk).1) gr1
    have ho2 : OD .u32 t_uint32 w2 H0 x101 Q := owns_apart ho gr1 fun k hk hc => by
      have h1 := htop k hc
      have h2 := (ho.lt k hk).1
      omega
    rw [Nat.mul_assoc] at hv1
    refine ⟨fun x w' => x = .int .u64 (qd : Int) ∧ ∃ R', OD .u32 t_uint32 w' L0 x10 R' ∧ R'.length = R.length ∧ Dig 4294967296 R' ∧ val 4294967296 R' + qd * (val 4294967296 bd * 4294967296 ^ i) = val 4294967296 R ∧ OD .u32 t_uint32 w' H0 x101 Q ∧ Ext wb w', ?_, ?_⟩
    · rintro x junk w3 ⟨rfl, R', oR, hRl, dR, hRv, oQ, e3⟩
      rw [cnv_64_32, Nat.mod_eq_of_lt hqlt]
      refine OD.set oQ hiQ u_s_uint32 i_uint32 fun w4 oQ' hg4 => ?_
      refine H R' qd w4 (owns_apart oR hg4 fun k hk hc => ?_) hRl dR hRv (by omega) oQ' hqlt (ext_of_grown e3 (fun k hk => ?_) hg4)
      · have h1 := htop k hk
        have h2 := (oQ.lt k hc).1
        omega
      · have h2 := (oQ.lt k hk).1
        omega
    · rw [bin_gtr]
      by_cases hgq' : g = qd
      · subst hgq'
        have hb0 := digit_eq wb1 hY hv1
        subst hb0
        refine cnd_no (by decide) ?_
        rw [Nat.zero_mul, Nat.add_zero] at hv1
        exact ⟨rfl, q1, oq1, hq1, dq1, hv1, ho2, e2⟩
      · have hg1 : g = qd + 1 := by omega
        subst hg1
        have hbp := digit_past wb2 hv1
        have hb1 : be = 1 := by omega
        subst hb1
        refine cnd_yes (by decide) ?_
        have e1 : ∀ KK : Value → Prop, bin P .sub t_uint64 false true (.int .u64 ((qd + 1 : Nat) : Int)) (.int .u64 1) w2 KK = KK (.int .u64 (qd : Int)) := fun KK => by
          rw [bin_sub, show ((qd + 1 : Nat) : Int) - 1 = (qd : Int) by omega, wrap_nat (by rw [max_u64]; omega)]
        rw [e1]
        refine c_madd (R := q1) hb db e2 hL oq1 dq1 (by omega) (by omega) fun m2 q2 w3 oq2 hq2 dq2 gr2 hz2 hv2 => ?_
        have hZ : val 4294967296 q2 < 4294967296 ^ (i + (bd.length + 1)) := lt_of_zero dq2 (fun j hj => by rw [hz2 j (by omega), hz1 j (by omega)]; exact zero_of_lt (by decide) hRT hj) (by omega)
        have hback := digit_back wb1 wb2 hGT hv1 hv2 hZ
        have e3 : Ext wb w3 := ext_of_grown e2 (fun k hk => Nat.le_trans hL (oq1.lt k hk).1) gr2
        have ho3 : OD .u32 t_uint32 w3 H0 x101 Q := owns_apart ho2 gr2 fun k hk hc => by
          have h1 := htop k hc
          have h2 := (ho2.lt k hk).1
          omega
        exact ⟨rfl, q2, oq2, by omega, dq2, hback, ho3, e3⟩
  · have := c_guess (w := w) (JK := fun x w' => w' = w ∧ ∃ g : Nat, x = .int .u64 (g : Int) ∧ qd ≤ g ∧ g ≤ qd + 1 ∧ g < 4294967296) hrI dr hbw db hn hi hlen hG fun g h1 h2 h3 => ⟨rfl, g, rfl, by rw [← hq]; exact h1, by rw [← hq]; exact h2, h3⟩
    rw [getD_get rn, getD_get rn1, getD_get b1] at this
    exact this
end Go.Proofs.Ytabgkpfcpncmhaa

/- Contracts: bits that two numbers have; whole numbers of the reference out of the program's. -/
set_option linter.unusedVariables false
namespace Go.Proofs.Ytabgkpfcpncmhaa
open Go Go.Vc

variable {w : World} {K : Value → World → Prop}

theorem one_1 {a : Value} (ha : a.oneCell' = true) : ∀ x ∈ [a], x.oneCell' = true := by
  intro x hx
  simp only [List.mem_cons, List.not_mem_nil, or_false] at hx
  subst hx; exact ha
theorem one_2 {a b : Value} (ha : a.oneCell' = true) (hb : b.oneCell' = true) : ∀ x ∈ [a, b], x.oneCell' = true := by
  intro x hx
  simp only [List.mem_cons, List.not_mem_nil, or_false] at hx
  rcases hx with rfl | rfl <;> assumption
theorem one_3 {a b c : Value} (ha : a.oneCell' = true) (hb : b.oneCell' = true) (hc : c.oneCell' = true) : ∀ x ∈ [a, b, c], x.oneCell' = true := by
  intro x hx
  simp only [List.mem_cons, List.not_mem_nil, or_false] at hx
  rcases hx with rfl | rfl | rfl <;> assumption
/-- A field of a variable: where it is, what is read and written there. -/
theorem Bx_fa {w : World} {base : Nat} {t ty : TypeId} {p : Value} {cs : List Value} {fs : Array Field} {f off b : Nat} {z : Value} {d : TypeDesc} (h : Bx w base t p cs) (hu : P.underlying t = some (.struct fs)) (hf : (fs[f]?).map (fun x => (x.type, x.offset)) = some (ty, off)) (ht : TI P ty z 1 b)
    (hue : P.underlying ty = some d) (hd : aggB d = false) :
    ∃ a, (∀ (w : World) (K : Value → Prop), fda P t p f w K = K a) ∧ (∀ {w' : World} {base' : Nat} {cs' : List Value} {x : Value}, Bx w' base' t p cs' → cs'[off]? = some x → ∀ K, ld P ty a w' K = K x) ∧
      (∀ {w' : World} {base' : Nat} {cs' : List Value} {x : Value} {K : World → Prop}, Bx w' base' t p cs' → off < cs'.length → x.oneCell' = true → (∀ w'', Bx w'' base' t p (cs'.set off x) → w'.grownBy w'' (blk p) → K w'') → sto P ty a x w' K) := by
  obtain ⟨g, rfl, hb, hg⟩ := h
  have ha : (Addr.mk g 0 none).add off = ⟨g, off, none⟩ := by rw [Addr.add_lit, Nat.zero_add]
  refine ⟨.pointer (some ⟨g, off, none⟩), fun w K => by rw [fda_off hu hf ht (by decide), ha], fun h' hx K => ?_, fun h' ho h1 H => ?_⟩
  · obtain ⟨g', e, _, hg'⟩ := h'
    cases e
    rw [ld_scalar hue hd (v := _)]
    unfold World.cell?
    simp [hg', hx]
  · obtain ⟨g', e, hb', hg'⟩ := h'
    cases e
    rename_i cs' x K
    refine sto_scalar ht h1 (u := cs'[off]) ?_ ?_ (H _ ⟨g, rfl, hb', setCell_block hg'⟩ setCell_grown)
    · simp [World.cell?, hg', ho]
    · simp [World.frozen?, hg']

theorem app_ODx {k : IntKind} {t e : TypeId} {b base : Nat} {v : Value} {l : List Nat} {d : Nat} {KW : Value → World → Prop} (h : OD k e w base v l) (hu : P.underlying t = some (.slice e)) (ht : TI P e (.int k 0) 1 b) (hn : l.length + 1 ≤ maxLen) (hby : (l.length + 1) * b ≤ 140737488355328) (hbase : base ≤ w.heap.size)
    (H : ∀ v' w', OD k e w' base v' (l ++ [d]) → w.grownBy w' v.ownBlock → KW v' w') : bsl P t 1 [(0, iv k d)] w fun y w2 => Ext w w2 ∧ bl2 P .append #[t, t] t [v, y] w2 KW := by
  refine app1x h rfl hu ht rfl hn hby hbase fun v' w' ho hg => H v' w' ?_ hg
  unfold OD
  rw [List.length_append, List.map_append]
  exact ho
theorem app_OD {k : IntKind} {t e : TypeId} {b base : Nat} {v : Value} {l : List Nat} {d : Nat} {KW : Value → World → Prop} (h : OD k e w base v l) (hu : P.underlying t = some (.slice e)) (ht : TI P e (.int k 0) 1 b) (hn : l.length + 1 ≤ maxLen) (hby : (l.length + 1) * b ≤ 140737488355328) (hbase : base ≤ w.heap.size)
    (H : ∀ v' w', OD k e w' base v' (l ++ [d]) → w.grownBy w' v.ownBlock → KW v' w') : bsl P t 1 [(0, iv k d)] w fun y w2 => bl2 P .append #[t, t] t [v, y] w2 KW :=
  SemA_mono (fun _ _ q => q.2) (app_ODx h hu ht hn hby hbase H)

/-! ### bits of both -/
theorem and_split {a b x y k : Nat} (ha : a < 2 ^ k) (hb : b < 2 ^ k) : (a + 2 ^ k * x) &&& (b + 2 ^ k * y) = (a &&& b) + 2 ^ k * (x &&& y) := by
  have hab : a &&& b < 2 ^ k := Nat.lt_of_le_of_lt Nat.and_le_left ha
  apply Nat.eq_of_testBit_eq
  intro j
  rw [Nat.testBit_and, Nat.add_comm a, Nat.add_comm b, Nat.add_comm (a &&& b), Nat.testBit_two_pow_mul_add _ ha, Nat.testBit_two_pow_mul_add _ hb, Nat.testBit_two_pow_mul_add _ hab]
  split <;> rw [Nat.testBit_and]
theorem p32 (i : Nat) : (4294967296 : Nat) ^ i = 2 ^ (32 * i) := by rw [Nat.pow_mul]
theorem c_And {z x y : Value} {a b : Int} {base : Nat} (hz : ZO w base z) (hx : IntR w x a) (hy : IntR w y b) (ba : bl a.natAbs ≤ 1099511627776)
    (H : ∀ w', ZO w' base z → IntR w' z (a.natAbs &&& b.natAbs : Nat) → w.grownBy w' (blk z) → K z w') : call P f_impl_integer_And [z, x, y] w K := by
  obtain ⟨s1, hb1, l, h1, n1, v1, _⟩ := hx
  obtain ⟨s2, hb2, r, h2, n2, v2, _⟩ := hy
  have d1 := n1.1
  have d2 := n2.1
  have l1 := dig_len n1 (by rw [v1]; exact ba)
  refine I_impl_integer_And ?_
  unfold D_impl_integer_And
  refine bsl_nil u_s_uint32 i_uint32 ?_
  have he := Ext_alloc w (.cells #[] t_uint32)
  have ho : OD .u32 t_uint32 (w.alloc (.cells #[] t_uint32)) w.heap.size (.slice (some ⟨w.heap.size, 0, none⟩) 0 0) [] := owns_lit w [] t_uint32
  generalize w.alloc (.cells #[] t_uint32) = w1 at he ho ⊢
  rw [nch_bx hb1]
  refine IntR.mag (hb1.ext he) ?_
  rw [(h1.ext he).row.len u_s_uint32, nch_bx hb2]
  refine IntR.mag (hb2.ext he) ?_
  rw [(h2.ext he).row.len u_s_uint32, bl0_min_i64, show min (l.length : Int) (r.length : Int) = ((min l.length r.length : Nat) : Int) by omega]
  refine ⟨fun g x y w' => ∃ (i : Nat) (q : List Nat), g + i = min l.length r.length ∧ y = .int .i64 (i : Int) ∧ Ext w w' ∧ OD .u32 t_uint32 w' w.heap.size x q ∧ q.length = i ∧ Dig 4294967296 q ∧
    val 4294967296 q = val 4294967296 (l.take i) &&& val 4294967296 (r.take i), ⟨min l.length r.length, 0, [], rfl, rfl, he, ho, rfl, (by intro d hd; cases hd), by simp [val]⟩, ?_⟩
  rintro g x y junk w2 ⟨i, q, hg, rfl, e2, oq, hq, dq, hv⟩
  rw [bin_lss]
  refine cnd_dec (fun hlt => ?_) (fun hge => ?_)
  · have hi1 : i < l.length := by omega
    have hi2 : i < r.length := by omega
    rw [nch_bx hb1]
    refine IntR.mag (hb1.ext e2) ?_
    refine (h1.ext e2).at hi1 u_s_uint32 i_uint32 u_uint32 ?_
    rw [nch_bx hb2]
    refine IntR.mag (hb2.ext e2) ?_
    refine (h2.ext e2).at hi2 u_s_uint32 i_uint32 u_uint32 ?_
    have g1 := Dig_get d1 hi1
    have g2 := Dig_get d2 hi2
    rw [bin_andN (b := r[i]) (by simpa [IntKind.bits] using g1) (by simpa [IntKind.bits] using g2) rfl]
    refine app_OD oq u_s_uint32 i_uint32 (by rw [hq]; simp only [maxLen]; omega) (by omega) e2.size fun v' w3 o3 hg3 => ?_
    rw [bin_addI1 (b := 1) (by omega)]
    have hand : l[i] &&& r[i] < 4294967296 := Nat.lt_of_le_of_lt Nat.and_le_left g1
    refine ⟨g - 1, by omega, i + 1, _, by omega, rfl, own_step e2 oq hg3, o3, by simp [hq], fun d hd => ?_, ?_⟩
    · rcases List.mem_append.1 hd with hd | hd
      · exact dq d hd
      · simp at hd; omega
    · rw [val_snoc, val_take_succ _ hi1, val_take_succ _ hi2, hv, hq, p32]
      refine (and_split ?_ ?_).symm
      · have := val_lt (d1.take i)
        rw [List.length_take, Nat.min_eq_left (by omega), p32] at this; exact this
      · have := val_lt (d2.take i)
        rw [List.length_take, Nat.min_eq_left (by omega), p32] at this; exact this
  · have hi : i = min l.length r.length := by omega
    have e : val 4294967296 q = a.natAbs &&& b.natAbs := by
      rw [hv, ← v1, ← v2]
      have s1 := val_split 4294967296 l (i := i) (by omega)
      have s2 := val_split 4294967296 r (i := i) (by omega)
      have t1 := val_lt (d1.take i)
      rw [List.length_take, Nat.min_eq_left (by omega), p32] at t1
      have t2 := val_lt (d2.take i)
      rw [List.length_take, Nat.min_eq_left (by omega), p32] at t2
      have hz : val 4294967296 (l.drop i) &&& val 4294967296 (r.drop i) = 0 := by
        rcases Nat.le_total l.length r.length with h | h
        · rw [List.drop_eq_nil_of_le (by omega : l.length ≤ i)]; simp [val]
        · rw [List.drop_eq_nil_of_le (by omega : r.length ≤ i)]; simp [val]
      rw [s1, s2, p32, and_split t1 t2, hz]
      simp
    have hz2 := hz.ext e2
    refine c_put hz2 oq.IR (Ty.owns oq) dq fun w3 z3 i3 g3 => H w3 z3 ?_ (grown_ext e2 g3)
    rw [e] at i3; exact i3

/-! ### whole numbers of the reference -/
def Wl (l : List Nat) (m : Int) : Prop := Norm 16777216 l ∧ val 16777216 l = m.natAbs
/-- Limbs, read: their block is one of limbs. -/
structure LR (w : World) (s : Value) (l : List Nat) : Prop extends IR .i64 w s l where
  ty : Ty w s.ownBlock t_int64
instance {w : World} {s : Value} {l : List Nat} : Coe (LR w s l) (IR .i64 w s l) := ⟨LR.toIR⟩
theorem LR.ext {w' : World} {s : Value} {l : List Nat} (h : LR w s l) (he : Ext w w') : LR w' s l := ⟨h.toIR.ext he, Ty_ext h.ty he⟩
theorem LR.of {base : Nat} {s : Value} {l : List Nat} (h : OD .i64 t_int64 w base s l) : LR w s l := ⟨OD.IR h, Ty.owns h⟩
theorem LR.nil (w : World) : LR w (.slice none 0 0) [] := ⟨IR.nil _ _, Ty_none _ _⟩
theorem LR.kt {w' : World} {s : Value} {l : List Nat} {row : Option Nat} {e' : TypeId} (h : LR w s l) (hg : w.grownBy w' row) (ht : Ty w row e') (hne : t_int64 ≠ e') : LR w' s l :=
  ⟨IR.kept_at h.toIR hg (h.ty.apart ht hne), Ty_kept h.ty hg ht hne⟩
/-- A whole number of the reference, read; of one's own. -/
def Wr (w : World) (v : Value) (m : Int) : Prop := ∃ s l, v = .agg #[.int .i64 m.sign, s] ∧ LR w s l ∧ Wl l m
def Wo (w : World) (lo hi : Nat) (v : Value) (m : Int) : Prop := ∃ s l, v = .agg #[.int .i64 m.sign, s] ∧ OwnR w lo hi t_int64 1 s l.length (l.map (iv .i64)) ∧ Wl l m
theorem Wr.ext {w' : World} {v : Value} {m : Int} (h : Wr w v m) (he : Ext w w') : Wr w' v m := let ⟨s, l, h1, h2, h3⟩ := h; ⟨s, l, h1, h2.ext he, h3⟩
theorem Wo.ext {w' : World} {lo hi : Nat} {v : Value} {m : Int} (h : Wo w lo hi v m) (he : Ext w w') : Wo w' lo hi v m := let ⟨s, l, h1, h2, h3⟩ := h; ⟨s, l, h1, h2.ext he, h3⟩
theorem Wo.Wr {lo hi : Nat} {v : Value} {m : Int} (h : Wo w lo hi v m) : Wr w v m := let ⟨s, l, h1, h2, h3⟩ := h; ⟨s, l, h1, LR.of h2.own, h3⟩
theorem Wl.zero : Wl [] 0 := ⟨Norm.nil _, rfl⟩
theorem Wr.zero (w : World) : Wr w (.agg #[.int .i64 0, .slice none 0 0]) 0 := ⟨_, [], rfl, LR.nil _, Wl.zero⟩

theorem bld_Whole0 {K : Value → Prop} : bld P t_impl_Whole [] w K = K (.agg #[.int .i64 0, .slice none 0 0]) := bld_of (by kernel_rfl)
theorem bld_Whole1 {n : Int} {K : Value → Prop} : bld P t_impl_Whole [(0, .int .i64 n)] w K = K (.agg #[.int .i64 n, .slice none 0 0]) := bld_of (by kernel_rfl)
end Go.Proofs.Ytabgkpfcpncmhaa

/- Contracts: quotients of magnitudes, whole. -/
set_option linter.unusedVariables false
set_option linter.unusedSimpArgs false
namespace Go.Proofs.Ytabgkpfcpncmhaa
open Go Go.Vc

variable {w : World} {K : Value → World → Prop}

theorem top_digit {l : List Nat} (h : Norm 4294967296 l) (hl : 0 < l.length) : 0 < l.getD (l.length - 1) 0 := by
  have h1 := h.2
  rw [List.getLast?_eq_getElem?] at h1
  have hlt : l.length - 1 < l.length := by omega
  rw [List.getElem?_eq_getElem hlt] at h1
  rw [getD_get hlt]
  refine Nat.pos_of_ne_zero fun hc => h1 (by rw [hc])
theorem pow32 (k : Nat) : (4294967296 : Nat) ^ k = 2 ^ (32 * k) := by rw [Nat.pow_mul]
theorem start_bound {A V n L la : Nat} (hA : bl A ≤ 32 * la + 31) (hV : bl V = 32 * n) (hV0 : 1 ≤ n) (hL : la + 1 ≤ L) (hn : n ≤ L) : A < V * 4294967296 ^ (L - n) := by
  have h1 : A < 2 ^ (32 * la + 31) := bl_le.1 hA
  have h2 : 2 ^ (32 * n - 1) ≤ V := by
    refine Nat.le_of_not_lt fun hc => ?_
    have := bl_le.2 hc
    omega
  have h3 : 2 ^ (32 * la + 31) ≤ 2 ^ (32 * n - 1) * 4294967296 ^ (L - n) := by
    rw [pow32 (L - n), ← Nat.pow_add]
    exact Nat.pow_le_pow_right (by decide) (by omega)
  generalize (4294967296 : Nat) ^ (L - n) = p at *
  exact Nat.lt_of_lt_of_le h1 (Nat.le_trans h3 (Nat.mul_le_mul_right p h2))

set_option maxRecDepth 20000 in
theorem c_magDiv {u v : Value} {a b : Nat} (ha : Mg w u a) (hb : Mg w v b) (b0 : 0 < b) (ba : bl a ≤ 1000000000000) (bb : bl b ≤ 1000000000000)
    (H : ∀ x y w', Ext w w' → MgO w' w.heap.size x (a / b) → Mg w' y (a % b) → K (.tuple #[x, y]) w') : call P f_impl_magDiv [u, v] w K := by
  refine I_impl_magDiv ?_
  unfold D_impl_magDiv
  refine c_magCmp ha hb ?_
  rw [bin_lss]
  have ha0 := ha
  have hb0 := hb
  refine cnd_dec (fun hlt => ?_) (fun hge => ?_)
  · have hab : a < b := by
      unfold cmpN at hlt
      split at hlt
      · assumption
      · split at hlt <;> omega
    refine c_Clone ha (by omega) fun v1 w1 e1 h1 => ?_
    refine H _ _ _ e1 ?_ ?_
    · rw [Nat.div_eq_of_lt hab]; exact MgO.nil _ _
    · rw [Nat.mod_eq_of_lt hab]; exact h1.Mg
  · have hab : b ≤ a := by
      refine Nat.le_of_not_lt fun hc => hge ?_
      unfold cmpN
      rw [if_pos hc]; decide
    obtain ⟨la, i1, n1, va, _⟩ := ha
    obtain ⟨lb, i2, n2, vb, _⟩ := hb
    have l1 := dig_len n1 (by rw [va]; omega)
    have l2 := dig_len n2 (by rw [vb]; omega)
    have hlb : lb ≠ [] := by rintro rfl; simp only [val] at vb; omega
    have hlbp : 0 < lb.length := List.length_pos_iff.2 hlb
    have hla : la ≠ [] := by rintro rfl; simp only [val] at va; omega
    rw [i2.row.len u_s_uint32, bin_eql]
    refine cnd_dec (fun hone => ?_) (fun hmany => ?_)
    · obtain ⟨d, rfl⟩ : ∃ d, lb = [d] := List.length_eq_one_iff.1 (by omega)
      have hd : d = b := by simp [val] at vb; exact vb
      subst hd
      have hdl := n2.1 d (by simp)
      refine c_div1 i1 n1.1 i2 b0 hdl l1 fun x y w' he h1 h2 => ?_
      rw [va] at h1 h2
      exact H x y w' he h1 h2
    · have hn2 : 2 ≤ lb.length := by omega
      obtain ⟨f1, f2⟩ := bl_full n2 hlb
      obtain ⟨f3, f4⟩ := bl_full n1 hla
      rw [vb] at f1 f2
      rw [va] at f3 f4
      rw [i2.row.len u_s_uint32, bin_mul, wrap_i64 (by omega) (by omega)]
      refine c_magBits hb0 (by omega) ?_
      rw [bin_sub, wrap_i64 (by omega) (by omega)]
      obtain ⟨s, hs⟩ : ∃ s : Nat, (32 : Int) * (lb.length : Int) - (bl b : Int) = (s : Int) := ⟨32 * lb.length - bl b, by omega⟩
      have hs31 : s ≤ 31 := by omega
      rw [hs, cnv_int_uint (by omega)]
      refine c_magLeft hb0 (by omega) (by omega) fun x81 w1 e1 m81 => ?_
      refine c_magLeft (ha0.ext e1) (by omega) (by omega) fun x84 w2 e2 m84 => ?_
      obtain ⟨bd, obd, nbd, vbd⟩ := m81
      obtain ⟨ad, oad, nad, vad⟩ := m84
      have hblV : bl (b * 2 ^ s) = 32 * lb.length := by rw [bl_shl (by omega)]; omega
      have hblA : bl (a * 2 ^ s) ≤ 32 * la.length + 31 := by rw [bl_shl (by omega)]; omega
      have hbd0 : bd ≠ [] := by
        rintro rfl
        simp only [val] at vbd
        rw [← vbd] at hblV
        have : bl 0 = 0 := by decide
        omega
      have hbdp : 0 < bd.length := List.length_pos_iff.2 hbd0
      obtain ⟨q1, q2⟩ := bl_full nbd hbd0
      rw [vbd, hblV] at q1 q2
      have hbdl : bd.length = lb.length := by omega
      have had : ad.length ≤ la.length + 1 := by
        by_cases h0 : ad = []
        · subst h0; simp
        · obtain ⟨_, q4⟩ := bl_full nad h0
          rw [vad] at q4
          omega
      have ibd : IR .u32 w1 x81 bd := OD.IR obd
      refine app_OD (d := 0) oad u_s_uint32 i_uint32 (by simp only [maxLen]; omega) (by omega) e2.size fun x86 w3 o3 g3 => ?_
      have e3 : Ext w1 w3 := ext_of_grown e2 (fun k hk => (oad.lt k hk).1) g3
      refine ⟨fun m x w' => ∃ R : List Nat, m = la.length + 1 - R.length ∧ OD .u32 t_uint32 w' w1.heap.size x R ∧ Dig 4294967296 R ∧ val 4294967296 R = a * 2 ^ s ∧ R.length ≤ la.length + 2 ∧ Ext w1 w', ⟨_, ad ++ [0], rfl, o3, ?_, ?_, by simp; omega, e3⟩, ?_⟩
      · intro x hx
        rcases List.mem_append.1 hx with h | h
        · exact nad.1 x h
        · simp at h; omega
      · rw [val_append]; simp [val, vad]
      rintro m x10 junk w4 ⟨R, rfl, oR, dR, vR, lR, e4⟩
      have i1' := i1.ext (e1.trans e4)
      rw [(OD.IR oR).row.len u_s_uint32, i1'.row.len u_s_uint32, bin_leq]
      refine cnd_dec (fun hle => ?_) (fun hgt => ?_)
      · refine app_OD (d := 0) oR u_s_uint32 i_uint32 (by simp only [maxLen]; omega) (by omega) e4.size fun x11 w5 o5 g5 => ?_
        refine ⟨la.length + 1 - (R ++ [0]).length, by simp; omega, R ++ [0], rfl, o5, ?_, ?_, by simp; omega, ext_of_grown e4 (fun k hk => (oR.lt k hk).1) g5⟩
        · intro x hx
          rcases List.mem_append.1 hx with h | h
          · exact dR x h
          · simp at h; omega
        · rw [val_append]; simp [val, vR]
      · have hRL : la.length + 1 ≤ R.length := by omega
        have hnL : bd.length ≤ R.length := by
          have : 32 * (lb.length - 1) < 32 * la.length := by
            have := bl_mono hab
            omega
          omega
        rw [((ibd.ext e4)).row.len u_s_uint32, (OD.IR oR).row.len u_s_uint32, bin_sub, wrap_i64 (by omega) (by omega), show (R.length : Int) - (bd.length : Int) = ((R.length - bd.length : Nat) : Int) by omega]
        refine OD.make u_s_uint32 i_uint32 (by omega) (by simp only [maxLen]; omega) fun w5 x101 o5 e5 => ?_
        have hQl : (List.replicate (R.length - bd.length) 0).length = R.length - bd.length := by simp
        rw [(OD.IR o5).row.len u_s_uint32, hQl, bin_sub, wrap_i64 (by omega) (by omega)]
        refine ⟨fun m y w' => ∃ R' Q' : List Nat, y = .int .i64 ((m : Int) - 1) ∧ m ≤ R.length - bd.length ∧ OD .u32 t_uint32 w' w1.heap.size x10 R' ∧ R'.length = R.length ∧ Dig 4294967296 R' ∧ OD .u32 t_uint32 w' w4.heap.size x101 Q' ∧ Q'.length = R.length - bd.length ∧ Dig 4294967296 Q' ∧ (∀ j, j < m → Q'.getD j 0 = 0) ∧
          val 4294967296 R' + val 4294967296 bd * val 4294967296 Q' = a * 2 ^ s ∧ val 4294967296 R' < val 4294967296 bd * 4294967296 ^ m ∧ Ext w1 w',
          ⟨R.length - bd.length, R, _, rfl, Nat.le_refl _, owns_ext oR e5, rfl, dR, o5, hQl, Dig_rep _ _ (by decide), fun j _ => by simp [List.getElem?_replicate]; split <;> rfl, by rw [val_replicate, Nat.mul_zero, Nat.add_zero, vR], ?_, e4.trans e5⟩, ?_⟩
        · rw [vR, vbd]
          exact start_bound hblA (by rw [hblV, hbdl]) hbdp hRL hnL
        have htop : ∀ k, x10.ownBlock = some k → k < w4.heap.size := fun k hk => (oR.lt k hk).2
        rintro m y junk w6 ⟨R', Q', rfl, hm, oR', lR', dR', oQ', lQ', dQ', hz, hv, hlt, e6⟩
        rw [bin_geq]
        refine cnd_dec (fun hge0 => ?_) (fun hlt0 => ?_)
        · obtain ⟨i, rfl⟩ : ∃ i, m = i + 1 := ⟨m - 1, by omega⟩
          rw [show ((i + 1 : Nat) : Int) - 1 = (i : Int) by omega]
          have hiQ : i < Q'.length := by omega
          refine c_digit (n0 := bd.length - 2) ibd nbd.1 e6 (Nat.le_refl _) oR' htop dR' oQ' e4.size (by omega) (by rw [show bd.length - 2 + 1 = bd.length - 1 by omega]; exact top_digit nbd hbdp) (by omega) hiQ (by omega) hlt fun R'' q w7 oR'' lR'' dR'' hvq hlt' oQ'' hq32 e7 => ?_
          rw [bin_sub, wrap_i64 (by omega) (by omega)]
          refine ⟨i, by omega, R'', _, rfl, by omega, oR'', by omega, dR'', oQ'', by simpa using lQ', Dig_set dQ' hq32, fun j hj => ?_, ?_, hlt', e7⟩
          · rw [getD_set hiQ, if_neg (by omega)]; exact hz j (by omega)
          · have h3 := val_set_all 4294967296 (l := Q') (x := q) hiQ
            have h4 := hz i (by omega)
            rw [getD_get hiQ] at h4
            rw [h4, Nat.mul_zero, Nat.add_zero] at h3
            rw [h3]
            exact div_next hvq hv
        · have hm0 : m = 0 := by omega
          subst hm0
          rw [Nat.pow_zero, Nat.mul_one, vbd] at hlt
          rw [vbd] at hv
          obtain ⟨r1, r2⟩ := div_end (Nat.two_pow_pos s) hv hlt
          refine c_trimO oQ' dQ' fun x67 h67 => ?_
          refine c_trimO oR' dR' fun x65 h65 => ?_
          rw [r1] at h67
          rw [r2] at h65
          have hbr : bl (a % b * 2 ^ s) ≤ 1099511627776 := by
            have h1 := bl_mono (Nat.mod_le a b)
            by_cases h0 : a % b = 0
            · rw [h0, Nat.zero_mul]; decide
            · rw [bl_shl h0]; omega
          refine c_magRight h65.Mg hbr (by omega) fun x70 w8 e8 h70 => ?_
          rw [Nat.mul_div_cancel _ (Nat.two_pow_pos s)] at h70
          exact H _ _ _ (e1.trans (e6.trans e8)) ((h67.ext e8).low (Nat.le_trans e1.size e4.size)) h70.Mg
end Go.Proofs.Ytabgkpfcpncmhaa

/- Contracts: quotients of integers. -/
set_option linter.unusedVariables false
set_option linter.unusedSimpArgs false
namespace Go.Proofs.Ytabgkpfcpncmhaa
open Go Go.Vc

variable {w : World} {K : Value → World → Prop}

theorem tdiv_sgn (a b : Int) : sgnI (!(decide (a < 0) == decide (b < 0))) (a.natAbs / b.natAbs) = a.tdiv b := by
  unfold sgnI
  rcases Int.natAbs_eq a with ha | ha <;> rcases Int.natAbs_eq b with hb | hb
  · have e1 : decide (a < 0) = false := decide_eq_false (by omega)
    have e2 : decide (b < 0) = false := decide_eq_false (by omega)
    rw [e1, e2]
    conv => rhs; rw [ha, hb, ← Int.ofNat_tdiv]
    simp
  · have e1 : decide (a < 0) = false := decide_eq_false (by omega)
    rw [e1]
    by_cases h0 : b.natAbs = 0
    · rw [h0]
      have : b = 0 := by omega
      subst this; simp
    · have e2 : decide (b < 0) = true := decide_eq_true (by omega)
      rw [e2]
      conv => rhs; rw [ha, hb, Int.tdiv_neg, ← Int.ofNat_tdiv]
      simp
  · have e2 : decide (b < 0) = false := decide_eq_false (by omega)
    rw [e2]
    by_cases h0 : a.natAbs = 0
    · rw [h0]
      have : a = 0 := by omega
      subst this; simp
    · have e1 : decide (a < 0) = true := decide_eq_true (by omega)
      rw [e1]
      conv => rhs; rw [ha, hb, Int.neg_tdiv, ← Int.ofNat_tdiv]
      simp
  · conv => rhs; rw [ha, hb, Int.neg_tdiv, Int.tdiv_neg, Int.neg_neg, ← Int.ofNat_tdiv]
    by_cases h0 : a.natAbs = 0
    · rw [h0]; simp
    · by_cases h1 : b.natAbs = 0
      · rw [h1]; simp
      · have e1 : decide (a < 0) = true := decide_eq_true (by omega)
        have e2 : decide (b < 0) = true := decide_eq_true (by omega)
        rw [e1, e2]; simp

theorem c_Quo {z x y : Value} {base : Nat} {a b : Int} (hz : ZO w base z) (hx : IntR w x a) (hy : IntR w y b) (b0 : b ≠ 0) (ba : bl a.natAbs ≤ 1000000000000) (bb : bl b.natAbs ≤ 1000000000000)
    (H : ∀ w1 w', Ext w w1 → ZO w1 base z → w1.grownBy w' (blk z) → ZO w' base z → IntR w' z (a.tdiv b) → K z w') : call P f_impl_integer_Quo [z, x, y] w K := by
  refine I_impl_integer_Quo ?_
  unfold D_impl_integer_Quo
  refine alc_Z fun r w1 zr _ e1 => ?_
  refine I_impl_integer_QuoRem ?_
  unfold D_impl_integer_QuoRem
  obtain ⟨sx, bx, mx⟩ := hx.ext e1
  obtain ⟨sy, by', my⟩ := hy.ext e1
  rw [nch_bx bx]
  refine IntR.mag bx ?_
  rw [nch_bx by']
  refine IntR.mag by' ?_
  refine c_magDiv mx my (by omega) ba bb fun q t w2 e2 hq ht => ?_
  rw [xtr_0, xtr_1]
  have bx := bx.ext e2
  have by' := by'.ext e2
  rw [nch_bx bx]
  refine IntR.neg bx ?_
  rw [nch_bx bx]
  refine IntR.neg bx ?_
  rw [nch_bx by']
  refine IntR.neg by' ?_
  rw [bin_bneq _ _ _ _ _ _ u_bool]
  obtain ⟨lq, oq, nq, vq⟩ := hq
  obtain ⟨lt, it, nt, vt, tt⟩ := ht
  refine c_put (zr.ext e2) it tt nt.1 fun w3 zr3 ir3 g3 => ?_
  have e3 : Ext w w3 := ext_of_grown (e1.trans e2) (fun k hk => (zr.blk_ge hk)) g3
  have e23 : Ext w1 w2 := e2
  have iq3 : IR .u32 w3 q lq := IR_kept (OD.IR oq) (zr.ext e2) g3
  have tq3 : Ty w3 q.ownBlock t_uint32 := Ty_kept (Ty.owns oq) g3 (ZO.ty (zr.ext e2)) (by decide)
  refine c_put (hz.ext e3) iq3 tq3 nq.1 fun w4 z4 i4 g4 => ?_
  dsimp only
  rw [xtr_0, xtr_1]
  rw [vq, tdiv_sgn] at i4
  exact H w3 w4 e3 (hz.ext e3) g4 z4 i4
end Go.Proofs.Ytabgkpfcpncmhaa

/- Contracts: a whole number of the reference's kind out of the program's. -/
set_option linter.unusedVariables false
namespace Go.Proofs.Ytabgkpfcpncmhaa
open Go Go.Vc

variable {w : World} {K : Value → World → Prop}

theorem and_mask (a : Nat) : a &&& 16777215 = a % 16777216 := Nat.and_two_pow_sub_one_eq_mod a 24
theorem blk_ne {w1 w2 : World} {b1 b2 : Nat} {t1 t2 : TypeId} {p q : Value} {c1 c2 : List Value} (h1 : Bx w1 b1 t1 p c1) (h2 : Bx w2 b2 t2 q c2) (h : w1.heap.size ≤ b2) : blk p = none ∨ blk p ≠ blk q := by
  obtain ⟨g, rfl, _, hg⟩ := h1
  obtain ⟨g', rfl, hb, _⟩ := h2
  have := heap_lt hg
  right
  simp only [blk, ne_eq, Option.some.injEq]
  omega
theorem digs_step {Q p r n q0 q1 : Nat} (h : Q + p * r = n) (h0 : q0 = r % 16777216) (h1 : q1 = r / 16777216) : Q + p * q0 + p * 16777216 * q1 = n := by
  have := Nat.div_add_mod r 16777216
  subst h0 h1
  rw [← h]
  conv => rhs; rw [← this]
  grind

theorem c_fromBig {p : Value} {m : Int} (h : IntR w p m) (hb : bl m.natAbs ≤ 1099511627775)
    (H0 : 2400 < bl m.natAbs → ∀ w', Ext w w' → K (.tuple #[.agg #[.int .i64 0, .slice none 0 0], .bool false]) w')
    (H1 : bl m.natAbs ≤ 2400 → ∀ v w', Ext w w' → Wo w' w.heap.size w'.heap.size v m → K (.tuple #[v, .bool true]) w') : call P f_impl_fromBig [p] w K := by
  refine I_impl_fromBig ?_
  unfold D_impl_fromBig
  refine alc_bx i_impl_Whole fun x2 w2 b2 e2 _ => ?_
  have h2 := h.ext e2
  refine c_BitLen h2 (by omega) ?_
  rw [bin_gtr]
  refine cnd_dec (fun hgt => ?_) (fun hle => ?_)
  · rw [bld_Whole0]
    refine b2.put i_impl_Whole (ds := [.int .i64 0, .slice none 0 0]) rfl rfl (one_2 rfl rfl) fun w3 b3 g3 => ?_
    refine b3.getc u_impl_Whole rfl i_impl_Whole rfl ?_
    exact H0 (by omega) _ (ext_of_grown e2 (fun g hg => (b2.blk_lt hg).1) g3)
  · have hle : bl m.natAbs ≤ 2400 := by omega
    refine c_Sign h2 ?_
    rw [bld_Whole1]
    refine alc_bx i_impl_Whole fun x4 w4 b4 e4 _ => ?_
    refine b4.put i_impl_Whole (ds := [.int .i64 m.sign, .slice none 0 0]) rfl rfl (one_2 rfl rfl) fun w5 b5 g5 => ?_
    have ne24 := blk_ne b2 b4 (Nat.le_refl _)
    have b25 := (b2.ext e4).kept g5 (by rcases ne24 with q | q; exact .inr (by rw [q]; obtain ⟨g, rfl, _⟩ := b4; simp [blk]); exact .inr fun e => q e.symm)
    have e5 : Ext w2 w5 := ext_of_grown e4 (fun g hg => (b4.blk_lt hg).1) g5
    have E5 := e2.trans e5
    refine alc_Z fun x14 w6 z6 _ e6 => ?_
    refine c_Abs z6 ((h.ext E5).ext e6) (by omega) fun w7 z7 i7 g7 => ?_
    have e7 : Ext w5 w7 := ext_of_grown e6 (fun g hg => z6.blk_ge hg) g7
    refine c_newInt (by decide) (by decide) fun x17 w8 e8 z8 i8 => ?_
    have E8 := E5.trans (e7.trans e8)
    have s2 := e2.size
    have s5 := E5.size
    have s58 := (e7.trans e8).size
    have ne : x17 ≠ x14 := by
      rintro rfl
      obtain ⟨b, s, q1, _⟩ := z7
      obtain ⟨b', s', q2, _⟩ := z8
      obtain ⟨g, rfl, _, hg⟩ := q1
      obtain ⟨g', e, hge, _⟩ := q2
      cases e
      have := heap_lt hg
      omega
    refine ⟨fun g w' => ∃ (q : List Nat) (r : Nat) (s : Value), r = g ∧ Ext w w' ∧ (∃ cs, cs.length = 2 ∧ Bx w' w.heap.size t_impl_Whole x2 cs) ∧ Bx w' w.heap.size t_impl_Whole x4 [.int .i64 m.sign, s] ∧ OD .i64 t_int64 w' w.heap.size s q ∧ ZO w' w.heap.size x14 ∧ IntR w' x14 (r : Int) ∧ IntR w' x17 16777215 ∧
      val 16777216 q + 16777216 ^ q.length * r = m.natAbs ∧ Dig 16777216 q ∧ (r = 0 → q.getLast? ≠ some 0),
      ⟨m.natAbs, [], m.natAbs, _, rfl, E8, ⟨_, rfl, (b25.ext (e7.trans e8)).low (Nat.le_refl _)⟩, (b5.ext (e7.trans e8)).low s2, OD.nil _ _ _ _, (z7.ext e8).low s5, i7.ext e8, i8, by simp [val], (by intro d hd; cases hd), by simp⟩, ?_⟩
    rintro g junk w9 ⟨q, r, s, rfl, e9, ⟨cs, hcs, bx2⟩, bx4, oq, zr, ir, im, hv, dq, hlast⟩
    refine c_Sign ir ?_
    rw [bin_gtr]
    have hrb : bl r ≤ bl m.natAbs := by
      refine bl_mono ?_
      rw [← hv]
      have : 1 * r ≤ 16777216 ^ q.length * r := Nat.mul_le_mul_right _ (Nat.pow_pos (by decide))
      omega
    refine cnd_dec (fun hpos => ?_) (fun hz => ?_)
    · have hr0 : 0 < r := by
        rcases Nat.eq_zero_or_pos r with h0 | h0
        · subst h0; exact absurd hpos (by decide)
        · exact h0
      have hql : q.length < 100 := by
        have h1 : 16777216 ^ q.length * 1 ≤ 16777216 ^ q.length * r := Nat.mul_le_mul_left _ hr0
        have h2 : 2 ^ (24 * q.length) ≤ m.natAbs := by rw [Nat.pow_mul, show (2 : Nat) ^ 24 = 16777216 from rfl]; omega
        rw [← lt_bl] at h2
        omega
      obtain ⟨a, fa, la, sa⟩ := Bx_fa (f := 1) (off := 1) (ty := t_s_int64) bx4 u_impl_Whole rfl i_s_int64 u_s_int64 rfl
      rw [fa, la bx4 rfl]
      refine alc_Z fun x23 w10 z10 _ e10 => ?_
      refine ⟨e10, ?_⟩
      refine c_And z10 (ir.ext e10) (im.ext e10) (by simpa using (by omega : bl r ≤ 1099511627776)) fun w11 z11 i11 g11 => ?_
      have e11 : Ext w9 w11 := ext_of_grown e10 (fun g hg => z10.blk_ge hg) g11
      have bx4' := bx4.ext e11
      rw [fa]
      refine ⟨rfl, ?_⟩
      rw [la bx4' rfl]
      refine ⟨rfl, ?_⟩
      have hand : ((r : Int).natAbs &&& (16777215 : Int).natAbs : Nat) = r % 16777216 := and_mask r
      rw [hand] at i11
      have hmod : r % 16777216 < 16777216 := Nat.mod_lt _ (by decide)
      refine c_Int64 i11 (by simp only [Int.natAbs_natCast]; omega) ?_
      refine ⟨Ext.refl _, ?_⟩
      have oq' := owns_ext oq e11
      have hsz := (e9.trans e11).size
      refine app_ODx oq' u_s_int64 i_int64 (by simp only [maxLen]; omega) (by omega) hsz fun s' w12 o12 g12 => ?_
      have t12 := Ty.owns oq'
      have bx4'' := keep_box bx4' g12 t12 (by decide)
      rw [fa]
      refine sa bx4'' (by simp) (by
        obtain ⟨_, _, a, c, e, _⟩ := (OD.IR o12).row
        rw [e]; rfl) fun w13 bx13 g13 => ?_
      have t13 := Ty.box bx4''
      have zr13 := ((zr.ext e11).kt g12 t12 (by decide)).kt g13 t13 (by decide)
      have ir13 := ((ir.ext e11).kt g12 t12 (by decide) (by decide)).kt g13 t13 (by decide) (by decide)
      have im13 := ((im.ext e11).kt g12 t12 (by decide) (by decide)).kt g13 t13 (by decide) (by decide)
      have o13 := keep_row o12 g13 t13 (by decide)
      have bx2' := keep_box (bx2.ext e11) g12 t12 (by decide)
      have ne24' : blk x2 ≠ blk x4 := by
        rcases ne24 with q | q
        · obtain ⟨g, rfl, _⟩ := b2; simp [blk] at q
        · exact q
      have bx2'' := bx2'.kept g13 (.inr fun e => ne24' e.symm)
      have E13 : Ext w w13 := ext_of_grown (ext_of_grown (e9.trans e11) (fun g hg => (oq'.lt g hg).1) g12) (fun g hg => (bx4''.blk_lt hg).1) g13
      refine c_Rsh (n := 24) zr13 ir13 (by simpa using (by omega : bl r ≤ 1099511627775)) (by decide) fun w14 z14 i14 g14 => ?_
      have t14 := zr13.ty
      refine ⟨r / 16777216, by omega, q ++ [r % 16777216], r / 16777216, s', rfl, ext_of_grown E13 (fun g hg => zr13.blk_ge hg) g14, ⟨cs, hcs, keep_box bx2'' g14 t14 (by decide)⟩, keep_box bx13 g14 t14 (by decide), keep_row o13 g14 t14 (by decide), z14, ?_, im13.kept zr13 g14 ne, ?_, ?_, ?_⟩
      · have : (r : Int) / 2 ^ 24 = ((r / 16777216 : Nat) : Int) := by simp
        rw [this] at i14; exact i14
      · rw [val_snoc, List.length_append, List.length_singleton, Nat.pow_succ]
        exact digs_step hv rfl rfl
      · intro d hd
        rcases List.mem_append.1 hd with hd | hd
        · exact dq d hd
        · simp at hd; omega
      · intro h0
        rw [List.getLast?_append]
        simp
        omega
    · have hr0 : r = 0 := by
        rcases Nat.eq_zero_or_pos r with h0 | h0
        · exact h0
        · exact absurd (by rw [Int.sign_eq_one_of_pos (by omega)]; decide) hz
      subst hr0
      refine bx4.get u_impl_Whole rfl i_impl_Whole rfl ?_
      have hs1 : s.oneCell' = true := by
        obtain ⟨_, _, a, c, e, _⟩ := (OD.IR oq).row
        rw [e]; rfl
      refine bx2.put i_impl_Whole (ds := [.int .i64 m.sign, s]) rfl hcs (one_2 rfl hs1) fun w10 b10 g10 => ?_
      refine b10.getc u_impl_Whole rfl i_impl_Whole rfl ?_
      have t10 := Ty.box bx2
      have e10 : Ext w w10 := ext_of_grown e9 (fun g hg => (bx2.blk_lt hg).1) g10
      have o10 := keep_row oq g10 t10 (by decide)
      refine H1 hle _ _ e10 ⟨s, q, rfl, OwnR.of o10, ⟨dq, hlast rfl⟩, by simpa using hv⟩
end Go.Proofs.Ytabgkpfcpncmhaa

/- Contracts: whole numbers of the reference in limbs of 24 bits. -/
set_option linter.unusedVariables false
namespace Go.Proofs.Ytabgkpfcpncmhaa
open Go Go.Vc

variable {w : World} {K : Value → World → Prop}

theorem lim_len {l : List Nat} (h : Norm 16777216 l) (hb : bl (val 16777216 l) ≤ 1099511627776) : l.length ≤ 45812984491 := by
  have := (Norm.len_le (s := 24) (by decide) h).1
  have e : val (2 ^ 24) l = val 16777216 l := rfl
  rw [e] at this
  omega
theorem IR.sl {k : IntKind} {v : Value} {l : List Nat} (h : IR k w v l) : ∃ a n c, v = .slice a n c := by
  obtain ⟨_, _, a, c, rfl, _⟩ := h.row
  exact ⟨_, _, _, rfl⟩
theorem sl_one {v : Value} (h : ∃ a n c, v = .slice a n c) : v.oneCell' = true := by obtain ⟨_, _, _, rfl⟩ := h; rfl
theorem bld_Whole2 {n : Int} {s : Value} {K : Value → Prop} (hs : ∃ a l c, s = .slice a l c) : bld P t_impl_Whole [(0, .int .i64 n), (1, s)] w K = K (.agg #[.int .i64 n, s]) := by
  obtain ⟨a, l, c, rfl⟩ := hs
  exact bld_of (by kernel_rfl)
/-- A whole number, put into its variable. -/
theorem wh_ret {base : Nat} {x v : Value} {m : Int} {lo hi : Nat} {cs : List Value} (hb : Bx w base t_impl_Whole x cs) (hl : cs.length = 2) (hv : Wo w lo hi v m) (H : ∀ w', w.grownBy w' (blk x) → Wo w' lo hi v m → K v w') :
    sto P t_impl_Whole x v w fun w' => ldc P t_impl_Whole x w' fun r => K r w' := by
  obtain ⟨s, l, rfl, ho, hw⟩ := hv
  refine hb.put i_impl_Whole (ds := [.int .i64 m.sign, s]) rfl hl (one_2 rfl (sl_one (IR.sl (OD.IR ho.own)))) fun w' b' g' => ?_
  exact b'.getc u_impl_Whole rfl i_impl_Whole rfl (H w' g' ⟨s, l, rfl, ⟨keep_row ho.own g' (Ty.box hb) (by decide), ho.top⟩, hw⟩)
theorem wo_mono {lo hi lo' hi' : Nat} {v : Value} {m : Int} (h : Wo w lo hi v m) (h1 : lo' ≤ lo) (h2 : hi ≤ hi') : Wo w lo' hi' v m := let ⟨s, l, a, b, c⟩ := h; ⟨s, l, a, b.mono h1 h2, c⟩

theorem c_l01Own {s : Value} {l : List Nat} (h : IR .i64 w s l) (hl : l.length ≤ 100000000000) (H : ∀ v' w', Ext w w' → OD .i64 t_int64 w' w.heap.size v' l → K v' w') : call P f_spec_l01Own [s] w K := by
  refine I_spec_l01Own ?_
  unfold D_spec_l01Own
  refine bsl_nil u_s_int64 i_int64 ?_
  have he := Ext_alloc w (.cells #[] t_int64)
  have hz : (w.alloc (.cells #[] t_int64)).ownsRow w.heap.size t_int64 1 (.slice (some ⟨w.heap.size, 0, none⟩) 0 0) 0 [] := owns_lit w [] t_int64
  generalize w.alloc (.cells #[] t_int64) = w1 at he hz ⊢
  refine append_intro hz (h.ext he).row (by simp [Value.oneCell']) u_s_int64 i_int64 rfl (by decide) (by simp only [maxLen]; omega) (by omega) he.size fun v' w2 ho hg => ?_
  refine H _ _ (ext_of_grown he (fun g hq => (hz.lt g hq).1) hg) ?_
  simpa using ho

theorem c_l02Make {s : Value} {l : List Nat} {sg m : Int} (h : IR .i64 w s l) (hd : Dig 16777216 l) (hm : m.natAbs = val 16777216 l) (hs : m ≠ 0 → m.sign = sg) (hl : l.length ≤ 100000000000)
    (H : ∀ v' w', Ext w w' → Wo w' w.heap.size w'.heap.size v' m → K v' w') : call P f_spec_l02Make [.int .i64 sg, s] w K := by
  refine I_spec_l02Make ?_
  unfold D_spec_l02Make
  refine alc_bx i_impl_Whole fun x w1 b1 e1 _ => ?_
  have h1 := h.ext e1
  rw [h1.row.len u_s_int64]
  refine ⟨fun g y w' => w' = w1 ∧ y = .int .i64 (g : Int) ∧ g ≤ l.length ∧ trim (l.take g) = trim l, ⟨l.length, rfl, rfl, Nat.le_refl _, by rw [List.take_length]⟩, ?_⟩
  rintro g y junk w' ⟨rfl, rfl, hg, ht⟩
  have hlt : (l.take g).length = g := by rw [List.length_take]; omega
  rw [bin_gtr]
  have fin : (l.take g).getLast? ≠ some 0 → bin P .eql t_int false true (.int .i64 (g : Int)) (.int .i64 0) w' fun x21_17 =>
      cnd x21_17 (bld P t_impl_Whole [] w' fun x22_18 => sto P t_impl_Whole x x22_18 w' fun w20 => ldc P t_impl_Whole x w20 fun r21 => K r21 w20)
        (sli P t_s_int64 s none (some (.int .i64 (g : Int))) none w' fun x26_22 => call P f_spec_l01Own [x26_22] w' fun x27_23 w24 => bld P t_impl_Whole [(0, .int .i64 sg), (1, x27_23)] w24 fun x28_25 => sto P t_impl_Whole x x28_25 w24 fun w27 => ldc P t_impl_Whole x w27 fun r28 => K r28 w27) := by
    intro hz
    rw [trim_last hz] at ht
    rw [bin_eql]
    refine cnd_dec (fun h0 => ?_) (fun h0 => ?_)
    · have hg0 : g = 0 := by omega
      subst hg0
      have hv0 : val 16777216 l = 0 := by rw [← val_trim, ← ht]; rfl
      have hm0 : m = 0 := by omega
      subst hm0
      rw [bld_Whole0]
      have hz0 : Wo w' w.heap.size w.heap.size (.agg #[.int .i64 0, .slice none 0 0]) 0 := ⟨_, [], rfl, ⟨OD.nil _ _ _ _, fun k hk => by cases hk⟩, Wl.zero⟩
      refine wh_ret b1 rfl hz0 fun w2 g2 h2 => ?_
      have e2 := ext_of_grown e1 (fun g hg => (b1.blk_lt hg).1) g2
      exact H _ _ e2 (wo_mono h2 (Nat.le_refl _) e2.size)
    · refine Row.sli_h h1.row h1.cap u_s_int64 i_int64 hg fun v' r1 r2 _ _ => ?_
      have hI : IR .i64 w' v' (l.take g) := ⟨by rw [hlt, List.map_take]; exact r1, r2⟩
      refine c_l01Own hI (by omega) fun s' w2 e2 o2 => ?_
      rw [bld_Whole2 (IR.sl (OD.IR o2))]
      have b2 := b1.ext e2
      have hn : Norm 16777216 (l.take g) := by rw [ht]; exact Norm.trim hd
      have hv : val 16777216 (l.take g) = m.natAbs := by rw [hm, ht, val_trim]
      have hm0 : m ≠ 0 := by
        rintro rfl
        have : l.take g ≠ [] := by
          intro e
          rw [e] at hlt
          simp at hlt
          omega
        have := hn.pos (by decide) this
        rw [hv] at this
        exact absurd this (by decide)
      have hW : Wo w2 w.heap.size w2.heap.size (.agg #[.int .i64 sg, s']) m := ⟨s', _, by rw [hs hm0], OwnR.of (owns_base o2 e1.size), hn, hv⟩
      refine wh_ret b2 rfl hW fun w3 g3 h3 => ?_
      have e3 : Ext w w3 := ext_of_grown (e1.trans e2) (fun g hg => (b2.blk_lt hg).1) g3
      exact H _ _ e3 (wo_mono h3 (Nat.le_refl _) g3.size)
  refine ⟨_, fun _ _ _ h => h, ?_⟩
  refine grd_split (fun hp => ?_) (fun hp => ?_)
  · simp only [decide_eq_true_eq] at hp
    have hg0 : 0 < g := by omega
    rw [bin_subI1 (b := 1) (by omega) (by have := h.bound; omega)]
    refine h1.at (i := g - 1) (by omega) u_s_int64 i_int64 u_int64 ?_
    rw [bin_eql, pick_bool, decide_eq_true hp, cond_true]
    have hlast : (l.take g).getLast? = some l[g - 1] := by
      rw [List.getLast?_eq_getElem?, hlt, List.getElem?_take, if_pos (by omega)]
      exact List.getElem?_eq_getElem (by omega)
    refine cnd_dec (fun hz => ?_) (fun hz => ?_)
    · have hz' : l[g - 1] = 0 := by simpa using hz
      rw [bin_subI1 (b := 1) (by omega) (by have := h.bound; omega)]
      refine ⟨g - 1, by omega, rfl, rfl, by omega, ?_⟩
      have htk := List.take_succ_eq_append_getElem (l := l) (i := g - 1) (by omega)
      rw [show g - 1 + 1 = g by omega, hz'] at htk
      rw [← ht, htk, trim_snoc_zero]
    · exact fin (by rw [hlast]; simpa using hz)
  · rw [hp, Bool.not_true, pick_bool, cond_false, cnd_false]
    simp only [Bool.not_true, decide_eq_false_iff_not] at hp
    have hg0 : g = 0 := by omega
    subst hg0
    exact fin (by simp)

/-! ### parts of a whole number -/
theorem bx_Wh {m : Int} {s : Value} {KW : Value → World → Prop} (H : ∀ x w', Bx w' w.heap.size t_impl_Whole x [.int .i64 m, s] → Ext w w' → KW x w') : bx P t_impl_Whole (.agg #[.int .i64 m, s]) w KW :=
  bx_bx fun x w' b e _ => H x w' b e
theorem wh_s {base : Nat} {x s : Value} {m : Int} {K : Value → Prop} (h : Bx w base t_impl_Whole x [.int .i64 m, s]) (H : K (.int .i64 m)) : fda P t_impl_Whole x 0 w (fun a => ld P t_int64 a w K) :=
  h.fld (off := 0) rfl u_impl_Whole rfl i_int64 u_int64 rfl H
theorem wh_l {base : Nat} {x s : Value} {m : Int} {K : Value → Prop} (h : Bx w base t_impl_Whole x [.int .i64 m, s]) (H : K s) : fda P t_impl_Whole x 1 w (fun a => ld P t_s_int64 a w K) :=
  h.fld (off := 1) rfl u_impl_Whole rfl i_s_int64 u_s_int64 rfl H
theorem wh_all {base : Nat} {x s : Value} {m : Int} {K : Value → Prop} (h : Bx w base t_impl_Whole x [.int .i64 m, s]) (H : K (.agg #[.int .i64 m, s])) : ld P t_impl_Whole x w K :=
  h.get u_impl_Whole rfl i_impl_Whole rfl H
theorem alc_Wh {KW : Value → World → Prop} (H : ∀ x w', (∃ cs, cs.length = 2 ∧ Bx w' w.heap.size t_impl_Whole x cs) → Ext w w' → KW x w') : alc P t_impl_Whole w KW :=
  alc_bx i_impl_Whole fun x w' b e _ => H x w' ⟨_, rfl, b⟩ e
/-- The end of a function that makes a whole number: 'Make', the variable, the result. -/
theorem wh_make {base : Nat} {x s : Value} {l : List Nat} {sg m : Int} {cs : List Value} {w0 : World} (he : Ext w0 w) (hb : Bx w base t_impl_Whole x cs) (hcs : cs.length = 2) (hbase : w0.heap.size ≤ base) (h : IR .i64 w s l) (hd : Dig 16777216 l) (hm : m.natAbs = val 16777216 l) (hs : m ≠ 0 → m.sign = sg) (hl : l.length ≤ 100000000000)
    (H : ∀ v' w', Ext w0 w' → Wo w' w0.heap.size w'.heap.size v' m → K v' w') : call P f_spec_l02Make [.int .i64 sg, s] w fun r w1 => sto P t_impl_Whole x r w1 fun w2 => ldc P t_impl_Whole x w2 fun r => K r w2 := by
  refine c_l02Make h hd hm hs hl fun v' w1 e1 h1 => ?_
  have b1 := hb.ext e1
  refine wh_ret b1 hcs h1 fun w2 g2 h2 => ?_
  have e2 : Ext w0 w2 := ext_of_grown (he.trans e1) (fun g hg => Nat.le_trans hbase (b1.blk_lt hg).1) g2
  exact H _ _ e2 (wo_mono h2 he.size g2.size)

/-! ### integers -/
theorem tmod_abs (a : Int) : (a.tmod 16777216).natAbs = a.natAbs % 16777216 := Int.natAbs_tmod a 16777216
theorem tdiv_abs (a : Int) : (a.tdiv 16777216).natAbs = a.natAbs / 16777216 := Int.natAbs_tdiv a 16777216

theorem c_l02Of {n : Int} (h1 : -9223372036854775807 ≤ n) (h2 : n ≤ 9223372036854775807) (H : ∀ v' w', Ext w w' → Wo w' w.heap.size w'.heap.size v' n → K v' w') : call P f_spec_l02Of [.int .i64 n] w K := by
  refine I_spec_l02Of ?_
  unfold D_spec_l02Of
  refine alc_Wh fun x w1 ⟨cs, hcs, b1⟩ e1 => ?_
  refine bsl_nil u_s_int64 i_int64 ?_
  have he := Ext_alloc w1 (.cells #[] t_int64)
  have hz : OD .i64 t_int64 (w1.alloc (.cells #[] t_int64)) w1.heap.size (.slice (some ⟨w1.heap.size, 0, none⟩) 0 0) [] := owns_lit w1 [] t_int64
  generalize w1.alloc (.cells #[] t_int64) = w2 at he hz ⊢
  refine ⟨fun y w' => w' = w2 ∧ y = .int .i64 (if n < 0 then -1 else 1), ?_, ?_⟩
  · rintro y junk w' ⟨rfl, rfl⟩
    refine ⟨fun g x y w' => ∃ (a : Int) (q : List Nat), g = a.natAbs ∧ x = .int .i64 a ∧ Ext w1 w' ∧ OD .i64 t_int64 w' w1.heap.size y q ∧ q.length ≤ 64 ∧ val 16777216 q + 16777216 ^ q.length * a.natAbs = n.natAbs ∧ Dig 16777216 q ∧ a.natAbs ≤ n.natAbs,
      ⟨n.natAbs, n, [], rfl, rfl, he, hz, Nat.zero_le _, by simp [val], (by intro d hd; cases hd), Nat.le_refl _⟩, ?_⟩
    rintro g x y junk w3 ⟨a, q, rfl, rfl, e3, oq, hq64, hv, dq, ha⟩
    have E3 := e1.trans e3
    have hql : a ≠ 0 → q.length < 64 := fun ha0 => by
      have h3 : 16777216 ^ q.length * 1 ≤ 16777216 ^ q.length * a.natAbs := Nat.mul_le_mul_left _ (by omega)
      have h4 : 2 ^ (24 * q.length) ≤ n.natAbs := by rw [Nat.pow_mul, show (2 : Nat) ^ 24 = 16777216 from rfl]; omega
      refine Nat.lt_of_not_le fun hc => ?_
      have : 2 ^ 64 ≤ 2 ^ (24 * q.length) := Nat.pow_le_pow_right (by decide) (by omega)
      have h64 : (2 : Nat) ^ 64 = 18446744073709551616 := by decide
      omega
    rw [bin_neq]
    refine cnd_dec (fun hne => ?_) (fun heq => ?_)
    · rw [bin_rem _ _ _ _ _ _ _ (by decide)]
      have hm := tmod_abs a
      have hq := tdiv_abs a
      have hmod := Nat.mod_lt a.natAbs (show 0 < 16777216 by decide)
      refine ⟨fun y w' => w' = w3 ∧ y = .int .i64 ((a.natAbs % 16777216 : Nat) : Int), ?_, ?_⟩
      · rintro y' junk w4 ⟨rfl, rfl⟩
        have := hql (by omega)
        refine app_OD oq u_s_int64 i_int64 (by simp only [maxLen]; omega) (by omega) e3.size fun v' w5 o5 g5 => ?_
        rw [bin_quo _ _ _ _ _ _ _ (by decide), wrap_i64 (by omega) (by omega)]
        refine ⟨_, ?_, a.tdiv 16777216, _, rfl, rfl, ext_of_grown e3 (fun g hg => (oq.lt g hg).1) g5, o5, by simp; omega, ?_, ?_, by omega⟩
        · rw [hq]; omega
        · rw [val_snoc, List.length_append, List.length_singleton, Nat.pow_succ, hq]
          exact digs_step hv rfl rfl
        · intro d hd
          rcases List.mem_append.1 hd with hd | hd
          · exact dq d hd
          · simp at hd; omega
      · rw [bin_lss]
        refine cnd_dec (fun hneg => ?_) (fun hpos => ?_)
        · rw [una_neg_int, wrap_i64 (by omega) (by omega)]
          exact ⟨rfl, by congr 1; omega⟩
        · exact ⟨rfl, by congr 1; omega⟩
    · have ha0 : a = 0 := by omega
      subst ha0
      refine wh_make E3 (b1.ext e3) hcs (Nat.le_refl _) (OD.IR oq) dq (by simpa using hv.symm) (fun hn => ?_) ?_ fun v' w' he' hw' => H v' w' he' hw'
      · split
        · rename_i h; exact Int.sign_eq_neg_one_of_neg h
        · exact Int.sign_eq_one_of_pos (by omega)
      · omega
  · rw [bin_lss]
    refine cnd_dec (fun hneg => ?_) (fun hpos => ?_)
    · exact ⟨rfl, by rw [if_pos hneg]⟩
    · exact ⟨rfl, by rw [if_neg hpos]⟩
end Go.Proofs.Ytabgkpfcpncmhaa

/- Contracts: sums, differences, products, shifts of the reference's whole numbers. -/
set_option linter.unusedVariables false
namespace Go.Proofs.Ytabgkpfcpncmhaa
open Go Go.Vc

variable {w : World} {K : Value → World → Prop}

theorem pL (i : Nat) : (16777216 : Nat) ^ (i + 1) = 16777216 ^ i * 16777216 := Nat.pow_succ ..
theorem Dig_snoc {b : Nat} {l : List Nat} {x : Nat} (h : Dig b l) (hx : x < b) : Dig b (l ++ [x]) := fun d hd => by
  rcases List.mem_append.1 hd with hd | hd
  · exact h d hd
  · simp at hd; omega
theorem getD_ge {l : List Nat} {i : Nat} (h : l.length ≤ i) : l.getD i 0 = 0 := by rw [List.getD_eq_getElem?_getD]; simp [h]
theorem bin_remI {t : TypeId} {cx cy : Bool} {a b : Nat} {c : Int} {K : Value → Prop} (hb : b ≠ 0) (hc : c = (b : Int) := by rfl) : bin P .rem t cx cy (.int .i64 (a : Int)) (.int .i64 c) w K = K (.int .i64 ((a % b : Nat) : Int)) := bin_remN hb hc
theorem bin_quoI {t : TypeId} {cx cy : Bool} {a b : Nat} {c : Int} {K : Value → Prop} (ha : a ≤ 9223372036854775807) (hb : b ≠ 0) (hc : c = (b : Int) := by rfl) : bin P .quo t cx cy (.int .i64 (a : Int)) (.int .i64 c) w K = K (.int .i64 ((a / b : Nat) : Int)) := bin_quoN (by rw [max_i64]; omega) hb hc

/-! ### comparing -/
theorem c_l02CompareLimbs {u v : Value} {l r : List Nat} (h1 : IR .i64 w u l) (h2 : IR .i64 w v r) (n1 : Norm 16777216 l) (n2 : Norm 16777216 r) (H : K (.int .i64 (cmpN (val 16777216 l) (val 16777216 r))) w) : call P f_spec_l02CompareLimbs [u, v] w K := by
  refine I_spec_l02CompareLimbs ?_
  unfold D_spec_l02CompareLimbs
  have b1 := h1.bound
  have b2 := h2.bound
  have one : ∀ {a b : Nat} {K : Prop}, a ≠ b → (∀ {w : World} {K : Value → World → Prop}, K (.int .i64 (cmpN a b)) w → (if a < b then K (.int .i64 (-1)) w else K (.int .i64 1) w)) := by
    intro a b _ hne w K hk
    unfold cmpN at hk
    split
    · rename_i h; rw [if_pos h] at hk; exact hk
    · rename_i h; rw [if_neg h, if_pos (by omega)] at hk; exact hk
  rw [h1.row.len u_s_int64, h2.row.len u_s_int64, bin_neq]
  refine cnd_dec (fun h => ?_) (fun h => ?_)
  · rw [h1.row.len u_s_int64, h2.row.len u_s_int64, bin_lss]
    rw [cmpN_len n1 n2 (by omega)] at H
    have := one (K := True) (show l.length ≠ r.length by omega) H
    refine cnd_dec (fun hl => ?_) (fun hl => ?_)
    · rw [if_pos (by omega)] at this; exact this
    · rw [if_neg (by omega)] at this; exact this
  · have hlen : l.length = r.length := by omega
    rw [h1.row.len u_s_int64, bin_sub, wrap_i64 (by omega) (by omega)]
    refine ⟨fun m x w' => w' = w ∧ x = .int .i64 ((m : Int) - 1) ∧ m ≤ l.length ∧ l.drop m = r.drop m, ⟨l.length, rfl, rfl, Nat.le_refl _, by rw [List.drop_length, hlen, List.drop_length]⟩, ?_⟩
    rintro m x junk w' ⟨rfl, rfl, hm, hd⟩
    rw [bin_geq]
    refine cnd_dec (fun hge => ?_) (fun hlt => ?_)
    · have hm0 : 0 < m := by omega
      rw [show (m : Int) - 1 = ((m - 1 : Nat) : Int) by omega]
      refine h1.at (i := m - 1) (by omega) u_s_int64 i_int64 u_int64 ?_
      refine h2.at (i := m - 1) (by omega) u_s_int64 i_int64 u_int64 ?_
      rw [bin_neq]
      refine cnd_dec (fun hne => ?_) (fun heq => ?_)
      · refine h1.at (i := m - 1) (by omega) u_s_int64 i_int64 u_int64 ?_
        refine h2.at (i := m - 1) (by omega) u_s_int64 i_int64 u_int64 ?_
        have hne' : l[m - 1] ≠ r[m - 1] := by omega
        rw [cmpN_dig (i := m - 1) n1.1 n2.1 hlen (by omega) (by rw [show m - 1 + 1 = m by omega]; exact hd) hne'] at H
        have := one (K := True) hne' H
        rw [bin_lss]
        refine cnd_dec (fun hl => ?_) (fun hl => ?_)
        · rw [if_pos (by omega)] at this; exact this
        · rw [if_neg (by omega)] at this; exact this
      · rw [bin_sub, wrap_i64 (by omega) (by omega)]
        refine ⟨m - 1, by omega, rfl, by congr 1, by omega, ?_⟩
        rw [List.drop_eq_getElem_cons (by omega : m - 1 < l.length), List.drop_eq_getElem_cons (by omega : m - 1 < r.length), show m - 1 + 1 = m by omega, hd]
        congr 1; omega
    · have hm0 : m = 0 := by omega
      subst hm0
      have : l = r := by simpa using hd
      subst this
      unfold cmpN at H
      rw [if_neg (by omega), if_neg (by omega)] at H
      exact H

/-! ### sums -/
theorem step_add24 {V L R p c a b s : Nat} (hv : V + c * p = L + R) (hs : s = c + a + b) : V + p * (s % 16777216) + s / 16777216 * (p * 16777216) = L + p * a + (R + p * b) := by
  have h := Nat.div_add_mod s 16777216
  have h2 : p * (16777216 * (s / 16777216) + s % 16777216) = p * (c + a + b) := by rw [h, hs]
  grind
theorem c_l02Plus {u v : Value} {l r : List Nat} (h1 : IR .i64 w u l) (h2 : IR .i64 w v r) (d1 : Dig 16777216 l) (d2 : Dig 16777216 r) (l1 : l.length ≤ 45812984491) (l2 : r.length ≤ 45812984491)
    (H : ∀ v' w' q, Ext w w' → OD .i64 t_int64 w' w.heap.size v' q → Dig 16777216 q → val 16777216 q = val 16777216 l + val 16777216 r → q.length ≤ 45812984492 → K v' w') : call P f_spec_l02Plus [u, v] w K := by
  refine I_spec_l02Plus ?_
  unfold D_spec_l02Plus
  refine bsl_nil u_s_int64 i_int64 ?_
  have he := Ext_alloc w (.cells #[] t_int64)
  have hz : OD .i64 t_int64 (w.alloc (.cells #[] t_int64)) w.heap.size (.slice (some ⟨w.heap.size, 0, none⟩) 0 0) [] := owns_lit w [] t_int64
  generalize w.alloc (.cells #[] t_int64) = w1 at he hz ⊢
  refine ⟨fun g x y z w' => ∃ (i c : Nat) (q : List Nat), g + i = max l.length r.length + 1 ∧ y = .int .i64 (c : Int) ∧ z = .int .i64 (i : Int) ∧ Ext w w' ∧ OD .i64 t_int64 w' w.heap.size x q ∧ q.length = i ∧ Dig 16777216 q ∧ c ≤ 1 ∧
    val 16777216 q + c * 16777216 ^ i = val 16777216 (l.take i) + val 16777216 (r.take i) ∧ (max l.length r.length < i → c = 0), ⟨max l.length r.length + 1, 0, 0, [], rfl, rfl, rfl, he, hz, rfl, (by intro d hd; cases hd), by omega, by simp [val], by omega⟩, ?_⟩
  rintro g x y z junk w2 ⟨i, c, q, hg, rfl, rfl, e2, oq, hq, dq, hc, hv, hfin⟩
  rw [(h1.ext e2).row.len u_s_int64, bin_lss]
  -- what follows
  have more : i < l.length ∨ i < r.length ∨ 0 < c → ∃ J22 : Value → World → Prop, (∀ (x6_25 : Value) (junk23 : Env) (w24 : World), J22 x6_25 w24 →
            ∃ J26 : Value → World → Prop, (∀ (x6_29 : Value) (junk27 : Env) (w28 : World), J26 x6_29 w28 →
              bin P .rem t_int64 false true x6_29 (.int .i64 16777216) w28 fun x47_30 =>
              bsl P t_s_int64 1 [(0, x47_30)] w28 fun x48_31 w32 =>
              bl2 P .append #[t_s_int64, t_s_int64] t_s_int64 [x, x48_31] w32 fun x49_33 w34 =>
              bin P .quo t_int64 false true x6_29 (.int .i64 16777216) w34 fun x51_35 =>
              bin P .add t_int false true (.int .i64 (i : Int)) (.int .i64 1) w34 fun x24_36 =>
              ∃ m37, m37 < g ∧ ∃ (i c : Nat) (q : List Nat), m37 + i = max l.length r.length + 1 ∧ x51_35 = .int .i64 (c : Int) ∧ x24_36 = .int .i64 (i : Int) ∧ Ext w w34 ∧ OD .i64 t_int64 w34 w.heap.size x49_33 q ∧ q.length = i ∧ Dig 16777216 q ∧ c ≤ 1 ∧
                val 16777216 q + c * 16777216 ^ i = val 16777216 (l.take i) + val 16777216 (r.take i) ∧ (max l.length r.length < i → c = 0)) ∧
              (bl0 P .len #[t_s_int64] t_int [v] w24 fun x37_38 =>
              bin P .lss t_int false false (.int .i64 (i : Int)) x37_38 w24 fun x38_39 =>
              cnd x38_39
                (ixa P t_s_int64 v (.int .i64 (i : Int)) w24 fun x42_40 =>
                ld P t_int64 x42_40 w24 fun x43_41 =>
                bin P .add t_int64 false false x6_25 x43_41 w24 fun x44_42 =>
                J26 x44_42 w24)
                (J26 x6_25 w24))) ∧
            (bl0 P .len #[t_s_int64] t_int [u] w2 fun x27_43 =>
            bin P .lss t_int false false (.int .i64 (i : Int)) x27_43 w2 fun x28_44 =>
            cnd x28_44
              (ixa P t_s_int64 u (.int .i64 (i : Int)) w2 fun x32_45 =>
              ld P t_int64 x32_45 w2 fun x33_46 =>
              bin P .add t_int64 false false (.int .i64 (c : Int)) x33_46 w2 fun x34_47 =>
              J22 x34_47 w2)
              (J22 (.int .i64 (c : Int)) w2)) := by
    intro hor
    have hi : i ≤ max l.length r.length := by
      rcases hor with h | h | h
      · omega
      · omega
      · refine Nat.le_of_not_lt fun hlt => ?_
        have := hfin hlt; omega
    have ga : l.getD i 0 < 16777216 := by
      by_cases h : i < l.length
      · rw [getD_get h]; exact Dig_get d1 h
      · rw [getD_ge (by omega)]; decide
    have gb : r.getD i 0 < 16777216 := by
      by_cases h : i < r.length
      · rw [getD_get h]; exact Dig_get d2 h
      · rw [getD_ge (by omega)]; decide
    refine ⟨fun x w' => w' = w2 ∧ x = .int .i64 ((c + l.getD i 0 : Nat) : Int), ?_, ?_⟩
    · rintro x' junk w3 ⟨rfl, rfl⟩
      refine ⟨fun x w' => w' = w3 ∧ x = .int .i64 ((c + l.getD i 0 + r.getD i 0 : Nat) : Int), ?_, ?_⟩
      · rintro x' junk w4 ⟨rfl, rfl⟩
        rw [bin_remI (b := 16777216) (by decide)]
        refine app_OD oq u_s_int64 i_int64 (by simp only [maxLen]; omega) (by omega) e2.size fun v' w5 o5 g5 => ?_
        rw [bin_quoI (b := 16777216) (by omega) (by decide), bin_addI1 (b := 1) (by omega)]
        refine ⟨g - 1, by omega, i + 1, _, _, by omega, rfl, rfl, own_step e2 oq g5, o5, by simp [hq], Dig_snoc dq (Nat.mod_lt _ (by decide)), by omega, ?_, fun hlt => ?_⟩
        · rw [val_snoc, hq, val_take_succD, val_take_succD, pL]
          exact step_add24 hv rfl
        · have h3 : i = max l.length r.length := by omega
          rw [getD_ge (by omega : l.length ≤ i), getD_ge (by omega : r.length ≤ i)]
          omega
      · rw [(h2.ext e2).row.len u_s_int64, bin_lss]
        refine cnd_dec (fun h => ?_) (fun h => ?_)
        · have h' : i < r.length := by omega
          refine (h2.ext e2).at h' u_s_int64 i_int64 u_int64 ?_
          rw [getD_get h'] at gb ⊢
          rw [bin_addI (by omega)]
          exact ⟨rfl, rfl⟩
        · exact ⟨rfl, by rw [getD_ge (l := r) (by omega)]; rfl⟩
    · rw [(h1.ext e2).row.len u_s_int64, bin_lss]
      refine cnd_dec (fun h => ?_) (fun h => ?_)
      · have h' : i < l.length := by omega
        refine (h1.ext e2).at h' u_s_int64 i_int64 u_int64 ?_
        rw [getD_get h'] at ga ⊢
        rw [bin_addI (by omega)]
        exact ⟨rfl, rfl⟩
      · exact ⟨rfl, by rw [getD_ge (l := l) (by omega)]; rfl⟩
  refine ⟨fun x w' => w' = w2 ∧ (¬ (i : Int) < l.length → x = .bool (decide (i < r.length))), ?_, ?_⟩
  · rintro x' junk w3 ⟨rfl, hx⟩
    have hp : ∃ b1 : Bool, b1 = decide (i < l.length ∨ i < r.length) ∧ pick (.bool (decide ((i : Int) < l.length))) (.bool true) x' = fun K => K (.bool b1) := by
      refine ⟨_, rfl, ?_⟩
      funext K
      rw [pick_bool]
      by_cases h : (i : Int) < l.length
      · rw [decide_eq_true h, cond_true, decide_eq_true (by left; omega)]
      · rw [decide_eq_false h, cond_false, hx h]
        congr 2
        rw [decide_eq_decide]; omega
    obtain ⟨b1, hb1, hp⟩ := hp
    rw [hp]
    refine ⟨fun x w' => w' = w3 ∧ (b1 = false → x = .bool (decide (0 < c))), ?_, ?_⟩
    · rintro x'' junk w4 ⟨rfl, hx2⟩
      rw [pick_bool]
      cases hb : b1
      · rw [cond_false, hx2 hb]
        refine cnd_dec (fun hc0 => ?_) (fun hc0 => ?_)
        · exact more (.inr (.inr hc0))
        · rw [hb] at hb1
          have hb1 := (decide_eq_false_iff_not.1 hb1.symm)
          have hc0 : c = 0 := by omega
          subst hc0
          rw [List.take_of_length_le (by omega), List.take_of_length_le (by omega)] at hv
          exact H _ _ _ e2 oq dq (by simpa using hv) (by omega)
      · rw [cond_true, cnd_true]
        rw [hb] at hb1
        have hb1 := of_decide_eq_true hb1.symm
        exact more (by rcases hb1 with h | h; exact .inl h; exact .inr (.inl h))
    · refine grd_split (fun h => ?_) (fun h => ?_)
      · rw [bin_gtr]
        exact ⟨rfl, fun _ => by congr 1; rw [decide_eq_decide]; omega⟩
      · exact ⟨rfl, fun h2 => by rw [h2] at h; cases h⟩
  · refine grd_split (fun h => ?_) (fun h => ?_)
    · rw [(h2.ext e2).row.len u_s_int64, bin_lss]
      exact ⟨rfl, fun _ => by congr 1; rw [decide_eq_decide]; omega⟩
    · exact ⟨rfl, fun h2 => by rw [decide_eq_false h2] at h; cases h⟩

/-! ### differences -/
theorem step_sub24 {V L R p c a b s0 s1 : Nat} (hv : V + R = L + c * p) (hk : s0 + (c + b) = a + s1 * 16777216) : V + p * s0 + (R + p * b) = L + p * a + s1 * (p * 16777216) := by
  have h2 : p * (s0 + (c + b)) = p * (a + s1 * 16777216) := by rw [hk]
  grind
theorem c_l02Minus {u v : Value} {l r : List Nat} (h1 : IR .i64 w u l) (h2 : IR .i64 w v r) (n1 : Norm 16777216 l) (n2 : Norm 16777216 r) (hle : val 16777216 r ≤ val 16777216 l) (l1 : l.length ≤ 45812984491)
    (H : ∀ v' w' q, Ext w w' → OD .i64 t_int64 w' w.heap.size v' q → Dig 16777216 q → val 16777216 q = val 16777216 l - val 16777216 r → q.length ≤ 45812984492 → K v' w') : call P f_spec_l02Minus [u, v] w K := by
  have d1 := n1.1
  have d2 := n2.1
  have hlr := len_mono n1 n2 hle
  refine I_spec_l02Minus ?_
  unfold D_spec_l02Minus
  refine bsl_nil u_s_int64 i_int64 ?_
  have he := Ext_alloc w (.cells #[] t_int64)
  have hz : OD .i64 t_int64 (w.alloc (.cells #[] t_int64)) w.heap.size (.slice (some ⟨w.heap.size, 0, none⟩) 0 0) [] := owns_lit w [] t_int64
  generalize w.alloc (.cells #[] t_int64) = w1 at he hz ⊢
  refine ⟨fun g x y z w' => ∃ (i c : Nat) (q : List Nat), g + i = l.length ∧ y = .int .i64 (c : Int) ∧ z = .int .i64 (i : Int) ∧ Ext w w' ∧ OD .i64 t_int64 w' w.heap.size x q ∧ q.length = i ∧ Dig 16777216 q ∧ c ≤ 1 ∧
    val 16777216 q + val 16777216 (r.take i) = val 16777216 (l.take i) + c * 16777216 ^ i, ⟨l.length, 0, 0, [], rfl, rfl, rfl, he, hz, rfl, (by intro d hd; cases hd), by omega, by simp [val]⟩, ?_⟩
  rintro g x y z junk w2 ⟨i, c, q, hg, rfl, rfl, e2, oq, hq, dq, hc, hv⟩
  rw [(h1.ext e2).row.len u_s_int64, bin_lss]
  refine cnd_dec (fun hlt => ?_) (fun hge => ?_)
  · have hi : i < l.length := by omega
    refine (h1.ext e2).at hi u_s_int64 i_int64 u_int64 ?_
    have g1 := Dig_get d1 hi
    have gb : r.getD i 0 < 16777216 := by
      by_cases h : i < r.length
      · rw [getD_get h]; exact Dig_get d2 h
      · rw [getD_ge (by omega)]; decide
    rw [bin_sub, wrap_i64 (by omega) (by omega)]
    refine ⟨fun x w' => w' = w2 ∧ x = .int .i64 ((l[i] : Int) - c - (r.getD i 0 : Nat)), ?_, ?_⟩
    · rintro x' junk w3 ⟨rfl, rfl⟩
      rw [bin_lss]
      refine cnd_dec (fun hneg => ?_) (fun hpos => ?_)
      · rw [bin_add, wrap_i64 (by omega) (by omega), show (l[i] : Int) - c - (r.getD i 0 : Nat) + 16777216 = ((l[i] + 16777216 - (c + r.getD i 0) : Nat) : Int) by omega]
        refine app_OD oq u_s_int64 i_int64 (by simp only [maxLen]; omega) (by omega) e2.size fun v' w5 o5 g5 => ?_
        rw [bin_addI1 (b := 1) (by omega)]
        refine ⟨g - 1, by omega, i + 1, 1, _, by omega, rfl, rfl, own_step e2 oq g5, o5, by simp [hq], Dig_snoc dq (by omega), by omega, ?_⟩
        rw [val_snoc, hq, val_take_succD, val_take_succD, pL, getD_get hi]
        exact step_sub24 hv (by omega)
      · rw [show (l[i] : Int) - c - (r.getD i 0 : Nat) = ((l[i] - (c + r.getD i 0) : Nat) : Int) by omega]
        refine app_OD oq u_s_int64 i_int64 (by simp only [maxLen]; omega) (by omega) e2.size fun v' w5 o5 g5 => ?_
        rw [bin_addI1 (b := 1) (by omega)]
        refine ⟨g - 1, by omega, i + 1, 0, _, by omega, rfl, rfl, own_step e2 oq g5, o5, by simp [hq], Dig_snoc dq (by omega), by omega, ?_⟩
        rw [val_snoc, hq, val_take_succD, val_take_succD, pL, getD_get hi]
        exact step_sub24 hv (by omega)
    · rw [(h2.ext e2).row.len u_s_int64, bin_lss]
      refine cnd_dec (fun h => ?_) (fun h => ?_)
      · have h' : i < r.length := by omega
        refine (h2.ext e2).at h' u_s_int64 i_int64 u_int64 ?_
        rw [getD_get h'] at gb ⊢
        rw [bin_sub, wrap_i64 (by omega) (by omega)]
        exact ⟨rfl, rfl⟩
      · exact ⟨rfl, by rw [getD_ge (l := r) (by omega)]; simp⟩
  · have hi : i = l.length := by omega
    subst hi
    rw [List.take_of_length_le (by omega : l.length ≤ l.length), List.take_of_length_le (by omega : r.length ≤ l.length)] at hv
    have hc0 : c = 0 := by
      have h3 := val_lt dq
      rw [hq] at h3
      rcases Nat.eq_zero_or_pos c with h | h
      · exact h
      · have : 1 * 16777216 ^ l.length ≤ c * 16777216 ^ l.length := Nat.mul_le_mul_right _ h
        omega
    subst hc0
    exact H _ _ _ e2 oq dq (by omega) (by omega)
end Go.Proofs.Ytabgkpfcpncmhaa

/- Contracts: the reference's whole numbers: sums, products, bits. -/
set_option linter.unusedVariables false
namespace Go.Proofs.Ytabgkpfcpncmhaa
open Go Go.Vc

variable {w : World} {K : Value → World → Prop}

theorem sign_nz {m n : Int} (h : m.sign = n.sign) : (m < 0 ↔ n < 0) ∧ (0 < m ↔ 0 < n) := by
  rcases Int.lt_trichotomy m 0 with h1 | h1 | h1 <;> rcases Int.lt_trichotomy n 0 with h2 | h2 | h2 <;>
    simp_all [Int.sign_eq_neg_one_of_neg, Int.sign_eq_one_of_pos] <;> omega
theorem sign_neg {m : Int} (h : m < 0) : m.sign = -1 := Int.sign_eq_neg_one_of_neg h
theorem sign_pos {m : Int} (h : 0 < m) : m.sign = 1 := Int.sign_eq_one_of_pos h
theorem sign_bd (m : Int) : -1 ≤ m.sign ∧ m.sign ≤ 1 := by
  rcases Int.lt_trichotomy m 0 with h1 | h1 | h1
  · rw [sign_neg h1]; decide
  · rw [h1]; decide
  · rw [sign_pos h1]; decide
/-- Bounds of a whole number's limbs. -/
theorem Wl.len {l : List Nat} {m : Int} (h : Wl l m) (hb : bl m.natAbs ≤ 1099511627776) : l.length ≤ 45812984491 := lim_len h.1 (by rw [h.2]; exact hb)

theorem c_l02Add {u v : Value} {m n : Int} (hu : Wr w u m) (hv : Wr w v n) (bm : bl m.natAbs ≤ 1099511627776) (bn : bl n.natAbs ≤ 1099511627776)
    (H : ∀ v' w', Ext w w' → Wo w' w.heap.size w'.heap.size v' (m + n) → K v' w') : call P f_spec_l02Add [u, v] w K := by
  obtain ⟨s, l, rfl, h1, wl⟩ := hu
  obtain ⟨t, r, rfl, h2, wr⟩ := hv
  have l1 := wl.len bm
  have l2 := wr.len bn
  obtain ⟨n1, v1⟩ := wl
  obtain ⟨n2, v2⟩ := wr
  refine I_spec_l02Add ?_
  unfold D_spec_l02Add
  refine bx_Wh fun x1 w1 b1 e1 => ?_
  refine bx_Wh fun x2 w2 b2 e2 => ?_
  refine alc_Wh fun x3 w3 ⟨cs, hcs, b3⟩ e3 => ?_
  have b1 := (b1.ext e2).ext e3
  have b2 := b2.ext e3
  have E2 := e1.trans e2
  have E3 := E2.trans e3
  have h1 := h1.ext E3
  have h2 := h2.ext E3
  refine wh_s b1 ?_
  rw [bin_eql]
  refine cnd_dec (fun h0 => ?_) (fun h0 => ?_)
  · have hm : m = 0 := Int.sign_eq_zero_iff_zero.1 h0
    refine wh_s b2 ?_
    refine wh_l b2 ?_
    refine wh_make (m := m + n) E3 b3 hcs E2.size h2 n2.1 (by rw [v2, hm, Int.zero_add]) (fun _ => by rw [hm, Int.zero_add]) (by omega) H
  · have hm : m ≠ 0 := by rintro rfl; exact h0 rfl
    refine wh_s b2 ?_
    rw [bin_eql]
    refine cnd_dec (fun h0' => ?_) (fun h0' => ?_)
    · have hn : n = 0 := Int.sign_eq_zero_iff_zero.1 h0'
      refine wh_s b1 ?_
      refine wh_l b1 ?_
      refine wh_make (m := m + n) E3 b3 hcs E2.size h1 n1.1 (by rw [v1, hn, Int.add_zero]) (fun _ => by rw [hn, Int.add_zero]) (by omega) H
    · have hn : n ≠ 0 := by rintro rfl; exact h0' rfl
      refine wh_s b1 ?_
      refine wh_s b2 ?_
      rw [bin_eql]
      refine cnd_dec (fun hs => ?_) (fun hs => ?_)
      · obtain ⟨q1, q2⟩ := sign_nz hs
        refine wh_s b1 ?_
        refine wh_l b1 ?_
        refine wh_l b2 ?_
        refine c_l02Plus h1 h2 n1.1 n2.1 l1 l2 fun v' w4 q e4 oq dq hq hl => ?_
        refine ⟨e4, ?_⟩
        refine wh_make (m := m + n) (E3.trans e4) (b3.ext e4) hcs E2.size (OD.IR oq) dq (by omega) (fun _ => ?_) (by omega) H
        rcases Int.lt_or_gt_of_ne hm with h | h
        · rw [sign_neg h, sign_neg (by omega)]
        · rw [sign_pos h, sign_pos (by omega)]
      · refine wh_l b1 ?_
        refine wh_l b2 ?_
        refine c_l02CompareLimbs h1 h2 n1 n2 ?_
        rw [bin_geq, v1, v2]
        have hopp : (m < 0 ∧ 0 < n) ∨ (0 < m ∧ n < 0) := by
          rcases Int.lt_or_gt_of_ne hm with h | h <;> rcases Int.lt_or_gt_of_ne hn with h' | h'
          · exact absurd (by rw [sign_neg h, sign_neg h']) hs
          · exact .inl ⟨h, h'⟩
          · exact .inr ⟨h, h'⟩
          · exact absurd (by rw [sign_pos h, sign_pos h']) hs
        refine cnd_dec (fun hc => ?_) (fun hc => ?_)
        · have hle : n.natAbs ≤ m.natAbs := by unfold cmpN at hc; split at hc <;> (try split at hc) <;> omega
          refine wh_s b1 ?_
          refine wh_l b1 ?_
          refine wh_l b2 ?_
          refine c_l02Minus h1 h2 n1 n2 (by rw [v1, v2]; exact hle) l1 fun v' w4 q e4 oq dq hq hl => ?_
          refine ⟨e4, ?_⟩
          refine wh_make (m := m + n) (E3.trans e4) (b3.ext e4) hcs E2.size (OD.IR oq) dq (by omega) (fun _ => ?_) (by omega) H
          rcases hopp with ⟨h, h'⟩ | ⟨h, h'⟩
          · rw [sign_neg h, sign_neg (by omega)]
          · rw [sign_pos h, sign_pos (by omega)]
        · have hle : m.natAbs ≤ n.natAbs := by unfold cmpN at hc; split at hc <;> (try split at hc) <;> omega
          refine wh_s b2 ?_
          refine wh_l b2 ?_
          refine wh_l b1 ?_
          refine c_l02Minus h2 h1 n2 n1 (by rw [v1, v2]; exact hle) l2 fun v' w4 q e4 oq dq hq hl => ?_
          refine ⟨e4, ?_⟩
          refine wh_make (m := m + n) (E3.trans e4) (b3.ext e4) hcs E2.size (OD.IR oq) dq (by omega) (fun _ => ?_) (by omega) H
          rcases hopp with ⟨h, h'⟩ | ⟨h, h'⟩
          · rw [sign_pos h', sign_pos (by omega)]
          · rw [sign_neg h', sign_neg (by omega)]

theorem c_l02Neg {v : Value} {m : Int} (h : Wr w v m) (bm : bl m.natAbs ≤ 1099511627776) (H : ∀ v' w', Ext w w' → Wo w' w.heap.size w'.heap.size v' (-m) → K v' w') : call P f_spec_l02Neg [v] w K := by
  obtain ⟨s, l, rfl, h1, wl⟩ := h
  have l1 := wl.len bm
  refine I_spec_l02Neg ?_
  unfold D_spec_l02Neg
  refine bx_Wh fun x1 w1 b1 e1 => ?_
  refine alc_Wh fun x2 w2 ⟨cs, hcs, b2⟩ e2 => ?_
  have b1 := b1.ext e2
  have E2 := e1.trans e2
  refine wh_s b1 ?_
  have hs := sign_bd m
  rw [una_neg_int, wrap_i64 (by omega) (by omega)]
  refine wh_l b1 ?_
  refine wh_make (m := -m) E2 b2 hcs e1.size (h1.ext E2) wl.1.1 (by rw [wl.2, Int.natAbs_neg]) (fun _ => by rw [Int.sign_neg]; omega) (by omega) H
/-! ### products -/
theorem mul_step24 {V V' Q L p pi pk c x y o s : Nat} (hp : p = pi * pk) (hv : V + c * p = Q + x * L * pi) (hs : s = c + o + x * y) (hq : V' + p * o = V + p * (s % 16777216)) :
    V' + s / 16777216 * (p * 16777216) = Q + x * (L + pk * y) * pi := by
  have h := Nat.div_add_mod s 16777216
  have h2 : p * (16777216 * (s / 16777216) + s % 16777216) = p * (c + o + x * y) := by rw [h, hs]
  subst hp
  grind
theorem mul_limb {x y : Nat} (hx : x < 16777216) (hy : y < 16777216) : x * y ≤ 281474943156225 := by
  have : x * y ≤ 16777215 * 16777215 := Nat.mul_le_mul (by omega) (by omega)
  omega
theorem c_l02Mul {u v : Value} {m n : Int} (hu : Wr w u m) (hv : Wr w v n) (bm : bl m.natAbs ≤ 1099511627776) (bn : bl n.natAbs ≤ 1099511627776)
    (H : ∀ v' w', Ext w w' → Wo w' w.heap.size w'.heap.size v' (m * n) → K v' w') : call P f_spec_l02Mul [u, v] w K := by
  obtain ⟨s, l, rfl, h1, wl⟩ := hu
  obtain ⟨t, r, rfl, h2, wr⟩ := hv
  have l1 := wl.len bm
  have l2 := wr.len bn
  obtain ⟨n1, v1⟩ := wl
  obtain ⟨n2, v2⟩ := wr
  have d1 := n1.1
  have d2 := n2.1
  refine I_spec_l02Mul ?_
  unfold D_spec_l02Mul
  refine bx_Wh fun x1 w1 b1 e1 => ?_
  refine bx_Wh fun x2 w2 b2 e2 => ?_
  refine alc_Wh fun x3 w3 ⟨cs, hcs, b3⟩ e3 => ?_
  have b1 := (b1.ext e2).ext e3
  have b2 := b2.ext e3
  have E2 := e1.trans e2
  have E3 := E2.trans e3
  have h1 := h1.ext E3
  have h2 := h2.ext E3
  refine wh_l b1 ?_
  rw [h1.row.len u_s_int64]
  refine wh_l b2 ?_
  rw [h2.row.len u_s_int64, bin_addI (by omega), bin_addI1 (b := 1) (by omega)]
  refine OD.make u_s_int64 i_int64 (by omega) (by simp only [maxLen]; omega) fun w4 o ho he => ?_
  refine ⟨fun g y w' => ∃ (i : Nat) (q : List Nat), g + i = l.length ∧ y = .int .i64 (i : Int) ∧ Ext w3 w' ∧ OD .i64 t_int64 w' w3.heap.size o q ∧ q.length = l.length + r.length + 1 ∧ Dig 16777216 q ∧ (∀ j, i + r.length ≤ j → q.getD j 0 = 0) ∧
    val 16777216 q = val 16777216 (l.take i) * val 16777216 r, ⟨l.length, 0, _, rfl, rfl, he, ho, by simp, Dig_rep _ _ (by decide), fun j _ => by simp [List.getElem?_replicate]; split <;> rfl, by simp [val, val_replicate]⟩, ?_⟩
  rintro g y junk w5 ⟨i, q, hg, rfl, e5, oq, hq, dq, hz, hv⟩
  refine wh_l (b1.ext e5) ?_
  rw [(h1.ext e5).row.len u_s_int64, bin_lss]
  refine cnd_dec (fun hlt => ?_) (fun hge => ?_)
  · have hi : i < l.length := by omega
    have g1 := Dig_get d1 hi
    refine ⟨fun m' x y w' => ∃ (k c : Nat) (q' : List Nat), m' + k = r.length ∧ x = .int .i64 (c : Int) ∧ y = .int .i64 (k : Int) ∧ Ext w3 w' ∧ OD .i64 t_int64 w' w3.heap.size o q' ∧ q'.length = l.length + r.length + 1 ∧ Dig 16777216 q' ∧ (∀ j, i + r.length ≤ j → q'.getD j 0 = 0) ∧ c < 16777216 ∧
      val 16777216 q' + c * 16777216 ^ (i + k) = val 16777216 (l.take i) * val 16777216 r + l[i] * val 16777216 (r.take k) * 16777216 ^ i,
      ⟨r.length, 0, 0, q, rfl, rfl, rfl, e5, oq, hq, dq, hz, by omega, by simp [val, hv]⟩, ?_⟩
    rintro m' x y junk w6 ⟨k, c, q', hm', rfl, rfl, e6, oq', hq', dq', hz', hc, hv'⟩
    refine wh_l (b2.ext e6) ?_
    rw [(h2.ext e6).row.len u_s_int64, bin_lss]
    refine cnd_dec (fun hlt' => ?_) (fun hge' => ?_)
    · have hk : k < r.length := by omega
      have hik : i + k < q'.length := by omega
      have g2 := Dig_get d2 hk
      have g3 := Dig_get dq' hik
      have hw := mul_limb g1 g2
      rw [bin_addI (by omega)]
      refine (OD.IR oq').at hik u_s_int64 i_int64 u_int64 ?_
      rw [bin_addI (by omega)]
      refine wh_l (b1.ext e6) ?_
      refine (h1.ext e6).at hi u_s_int64 i_int64 u_int64 ?_
      refine wh_l (b2.ext e6) ?_
      refine (h2.ext e6).at hk u_s_int64 i_int64 u_int64 ?_
      rw [bin_mul, show (l[i] : Int) * r[k] = ((l[i] * r[k] : Nat) : Int) by simp, wrap_i64 (by omega) (by omega), bin_addI (by omega), bin_addI (by omega), bin_remI (b := 16777216) (by decide)]
      refine OD.set oq' hik u_s_int64 i_int64 fun w7 o7 g7 => ?_
      rw [bin_quoI (b := 16777216) (by omega) (by decide), bin_addI1 (b := 1) (by omega)]
      refine ⟨m' - 1, by omega, k + 1, _, _, by omega, rfl, rfl, own_step e6 oq' g7, o7, by simpa using hq', Dig_set dq' (Nat.mod_lt _ (by decide)), fun j hj => ?_, by omega, ?_⟩
      · rw [getD_set hik, if_neg (by omega)]; exact hz' j hj
      · rw [val_take_succD, getD_get hk, show (16777216 : Nat) ^ (i + (k + 1)) = 16777216 ^ (i + k) * 16777216 from pL (i + k)]
        exact mul_step24 (Nat.pow_add ..) hv' rfl (val_set_all _ hik)
    · have hk : k = r.length := by omega
      subst hk
      have hik : i + r.length < q'.length := by omega
      refine wh_l (b2.ext e6) ?_
      rw [(h2.ext e6).row.len u_s_int64, bin_addI (by omega)]
      refine OD.set oq' hik u_s_int64 i_int64 fun w7 o7 g7 => ?_
      rw [bin_addI1 (b := 1) (by omega)]
      refine ⟨g - 1, by omega, i + 1, _, by omega, rfl, own_step e6 oq' g7, o7, by simpa using hq', Dig_set dq' hc, fun j hj => ?_, ?_⟩
      · rw [getD_set hik, if_neg (by omega)]; exact hz' j (by omega)
      · rw [val_take_succD, getD_get hi]
        rw [List.take_of_length_le (Nat.le_refl _)] at hv'
        refine mul_last (Nat.pow_add ..) hv' ?_
        have h3 := val_set_all 16777216 (l := q') (x := c) hik
        have h4 := hz' (i + r.length) (Nat.le_refl _)
        rw [getD_get hik] at h4
        rw [h4] at h3
        exact h3
  · have hi : i = l.length := by omega
    subst hi
    rw [List.take_of_length_le (Nat.le_refl _)] at hv
    refine wh_s (b1.ext e5) ?_
    refine wh_s (b2.ext e5) ?_
    have hsg : IntKind.i64.wrap (m.sign * n.sign) = (m * n).sign := by
      rw [Int.sign_mul]
      have := sign_bd (m * n)
      rw [Int.sign_mul] at this
      exact wrap_i64 (by omega) (by omega)
    rw [bin_mul, hsg]
    refine wh_make (m := m * n) (E3.trans e5) (b3.ext e5) hcs E2.size (OD.IR oq) dq (by rw [hv, v1, v2, Int.natAbs_mul]) (fun _ => rfl) (by omega) H

/-! ### bits -/
theorem bit_val24 {l : List Nat} (hd : Dig 16777216 l) (i : Nat) : val 16777216 l / 2 ^ i % 2 = l.getD (i / 24) 0 / 2 ^ (i % 24) % 2 := by
  have hn : 2 ^ i = 16777216 ^ (i / 24) * 2 ^ (i % 24) := by
    conv => lhs; rw [← Nat.div_add_mod i 24, Nat.pow_add, Nat.pow_mul]
  have hs : i % 24 < 24 := Nat.mod_lt _ (by decide)
  rw [hn, ← Nat.div_div_eq_div_mul]
  by_cases h : i / 24 < l.length
  · have hp : 0 < 16777216 ^ (i / 24) := Nat.pow_pos (by decide)
    have h1 : val 16777216 l / 16777216 ^ (i / 24) = val 16777216 (l.drop (i / 24)) := by
      rw [val_split _ l (Nat.le_of_lt h), Nat.add_mul_div_left _ _ hp, Nat.div_eq_of_lt, Nat.zero_add]
      have := val_lt (hd.take (i / 24))
      rw [List.length_take, Nat.min_eq_left (by omega)] at this
      exact this
    rw [h1, List.drop_eq_getElem_cons h, val, getD_get h]
    have h2 : (16777216 : Nat) = 2 ^ (i % 24) * (2 * 2 ^ (23 - i % 24)) := by
      rw [← Nat.pow_succ', ← Nat.pow_add, show i % 24 + (23 - i % 24).succ = 24 by omega]
    have h3 : ∀ X, 16777216 * X = 2 ^ (i % 24) * (2 * (2 ^ (23 - i % 24) * X)) := fun X => by
      conv => lhs; rw [h2]
      grind
    rw [h3, Nat.add_mul_div_left _ _ (Nat.two_pow_pos _), Nat.add_mul_mod_self_left]
  · have h1 : val 16777216 l / 16777216 ^ (i / 24) = 0 :=
      Nat.div_eq_of_lt (Nat.lt_of_lt_of_le (val_lt hd) (Nat.pow_le_pow_right (by decide) (by omega)))
    rw [h1, getD_ge (by omega)]
theorem bin_and1 {t : TypeId} {cx cy : Bool} {a : Nat} {K : Value → Prop} (ha : a ≤ 9223372036854775807) : bin P .and t cx cy (.int .i64 (a : Int)) (.int .i64 1) w K = K (.int .i64 ((a % 2 : Nat) : Int)) := by
  rw [bin_and, BitVec.toNat_and, toNat_word (by simp only [IntKind.bits]; omega)]
  have : (BitVec.ofInt IntKind.i64.bits 1).toNat = 1 := by decide
  rw [this, Nat.and_one_is_mod, wrap_i64 (by omega) (by omega)]
theorem c_l02Bit {v : Value} {m : Int} {i : Nat} (h : Wr w v m) (hi : i ≤ 9223372036854775807) (H : ∀ w', Ext w w' → K (.int .i64 ((m.natAbs / 2 ^ i % 2 : Nat) : Int)) w') : call P f_spec_l02Bit [v, .int .i64 (i : Int)] w K := by
  obtain ⟨s, l, rfl, h1, n1, v1⟩ := h
  have hv := bit_val24 n1.1 i
  rw [v1] at hv
  rw [hv] at H
  refine I_spec_l02Bit ?_
  unfold D_spec_l02Bit
  refine bx_Wh fun x1 w1 b1 e1 => ?_
  have h1 := h1.ext e1
  have H := H w1 e1
  rw [bin_quoI (b := 24) (by omega) (by decide)]
  refine wh_l b1 ?_
  rw [h1.row.len u_s_int64, bin_geq]
  refine cnd_dec (fun hge => ?_) (fun hlt => ?_)
  · rw [getD_ge (by omega)] at H
    simpa using H
  · have hlt : i / 24 < l.length := by omega
    refine wh_l b1 ?_
    rw [bin_quoI (b := 24) (by omega) (by decide)]
    refine h1.at hlt u_s_int64 i_int64 u_int64 ?_
    have g1 := Dig_get n1.1 hlt
    have hs : i % 24 < 24 := Nat.mod_lt _ (by decide)
    rw [bin_remI (b := 24) (by decide), cnv_int_int u_int64 u_uint64, w_u64' (by omega), bin_shrN (s := i % 24) (by simp only [IntKind.bits]; omega)]
    have := Nat.div_le_self l[i / 24] (2 ^ (i % 24))
    rw [bin_and1 (by omega)]
    rw [getD_get hlt] at H
    exact H
theorem c_l02Twos {v : Value} {m : Int} (h : Wr w v m) (hm : m ≠ 0) (bm : bl m.natAbs ≤ 1099511627776) (H : ∀ (k : Nat) w', Ext w w' → IsTz m.natAbs k → k ≤ bl m.natAbs → K (.int .i64 (k : Int)) w') : call P f_spec_l02Twos [v] w K := by
  obtain ⟨s, l, rfl, h1, wl⟩ := h
  refine I_spec_l02Twos ?_
  unfold D_spec_l02Twos
  refine bx_Wh fun x1 w1 b1 e1 => ?_
  have hlt : ∀ k : Nat, m.natAbs % 2 ^ k = 0 → k < bl m.natAbs := fun k hk => by
    have := Nat.le_of_dvd (by omega) (Nat.dvd_of_mod_eq_zero hk)
    rwa [← lt_bl] at this
  refine ⟨fun g x w' => ∃ k : Nat, x = .int .i64 (k : Int) ∧ g + k = bl m.natAbs ∧ m.natAbs % 2 ^ k = 0 ∧ Ext w1 w', ⟨bl m.natAbs, 0, rfl, rfl, by simp [Nat.mod_one], Ext.refl _⟩, ?_⟩
  rintro g x junk w' ⟨k, rfl, hg, hz, e2⟩
  have hk := hlt k hz
  refine wh_all (b1.ext e2) ?_
  refine c_l02Bit ⟨s, l, rfl, h1.ext (e1.trans e2), wl⟩ (by omega) fun w3 e3 => ?_
  rw [bin_eql]
  refine cnd_dec (fun h2 => ?_) (fun h2 => ?_)
  · rw [bin_addI1 (b := 1) (by omega)]
    have h3 : m.natAbs / 2 ^ k % 2 = 0 := by omega
    exact ⟨g - 1, by omega, k + 1, rfl, by omega, by rw [Nat.mod_pow_succ, hz, h3]; rfl, e2.trans e3⟩
  · refine H k w3 (e1.trans (e2.trans e3)) ?_ (by omega)
    unfold IsTz
    rw [if_neg (by omega)]
    exact ⟨hz, by have := Nat.mod_lt (m.natAbs / 2 ^ k) (show 0 < 2 by decide); omega⟩
end Go.Proofs.Ytabgkpfcpncmhaa

/- Contracts: shifts of the reference's whole numbers; differences; what fits. -/
set_option linter.unusedVariables false
namespace Go.Proofs.Ytabgkpfcpncmhaa
open Go Go.Vc

variable {w : World} {K : Value → World → Prop}

theorem wh_fa {base : Nat} {x s : Value} {m : Int} (h : Bx w base t_impl_Whole x [.int .i64 m, s]) :
    ∃ a, (∀ (w : World) (K : Value → Prop), fda P t_impl_Whole x 0 w K = K a) ∧ (∀ {w' : World} {base' : Nat} {m' : Int} {s' : Value}, Bx w' base' t_impl_Whole x [.int .i64 m', s'] → ∀ K, ld P t_int64 a w' K = K (.int .i64 m')) := by
  obtain ⟨a, h1, h2, _⟩ := Bx_fa (f := 0) (off := 0) (ty := t_int64) h u_impl_Whole rfl i_int64 u_int64 rfl
  exact ⟨a, h1, fun h' => h2 h' rfl⟩
theorem bin_shlI {t : TypeId} {cx cy : Bool} {yk : IntKind} {a s : Nat} {c : Int} {K : Value → Prop} (hs : s ≤ 64) (h : a * 2 ^ s ≤ 9223372036854775807) (hc : c = (s : Int) := by rfl) : bin P .shl t cx cy (.int .i64 (a : Int)) (.int yk c) w K = K (.int .i64 ((a * 2 ^ s : Nat) : Int)) :=
  bin_shlN hs (by rw [max_i64]; omega) hc
theorem p24 (k : Nat) : 2 ^ k = 16777216 ^ (k / 24) * 2 ^ (k % 24) := by
  conv => lhs; rw [← Nat.div_add_mod k 24, Nat.pow_add, Nat.pow_mul]
theorem left_step24 {V T c d s p x S F : Nat} (hv : V + c * p = T * S * F) (hs : x = c + d * S) (hp : p = s * F) : V + p * (x % 16777216) + x / 16777216 * (p * 16777216) = (T + s * d) * S * F := by
  have h := Nat.div_add_mod x 16777216
  have h2 : p * (16777216 * (x / 16777216) + x % 16777216) = p * (c + d * S) := by rw [h, hs]
  subst hp
  grind
theorem val_zeros (b n : Nat) (l : List Nat) : val b (List.replicate n 0 ++ l) = b ^ n * val b l := by rw [val_append, val_replicate, List.length_replicate, Nat.zero_add]

theorem c_l02Left {v : Value} {m : Int} {k : Nat} (h : Wr w v m) (bm : bl m.natAbs ≤ 1099511627776) (bk : k ≤ 1099511627776) (H : ∀ v' w', Ext w w' → Wo w' w.heap.size w'.heap.size v' (m * 2 ^ k) → K v' w') : call P f_spec_l02Left [v, .int .i64 (k : Int)] w K := by
  obtain ⟨s, l, rfl, h1, wl⟩ := h
  have l1 := wl.len bm
  obtain ⟨n1, v1⟩ := wl
  have d1 := n1.1
  refine I_spec_l02Left ?_
  unfold D_spec_l02Left
  refine bx_Wh fun x1 w1 b1 e1 => ?_
  refine alc_Wh fun x2 w2 ⟨cs, hcs, b2⟩ e2 => ?_
  have b1 := b1.ext e2
  have E2 := e1.trans e2
  have h1 := h1.ext E2
  rw [bin_quoI (b := 24) (by omega) (by decide)]
  refine OD.make u_s_int64 i_int64 (by omega) (by simp only [maxLen]; omega) fun w3 o ho he => ?_
  have hs : k % 24 < 24 := Nat.mod_lt _ (by decide)
  have hps : 2 ^ (k % 24) ≤ 8388608 := Nat.pow_le_pow_right (n := 2) (by decide) (show k % 24 ≤ 23 by omega)
  have hpp := Nat.two_pow_pos (k % 24)
  refine ⟨fun g x y z w' => ∃ (i c : Nat) (q : List Nat), g + i = l.length ∧ y = .int .i64 (c : Int) ∧ z = .int .i64 (i : Int) ∧ Ext w2 w' ∧ OD .i64 t_int64 w' w2.heap.size x q ∧ q.length = k / 24 + i ∧ Dig 16777216 q ∧ c < 16777216 ∧
    val 16777216 q + c * 16777216 ^ (k / 24 + i) = val 16777216 (l.take i) * 2 ^ (k % 24) * 16777216 ^ (k / 24), ⟨l.length, 0, 0, _, rfl, rfl, rfl, he, ho, by simp, Dig_rep _ _ (by decide), by omega, by simp [val, val_replicate]⟩, ?_⟩
  rintro g x y z junk w4 ⟨i, c, q, hg, rfl, rfl, e4, oq, hq, dq, hc, hv⟩
  have E4 := E2.trans e4
  refine wh_l (b1.ext e4) ?_
  rw [(h1.ext e4).row.len u_s_int64, bin_lss]
  refine cnd_dec (fun hlt => ?_) (fun hge => ?_)
  · have hi : i < l.length := by omega
    have g1 := Dig_get d1 hi
    refine wh_l (b1.ext e4) ?_
    refine (h1.ext e4).at hi u_s_int64 i_int64 u_int64 ?_
    have hmul : l[i] * 2 ^ (k % 24) ≤ 16777215 * 8388608 := Nat.mul_le_mul (by omega) hps
    rw [bin_remI (b := 24) (by decide), cnv_int_int u_int64 u_uint64, w_u64' (by omega), bin_shlI (s := k % 24) (by omega) (by omega), bin_addI (by omega), bin_remI (b := 16777216) (by decide)]
    refine app_OD oq u_s_int64 i_int64 (by simp only [maxLen]; omega) (by omega) e4.size fun v' w5 o5 g5 => ?_
    rw [bin_quoI (b := 16777216) (by omega) (by decide), bin_addI1 (b := 1) (by omega)]
    refine ⟨g - 1, by omega, i + 1, _, _, by omega, rfl, rfl, own_step e4 oq g5, o5, by simp [hq]; omega, Dig_snoc dq (Nat.mod_lt _ (by decide)), ?_, ?_⟩
    · rw [Nat.div_lt_iff_lt_mul (by decide)]; omega
    · rw [val_snoc, hq, val_take_succ _ hi, show (16777216 : Nat) ^ (k / 24 + (i + 1)) = 16777216 ^ (k / 24 + i) * 16777216 from pL _]
      exact left_step24 hv rfl (by rw [Nat.pow_add, Nat.mul_comm])
  · have hi : i = l.length := by omega
    subst hi
    rw [List.take_of_length_le (Nat.le_refl _)] at hv
    have b14 := b1.ext e4
    obtain ⟨a, fa, la⟩ := wh_fa b14
    rw [fa, la b14]
    refine app_ODx oq u_s_int64 i_int64 (by simp only [maxLen]; omega) (by omega) e4.size fun v' w5 o5 g5 => ?_
    have e5 := own_step e4 oq g5
    rw [fa, la (b1.ext e5)]
    refine ⟨rfl, rfl, ?_⟩
    have hval : val 16777216 (q ++ [c]) = m.natAbs * 2 ^ k := by
      rw [val_snoc, hq, Nat.mul_comm, hv, v1, p24 k]
      grind
    refine wh_make (m := m * 2 ^ k) (E2.trans e5) (b2.ext e5) hcs e1.size (OD.IR o5) (Dig_snoc dq hc) (by rw [hval, Int.natAbs_mul, natAbs_two_pow]) (fun _ => ?_) (by simp; omega) H
    rw [Int.sign_mul, Int.sign_eq_one_of_pos (Int.pow_pos (by decide)), Int.mul_one]

/-! ### to the right -/
theorem right_dig24 {l : List Nat} {i s : Nat} (hd : Dig 16777216 l) (hi : i < l.length) (hs : s < 24) :
    val 16777216 l / 2 ^ s / 16777216 ^ i % 16777216 = (l[i] / 2 ^ s + l.getD (i + 1) 0 * 2 ^ (24 - s)) % 16777216 := by
  have h1 : val 16777216 l / 2 ^ s / 16777216 ^ i = val 16777216 l / 16777216 ^ i / 2 ^ s := by
    rw [Nat.div_div_eq_div_mul, Nat.div_div_eq_div_mul, Nat.mul_comm]
  have h2 : val 16777216 l / 16777216 ^ i = val 16777216 (l.drop i) := by
    have hp : 0 < 16777216 ^ i := Nat.pow_pos (by decide)
    rw [val_split _ l (Nat.le_of_lt hi), Nat.add_mul_div_left _ _ hp, Nat.div_eq_of_lt, Nat.zero_add]
    have := val_lt (hd.take i)
    rw [List.length_take, Nat.min_eq_left (by omega)] at this
    exact this
  have h3 : ∃ X, val 16777216 (l.drop i) = l[i] + l.getD (i + 1) 0 * 16777216 + 281474976710656 * X := by
    rw [List.drop_eq_getElem_cons hi, val]
    by_cases h : i + 1 < l.length
    · rw [List.drop_eq_getElem_cons h, val, getD_get h]
      exact ⟨val 16777216 (l.drop (i + 1 + 1)), by grind⟩
    · rw [List.drop_eq_nil_of_le (by omega), val, getD_ge (by omega)]
      exact ⟨0, rfl⟩
  obtain ⟨X, hX⟩ := h3
  have hb : (16777216 : Nat) = 2 ^ s * 2 ^ (24 - s) := by rw [← Nat.pow_add, show s + (24 - s) = 24 by omega]
  rw [h1, h2, hX]
  have h4 : l[i] + l.getD (i + 1) 0 * 16777216 + 281474976710656 * X = l[i] + 2 ^ s * (l.getD (i + 1) 0 * 2 ^ (24 - s) + 16777216 * (2 ^ (24 - s) * X)) := by
    have h5 : (281474976710656 : Nat) = 16777216 * 16777216 := rfl
    have h6 : l.getD (i + 1) 0 * 16777216 = 2 ^ s * (l.getD (i + 1) 0 * 2 ^ (24 - s)) := by
      conv => lhs; rw [hb]
      grind
    have h7 : 281474976710656 * X = 2 ^ s * (16777216 * (2 ^ (24 - s) * X)) := by
      rw [h5]
      conv => lhs; rw [show (16777216 * 16777216 : Nat) = 16777216 * (2 ^ s * 2 ^ (24 - s)) by rw [← hb]]
      grind
    rw [h6, h7]; grind
  rw [h4, Nat.add_mul_div_left _ _ (Nat.two_pow_pos _), ← Nat.add_assoc, Nat.add_mul_mod_self_left]

/-- The sign is that of the number, or 0 with the value 0. -/
theorem c_l02Cut {v : Value} {m m' : Int} {k : Nat} (h : Wr w v m) (bm : bl m.natAbs ≤ 1099511627776) (bk : k ≤ 9223372036854775807) (hm : m'.natAbs = m.natAbs / 2 ^ k) (hs : m' ≠ 0 → m'.sign = m.sign) (H : ∀ v' w', Ext w w' → Wo w' w.heap.size w'.heap.size v' m' → K v' w') : call P f_spec_l02Cut [v, .int .i64 (k : Int)] w K := by
  obtain ⟨s, l, rfl, h1, wl⟩ := h
  have l1 := wl.len bm
  obtain ⟨n1, v1⟩ := wl
  have d1 := n1.1
  refine I_spec_l02Cut ?_
  unfold D_spec_l02Cut
  refine bx_Wh fun x1 w1 b1 e1 => ?_
  refine alc_Wh fun x2 w2 ⟨cs, hcs, b2⟩ e2 => ?_
  have b1 := b1.ext e2
  have E2 := e1.trans e2
  have h1 := h1.ext E2
  refine bsl_nil u_s_int64 i_int64 ?_
  have he := Ext_alloc w2 (.cells #[] t_int64)
  have hz : OD .i64 t_int64 (w2.alloc (.cells #[] t_int64)) w2.heap.size (.slice (some ⟨w2.heap.size, 0, none⟩) 0 0) [] := owns_lit w2 [] t_int64
  generalize w2.alloc (.cells #[] t_int64) = w3 at he hz ⊢
  rw [bin_quoI (b := 24) (by omega) (by decide)]
  have hs24 : k % 24 < 24 := Nat.mod_lt _ (by decide)
  -- the number without its lowest limbs
  have hdiv : m.natAbs / 2 ^ k = val 16777216 (l.drop (k / 24)) / 2 ^ (k % 24) := by
    rw [p24 k, ← Nat.div_div_eq_div_mul, ← v1]
    congr 1
    by_cases hle : k / 24 ≤ l.length
    · have hp : 0 < 16777216 ^ (k / 24) := Nat.pow_pos (by decide)
      conv => lhs; rw [val_split _ l hle]
      rw [Nat.add_mul_div_left _ _ hp, Nat.div_eq_of_lt, Nat.zero_add]
      have := val_lt (d1.take (k / 24))
      rw [List.length_take, Nat.min_eq_left hle] at this
      exact this
    · rw [List.drop_eq_nil_of_le (by omega), val]
      exact Nat.div_eq_of_lt (Nat.lt_of_lt_of_le (val_lt d1) (Nat.pow_le_pow_right (by decide) (by omega)))
  have dr : Dig 16777216 (l.drop (k / 24)) := d1.drop _
  have hrl : (l.drop (k / 24)).length = l.length - k / 24 := List.length_drop
  have hget : ∀ j, (l.drop (k / 24)).getD j 0 = l.getD (k / 24 + j) 0 := fun j => by simp [List.getD_eq_getElem?_getD, List.getElem?_drop]
  generalize hR : l.drop (k / 24) = R at *
  refine ⟨fun g x y w' => ∃ (j : Nat) (q : List Nat), g + j = R.length ∧ y = .int .i64 ((k / 24 + j : Nat) : Int) ∧ Ext w2 w' ∧ OD .i64 t_int64 w' w2.heap.size x q ∧ q.length = j ∧ Dig 16777216 q ∧
    val 16777216 q = val 16777216 R / 2 ^ (k % 24) % 16777216 ^ j, ⟨R.length, 0, [], rfl, rfl, he, hz, rfl, (by intro d hd; cases hd), by simp [val, Nat.mod_one]⟩, ?_⟩
  rintro g x y junk w4 ⟨j, q, hg, rfl, e4, oq, hq, dq, hv⟩
  refine wh_l (b1.ext e4) ?_
  rw [(h1.ext e4).row.len u_s_int64, bin_lss]
  refine cnd_dec (fun hlt => ?_) (fun hge => ?_)
  · have hi : k / 24 + j < l.length := by omega
    have hj : j < R.length := by omega
    have g1 := Dig_get d1 hi
    have hRj : R[j] = l[k / 24 + j] := by
      have := hget j
      rw [getD_get hj, getD_get hi] at this; exact this
    refine wh_l (b1.ext e4) ?_
    refine (h1.ext e4).at hi u_s_int64 i_int64 u_int64 ?_
    have hle := Nat.div_le_self l[k / 24 + j] (2 ^ (k % 24))
    have key := right_dig24 dr hj hs24
    rw [hRj, hget] at key
    rw [bin_remI (b := 24) (by decide), cnv_int_int u_int64 u_uint64, w_u64' (by omega), bin_shrN (s := k % 24) (by simp only [IntKind.bits]; omega), bin_addI1 (b := 1) (by omega)]
    refine wh_l (b1.ext e4) ?_
    rw [(h1.ext e4).row.len u_s_int64, bin_lss]
    have app : ∀ d : Nat, d = (l[k / 24 + j] / 2 ^ (k % 24) + l.getD (k / 24 + (j + 1)) 0 * 2 ^ (24 - k % 24)) % 16777216 → bsl P t_s_int64 1 [(0, .int .i64 (d : Int))] w4 fun x49_41 w42 =>
        bl2 P .append #[t_s_int64, t_s_int64] t_s_int64 [x, x49_41] w42 fun x50_43 w44 =>
        bin P .add t_int64 false true (.int .i64 ((k / 24 + j : Nat) : Int)) (.int .i64 1) w44 fun x17_45 =>
        ∃ m46, m46 < g ∧ ∃ (j : Nat) (q : List Nat), m46 + j = R.length ∧ x17_45 = .int .i64 ((k / 24 + j : Nat) : Int) ∧ Ext w2 w44 ∧ OD .i64 t_int64 w44 w2.heap.size x50_43 q ∧ q.length = j ∧ Dig 16777216 q ∧ val 16777216 q = val 16777216 R / 2 ^ (k % 24) % 16777216 ^ j := by
      intro d hd
      refine app_OD oq u_s_int64 i_int64 (by simp only [maxLen]; omega) (by omega) e4.size fun v' w5 o5 g5 => ?_
      rw [bin_addI1 (b := 1) (by omega)]
      refine ⟨g - 1, by omega, j + 1, _, by omega, rfl, own_step e4 oq g5, o5, by simp [hq], Dig_snoc dq (by rw [hd]; exact Nat.mod_lt _ (by decide)), ?_⟩
      rw [val_snoc, hq, hv, hd, ← key, Nat.mod_pow_succ]
    refine cnd_dec (fun h2 => ?_) (fun h2 => ?_)
    · have hi2 : k / 24 + j + 1 < l.length := by omega
      have g2 := Dig_get d1 hi2
      refine wh_l (b1.ext e4) ?_
      rw [bin_addI1 (b := 1) (by omega)]
      refine (h1.ext e4).at hi2 u_s_int64 i_int64 u_int64 ?_
      have hp2 : 2 ^ (24 - k % 24) ≤ 16777216 := Nat.pow_le_pow_right (n := 2) (by decide) (show 24 - k % 24 ≤ 24 by omega)
      have hmul : l[k / 24 + j + 1] * 2 ^ (24 - k % 24) ≤ 16777215 * 16777216 := Nat.mul_le_mul (by omega) hp2
      rw [bin_remI (b := 24) (by decide), bin_sub, wrap_i64 (by omega) (by omega), show (24 : Int) - ((k % 24 : Nat) : Int) = ((24 - k % 24 : Nat) : Int) by omega, cnv_int_int u_int64 u_uint64, w_u64' (by omega),
        bin_shlI (s := 24 - k % 24) (by omega) (by omega), bin_addI (by omega), bin_remI (b := 16777216) (by decide)]
      exact app _ (by rw [show k / 24 + (j + 1) = k / 24 + j + 1 from rfl, getD_get hi2])
    · refine app _ ?_
      rw [getD_ge (by omega : l.length ≤ k / 24 + (j + 1)), Nat.zero_mul, Nat.add_zero]
      exact (Nat.mod_eq_of_lt (by omega)).symm
  · have hj : R.length ≤ j := by omega
    refine wh_s (b1.ext e4) ?_
    have hval : val 16777216 q = m'.natAbs := by
      rw [hm, hdiv, hv, Nat.mod_eq_of_lt]
      refine Nat.lt_of_le_of_lt (Nat.div_le_self _ _) (Nat.lt_of_lt_of_le (val_lt dr) (Nat.pow_le_pow_right (by decide) hj))
    exact wh_make (m := m') (E2.trans e4) (b2.ext e4) hcs e1.size (OD.IR oq) dq hval.symm hs (by omega) H

/-! ### what fits -/
theorem c_l01In {n lo hi : Int} (H : K (.bool (decide (lo ≤ n ∧ n ≤ hi))) w) : call P f_spec_l01In [.int .i64 n, .int .i64 lo, .int .i64 hi] w K := by
  refine I_spec_l01In ?_
  unfold D_spec_l01In
  rw [bin_geq]
  refine ⟨_, fun _ _ _ h => h, ?_⟩
  refine grd_split (fun h => ?_) (fun h => ?_)
  · rw [bin_leq, pick_bool, h, cond_true]
    have h := of_decide_eq_true h
    have e : decide (lo ≤ n ∧ n ≤ hi) = decide (n ≤ hi) := by rw [decide_eq_decide]; exact ⟨fun q => q.2, fun q => ⟨h, q⟩⟩
    rw [e] at H; exact H
  · rw [h, pick_bool, Bool.not_true, cond_false]
    have h := of_decide_eq_false h
    have e : decide (lo ≤ n ∧ n ≤ hi) = false := by rw [decide_eq_false_iff_not]; exact fun q => h q.1
    rw [e] at H; exact H
theorem grd_both {v : Value} {want : Bool} {A B : Prop} (hA : A) (hB : B) : grd v want A B := by
  unfold grd
  split
  · generalize (_ == want) = c
    cases c
    · exact hB
    · exact hA
  · exact hB
theorem len100 {l : List Nat} (h : Norm 16777216 l) : l.length ≤ 100 ↔ bl (val 16777216 l) ≤ 2400 := by
  have h1 := (Norm.len_le (s := 24) (by decide) h)
  have e : val (2 ^ 24) l = val 16777216 l := rfl
  rw [e] at h1
  constructor
  · intro h2; omega
  · intro h2
    refine Nat.le_of_not_lt fun hc => ?_
    have := Norm.len_lt (s := 24) (by decide) h (by rintro rfl; simp at hc)
    rw [e] at this
    omega
theorem c_l02Is {v : Value} {m : Int} (h : Wr w v m) (H : ∀ w', Ext w w' → K (.bool (decide (bl m.natAbs ≤ 2400))) w') : call P f_spec_l02Is [v] w K := by
  obtain ⟨s, l, rfl, h1, n1, v1⟩ := h
  have hb := h1.bound
  refine I_spec_l02Is ?_
  unfold D_spec_l02Is
  refine bx_Wh fun x1 w1 b1 e1 => ?_
  have h1 := h1.ext e1
  have H1 := H w1 e1
  rw [← v1] at H1
  clear H
  refine wh_l b1 ?_
  rw [h1.row.len u_s_int64]
  refine ⟨fun g x w' => w' = w1 ∧ ∃ i : Nat, x = .int .i64 (i : Int) ∧ g + i = l.length, ⟨l.length, rfl, 0, rfl, by omega⟩, ?_⟩
  rintro g x junk w' ⟨rfl, i, rfl, hg⟩
  rw [bin_lss]
  refine cnd_dec (fun hlt => ?_) (fun hge => ?_)
  · have hi : i < l.length := by omega
    refine wh_l b1 ?_
    refine h1.at hi u_s_int64 i_int64 u_int64 ?_
    have g1 := Dig_get n1.1 hi
    refine c_l01In ?_
    rw [decide_eq_true (by omega), una_not, Bool.not_true, cnd_false, bin_addI1 (b := 1) (by omega)]
    exact ⟨g - 1, by omega, rfl, i + 1, rfl, by omega⟩
  · rw [bin_eql]
    refine cnd_dec (fun h0 => ?_) (fun h0 => ?_)
    · obtain rfl : l = [] := List.eq_nil_of_length_eq_zero (by omega)
      refine wh_s b1 ?_
      have hm : m = 0 := by simp only [val] at v1; omega
      subst hm
      rw [bin_eql]
      simpa [val, bl_zero] using H1
    · have hl : 0 < l.length := by omega
      have hz : l[l.length - 1] ≠ 0 := by
        intro hz
        have := n1.2
        rw [List.getLast?_eq_getElem?, List.getElem?_eq_getElem (by omega), hz] at this
        exact this rfl
      have hpos := n1.pos (by decide) (by rintro rfl; simp at hl : l ≠ [])
      have hm0 : m ≠ 0 := by omega
      rw [bin_leq]
      have e100 : decide ((l.length : Int) ≤ 100) = decide (bl (val 16777216 l) ≤ 2400) := by
        rw [decide_eq_decide, ← len100 n1]; omega
      rw [e100]
      generalize decide (bl (val 16777216 l) ≤ 2400) = B at H1 ⊢
      refine ⟨fun x w'' => w'' = w' ∧ (B = true → x = .bool true), ?_, ?_⟩
      · rintro x junk w2 ⟨rfl, hx⟩
        have hp : pick (.bool B) x (.bool false) = fun K => K (.bool B) := by
          funext K; rw [pick_bool]; cases B
          · rfl
          · rw [hx rfl]; rfl
        rw [hp]
        refine ⟨fun x w'' => w'' = w2 ∧ (B = true → x = .bool (decide (m.sign = 1))), ?_, ?_⟩
        · rintro x junk w3 ⟨rfl, hx⟩
          refine ⟨fun y w'' => w'' = w3 ∧ (B = true → m.sign ≠ 1 → y = .bool (decide (m.sign = -1))), ?_, ?_⟩
          · rintro y junk w4 ⟨rfl, hy⟩
            refine ⟨fun z w'' => w'' = w4 ∧ (B = true → z = .bool true), ?_, ?_⟩
            · rintro z junk w5 ⟨rfl, hz⟩
              rw [pick_bool]
              cases B
              · exact H1
              · rw [hz rfl]; exact H1
            · refine grd_split (fun hB => ?_) (fun hB => ?_)
              · rw [hx hB, pick_bool]
                refine ⟨rfl, fun _ => ?_⟩
                by_cases hs : m.sign = 1
                · rw [decide_eq_true hs]; rfl
                · rw [decide_eq_false hs, cond_false, hy hB hs]
                  have := sign_neg (m := m) (by
                    rcases Int.lt_trichotomy m 0 with h | h | h
                    · exact h
                    · exact absurd h hm0
                    · exact absurd (sign_pos h) hs)
                  rw [decide_eq_true this]
              · exact ⟨rfl, fun hB' => by rw [hB'] at hB; cases hB⟩
          · by_cases hB : B = true
            · rw [hx hB]
              refine grd_split (fun hs => ?_) (fun hs => ?_)
              · refine wh_s b1 ?_
                rw [bin_eql]
                exact ⟨rfl, fun _ _ => rfl⟩
              · exact ⟨rfl, fun _ hs' => absurd (of_decide_eq_true hs) hs'⟩
            · refine grd_both ?_ ⟨rfl, fun hB' => absurd hB' hB⟩
              refine wh_s b1 ?_
              rw [bin_eql]
              exact ⟨rfl, fun hB' => absurd hB' hB⟩
        · refine grd_split (fun hB => ?_) (fun hB => ?_)
          · refine wh_s b1 ?_
            rw [bin_eql]
            exact ⟨rfl, fun _ => rfl⟩
          · exact ⟨rfl, fun hB' => by rw [hB'] at hB; cases hB⟩
      · refine grd_split (fun hB => ?_) (fun hB => ?_)
        · refine wh_l b1 ?_
          rw [bin_subI1 (b := 1) (by omega) (by omega)]
          refine h1.at (i := l.length - 1) (by omega) u_s_int64 i_int64 u_int64 ?_
          rw [bin_neq]
          exact ⟨rfl, fun _ => by rw [decide_eq_true (by omega)]⟩
        · exact ⟨rfl, fun hB' => by rw [hB'] at hB; cases hB⟩
end Go.Proofs.Ytabgkpfcpncmhaa

/- Contracts: the program's exact numbers. -/
set_option linter.unusedVariables false
namespace Go.Proofs.Ytabgkpfcpncmhaa
open Go Go.Vc

variable {w : World} {K : Value → World → Prop}

/-- An exact number m * 2^e of the program; with its value and bounds. -/
def Nm (w : World) (v : Value) (m e : Int) : Prop := ∃ p, v = .agg #[p, .int .i64 e] ∧ IntR w p m
def NQ (w : World) (v : Value) (lo hi : Nat) (q : Rat) : Prop := ∃ m e, Nm w v m e ∧ Bd lo hi m e ∧ q = dy m e
theorem Nm.ext {w' : World} {v : Value} {m e : Int} (h : Nm w v m e) (he : Ext w w') : Nm w' v m e := let ⟨p, h1, h2⟩ := h; ⟨p, h1, h2.ext he⟩
theorem NQ.ext {w' : World} {v : Value} {lo hi : Nat} {q : Rat} (h : NQ w v lo hi q) (he : Ext w w') : NQ w' v lo hi q := let ⟨m, e, h1, h2⟩ := h; ⟨m, e, h1.ext he, h2⟩
theorem NQ.mono {v : Value} {lo hi lo' hi' : Nat} {q : Rat} (h : NQ w v lo hi q) (h1 : lo ≤ lo') (h2 : hi ≤ hi') : NQ w v lo' hi' q := let ⟨m, e, a, b, c⟩ := h; ⟨m, e, a, b.mono h1 h2, c⟩
theorem IntR.ptr {p : Value} {m : Int} (h : IntR w p m) : ∃ a, p = .pointer (some a) := by
  obtain ⟨s, ⟨g, rfl, _⟩, _⟩ := h
  exact ⟨_, rfl⟩
theorem IntR.one {p : Value} {m : Int} (h : IntR w p m) : p.oneCell' = true := by obtain ⟨a, rfl⟩ := h.ptr; rfl
theorem bld_num {p : Value} {e : Int} {K : Value → Prop} (hp : ∃ a, p = .pointer (some a)) : bld P t_impl_num [(0, p), (1, .int .i64 e)] w K = K (.agg #[p, .int .i64 e]) := by
  obtain ⟨a, rfl⟩ := hp
  exact bld_of (by kernel_rfl)
theorem bld_num0 {p : Value} {K : Value → Prop} (hp : ∃ a, p = .pointer (some a)) : bld P t_impl_num [(0, p)] w K = K (.agg #[p, .int .i64 0]) := by
  obtain ⟨a, rfl⟩ := hp
  exact bld_of (by kernel_rfl)
def nm (p : Value) (e : Int) : List Value := [p, .int .i64 e]

/-- A number in a variable: its parts. -/
theorem num_m {base : Nat} {x p : Value} {e : Int} {K : Value → Prop} (h : Bx w base t_impl_num x (nm p e)) (H : K p) : fda P t_impl_num x 0 w (fun a => ld P t_p_impl_integer a w K) :=
  h.fld (off := 0) rfl u_impl_num rfl i_p_impl_integer u_p_impl_integer rfl H
theorem num_e {base : Nat} {x p : Value} {e : Int} {K : Value → Prop} (h : Bx w base t_impl_num x (nm p e)) (H : K (.int .i64 e)) : fda P t_impl_num x 1 w (fun a => ld P t_int a w K) :=
  h.fld (off := 1) rfl u_impl_num rfl i_int u_int rfl H
theorem num_all {base : Nat} {x p : Value} {e : Int} {K : Value → Prop} (h : Bx w base t_impl_num x (nm p e)) (H : K (.agg #[p, .int .i64 e])) : ld P t_impl_num x w K :=
  h.get u_impl_num rfl i_impl_num rfl H
theorem num_fa {base : Nat} {x p : Value} {e : Int} (h : Bx w base t_impl_num x (nm p e)) :
    ∃ a, (∀ (w : World) (K : Value → Prop), fda P t_impl_num x 1 w K = K a) ∧ (∀ {w' : World} {base' : Nat} {p' : Value} {e' : Int}, Bx w' base' t_impl_num x (nm p' e') → ∀ K, ld P t_int a w' K = K (.int .i64 e')) := by
  obtain ⟨a, h1, h2, _⟩ := Bx_fa (f := 1) (off := 1) (ty := t_int) h u_impl_num rfl i_int u_int rfl
  exact ⟨a, h1, fun h' => h2 h' rfl⟩
/-- The result, put into its variable. -/
theorem num_ret {base : Nat} {x p : Value} {e : Int} {cs : List Value} (hb : Bx w base t_impl_num x cs) (hl : cs.length = 2) (hp : p.oneCell' = true) (H : ∀ w', w.grownBy w' (blk x) → K (.agg #[p, .int .i64 e]) w') :
    sto P t_impl_num x (.agg #[p, .int .i64 e]) w fun w' => ldc P t_impl_num x w' fun r => K r w' := by
  refine hb.put i_impl_num (ds := [p, .int .i64 e]) rfl hl (one_2 hp rfl) fun w' b' g' => ?_
  exact b'.getc u_impl_num rfl i_impl_num rfl (H w' g')
theorem bx_num {x : Value} {p : Value} {e : Int} {KW : Value → World → Prop} (H : ∀ x w', Bx w' w.heap.size t_impl_num x (nm p e) → Ext w w' → KW x w') : bx P t_impl_num (.agg #[p, .int .i64 e]) w KW :=
  bx_bx fun x w' b e _ => H x w' b e
theorem alc_num {KW : Value → World → Prop} (H : ∀ x w', (∃ cs, cs.length = 2 ∧ Bx w' w.heap.size t_impl_num x cs) → Ext w w' → KW x w') : alc P t_impl_num w KW :=
  alc_bx i_impl_num fun x w' b e _ => H x w' ⟨_, rfl, b⟩ e
theorem Nm.grown {w1 w2 : World} {base : Nat} {x p : Value} {cs : List Value} {m : Int} (h : IntR w1 p m) (hb : Bx w1 base t_impl_num x cs) (hg : w1.grownBy w2 (blk x)) : IntR w2 p m := h.kt hg (Ty.box hb) (by decide) (by decide)

def sgQ (q : Rat) : Int := if q < 0 then -1 else if 0 < q then 1 else 0
theorem sgQ_dy (m e : Int) : sgQ (dy m e) = m.sign := by
  unfold sgQ
  simp only [dy_neg_iff, dy_pos]
  split
  · rename_i h; rw [Int.sign_eq_neg_one_of_neg h]
  · split
    · rename_i h; rw [Int.sign_eq_one_of_pos h]
    · have : m = 0 := by omega
      subst this; rfl
theorem sgQ_zero {q : Rat} : sgQ q = 0 ↔ q = 0 := by
  unfold sgQ
  constructor
  · intro h
    split at h
    · cases h
    · split at h
      · cases h
      · grind
  · rintro rfl; rfl

theorem c_nsign {v : Value} {m e : Int} (h : Nm w v m e) (H : ∀ w', Ext w w' → K (.int .i64 m.sign) w') : call P f_impl_num_sign [v] w K := by
  obtain ⟨p, rfl, hp⟩ := h
  refine I_impl_num_sign ?_
  unfold D_impl_num_sign
  refine bx_num (x := undef) fun x w1 b1 e1 => ?_
  refine num_m b1 ?_
  exact c_Sign (hp.ext e1) (H _ e1)
theorem c_num_sign {v : Value} {lo hi : Nat} {q : Rat} (h : NQ w v lo hi q) (H : ∀ w', Ext w w' → K (.int .i64 (sgQ q)) w') : call P f_impl_num_sign [v] w K := by
  obtain ⟨m, e, h1, h2, rfl⟩ := h
  refine c_nsign h1 fun w' he => ?_
  rw [← sgQ_dy m e]; exact H w' he

theorem c_num_neg {v : Value} {lo hi : Nat} {q : Rat} (h : NQ w v lo hi q) (hl : lo ≤ 1000000000) (hh : hi ≤ 1000000000) (H : ∀ v' w', Ext w w' → NQ w' v' lo hi (-q) → K v' w') : call P f_impl_num_neg [v] w K := by
  obtain ⟨m, e, ⟨p, rfl, hp⟩, hb, rfl⟩ := h
  have hbl := hb.bl
  refine I_impl_num_neg ?_
  unfold D_impl_num_neg
  refine bx_num (x := undef) fun x1 w1 b1 e1 => ?_
  refine alc_num fun x2 w2 ⟨cs, hcs, b2⟩ e2 => ?_
  have b1 := b1.ext e2
  have E2 := e1.trans e2
  refine num_m b1 ?_
  obtain ⟨a, fa, la⟩ := num_fa b1
  rw [fa, la b1]
  refine alc_Z fun x3 w3 z3 _ e3 => ?_
  refine ⟨e3, ?_⟩
  refine c_Neg z3 ((hp.ext E2).ext e3) (by omega) fun w4 z4 i4 g4 => ?_
  have e4 : Ext w2 w4 := ext_of_grown e3 (fun g hg => z3.blk_ge hg) g4
  rw [fa, la (b1.ext e4)]
  refine ⟨rfl, rfl, ?_⟩
  rw [bld_num i4.ptr]
  have b2 := b2.ext e4
  refine num_ret b2 hcs i4.one fun w5 g5 => ?_
  have e5 : Ext w w5 := ext_of_grown (E2.trans e4) (fun g hg => Nat.le_trans e1.size (b2.blk_lt hg).1) g5
  exact H _ _ e5 ⟨-m, e, ⟨x3, rfl, Nm.grown i4 b2 g5⟩, hb.neg, (dy_neg m e).symm⟩

def absQ (q : Rat) : Rat := if q < 0 then -q else q
theorem absQ_dy (m e : Int) : absQ (dy m e) = dy (m.natAbs : Int) e := by
  unfold absQ
  simp only [dy_neg_iff]
  split
  · rename_i h; rw [← dy_neg]; congr 1; omega
  · congr 1; omega
/-! ### sums -/
theorem c_at {v : Value} {m e e0 : Int} (h : Nm w v m e) (hle : e0 ≤ e) (hd : e - e0 ≤ 1099511627776) (h0 : -1099511627776 ≤ e0) (hb : bl m.natAbs ≤ 1099511627776)
    (H : ∀ p w', Ext w w' → ZO w' w.heap.size p → IntR w' p (m * 2 ^ (e - e0).toNat) → K p w') : call P f_impl_num_at [v, .int .i64 e0] w K := by
  obtain ⟨p, rfl, hp⟩ := h
  refine I_impl_num_at ?_
  unfold D_impl_num_at
  refine bx_num (x := undef) fun x1 w1 b1 e1 => ?_
  refine alc_Z fun x5 w2 z2 _ e2 => ?_
  have b1 := b1.ext e2
  refine num_m b1 ?_
  refine num_e b1 ?_
  rw [bin_sub, wrap_i64 (by omega) (by omega), show e - e0 = (((e - e0).toNat : Nat) : Int) by omega, cnv_int_uint (by omega)]
  refine c_Lsh z2 (hp.ext (e1.trans e2)) hb (by omega) fun w3 z3 i3 g3 => ?_
  have e3 : Ext w w3 := ext_of_grown (e1.trans e2) (fun g hg => Nat.le_trans e1.size (z2.blk_ge hg)) g3
  exact H _ _ e3 (z3.low e1.size) i3

def cmpQ (q r : Rat) : Int := sgQ (q - r)
theorem c_num_zero (H : ∀ v' w', Ext w w' → NQ w' v' 0 0 0 → K v' w') : call P f_impl_zero [] w K := by
  refine I_impl_zero ?_
  unfold D_impl_zero
  refine alc_num fun x1 w1 ⟨cs, hcs, b1⟩ e1 => ?_
  refine alc_Z fun z w2 z2 i2 e2 => ?_
  rw [bld_num0 i2.ptr]
  have b1 := b1.ext e2
  refine num_ret b1 hcs i2.one fun w3 g3 => ?_
  have e3 : Ext w w3 := ext_of_grown (e1.trans e2) (fun g hg => (b1.blk_lt hg).1) g3
  exact H _ _ e3 ⟨0, 0, ⟨z, rfl, Nm.grown i2 b1 g3⟩, Bd.zero _ _, (dy_zero 0).symm⟩
end Go.Proofs.Ytabgkpfcpncmhaa

/- Contracts: the program's exact numbers as results; the number of a float. -/
set_option linter.unusedVariables false
namespace Go.Proofs.Ytabgkpfcpncmhaa
open Go Go.Vc

variable {w : World} {K : Value → World → Prop}

theorem tz_int {m : Int} {k : Nat} (hm : m ≠ 0) (h : IsTz m.natAbs k) : m / 2 ^ k * 2 ^ k = m ∧ (m / 2 ^ k) % 2 = 1 := by
  unfold IsTz at h
  rw [if_neg (by omega)] at h
  obtain ⟨h1, h2⟩ := h
  have hp : (0 : Int) < 2 ^ k := Int.pow_pos (by decide)
  have hd : ((2 : Int) ^ k) ∣ m := by
    have : ((2 ^ k : Nat) : Int) ∣ m := Int.ofNat_dvd_left.2 (Nat.dvd_of_mod_eq_zero h1)
    simpa using this
  obtain ⟨c, hc⟩ := hd
  have e : m / 2 ^ k = c := by rw [hc]; exact Int.mul_ediv_cancel_left _ (Int.ne_of_gt hp)
  rw [e]
  refine ⟨by rw [hc, Int.mul_comm], ?_⟩
  have h3 : m.natAbs = 2 ^ k * c.natAbs := by rw [hc, Int.natAbs_mul, natAbs_two_pow]
  rw [h3, Nat.mul_div_cancel_left _ (Nat.two_pow_pos _)] at h2
  omega
/-- The canonical form. -/
structure Cn (lo hi : Nat) (q : Rat) (m e : Int) : Prop where
  canon : Canon m e
  bd : Bd lo hi m e
  val : q = dy m e
theorem Cn.uniq {lo hi lo' hi' : Nat} {q : Rat} {m e n g : Int} (h : Cn lo hi q m e) (k : Cn lo' hi' q n g) : m = n ∧ e = g := canon_inj h.canon k.canon (h.val.symm.trans k.val)
theorem Cn.odd {lo hi : Nat} {m e : Int} {k : Nat} (hb : Bd lo hi m e) (hm : m ≠ 0) (h : IsTz m.natAbs k) : Cn lo hi (dy m e) (m / 2 ^ k) (e + k) := by
  obtain ⟨h1, h2⟩ := tz_int hm h
  have hc : m / 2 ^ k ≠ 0 := by intro h0; rw [h0] at h2; cases h2
  refine ⟨.inr h2, ⟨?_, ?_, fun _ => ?_⟩, ?_⟩
  · have := hb.low; omega
  · have := hb.mag hm
    have h4 := ibl_shl hc k
    rw [h1] at h4
    have h5 := bl_pos (n := (m / 2 ^ k).natAbs) (by omega)
    omega
  · have := hb.mag hm
    have h4 := ibl_shl hc k
    rw [h1] at h4
    omega
  · rw [← dy_shift' (m := m / 2 ^ k) (e := e + k) (e' := e) (k := k) (by omega), h1]

theorem c_num_odd {v : Value} {m e : Int} {lo hi : Nat} (h : Nm w v m e) (hb : Bd lo hi m e) (hl : lo ≤ 1000000000) (hh : hi ≤ 1000000000)
    (H : ∀ v' w' m' e', Ext w w' → Nm w' v' m' e' → Cn lo hi (dy m e) m' e' → K v' w') : call P f_impl_num_odd [v] w K := by
  obtain ⟨p, rfl, hp⟩ := h
  have hbl := hb.bl
  have := hb.low; have := hb.top
  refine I_impl_num_odd ?_
  unfold D_impl_num_odd
  refine bx_num (x := undef) fun x1 w1 b1 e1 => ?_
  refine alc_num fun x2 w2 ⟨cs, hcs, b2⟩ e2 => ?_
  have b1 := b1.ext e2
  have E2 := e1.trans e2
  refine num_all b1 ?_
  refine c_nsign ⟨p, rfl, hp.ext E2⟩ fun w3 e3 => ?_
  have E3 := E2.trans e3
  rw [bin_eql]
  refine cnd_dec (fun h0 => ?_) (fun h0 => ?_)
  · have hm : m = 0 := Int.sign_eq_zero_iff_zero.1 h0
    refine c_num_zero fun v4 w4 e4 n4 => ?_
    obtain ⟨m', e', ⟨p4, rfl, h4⟩, hb4, hq4⟩ := n4
    have b2 := (b2.ext e3).ext e4
    refine num_ret b2 hcs h4.one fun w5 g5 => ?_
    have e5 : Ext w w5 := ext_of_grown (E3.trans e4) (fun g hg => Nat.le_trans e1.size (b2.blk_lt hg).1) g5
    have hm' : m' = 0 := dy_eq_zero.1 hq4.symm
    have he' : e' = 0 := by have := hb4.low; have := hb4.top; omega
    refine H _ _ m' e' e5 ⟨p4, rfl, Nm.grown h4 b2 g5⟩ ⟨.inl ⟨hm', he'⟩, hb4.mono (Nat.zero_le _) (Nat.zero_le _), ?_⟩
    rw [hm, dy_zero, ← hq4]
  · have hm : m ≠ 0 := by rintro rfl; exact h0 rfl
    have b1 := b1.ext e3
    refine num_m b1 ?_
    refine c_TrailingZeroBits (hp.ext E3) (by omega) fun k hk hkb => ?_
    refine num_m b1 ?_
    obtain ⟨a, fa, la⟩ := num_fa b1
    rw [fa, la b1, cnv_uint_int (by omega), bin_add, wrap_i64 (by omega) (by omega)]
    refine alc_Z fun x5 w4 z4 _ e4 => ?_
    refine ⟨e4, ?_⟩
    refine c_Rsh z4 ((hp.ext E3).ext e4) (by omega) (by omega) fun w5 z5 i5 g5 => ?_
    have e5 : Ext w3 w5 := ext_of_grown e4 (fun g hg => z4.blk_ge hg) g5
    rw [fa, la (b1.ext e5), cnv_uint_int (by omega), bin_add, wrap_i64 (by omega) (by omega)]
    refine ⟨rfl, rfl, rfl, rfl, ?_⟩
    rw [bld_num i5.ptr]
    have b2 := (b2.ext e3).ext e5
    refine num_ret b2 hcs i5.one fun w6 g6 => ?_
    have e6 : Ext w w6 := ext_of_grown (E3.trans e5) (fun g hg => Nat.le_trans e1.size (b2.blk_lt hg).1) g6
    exact H _ _ _ _ e6 ⟨x5, rfl, Nm.grown i5 b2 g6⟩ (Cn.odd hb hm hk)

/-! ### results -/
def Do (w : World) (lo hi : Nat) (v : Value) (m e : Int) : Prop := ∃ s l, v = .agg #[.int .i64 m.sign, s, .int .i64 e] ∧ OwnR w lo hi t_int64 1 s l.length (l.map (iv .i64)) ∧ Wl l m
def fitsD (m e : Int) : Prop := bl m.natAbs ≤ 2400 ∧ -3000 ≤ e ∧ e ≤ 3000
instance (m e : Int) : Decidable (fitsD m e) := by unfold fitsD; infer_instance
def dyR (m e : Int) : (Int × Int) × Int := if fitsD m e then ((m, e), 0) else ((0, 0), 3)
theorem Do.zero (w : World) (lo hi : Nat) : Do w lo hi (.agg #[.int .i64 0, .slice none 0 0, .int .i64 0]) 0 0 := ⟨_, [], rfl, ⟨OD.nil _ _ _ _, fun k hk => by cases hk⟩, Wl.zero⟩
theorem bld_Dyadic0 {K : Value → Prop} : bld P t_impl_Dyadic [] w K = K (.agg #[.int .i64 0, .slice none 0 0, .int .i64 0]) := bld_of (by kernel_rfl)
theorem bld_Dyadic {n e : Int} {s : Value} {K : Value → Prop} (hs : ∃ a l c, s = .slice a l c) : bld P t_impl_Dyadic [(0, .agg #[.int .i64 n, s]), (1, .int .i64 e)] w K = K (.agg #[.int .i64 n, s, .int .i64 e]) := by
  obtain ⟨a, l, c, rfl⟩ := hs
  exact bld_of (by kernel_rfl)
theorem own_sl {lo hi n : Nat} {e : TypeId} {s : Value} {xs : List Value} (h : OwnR w lo hi e 1 s n xs) : ∃ a l c, s = .slice a l c := by
  obtain ⟨_, _, a, c, rfl, _⟩ := owns_Row h.own
  exact ⟨_, _, _, rfl⟩
theorem own_one {lo hi n : Nat} {e : TypeId} {s : Value} {xs : List Value} (h : OwnR w lo hi e 1 s n xs) : s.oneCell' = true := by
  obtain ⟨a, l, c, rfl⟩ := own_sl h
  rfl
/-- A dyadic result, put into its variable. -/
theorem dy_ret {base : Nat} {x : Value} {n e c : Int} {s : Value} {cs : List Value} (hb : Bx w base t_impl_Dyadic x cs) (hl : cs.length = 3) (hs : s.oneCell' = true) (H : ∀ w', w.grownBy w' (blk x) → K (.tuple #[.agg #[.int .i64 n, s, .int .i64 e], .int .i64 c]) w') :
    sto P t_impl_Dyadic x (.agg #[.int .i64 n, s, .int .i64 e]) w fun w' => ldc P t_impl_Dyadic x w' fun r => K (.tuple #[r, .int .i64 c]) w' := by
  refine hb.put i_impl_Dyadic (ds := [.int .i64 n, s, .int .i64 e]) rfl hl (one_3 rfl hs rfl) fun w' b' g' => ?_
  exact b'.getc u_impl_Dyadic rfl i_impl_Dyadic rfl (H w' g')

theorem c_num_dyadic {v : Value} {lo hi : Nat} {q : Rat} (h : NQ w v lo hi q) (hl : lo ≤ 1000000000) (hh : hi ≤ 1000000000)
    (H : ∀ v' w' m e, Ext w w' → Cn lo hi q m e → Do w' w.heap.size w'.heap.size v' (dyR m e).1.1 (dyR m e).1.2 → K (.tuple #[v', .int .i64 (dyR m e).2]) w') : call P f_impl_num_dyadic [v] w K := by
  obtain ⟨m0, e0, ⟨p, rfl, hp⟩, hb, rfl⟩ := h
  refine I_impl_num_dyadic ?_
  unfold D_impl_num_dyadic
  refine bx_num (x := undef) fun x1 w1 b1 e1 => ?_
  refine alc_bx i_impl_Dyadic fun x2 w2 b2 e2 _ => ?_
  have b1 := b1.ext e2
  have E2 := e1.trans e2
  refine num_all b1 ?_
  refine c_num_odd ⟨p, rfl, hp.ext E2⟩ hb hl hh fun v3 w3 m e e3 ⟨p3, hv3, h3⟩ hc => ?_
  subst hv3
  have b1 := b1.ext e3
  have b2 := b2.ext e3
  have hbl := hc.bd.bl
  have := hc.bd.low; have := hc.bd.top
  refine b1.put i_impl_num (ds := nm p3 e) rfl rfl (one_2 h3.one rfl) fun w4 b4 g4 => ?_
  have t4 := Ty.box b1
  have b2 := keep_box b2 g4 t4 (by decide)
  have i4 := Nm.grown h3 b1 g4
  have E4 : Ext w w4 := ext_of_grown (E2.trans e3) (fun g hg => (b1.blk_lt hg).1) g4
  have H := H (m := m) (e := e)
  refine num_m b4 ?_
  have base2 : w.heap.size ≤ w1.heap.size := e1.size
  have bad : ∀ {w' : World}, Ext w w' → ¬ fitsD m e → (∃ cs, cs.length = 3 ∧ Bx w' w.heap.size t_impl_Dyadic x2 cs) → bld P t_impl_Dyadic [] w' fun x26 => sto P t_impl_Dyadic x2 x26 w' fun w33 => ldc P t_impl_Dyadic x2 w33 fun r34 => K (.tuple #[r34, .int .i64 3]) w33 := by
    intro w' he hn ⟨cs, hcs, hbx⟩
    rw [bld_Dyadic0]
    refine dy_ret hbx hcs rfl fun w5 g5 => ?_
    have e5 : Ext w w5 := ext_of_grown he (fun g hg => (hbx.blk_lt hg).1) g5
    have := H (.agg #[.int .i64 0, .slice none 0 0, .int .i64 0]) w5 e5 hc
    unfold dyR at this
    rw [if_neg hn] at this
    exact this (Do.zero _ _ _)
  refine c_fromBig i4 (by omega) (fun hbig w5 e5 => ?_) (fun hok v5 w5 e5 h5 => ?_)
  · rw [xtr_0, xtr_1]
    refine alc_bx i_impl_Whole fun x4 w6 b6 e6 _ => ?_
    refine b6.put i_impl_Whole (ds := [.int .i64 0, .slice none 0 0]) rfl rfl (one_2 rfl rfl) fun w7 b7 g7 => ?_
    have e7 : Ext w5 w7 := ext_of_grown e6 (fun g hg => (b6.blk_lt hg).1) g7
    rw [una_not, Bool.not_false]
    refine ⟨fun _ w' => w' = w7, ?_, rfl⟩
    rintro x junk w' rfl
    rw [pick_bool, cond_true]
    refine ⟨fun _ w'' => w'' = w', ?_, rfl⟩
    rintro x junk w'' rfl
    rw [pick_bool, cond_true, cnd_true]
    refine bad (E4.trans (e5.trans e7)) (fun hf => ?_) ⟨_, rfl, ((b2.ext e5).ext e7).low base2⟩
    have := hf.1; omega
  · obtain ⟨s, l, rfl, hown, hw⟩ := h5
    rw [xtr_0, xtr_1]
    refine alc_bx i_impl_Whole fun x4 w6 b6 e6 _ => ?_
    refine b6.put i_impl_Whole (ds := [.int .i64 m.sign, s]) rfl rfl (one_2 rfl (own_one hown)) fun w7 b7 g7 => ?_
    have e7 : Ext w5 w7 := ext_of_grown e6 (fun g hg => (b6.blk_lt hg).1) g7
    have b4 := (b4.ext e5).ext e7
    have b2 := (b2.ext e5).ext e7
    rw [una_not, Bool.not_true]
    refine ⟨fun x w' => w' = w7 ∧ x = .bool (decide (e < -3000)), ?_, ?_⟩
    · rintro x junk w' ⟨rfl, rfl⟩
      rw [pick_bool, cond_false]
      refine ⟨fun x w'' => w'' = w' ∧ (¬ e < -3000 → x = .bool (decide (3000 < e))), ?_, ?_⟩
      · rintro x junk w'' ⟨rfl, hx⟩
        rw [pick_bool]
        by_cases h1 : e < -3000
        · rw [decide_eq_true h1, cond_true, cnd_true]
          exact bad (E4.trans (e5.trans e7)) (fun hf => by have := hf.2.1; omega) ⟨_, rfl, b2.low base2⟩
        · rw [decide_eq_false h1, cond_false, hx h1]
          refine cnd_dec (fun h2 => ?_) (fun h2 => ?_)
          · exact bad (E4.trans (e5.trans e7)) (fun hf => by have := hf.2.2; omega) ⟨_, rfl, b2.low base2⟩
          · have hf : fitsD m e := ⟨hok, by omega, by omega⟩
            refine b7.get u_impl_Whole rfl i_impl_Whole rfl ?_
            refine num_e b4 ?_
            rw [show Value.agg [Value.int .i64 m.sign, s].toArray = .agg #[.int .i64 m.sign, s] from rfl, bld_Dyadic (own_sl hown)]
            refine dy_ret b2 rfl (own_one hown) fun w8 g8 => ?_
            have e8 : Ext w w8 := ext_of_grown (E4.trans (e5.trans e7)) (fun g hg => Nat.le_trans base2 (b2.blk_lt hg).1) g8
            have := H (.agg #[.int .i64 m.sign, s, .int .i64 e]) w8 e8 hc
            unfold dyR at this
            rw [if_pos hf] at this
            refine this ⟨s, l, rfl, ?_, hw⟩
            have o7 := (hown.ext e7)
            have t8 := Ty.box b2
            have o8 := keep_row o7.own g8 t8 (by decide)
            exact OwnR.of (owns_base o8 E4.size)
      · refine grd_split (fun h1 => ?_) (fun h1 => ?_)
        · refine num_e b4 ?_
          rw [bin_gtr]
          exact ⟨rfl, fun _ => rfl⟩
        · exact ⟨rfl, fun h2 => by rw [decide_eq_false h2] at h1; cases h1⟩
    · rw [grd_false_false]
      refine num_e b4 ?_
      rw [bin_lss]
      exact ⟨rfl, rfl⟩

/-! ### the number of a float -/
def fM (b : Nat) : Int := let m : Nat := b % 8388608 + (if 0 < b / 8388608 % 256 then 8388608 else 0); if b / 2147483648 % 2 = 1 then -(m : Int) else m
def fE (b : Nat) : Int := (if 0 < b / 8388608 % 256 then ((b / 8388608 % 256 : Nat) : Int) else 1) - 150
def fq (b : Nat) : Rat := dy (fM b) (fE b)
theorem fM_abs (b : Nat) : (fM b).natAbs < 16777216 := by
  unfold fM
  have := Nat.mod_lt b (show 0 < 8388608 by decide)
  simp only
  split <;> split <;> omega
theorem f_bd {b : Nat} (h : Fin Ieee.single b) : Bd 149 128 (fM b) (fE b) := by
  rw [fin_iff_bits] at h
  have h1 := Nat.mod_lt (b / 8388608) (show 0 < 256 by decide)
  have h2 := fM_abs b
  have h3 : bl (fM b).natAbs ≤ 24 := bl_le.2 (by exact h2)
  have h4 : -149 ≤ fE b ∧ fE b ≤ 104 := by unfold fE; split <;> omega
  exact ⟨by omega, by omega, fun _ => by omega⟩

theorem c_parts {b : Nat} (hb : b < 4294967296) (H : K (.tuple #[.int .i64 (fM b), .int .i64 (fE b)]) w) : call P f_impl_parts [fl b] w K := by
  refine I_impl_parts ?_
  unfold D_impl_parts
  refine c_Float32bits ?_
  have e1 : b / 8388608 &&& 255 = b / 8388608 % 256 := Nat.and_two_pow_sub_one_eq_mod _ 8
  have e2 : b &&& 8388607 = b % 8388608 := Nat.and_two_pow_sub_one_eq_mod _ 23
  have h1 := Nat.mod_lt (b / 8388608) (show 0 < 256 by decide)
  have h2 := Nat.mod_lt b (show 0 < 8388608 by decide)
  rw [bin_shrN (s := 23) (by decide), show (2 : Nat) ^ 23 = 8388608 from rfl]
  rw [bin_andN (b := 255) (by simp only [IntKind.bits]; omega) (by decide) rfl, e1, cnv_int_int u_uint32 u_int64, wrap_i64 (by omega) (by omega)]
  rw [bin_andN (b := 8388607) (by simp only [IntKind.bits]; omega) (by decide) rfl, e2, cnv_int_int u_uint32 u_int64, wrap_i64 (by omega) (by omega)]
  refine ⟨fun x y w' => w' = w ∧ x = .int .i64 (fE b + 150) ∧ y = .int .i64 ((fM b).natAbs : Int), ?_, ?_⟩
  · rintro x y junk w' ⟨rfl, rfl, rfl⟩
    have hE : -149 ≤ fE b ∧ fE b ≤ 105 := by unfold fE; split <;> omega
    have hM := fM_abs b
    rw [bin_shrN (s := 31) (by decide), bin_neq, show (2 : Nat) ^ 31 = 2147483648 from rfl]
    refine cnd_dec (fun h => ?_) (fun h => ?_)
    · rw [una_neg_int, wrap_i64 (by omega) (by omega), bin_sub, wrap_i64 (by omega) (by omega)]
      have h3 : b / 2147483648 % 2 = 1 := by omega
      have : (0 : Int) - ((fM b).natAbs : Int) = fM b := by
        unfold fM; simp only [h3, if_true]; omega
      rw [this, show fE b + 150 - 150 = fE b by omega]
      exact H
    · rw [bin_sub, wrap_i64 (by omega) (by omega)]
      have h3 : ¬ b / 2147483648 % 2 = 1 := by omega
      have : ((fM b).natAbs : Int) = fM b := by
        unfold fM; simp only [h3, if_false]; omega
      rw [this, show fE b + 150 - 150 = fE b by omega]
      exact H
  · rw [bin_gtr]
    refine cnd_dec (fun h => ?_) (fun h => ?_)
    · have h3 : 0 < b / 8388608 % 256 := by omega
      rw [bin_add, wrap_i64 (by omega) (by omega)]
      refine ⟨rfl, ?_, ?_⟩
      · congr 1; unfold fE; rw [if_pos h3]; omega
      · congr 1; unfold fM; simp only [h3, if_true]; split <;> omega
    · have h3 : ¬ 0 < b / 8388608 % 256 := by omega
      refine ⟨rfl, ?_, ?_⟩
      · congr 1; unfold fE; rw [if_neg h3]; omega
      · congr 1; unfold fM; simp only [h3, if_false]; split <;> omega
theorem c_numOfm {b : Nat} (hb : b < 4294967296) (H : ∀ v w', Ext w w' → Nm w' v (fM b) (fE b) → K v w') : call P f_impl_numOf [fl b] w K := by
  refine I_impl_numOf ?_
  unfold D_impl_numOf
  refine alc_num fun x1 w1 ⟨cs, hcs, b1⟩ e1 => ?_
  refine c_parts hb ?_
  rw [xtr_0, xtr_1]
  have h1 := fM_abs b
  refine c_newInt (by omega) (by omega) fun p w2 e2 z2 i2 => ?_
  rw [bld_num i2.ptr]
  have b1 := b1.ext e2
  refine num_ret b1 hcs i2.one fun w3 g3 => ?_
  have e3 : Ext w w3 := ext_of_grown (e1.trans e2) (fun g hg => (b1.blk_lt hg).1) g3
  exact H _ _ e3 ⟨p, rfl, Nm.grown i2 b1 g3⟩
theorem c_numOf {b : Nat} (hb : b < 4294967296) (hf : Fin Ieee.single b) (H : ∀ v w', Ext w w' → NQ w' v 149 128 (fq b) → K v w') : call P f_impl_numOf [fl b] w K :=
  c_numOfm hb fun v w' he hn => H v w' he ⟨_, _, hn, f_bd hf, rfl⟩
end Go.Proofs.Ytabgkpfcpncmhaa

/- Contracts: the reference's exact numbers. -/
set_option linter.unusedVariables false
namespace Go.Proofs.Ytabgkpfcpncmhaa
open Go Go.Vc

variable {w : World} {K : Value → World → Prop}

def Dr (w : World) (v : Value) (m e : Int) : Prop := ∃ s l, v = .agg #[.int .i64 m.sign, s, .int .i64 e] ∧ LR w s l ∧ Wl l m
def DQ (w : World) (v : Value) (lo hi : Nat) (q : Rat) : Prop := ∃ m e, Dr w v m e ∧ Cn lo hi q m e
theorem Dr.ext {w' : World} {v : Value} {m e : Int} (h : Dr w v m e) (he : Ext w w') : Dr w' v m e := let ⟨s, l, h1, h2, h3⟩ := h; ⟨s, l, h1, h2.ext he, h3⟩
theorem DQ.ext {w' : World} {v : Value} {lo hi : Nat} {q : Rat} (h : DQ w v lo hi q) (he : Ext w w') : DQ w' v lo hi q := let ⟨m, e, h1, h2⟩ := h; ⟨m, e, h1.ext he, h2⟩
theorem Cn.mono {lo hi lo' hi' : Nat} {q : Rat} {m e : Int} (h : Cn lo hi q m e) (h1 : lo ≤ lo') (h2 : hi ≤ hi') : Cn lo' hi' q m e := ⟨h.canon, h.bd.mono h1 h2, h.val⟩
theorem Dr.kt {w' : World} {v : Value} {m e : Int} {row : Option Nat} {e' : TypeId} (h : Dr w v m e) (hg : w.grownBy w' row) (ht : Ty w row e') (hne : t_int64 ≠ e') : Dr w' v m e := let ⟨s, l, h1, h2, h3⟩ := h; ⟨s, l, h1, h2.kt hg ht hne, h3⟩
theorem DQ.kt {w' : World} {v : Value} {lo hi : Nat} {q : Rat} {row : Option Nat} {e' : TypeId} (h : DQ w v lo hi q) (hg : w.grownBy w' row) (ht : Ty w row e') (hne : t_int64 ≠ e') : DQ w' v lo hi q := let ⟨m, e, h1, h2⟩ := h; ⟨m, e, h1.kt hg ht hne, h2⟩
theorem DQ.mono {v : Value} {lo hi lo' hi' : Nat} {q : Rat} (h : DQ w v lo hi q) (h1 : lo ≤ lo') (h2 : hi ≤ hi') : DQ w v lo' hi' q := let ⟨m, e, a, b⟩ := h; ⟨m, e, a, b.mono h1 h2⟩
theorem Do.Dr {lo hi : Nat} {v : Value} {m e : Int} (h : Do w lo hi v m e) : Dr w v m e := let ⟨s, l, h1, h2, h3⟩ := h; ⟨s, l, h1, LR.of h2.own, h3⟩
theorem Do.ext {w' : World} {lo hi : Nat} {v : Value} {m e : Int} (h : Do w lo hi v m e) (he : Ext w w') : Do w' lo hi v m e := let ⟨s, l, h1, h2, h3⟩ := h; ⟨s, l, h1, h2.ext he, h3⟩
theorem Do.mono {lo hi lo' hi' : Nat} {v : Value} {m e : Int} (h : Do w lo hi v m e) (h1 : lo' ≤ lo) (h2 : hi ≤ hi') : Do w lo' hi' v m e := let ⟨s, l, a, b, c⟩ := h; ⟨s, l, a, b.mono h1 h2, c⟩
theorem Dr.zero (w : World) : Dr w (.agg #[.int .i64 0, .slice none 0 0, .int .i64 0]) 0 0 := ⟨_, [], rfl, LR.nil _, Wl.zero⟩
theorem DQ.zero (w : World) : DQ w (.agg #[.int .i64 0, .slice none 0 0, .int .i64 0]) 0 0 0 := ⟨0, 0, Dr.zero w, .inl ⟨rfl, rfl⟩, Bd.zero _ _, (dy_zero 0).symm⟩
theorem Wr.sl {s : Value} {m : Int} {n : Int} (h : Wr w (.agg #[.int .i64 n, s]) m) : ∃ a l c, s = .slice a l c := by
  obtain ⟨s', l, e, h1, _⟩ := h
  simp only [Value.agg.injEq, Array.mk.injEq, List.cons.injEq, and_true] at e
  rw [e.2]
  exact IR.sl h1.toIR

/-! ### in a variable -/
def dv3 (n : Int) (s : Value) (e : Int) : List Value := [.int .i64 n, s, .int .i64 e]
section
variable {base : Nat} {x s : Value} {n e : Int} {K : Value → Prop}
theorem dy_all (h : Bx w base t_impl_Dyadic x (dv3 n s e)) (H : K (.agg #[.int .i64 n, s, .int .i64 e])) : ld P t_impl_Dyadic x w K :=
  h.get u_impl_Dyadic rfl i_impl_Dyadic rfl H
theorem dy_e (h : Bx w base t_impl_Dyadic x (dv3 n s e)) (H : K (.int .i64 e)) : fda P t_impl_Dyadic x 1 w (fun a => ld P t_int64 a w K) :=
  h.fld (off := 2) rfl u_impl_Dyadic rfl i_int64 u_int64 rfl H
theorem dy_w (h : Bx w base t_impl_Dyadic x (dv3 n s e)) (H : K (.agg #[.int .i64 n, s])) : fda P t_impl_Dyadic x 0 w (fun a => ld P t_impl_Whole a w K) := by
  obtain ⟨g, rfl, hc⟩ := h.cell
  rw [d_impl_Dyadic_0, addr_zero]
  refine (ld_agg (cs := [.int .i64 n, s]) u_impl_Whole rfl i_impl_Whole rfl (fun j u hu => ?_)) ▸ H
  rw [Addr.add_lit, Nat.zero_add]
  refine (hc j u ?_).1
  match j, hu with
  | 0, hu => exact hu
  | 1, hu => exact hu
  | _ + 2, hu => simp at hu
theorem dy_ws (h : Bx w base t_impl_Dyadic x (dv3 n s e)) (H : K (.int .i64 n)) : fda P t_impl_Dyadic x 0 w (fun a => fda P t_impl_Whole a 0 w (fun b => ld P t_int64 b w K)) := by
  obtain ⟨g, rfl, hc⟩ := h.cell
  rw [d_impl_Dyadic_0, addr_zero, d_impl_Whole_0, addr_zero, ld_scalar u_int64 rfl (hc 0 _ rfl).1]
  exact H
theorem dy_wl (h : Bx w base t_impl_Dyadic x (dv3 n s e)) (H : K s) : fda P t_impl_Dyadic x 0 w (fun a => fda P t_impl_Whole a 1 w (fun b => ld P t_s_int64 b w K)) := by
  obtain ⟨g, rfl, hc⟩ := h.cell
  rw [d_impl_Dyadic_0, addr_zero, d_impl_Whole_1, Addr.add_lit, ld_scalar u_s_int64 rfl (hc 1 _ rfl).1]
  exact H
theorem bx_Dy {KW : Value → World → Prop} (H : ∀ x w', Bx w' w.heap.size t_impl_Dyadic x (dv3 n s e) → Ext w w' → KW x w') : bx P t_impl_Dyadic (.agg #[.int .i64 n, s, .int .i64 e]) w KW :=
  bx_bx fun x w' b e _ => H x w' b e
theorem alc_Dy {KW : Value → World → Prop} (H : ∀ x w', (∃ cs, cs.length = 3 ∧ Bx w' w.heap.size t_impl_Dyadic x cs) → Ext w w' → KW x w') : alc P t_impl_Dyadic w KW :=
  alc_bx i_impl_Dyadic fun x w' b e _ => H x w' ⟨_, rfl, b⟩ e
end
/-- A store of an exact number that is read. -/
theorem Dr.put {base : Nat} {x v : Value} {m e : Int} {cs : List Value} {KW : World → Prop} (h : Dr w v m e) (hb : Bx w base t_impl_Dyadic x cs) (hl : cs.length = 3) (H : ∀ w', (∃ s, v = .agg #[.int .i64 m.sign, s, .int .i64 e] ∧ Bx w' base t_impl_Dyadic x (dv3 m.sign s e)) → w.grownBy w' (blk x) → KW w') : sto P t_impl_Dyadic x v w KW := by
  obtain ⟨s, l, rfl, h1, hw⟩ := h
  exact hb.put i_impl_Dyadic (ds := dv3 m.sign s e) rfl hl (one_3 rfl (sl_one (IR.sl h1.toIR)) rfl) fun w' b' g' => H w' ⟨s, rfl, b'⟩ g'
/-- The end of a function that makes an exact number. -/
theorem dq_ret {base : Nat} {x v : Value} {m e : Int} {lo hi : Nat} {cs : List Value} (hb : Bx w base t_impl_Dyadic x cs) (hl : cs.length = 3) (hv : Do w lo hi v m e) (H : ∀ w', w.grownBy w' (blk x) → Do w' lo hi v m e → K v w') :
    sto P t_impl_Dyadic x v w fun w' => ldc P t_impl_Dyadic x w' fun r => K r w' := by
  obtain ⟨s, l, rfl, ho, hw⟩ := hv
  refine hb.put i_impl_Dyadic (ds := dv3 m.sign s e) rfl hl (one_3 rfl (own_one ho) rfl) fun w' b' g' => ?_
  exact b'.getc u_impl_Dyadic rfl i_impl_Dyadic rfl (H w' g' ⟨s, l, rfl, ⟨keep_row ho.own g' (Ty.box hb) (by decide), ho.top⟩, hw⟩)

theorem c_l03Make {v : Value} {m e : Int} {lo hi : Nat} (h : Wr w v m) (hb : Bd lo hi m e) (hl : lo ≤ 1000000000) (hh : hi ≤ 1000000000)
    (H : ∀ v' w' m' e', Ext w w' → Do w' w.heap.size w'.heap.size v' m' e' → Cn lo hi (dy m e) m' e' → K v' w') : call P f_spec_l03Make [v, .int .i64 e] w K := by
  obtain ⟨s, l, rfl, h1, wl⟩ := h
  have hbl := hb.bl
  have := hb.low; have := hb.top
  refine I_spec_l03Make ?_
  unfold D_spec_l03Make
  refine bx_Wh fun x1 w1 b1 e1 => ?_
  refine alc_Dy fun x2 w2 ⟨cs, hcs, b2⟩ e2 => ?_
  have b1 := b1.ext e2
  have E2 := e1.trans e2
  refine wh_s b1 ?_
  rw [bin_eql]
  refine cnd_dec (fun h0 => ?_) (fun h0 => ?_)
  · have hm : m = 0 := Int.sign_eq_zero_iff_zero.1 h0
    rw [bld_Dyadic0]
    refine dq_ret (lo := w.heap.size) (hi := w2.heap.size) (m := 0) (e := 0) b2 hcs (Do.zero _ _ _) fun w3 g3 h3 => ?_
    have e3 : Ext w w3 := ext_of_grown E2 (fun g hg => Nat.le_trans e1.size (b2.blk_lt hg).1) g3
    refine H _ _ _ _ e3 (h3.mono (Nat.le_refl _) g3.size) ⟨.inl ⟨rfl, rfl⟩, Bd.zero _ _, ?_⟩
    rw [hm, dy_zero, dy_zero]
  · have hm : m ≠ 0 := by rintro rfl; exact h0 rfl
    refine wh_all b1 ?_
    refine c_l02Twos ⟨s, l, rfl, h1.ext E2, wl⟩ hm (by omega) fun k w3 e3 hk hkb => ?_
    refine wh_all (b1.ext e3) ?_
    obtain ⟨t1, t2⟩ := tz_int hm hk
    have hm' : m / 2 ^ k ≠ 0 := by intro h0; rw [h0] at t2; cases t2
    have hab : (m / 2 ^ k).natAbs = m.natAbs / 2 ^ k := by
      have : m.natAbs = (m / 2 ^ k).natAbs * 2 ^ k := by
        conv => lhs; rw [← t1]
        rw [Int.natAbs_mul, natAbs_two_pow]
      rw [this, Nat.mul_div_cancel _ (Nat.two_pow_pos _)]
    have hsg : (m / 2 ^ k).sign = m.sign := by
      conv => rhs; rw [← t1]
      rw [Int.sign_mul, Int.sign_eq_one_of_pos (Int.pow_pos (by decide)), Int.mul_one]
    refine c_l02Cut (m' := m / 2 ^ k) ⟨s, l, rfl, h1.ext (E2.trans e3), wl⟩ (by omega) (by omega) hab (fun _ => hsg) fun v' w4 e4 h4 => ?_
    obtain ⟨s', l', rfl, ho, hw⟩ := h4
    rw [bin_add, wrap_i64 (by omega) (by omega), bld_Dyadic (own_sl ho)]
    have b2 := (b2.ext e3).ext e4
    have hD : Do w4 w.heap.size w4.heap.size (.agg #[.int .i64 (m / 2 ^ k).sign, s', .int .i64 (e + k)]) (m / 2 ^ k) (e + k) := ⟨s', l', rfl, ho.mono (E2.trans e3).size (Nat.le_refl _), hw⟩
    refine dq_ret b2 hcs hD fun w5 g5 h5 => ?_
    have e5 : Ext w w5 := ext_of_grown (E2.trans (e3.trans e4)) (fun g hg => Nat.le_trans e1.size (b2.blk_lt hg).1) g5
    exact H _ _ _ _ e5 (h5.mono (Nat.le_refl _) g5.size) (Cn.odd hb hm hk)

/-- 'Make' at the end of a function. -/
theorem dq_make {base : Nat} {x v : Value} {m e : Int} {lo hi : Nat} {cs : List Value} {w0 : World} {q : Rat} (he : Ext w0 w) (hbx : Bx w base t_impl_Dyadic x cs) (hcs : cs.length = 3) (hbase : w0.heap.size ≤ base) (h : Wr w v m) (hb : Bd lo hi m e) (hl : lo ≤ 1000000000) (hh : hi ≤ 1000000000) (hq : q = dy m e)
    (H : ∀ v' w' m' e', Ext w0 w' → Do w' w0.heap.size w'.heap.size v' m' e' → Cn lo hi q m' e' → K v' w') : call P f_spec_l03Make [v, .int .i64 e] w fun r w1 => sto P t_impl_Dyadic x r w1 fun w2 => ldc P t_impl_Dyadic x w2 fun r => K r w2 := by
  subst hq
  refine c_l03Make h hb hl hh fun v' w1 m' e' e1 h1 hc => ?_
  have b1 := hbx.ext e1
  refine dq_ret b1 hcs h1 fun w2 g2 h2 => ?_
  have e2 : Ext w0 w2 := ext_of_grown (he.trans e1) (fun g hg => Nat.le_trans hbase (b1.blk_lt hg).1) g2
  exact H _ _ _ _ e2 (h2.mono he.size g2.size) hc

theorem c_l03Neg {v : Value} {lo hi : Nat} {q : Rat} (h : DQ w v lo hi q) (hl : lo ≤ 1000000000) (hh : hi ≤ 1000000000) (H : ∀ v' w', Ext w w' → DQ w' v' lo hi (-q) → K v' w') : call P f_spec_l03Neg [v] w K := by
  obtain ⟨m, e, ⟨s, l, rfl, h1, wl⟩, hc⟩ := h
  have hbl := hc.bd.bl
  refine I_spec_l03Neg ?_
  unfold D_spec_l03Neg
  refine bx_Dy fun x1 w1 b1 e1 => ?_
  refine alc_Dy fun x2 w2 ⟨cs, hcs, b2⟩ e2 => ?_
  have b1 := b1.ext e2
  have E2 := e1.trans e2
  refine dy_w b1 ?_
  refine dy_e b1 ?_
  refine c_l02Neg ⟨s, l, rfl, h1.ext E2, wl⟩ (by omega) fun v' w3 e3 h3 => ?_
  refine ⟨e3, ?_⟩
  obtain ⟨s', l', rfl, ho, hw⟩ := h3
  rw [bld_Dyadic (own_sl ho)]
  have b2 := b2.ext e3
  have hD : Do w3 w2.heap.size w3.heap.size (.agg #[.int .i64 (-m).sign, s', .int .i64 e]) (-m) e := ⟨s', l', rfl, ho, hw⟩
  refine dq_ret b2 hcs hD fun w4 g4 h4 => ?_
  have e4 : Ext w w4 := ext_of_grown (E2.trans e3) (fun g hg => Nat.le_trans e1.size (b2.blk_lt hg).1) g4
  refine H _ _ e4 ⟨-m, e, h4.Dr, ?_, hc.bd.neg, by rw [dy_neg, hc.val]⟩
  rcases hc.canon with ⟨ha, hb⟩ | ha
  · exact .inl ⟨by omega, hb⟩
  · exact .inr (by omega)

theorem c_l03Add {u v : Value} {lo hi : Nat} {q r : Rat} (hu : DQ w u lo hi q) (hv : DQ w v lo hi r) (hl : lo ≤ 100000000) (hh : hi ≤ 100000000)
    (H : ∀ v' w', Ext w w' → DQ w' v' lo (hi + 1) (q + r) → K v' w') : call P f_spec_l03Add [u, v] w K := by
  obtain ⟨m, e, ⟨s, l, rfl, h1, wl⟩, hc⟩ := hu
  obtain ⟨n, g, ⟨t, l', rfl, h2, wl'⟩, hc'⟩ := hv
  have hbl := hc.bd.bl
  have hbl' := hc'.bd.bl
  have := hc.bd.low; have := hc.bd.top; have := hc'.bd.low; have := hc'.bd.top
  have H' : ∀ v' w' m' e', Ext w w' → Do w' w.heap.size w'.heap.size v' m' e' → Cn lo (hi + 1) (q + r) m' e' → K v' w' := fun v' w' m' e' he hd hc => H v' w' he ⟨m', e', hd.Dr, hc⟩
  refine I_spec_l03Add ?_
  unfold D_spec_l03Add
  refine bx_Dy fun x1 w1 b1 e1 => ?_
  refine bx_Dy fun x2 w2 b2 e2 => ?_
  refine alc_Dy fun x3 w3 ⟨cs, hcs, b3⟩ e3 => ?_
  have b1 := (b1.ext e2).ext e3
  have b2 := b2.ext e3
  have E2 := e1.trans e2
  have E3 := E2.trans e3
  have h1 := h1.ext E3
  have h2 := h2.ext E3
  refine dy_ws b1 ?_
  rw [bin_eql]
  refine cnd_dec (fun h0 => ?_) (fun h0 => ?_)
  · have hm : m = 0 := Int.sign_eq_zero_iff_zero.1 h0
    refine dy_w b2 ?_
    refine dy_e b2 ?_
    refine dq_make E3 b3 hcs E2.size ⟨t, l', rfl, h2, wl'⟩ (hc'.bd.mono (Nat.le_refl _) (Nat.le_succ _)) (by omega) (by omega) ?_ H'
    rw [hc.val, hm, dy_zero, Rat.zero_add, hc'.val]
  · have hm : m ≠ 0 := by rintro rfl; exact h0 rfl
    refine dy_ws b2 ?_
    rw [bin_eql]
    refine cnd_dec (fun h0' => ?_) (fun h0' => ?_)
    · have hn : n = 0 := Int.sign_eq_zero_iff_zero.1 h0'
      refine dy_w b1 ?_
      refine dy_e b1 ?_
      refine dq_make E3 b3 hcs E2.size ⟨s, l, rfl, h1, wl⟩ (hc.bd.mono (Nat.le_refl _) (Nat.le_succ _)) (by omega) (by omega) ?_ H'
      rw [hc'.val, hn, dy_zero, Rat.add_zero, hc.val]
    · have hn : n ≠ 0 := by rintro rfl; exact h0' rfl
      refine dy_e b1 ?_
      refine dy_e b2 ?_
      rw [bl0_min_i64]
      refine dy_w b1 ?_
      refine dy_e b1 ?_
      rw [bin_sub, wrap_i64 (by omega) (by omega), show e - min e g = (((e - min e g).toNat : Nat) : Int) by omega]
      refine dy_w b2 ?_
      refine dy_e b2 ?_
      rw [bin_sub, wrap_i64 (by omega) (by omega), show g - min e g = (((g - min e g).toNat : Nat) : Int) by omega]
      have hs1 := ibl_shl_le m (e - min e g).toNat
      have hs2 := ibl_shl_le n (g - min e g).toNat
      have hs3 := (hc.bd.add hc'.bd).bl
      refine c_l02Left ⟨s, l, rfl, h1, wl⟩ (by omega) (by omega) fun v1 w4 e4 h4 => ?_
      refine ⟨e4, ?_⟩
      refine c_l02Left ⟨t, l', rfl, h2.ext e4, wl'⟩ (by omega) (by omega) fun v2 w5 e5 h5 => ?_
      refine c_l02Add (h4.ext e5).Wr h5.Wr (by omega) (by omega) fun v3 w6 e6 h6 => ?_
      refine dq_make (m := addM m e n g) (E3.trans (e4.trans (e5.trans e6))) (((b3.ext e4).ext e5).ext e6) hcs E2.size h6.Wr (hc.bd.add hc'.bd) (by omega) (by omega) ?_ H'
      rw [dy_addM, hc.val, hc'.val]

theorem c_l03Mul {u v : Value} {lo hi lo' hi' : Nat} {q r : Rat} (hu : DQ w u lo hi q) (hv : DQ w v lo' hi' r) (hl : lo ≤ 100000000) (hh : hi ≤ 100000000) (hl' : lo' ≤ 100000000) (hh' : hi' ≤ 100000000)
    (H : ∀ v' w', Ext w w' → DQ w' v' (lo + lo') (hi + hi') (q * r) → K v' w') : call P f_spec_l03Mul [u, v] w K := by
  obtain ⟨m, e, ⟨s, l, rfl, h1, wl⟩, hc⟩ := hu
  obtain ⟨n, g, ⟨t, l', rfl, h2, wl'⟩, hc'⟩ := hv
  have hbl := hc.bd.bl
  have hbl' := hc'.bd.bl
  have := hc.bd.low; have := hc.bd.top; have := hc'.bd.low; have := hc'.bd.top
  refine I_spec_l03Mul ?_
  unfold D_spec_l03Mul
  refine bx_Dy fun x1 w1 b1 e1 => ?_
  refine bx_Dy fun x2 w2 b2 e2 => ?_
  refine alc_Dy fun x3 w3 ⟨cs, hcs, b3⟩ e3 => ?_
  have b1 := (b1.ext e2).ext e3
  have b2 := b2.ext e3
  have E2 := e1.trans e2
  have E3 := E2.trans e3
  refine dy_w b1 ?_
  refine dy_w b2 ?_
  refine dy_e b1 ?_
  refine dy_e b2 ?_
  rw [bin_add, wrap_i64 (by omega) (by omega)]
  refine c_l02Mul ⟨s, l, rfl, h1.ext E3, wl⟩ ⟨t, l', rfl, h2.ext E3, wl'⟩ (by omega) (by omega) fun v1 w4 e4 h4 => ?_
  refine ⟨e4, ?_⟩
  refine dq_make (E3.trans e4) (b3.ext e4) hcs E2.size h4.Wr (hc.bd.mul hc'.bd) (by omega) (by omega) ?_ fun v' w' m' e' he hd hc => H v' w' he ⟨m', e', hd.Dr, hc⟩
  rw [← dy_mul, hc.val, hc'.val]
end Go.Proofs.Ytabgkpfcpncmhaa
