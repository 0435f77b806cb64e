import Derived.Test.YtabgkpfcpncmhaaGreatU2
import Derived.Test.YtabgkpfcpncmhaaGreatU1
import Derived.Test.YtabgkpfcpncmhaaGreatU3
import Derived.Test.YtabgkpfcpncmhaaGreatU7
import Derived.Test.YtabgkpfcpncmhaaGreatVcK
import Derived.Test.YtabgkpfcpncmhaaGreatQResidualOf2
set_option linter.unusedSimpArgs false
set_option linter.unusedVariables false
/- Contracts: the program's whole numbers. -/
set_option linter.unusedVariables false
namespace Go.Proofs.YtabgkpfcpncmhaaGreat
open Go Go.Vc

variable {w : World} {K : Value → World → Prop}

def isSl : Value → Prop
  | .slice _ _ _ => True
  | _ => False
/-- A whole number, read; a variable for one, of one's own. -/
def IntR (w : World) (p : Value) (m : Int) : Prop := ∃ s, Bx w 0 t_impl_integer p [.bool (decide (m < 0)), s] ∧ Mg w s m.natAbs
def ZO (w : World) (base : Nat) (z : Value) : Prop := ∃ b s, Bx w base t_impl_integer z [.bool b, s] ∧ isSl s
theorem IntR.ext {w' : World} {p : Value} {m : Int} (h : IntR w p m) (he : Ext w w') : IntR w' p m := let ⟨s, h1, h2⟩ := h; ⟨s, h1.ext he, h2.ext he⟩
theorem ZO.ext {w' : World} {base : Nat} {z : Value} (h : ZO w base z) (he : Ext w w') : ZO w' base z := let ⟨b, s, h1, h2⟩ := h; ⟨b, s, h1.ext he, h2⟩
theorem ZO.low {base base' : Nat} {z : Value} (h : ZO w base z) (hb : base' ≤ base) : ZO w base' z := let ⟨b, s, h1, h2⟩ := h; ⟨b, s, h1.low hb, h2⟩
theorem Mg.isSl {v : Value} {n : Nat} (h : Mg w v n) : isSl v := by
  obtain ⟨l, h1, _⟩ := h
  obtain ⟨_, _, a, cap, rfl, _⟩ := h1.row
  trivial
theorem isSl.one {v : Value} (h : isSl v) : v.oneCell' = true := by
  unfold isSl at h
  split at h
  · rfl
  · exact h.elim
theorem nch_bx {base : Nat} {t : TypeId} {p : Value} {cs : List Value} {K : Value → Prop} (h : Bx w base t p cs) : nch p K = K p := by
  obtain ⟨g, rfl, _⟩ := h
  rfl
/-- A row of digits lies apart from a variable for a whole number. -/
theorem IR_kept {k : IntKind} {w' : World} {v z : Value} {l : List Nat} {base : Nat} (h : IR k w v l) (hz : ZO w base z) (hg : w.grownBy w' (blk z)) : IR k w' v l := by
  obtain ⟨b, s, ⟨g, rfl, _, hb⟩, hs⟩ := hz
  refine ⟨?_, h.cap⟩
  obtain ⟨r1, r2, a, cap, rfl, r3⟩ := h.row
  refine ⟨r1, r2, a, cap, rfl, fun hn => ?_⟩
  obtain ⟨bb, o, rfl, q⟩ := r3 hn
  refine ⟨bb, o, rfl, fun j u hu => ?_⟩
  have hq := q j u hu
  have hne : bb ≠ g := by
    rintro rfl
    obtain ⟨d, hd⟩ : ∃ d : Nat, u = iv k d := by
      rw [List.getElem?_map] at hu
      cases hl : l[j]? with
      | none => rw [hl] at hu; cases hu
      | some d => rw [hl] at hu; cases hu; exact ⟨d, rfl⟩
    subst hd
    unfold World.cell? at hq
    simp only [hb] at hq
    have : [Value.bool b, s][o + j]? = some (iv k d) := by simpa using hq
    match o + j, this with
    | 0, h => simp at h
    | 1, h => simp at h; subst h; exact hs
    | _ + 2, h => simp at h
  have hlt : bb < w.heap.size := by
    unfold World.cell? at hq
    rcases Nat.lt_or_ge bb w.heap.size with h | h
    · exact h
    · rw [Array.getElem?_eq_none h] at hq; simp at hq
  unfold World.cell? at hq ⊢
  rw [hg.block bb hlt (by simp [blk]; omega)]
  exact hq
theorem Mg.kept_box {w' : World} {v z : Value} {n : Nat} {base : Nat} (h : Mg w v n) (hz : ZO w base z) (hg : w.grownBy w' (blk z)) : Mg w' v n :=
  let ⟨l, h1, h2, h3, h4⟩ := h; ⟨l, IR_kept h1 hz hg, h2, h3, by
    obtain ⟨b, s, hb, _⟩ := hz
    intro k hk
    obtain ⟨c, f, hc⟩ := h4 k hk
    have hne : some k ≠ blk z := by
      intro e
      obtain ⟨c', f', hc'⟩ := Ty.box hb k e.symm
      rw [hc] at hc'
      simp only [Option.some.injEq, Obj.cells.injEq] at hc'
      exact absurd hc'.2.1 (by decide)
    exact ⟨c, f, by rw [hg.block k (heap_lt hc) hne]; exact hc⟩⟩
theorem IntR.kept {w' : World} {x z : Value} {m : Int} {base : Nat} (h : IntR w x m) (hz : ZO w base z) (hg : w.grownBy w' (blk z)) (hne : x ≠ z) : IntR w' x m := by
  obtain ⟨s, h1, h2⟩ := h
  refine ⟨s, h1.kept hg ?_, h2.kept_box hz hg⟩
  obtain ⟨b, s', ⟨g, rfl, _⟩, _⟩ := hz
  obtain ⟨g', rfl, _⟩ := h1
  right
  simp [blk] at hne ⊢
  omega
/-- A change of blocks of another type. -/
theorem IR.kept_at {k : IntKind} {w' : World} {v : Value} {l : List Nat} {row : Option Nat} (h : IR k w v l) (hg : w.grownBy w' row) (hne : v.ownBlock = none ∨ v.ownBlock ≠ row) : IR k w' v l := by
  refine ⟨?_, h.cap⟩
  obtain ⟨r1, r2, a, cap, rfl, r3⟩ := h.row
  refine ⟨r1, r2, a, cap, rfl, fun hn => ?_⟩
  obtain ⟨bb, o, rfl, q⟩ := r3 hn
  refine ⟨bb, o, rfl, fun j u hu => ?_⟩
  have hq := q j u hu
  have hlt : bb < w.heap.size := by
    unfold World.cell? at hq
    rcases Nat.lt_or_ge bb w.heap.size with h | h
    · exact h
    · rw [Array.getElem?_eq_none h] at hq; simp at hq
  unfold World.cell? at hq ⊢
  rw [hg.block bb hlt (by
    rcases hne with h | h
    · simp [Value.ownBlock] at h
    · simpa [Value.ownBlock] using h)]
  exact hq
theorem Ty_kept {w' : World} {k row : Option Nat} {e e' : TypeId} (h : Ty w k e) (hg : w.grownBy w' row) (ht : Ty w row e') (hne : e ≠ e') : Ty w' k e := fun b hb => by
  obtain ⟨c, f, hc⟩ := h b hb
  refine ⟨c, f, ?_⟩
  rw [hg.block b (heap_lt hc) (fun e1 => by
    obtain ⟨c', f', hc'⟩ := ht b e1.symm
    rw [hc] at hc'
    simp only [Option.some.injEq, Obj.cells.injEq] at hc'
    exact hne hc'.2.1)]
  exact hc
theorem Mg.kt {w' : World} {v : Value} {n : Nat} {row : Option Nat} {e' : TypeId} (h : Mg w v n) (hg : w.grownBy w' row) (ht : Ty w row e') (hne : t_uint32 ≠ e') : Mg w' v n :=
  let ⟨l, h1, h2, h3, h4⟩ := h; ⟨l, IR.kept_at h1 hg (h4.apart ht hne), h2, h3, Ty_kept h4 hg ht hne⟩
theorem IntR.kt {w' : World} {p : Value} {m : Int} {row : Option Nat} {e' : TypeId} (h : IntR w p m) (hg : w.grownBy w' row) (ht : Ty w row e') (h1 : t_uint32 ≠ e') (h2 : t_impl_integer ≠ e') : IntR w' p m :=
  let ⟨s, a, b⟩ := h; ⟨s, keep_box a hg ht h2, b.kt hg ht h1⟩
theorem ZO.kt {w' : World} {base : Nat} {p : Value} {row : Option Nat} {e' : TypeId} (h : ZO w base p) (hg : w.grownBy w' row) (ht : Ty w row e') (h2 : t_impl_integer ≠ e') : ZO w' base p :=
  let ⟨b, s, a, c⟩ := h; ⟨b, s, keep_box a hg ht h2, c⟩
theorem ZO.ty {base : Nat} {p : Value} (h : ZO w base p) : Ty w (blk p) t_impl_integer := let ⟨_, _, a, _⟩ := h; Ty.box a
theorem ZO.blk_ge {base : Nat} {z : Value} (h : ZO w base z) {k : Nat} (hk : blk z = some k) : base ≤ k := by
  obtain ⟨b, s, h1, _⟩ := h
  exact (h1.blk_lt hk).1
/-- A fresh variable. -/
theorem alc_Z {KW : Value → World → Prop} (H : ∀ p w', ZO w' w.heap.size p → IntR w' p 0 → Ext w w' → KW p w') : alc P t_impl_integer w KW :=
  alc_bx i_impl_integer fun p w' hb he _ => H p w' ⟨false, .slice none 0 0, hb, trivial⟩ ⟨.slice none 0 0, hb.low (Nat.zero_le _), Mg.nil _⟩ he

section
variable {p : Value} {m : Int} {K : Value → Prop}
/-- Its sign; its digits. -/
theorem IntR.neg {base : Nat} {s : Value} {b : Bool} (h : Bx w base t_impl_integer p [.bool b, s]) (H : K (.bool b)) : fda P t_impl_integer p 0 w (fun a => ld P t_bool a w K) :=
  h.fld (off := 0) rfl u_impl_integer rfl i_bool u_bool rfl H
theorem IntR.mag {base : Nat} {s : Value} {b : Bool} (h : Bx w base t_impl_integer p [.bool b, s]) (H : K s) : fda P t_impl_integer p 1 w (fun a => ld P t_s_uint32 a w K) :=
  h.fld (off := 1) rfl u_impl_integer rfl i_s_uint32 u_s_uint32 rfl H
end

def sgnI (neg : Bool) (n : Nat) : Int := if neg then -(n : Int) else n
theorem sgnI_abs (neg : Bool) (n : Nat) : (sgnI neg n).natAbs = n := by unfold sgnI; split <;> simp
theorem sgnI_neg (neg : Bool) (n : Nat) : decide (sgnI neg n < 0) = (neg && decide (0 < n)) := by
  unfold sgnI
  cases neg
  · simp
  · simp

theorem c_put {z s : Value} {neg : Bool} {l : List Nat} {base : Nat} (hz : ZO w base z) (hs : IR .u32 w s l) (hty : Ty w s.ownBlock t_uint32) (hd : Dig 4294967296 l)
    (H : ∀ w', ZO w' base z → IntR w' z (sgnI neg (val 4294967296 l)) → w.grownBy w' (blk z) → K z w') : call P f_impl_integer_put [z, .bool neg, s] w K := by
  refine I_impl_integer_put ?_
  unfold D_impl_integer_put
  refine c_magTrim hs fun s' hs' _ hbk => ?_
  obtain ⟨b, s0, hb, hs0⟩ := hz
  have hz : ZO w base z := ⟨b, s0, hb, hs0⟩
  rw [nch_bx hb]
  have hM : Mg w s' (val 4294967296 l) := ⟨_, hs', Norm.trim hd, val_trim _ _, by
    rcases hbk with e | e
    · rw [e]; exact Ty_none _ _
    · rw [e]; exact hty⟩
  refine hb.fput (off := 1) (by simp) u_impl_integer rfl i_s_uint32 hM.isSl.one fun w1 hb1 g1 => ?_
  have hM1 := hM.kept_box hz g1
  have hs1 := IR_kept hs' hz g1
  have hb1 : Bx w1 base t_impl_integer z [.bool b, s'] := hb1
  refine ⟨fun x w' => w' = w1 ∧ (x = .bool (decide (0 < val 4294967296 l)) ∨ neg = false), ?_, ?_⟩
  · rintro x junk w' ⟨rfl, hx⟩
    have hp : ∃ y, y = (neg && decide (0 < val 4294967296 l)) ∧ pick (.bool neg) x (.bool false) = fun K => K (.bool y) := by
      refine ⟨_, rfl, ?_⟩
      funext K
      rw [pick_bool]
      rcases hx with rfl | rfl
      · cases neg <;> simp
      · simp
    obtain ⟨y, hy, hp⟩ := hp
    rw [hp]
    show nch z _
    rw [nch_bx hb1]
    refine hb1.fput (off := 0) (by simp) u_impl_integer rfl i_bool rfl fun w2 hb2 g2 => ?_
    have hb2 : Bx w2 base t_impl_integer z [.bool y, s'] := hb2
    have hz1 : ZO w' base z := ⟨b, s', hb1, hM.isSl⟩
    refine H w2 ⟨y, s', hb2, hM.isSl⟩ ⟨s', ?_, ?_⟩ (grown_trans g1 g2)
    · rw [sgnI_neg, ← hy]
      exact hb2.low (Nat.zero_le _)
    · rw [sgnI_abs]
      exact hM1.kept_box hz1 g2
  · refine grd_split (fun hn => ?_) (fun hn => ?_)
    · rw [nch_bx hb1]
      refine IntR.mag hb1 ?_
      rw [hs1.row.len u_s_uint32, bin_gtr]
      refine ⟨rfl, .inl ?_⟩
      congr 1
      rw [decide_eq_decide]
      have h1 := (Norm.trim hd).eq_nil (by decide)
      rw [val_trim] at h1
      have h2 : (trim l).length = 0 ↔ val 4294967296 l = 0 := List.length_eq_zero_iff.trans h1
      omega
    · exact ⟨rfl, .inr (by simpa using hn)⟩

/-- 'put', with digits of one's own. -/
theorem c_putM {z s : Value} {neg : Bool} {n : Nat} {base : Nat} (hz : ZO w base z) (hs : Mg w s n)
    (H : ∀ w', ZO w' base z → IntR w' z (sgnI neg n) → w.grownBy w' (blk z) → K z w') : call P f_impl_integer_put [z, .bool neg, s] w K := by
  obtain ⟨l, h1, h2, rfl, h4⟩ := hs
  exact c_put hz h1 h4 h2.1 H

theorem grown_ext {a b c : World} {row : Option Nat} (he : Ext a b) (hg : b.grownBy c row) : a.grownBy c row := ext_grown he hg

/-! ### what is read -/
theorem c_Sign {p : Value} {m : Int} (h : IntR w p m) (H : K (.int .i64 m.sign) w) : call P f_impl_integer_Sign [p] w K := by
  obtain ⟨s, hb, hm⟩ := h
  refine I_impl_integer_Sign ?_
  unfold D_impl_integer_Sign
  rw [nch_bx hb]
  refine IntR.neg hb ?_
  refine cnd_dec (fun hn => ?_) (fun hn => ?_)
  · rw [Int.sign_eq_neg_one_of_neg hn] at H; exact H
  · rw [nch_bx hb]
    refine IntR.mag hb ?_
    obtain ⟨l, h1, h2, h3, _⟩ := hm
    rw [h1.row.len u_s_uint32, bin_gtr]
    have e := h2.eq_nil (by decide)
    rw [h3] at e
    have e2 : l.length = 0 ↔ m.natAbs = 0 := List.length_eq_zero_iff.trans e
    refine cnd_dec (fun hp => ?_) (fun hp => ?_)
    · have : 0 < m := by omega
      rw [Int.sign_eq_one_of_pos this] at H; exact H
    · have : m = 0 := by omega
      subst this; exact H
theorem c_BitLen {p : Value} {m : Int} (h : IntR w p m) (hb : bl m.natAbs ≤ 1099511627776) (H : K (.int .i64 (bl m.natAbs : Nat)) w) : call P f_impl_integer_BitLen [p] w K := by
  obtain ⟨s, hx, hm⟩ := h
  refine I_impl_integer_BitLen ?_
  unfold D_impl_integer_BitLen
  rw [nch_bx hx]
  exact IntR.mag hx (c_magBits hm hb H)
def cmpI (a b : Int) : Int := if a < b then -1 else if b < a then 1 else 0
theorem c_Cmp {p q : Value} {a b : Int} (h1 : IntR w p a) (h2 : IntR w q b) (H : K (.int .i64 (cmpI a b)) w) : call P f_impl_integer_Cmp [p, q] w K := by
  obtain ⟨s, b1, m1⟩ := h1
  obtain ⟨t, b2, m2⟩ := h2
  refine I_impl_integer_Cmp ?_
  unfold D_impl_integer_Cmp
  rw [nch_bx b1]
  refine IntR.neg b1 ?_
  refine ⟨fun x w' => w' = w ∧ (a < 0 → x = .bool (decide (b < 0))), ?_, ?_⟩
  · rintro x junk w' ⟨rfl, hx⟩
    rw [pick_bool]
    by_cases ha : a < 0
    · rw [hx ha, decide_eq_true ha, cond_true]
      refine cnd_dec (fun hb => ?_) (fun hb => ?_)
      · rw [nch_bx b2]
        refine IntR.mag b2 ?_
        rw [nch_bx b1]
        refine IntR.mag b1 ?_
        refine c_magCmp m2 m1 ?_
        have : cmpN b.natAbs a.natAbs = cmpI a b := by unfold cmpN cmpI; split <;> split <;> (try split) <;> (try split) <;> omega
        rw [this]; exact H
      · rw [nch_bx b1]
        refine IntR.neg b1 ?_
        refine cnd_yes (decide_eq_true ha) ?_
        have : cmpI a b = -1 := by unfold cmpI; rw [if_pos (by omega)]
        rw [this] at H; exact H
    · rw [decide_eq_false ha, cond_false, cnd_false, nch_bx b1]
      refine IntR.neg b1 ?_
      refine cnd_no (decide_eq_false ha) ?_
      rw [nch_bx b2]
      refine IntR.neg b2 ?_
      refine cnd_dec (fun hb => ?_) (fun hb => ?_)
      · have : cmpI a b = 1 := by unfold cmpI; rw [if_neg (by omega), if_pos (by omega)]
        rw [this] at H; exact H
      · rw [nch_bx b1]
        refine IntR.mag b1 ?_
        rw [nch_bx b2]
        refine IntR.mag b2 ?_
        refine c_magCmp m1 m2 ?_
        have : cmpN a.natAbs b.natAbs = cmpI a b := by unfold cmpN cmpI; split <;> split <;> (try split) <;> (try split) <;> omega
        rw [this]; exact H
  · refine grd_split (fun hn => ?_) (fun hn => ?_)
    · rw [nch_bx b2]
      exact IntR.neg b2 ⟨rfl, fun _ => rfl⟩
    · exact ⟨rfl, fun ha => by rw [decide_eq_true ha] at hn; cases hn⟩

/-! ### what is made -/
section
variable {z x y : Value} {a b : Int} {base : Nat}
theorem c_Neg (hz : ZO w base z) (hx : IntR w x a) (ba : bl a.natAbs ≤ 1099511627776) (H : ∀ w', ZO w' base z → IntR w' z (-a) → w.grownBy w' (blk z) → K z w') : call P f_impl_integer_Neg [z, x] w K := by
  obtain ⟨s, hb, hm⟩ := hx
  refine I_impl_integer_Neg ?_
  unfold D_impl_integer_Neg
  rw [nch_bx hb]
  refine IntR.neg hb ?_
  rw [una_not, nch_bx hb]
  refine IntR.mag hb ?_
  refine c_Clone hm ba fun v w1 e1 h1 => ?_
  refine ⟨e1, c_putM (hz.ext e1) h1.Mg fun w2 z2 i2 g2 => H w2 z2 ?_ (grown_ext e1 g2)⟩
  have : sgnI (!decide (a < 0)) a.natAbs = -a := by unfold sgnI; by_cases h : a < 0 <;> simp [h] <;> omega
  rw [this] at i2; exact i2
theorem c_Abs (hz : ZO w base z) (hx : IntR w x a) (ba : bl a.natAbs ≤ 1099511627776) (H : ∀ w', ZO w' base z → IntR w' z a.natAbs → w.grownBy w' (blk z) → K z w') : call P f_impl_integer_Abs [z, x] w K := by
  obtain ⟨s, hb, hm⟩ := hx
  refine I_impl_integer_Abs ?_
  unfold D_impl_integer_Abs
  rw [nch_bx hb]
  refine IntR.mag hb ?_
  refine c_Clone hm ba fun v w1 e1 h1 => ?_
  exact c_putM (hz.ext e1) h1.Mg fun w2 z2 i2 g2 => H w2 z2 i2 (grown_ext e1 g2)
theorem c_plus {s : Value} {neg : Bool} {n : Nat} (hz : ZO w base z) (hx : IntR w x a) (hs : Mg w s n) (ba : bl a.natAbs ≤ 1099511627776) (bb : bl n ≤ 1099511627776)
    (hn : n = 0 → True) (H : ∀ w', ZO w' base z → IntR w' z (a + sgnI neg n) → w.grownBy w' (blk z) → K z w') : call P f_impl_integer_plus [z, x, .bool neg, s] w K := by
  obtain ⟨s1, hb, hm⟩ := hx
  refine I_impl_integer_plus ?_
  unfold D_impl_integer_plus
  rw [nch_bx hb]
  refine IntR.neg hb ?_
  rw [bin_beql _ _ _ _ _ _ u_bool]
  refine cnd_split (fun h => ?_) (fun h => ?_)
  · have h : decide (a < 0) = neg := by simpa using h
    rw [nch_bx hb]
    refine IntR.mag hb ?_
    refine c_magAdd hm hs ba bb fun v w1 e1 h1 => ?_
    refine c_putM (hz.ext e1) h1.Mg fun w2 z2 i2 g2 => H w2 z2 ?_ (grown_ext e1 g2)
    have : sgnI neg (a.natAbs + n) = a + sgnI neg n := by unfold sgnI; subst h; by_cases h : a < 0 <;> simp [h] <;> omega
    rw [this] at i2; exact i2
  · have h : (decide (a < 0)) = !neg := by
      cases neg <;> by_cases ha : a < 0 <;> simp [ha] at h ⊢
    rw [nch_bx hb]
    refine IntR.mag hb ?_
    refine c_magCmp hm hs ?_
    rw [bin_geq]
    refine cnd_dec (fun hc => ?_) (fun hc => ?_)
    · have hle : n ≤ a.natAbs := by unfold cmpN at hc; split at hc <;> (try split at hc) <;> omega
      rw [nch_bx hb]
      refine IntR.neg hb ?_
      rw [nch_bx hb]
      refine IntR.mag hb ?_
      refine c_magSub hm hs hle ba fun v w1 e1 h1 => ?_
      refine ⟨e1, c_putM (hz.ext e1) h1.Mg fun w2 z2 i2 g2 => H w2 z2 ?_ (grown_ext e1 g2)⟩
      have : sgnI (decide (a < 0)) (a.natAbs - n) = a + sgnI neg n := by unfold sgnI; rw [h]; cases neg <;> simp at h ⊢ <;> omega
      rw [this] at i2; exact i2
    · have hle : a.natAbs ≤ n := by unfold cmpN at hc; split at hc <;> (try split at hc) <;> omega
      rw [nch_bx hb]
      refine IntR.mag hb ?_
      refine c_magSub hs hm hle bb fun v w1 e1 h1 => ?_
      refine c_putM (hz.ext e1) h1.Mg fun w2 z2 i2 g2 => H w2 z2 ?_ (grown_ext e1 g2)
      have : sgnI neg (n - a.natAbs) = a + sgnI neg n := by unfold sgnI; cases neg <;> simp at h ⊢ <;> omega
      rw [this] at i2; exact i2
theorem c_Add (hz : ZO w base z) (hx : IntR w x a) (hy : IntR w y b) (ba : bl a.natAbs ≤ 1099511627776) (bb : bl b.natAbs ≤ 1099511627776)
    (H : ∀ w', ZO w' base z → IntR w' z (a + b) → w.grownBy w' (blk z) → K z w') : call P f_impl_integer_Add [z, x, y] w K := by
  obtain ⟨s, hb, hm⟩ := hy
  refine I_impl_integer_Add ?_
  unfold D_impl_integer_Add
  rw [nch_bx hb]
  refine IntR.neg hb ?_
  rw [nch_bx hb]
  refine IntR.mag hb ?_
  refine c_plus hz hx hm ba bb (fun _ => trivial) fun w2 z2 i2 g2 => H w2 z2 ?_ g2
  have : sgnI (decide (b < 0)) b.natAbs = b := by unfold sgnI; by_cases h : b < 0 <;> simp [h] <;> omega
  rw [this] at i2; exact i2
theorem c_Sub (hz : ZO w base z) (hx : IntR w x a) (hy : IntR w y b) (ba : bl a.natAbs ≤ 1099511627776) (bb : bl b.natAbs ≤ 1099511627776)
    (H : ∀ w', ZO w' base z → IntR w' z (a - b) → w.grownBy w' (blk z) → K z w') : call P f_impl_integer_Sub [z, x, y] w K := by
  obtain ⟨s, hb, hm⟩ := hy
  refine I_impl_integer_Sub ?_
  unfold D_impl_integer_Sub
  rw [nch_bx hb]
  refine IntR.neg hb ?_
  rw [una_not, nch_bx hb]
  refine IntR.mag hb ?_
  refine c_plus hz hx hm ba bb (fun _ => trivial) fun w2 z2 i2 g2 => H w2 z2 ?_ g2
  have : a + sgnI (!decide (b < 0)) b.natAbs = a - b := by unfold sgnI; by_cases h : b < 0 <;> simp [h] <;> omega
  rw [this] at i2; exact i2
theorem c_Mul (hz : ZO w base z) (hx : IntR w x a) (hy : IntR w y b) (ba : bl a.natAbs ≤ 1099511627776) (bb : bl b.natAbs ≤ 1099511627776)
    (H : ∀ w', ZO w' base z → IntR w' z (a * b) → w.grownBy w' (blk z) → K z w') : call P f_impl_integer_Mul [z, x, y] w K := by
  obtain ⟨s, hb, hm⟩ := hx
  obtain ⟨s', hb', hm'⟩ := hy
  refine I_impl_integer_Mul ?_
  unfold D_impl_integer_Mul
  rw [nch_bx hb]
  refine IntR.neg hb ?_
  rw [nch_bx hb']
  refine IntR.neg hb' ?_
  rw [bin_bneq _ _ _ _ _ _ u_bool, nch_bx hb]
  refine IntR.mag hb ?_
  rw [nch_bx hb']
  refine IntR.mag hb' ?_
  refine c_magMul hm hm' ba bb fun v w1 e1 h1 => ?_
  refine ⟨e1, c_putM (hz.ext e1) h1.Mg fun w2 z2 i2 g2 => H w2 z2 ?_ (grown_ext e1 g2)⟩
  have : sgnI (!(decide (a < 0) == decide (b < 0))) (a.natAbs * b.natAbs) = a * b := by
    rw [← Int.natAbs_mul]
    unfold sgnI
    by_cases h1 : a < 0 <;> by_cases h2 : b < 0 <;> simp [h1, h2]
    · exact Int.le_of_lt (Int.mul_pos_of_neg_of_neg h1 h2) |> fun h => by omega
    · have := Int.mul_nonpos_of_nonpos_of_nonneg (Int.le_of_lt h1) (Int.not_lt.1 h2); omega
    · have := Int.mul_nonpos_of_nonneg_of_nonpos (Int.not_lt.1 h1) (Int.le_of_lt h2); omega
    · have := Int.mul_nonneg (Int.not_lt.1 h1) (Int.not_lt.1 h2); omega
  rw [this] at i2; exact i2
theorem c_Lsh {n : Nat} (hz : ZO w base z) (hx : IntR w x a) (ba : bl a.natAbs ≤ 1099511627776) (bn : n ≤ 1099511627776)
    (H : ∀ w', ZO w' base z → IntR w' z (a * 2 ^ n) → w.grownBy w' (blk z) → K z w') : call P f_impl_integer_Lsh [z, x, .int .u64 (n : Int)] w K := by
  obtain ⟨s, hb, hm⟩ := hx
  refine I_impl_integer_Lsh ?_
  unfold D_impl_integer_Lsh
  rw [nch_bx hb]
  refine IntR.neg hb ?_
  rw [nch_bx hb]
  refine IntR.mag hb ?_
  refine c_magLeft hm ba bn fun v w1 e1 h1 => ?_
  refine ⟨e1, c_putM (hz.ext e1) h1.Mg fun w2 z2 i2 g2 => H w2 z2 ?_ (grown_ext e1 g2)⟩
  have : sgnI (decide (a < 0)) (a.natAbs * 2 ^ n) = a * 2 ^ n := by
    unfold sgnI
    by_cases h : a < 0
    · simp only [h, decide_true, if_true, Int.natCast_mul, Int.natCast_pow]
      have : (a.natAbs : Int) = -a := by omega
      rw [this, Int.neg_mul, Int.neg_neg]; rfl
    · simp only [h, decide_false, Bool.false_eq_true, if_false, Int.natCast_mul, Int.natCast_pow]
      have : (a.natAbs : Int) = a := by omega
      rw [this]; rfl
  rw [this] at i2; exact i2
theorem neg_div {a p : Int} (h : a < 0) (hp : 0 < p) : -((-a - 1) / p + 1) = a / p := by
  have h1 := Int.mul_ediv_add_emod (-a - 1) p
  have h2 := Int.emod_nonneg (-a - 1) (Int.ne_of_gt hp)
  have h3 := Int.emod_lt_of_pos (-a - 1) hp
  generalize (-a - 1) / p = d at *
  generalize (-a - 1) % p = r at *
  have h4 : a = (p - r - 1) + p * (-(d + 1)) := by grind
  rw [h4, Int.add_mul_ediv_left _ _ (Int.ne_of_gt hp), Int.ediv_eq_zero_of_lt (by omega) (by omega)]
  omega
theorem one_u32 : (IR .u32 w (.slice none 0 0) []) := IR.nil _ _
theorem bsl_u32 {d : Nat} {KW : Value → World → Prop} (hd : d < 4294967296) (h0 : d ≠ 0) (H : ∀ v w', Ext w w' → Mg w' v d → KW v w') : bsl P t_s_uint32 1 [(0, .int .u32 (d : Int))] w KW := by
  refine bsl_one u_s_uint32 i_uint32 rfl rfl ?_
  have he := Ext_alloc w (.cells #[.int .u32 (d : Int)] t_uint32)
  have ho : OD .u32 t_uint32 (w.alloc (.cells #[.int .u32 (d : Int)] t_uint32)) w.heap.size (.slice (some ⟨w.heap.size, 0, none⟩) 1 1) [d] := owns_lit w [.int .u32 (d : Int)] t_uint32 (by simp [maxLen])
  exact H _ _ he ⟨[d], ho.IR, ⟨fun x hx => by simp at hx; omega, by simpa using h0⟩, by simp [val], Ty.owns ho⟩
theorem c_Rsh {n : Nat} (hz : ZO w base z) (hx : IntR w x a) (ba : bl a.natAbs ≤ 1099511627775) (bn : n ≤ 9223372036854775807)
    (H : ∀ w', ZO w' base z → IntR w' z (a / 2 ^ n) → w.grownBy w' (blk z) → K z w') : call P f_impl_integer_Rsh [z, x, .int .u64 (n : Int)] w K := by
  obtain ⟨s, hb, hm⟩ := hx
  refine I_impl_integer_Rsh ?_
  unfold D_impl_integer_Rsh
  have hpc : ((2 ^ n : Nat) : Int) = (2 : Int) ^ n := by simp
  rw [nch_bx hb]
  refine IntR.neg hb ?_
  rw [una_not]
  refine cnd_split (fun h => ?_) (fun h => ?_)
  · have h : ¬ a < 0 := by simpa using h
    rw [nch_bx hb]
    refine IntR.mag hb ?_
    refine c_magRight hm (by omega) bn fun v w1 e1 h1 => ?_
    refine c_putM (hz.ext e1) h1.Mg fun w2 z2 i2 g2 => H w2 z2 ?_ (grown_ext e1 g2)
    have : sgnI false (a.natAbs / 2 ^ n) = a / 2 ^ n := by
      show ((a.natAbs / 2 ^ n : Nat) : Int) = _
      rw [Int.natCast_ediv, hpc, show (a.natAbs : Int) = a by omega]
    rw [this] at i2; exact i2
  · have h : a < 0 := by simpa using h
    rw [nch_bx hb]
    refine IntR.mag hb ?_
    refine bsl_u32 (d := 1) (by decide) (by decide) fun v1 w1 e1 m1 => ?_
    refine c_magSub (hm.ext e1) m1 (by omega) (by omega) fun v2 w2 e2 m2 => ?_
    have hs := bl_sub_le a.natAbs 1
    refine c_magRight m2.Mg (by omega) bn fun v3 w3 e3 m3 => ?_
    refine bsl_u32 (d := 1) (by decide) (by decide) fun v4 w4 e4 m4 => ?_
    have hs2 := bl_shr (a.natAbs - 1) n
    refine c_magAdd (m3.Mg.ext e4) m4 (by omega) (by rw [bl_one]; decide) fun v5 w5 e5 m5 => ?_
    have E := e1.trans (e2.trans (e3.trans (e4.trans e5)))
    refine c_putM (hz.ext E) m5.Mg fun w6 z6 i6 g6 => H w6 z6 ?_ (grown_ext E g6)
    have : sgnI true ((a.natAbs - 1) / 2 ^ n + 1) = a / 2 ^ n := by
      have hp : (0 : Int) < 2 ^ n := Int.pow_pos (by decide)
      show -((((a.natAbs - 1) / 2 ^ n + 1 : Nat)) : Int) = _
      rw [Int.natCast_add, Int.natCast_ediv, hpc]
      have h2 : ((a.natAbs - 1 : Nat) : Int) = -a - 1 := by omega
      rw [h2]
      exact neg_div (by omega) hp
    rw [this] at i6; exact i6
end
end Go.Proofs.YtabgkpfcpncmhaaGreat

/- Contracts: whole numbers out of words, their bits, their lowest digits. -/
set_option linter.unusedVariables false
namespace Go.Proofs.YtabgkpfcpncmhaaGreat
open Go Go.Vc

variable {w : World} {K : Value → World → Prop}

/-! ### numbers of 64 bits -/
theorem c_SetInt64 {z : Value} {n : Int} {base : Nat} (hz : ZO w base z) (h1 : -9223372036854775808 ≤ n) (h2 : n ≤ 9223372036854775807)
    (H : ∀ w', ZO w' base z → IntR w' z n → w.grownBy w' (blk z) → K z w') : call P f_impl_integer_SetInt64 [z, .int .i64 n] w K := by
  refine I_impl_integer_SetInt64 ?_
  unfold D_impl_integer_SetInt64
  rw [cnv_int_int u_int64 u_uint64]
  refine ⟨fun x w' => w' = w ∧ x = .int .u64 (n.natAbs : Int), ?_, ?_⟩
  · rintro x junk w' ⟨rfl, rfl⟩
    rw [bin_lss, cnv_64_32, bin_shrN (s := 32) (by decide), cnv_64_32]
    rw [show (2 : Nat) ^ 32 = 4294967296 from rfl]
    have hm : n.natAbs / 4294967296 % 4294967296 = n.natAbs / 4294967296 := Nat.mod_eq_of_lt (by omega)
    rw [hm]
    refine bsl_two u_s_uint32 i_uint32 rfl rfl rfl ?_
    have he := Ext_alloc w' (.cells #[.int .u32 ((n.natAbs % 4294967296 : Nat) : Int), .int .u32 ((n.natAbs / 4294967296 : Nat) : Int)] t_uint32)
    have ho : OD .u32 t_uint32 (w'.alloc (.cells #[.int .u32 ((n.natAbs % 4294967296 : Nat) : Int), .int .u32 ((n.natAbs / 4294967296 : Nat) : Int)] t_uint32)) w'.heap.size (.slice (some ⟨w'.heap.size, 0, none⟩) 2 2) [n.natAbs % 4294967296, n.natAbs / 4294967296] :=
      owns_lit w' [.int .u32 ((n.natAbs % 4294967296 : Nat) : Int), .int .u32 ((n.natAbs / 4294967296 : Nat) : Int)] t_uint32 (by simp [maxLen])
    have hd : Dig 4294967296 [n.natAbs % 4294967296, n.natAbs / 4294967296] := fun d hd => by
      simp only [List.mem_cons, List.not_mem_nil, or_false] at hd
      rcases hd with rfl | rfl
      · exact Nat.mod_lt _ (by decide)
      · omega
    refine c_put (hz.ext he) ho.IR (Ty.owns ho) hd fun w2 z2 i2 g2 => H w2 z2 ?_ (grown_ext he g2)
    have e : val 4294967296 [n.natAbs % 4294967296, n.natAbs / 4294967296] = n.natAbs := by
      simp only [val]
      have := Nat.div_add_mod n.natAbs 4294967296
      omega
    rw [e] at i2
    have : sgnI (decide (n < 0)) n.natAbs = n := by unfold sgnI; by_cases h : n < 0 <;> simp [h] <;> omega
    rw [this] at i2; exact i2
  · rw [bin_lss]
    have hw : IntKind.u64.wrap n = if n < 0 then n + 18446744073709551616 else n := by
      simp [IntKind.wrap, IntKind.bits, IntKind.signed]; split <;> omega
    refine cnd_dec (fun h => ?_) (fun h => ?_)
    · rw [una_neg_int, hw, if_pos h]
      refine ⟨rfl, ?_⟩
      congr 1
      have : IntKind.u64.wrap (0 - (n + 18446744073709551616)) = (-n) % 18446744073709551616 := by
        simp [IntKind.wrap, IntKind.bits, IntKind.signed]; omega
      rw [this]; omega
    · rw [hw, if_neg h]
      exact ⟨rfl, by congr 1; omega⟩
theorem c_newInt {n : Int} (h1 : -9223372036854775808 ≤ n) (h2 : n ≤ 9223372036854775807)
    (H : ∀ p w', Ext w w' → ZO w' w.heap.size p → IntR w' p n → K p w') : call P f_impl_newInt [.int .i64 n] w K := by
  refine I_impl_newInt ?_
  unfold D_impl_newInt
  refine alc_Z fun p w1 z1 _ e1 => ?_
  exact c_SetInt64 z1 h1 h2 fun w2 z2 i2 g2 => H p w2 (ext_of_grown e1 (fun g hg => z1.blk_ge hg) g2) z2 i2

/-! ### lowest digits -/
theorem bl0_min_i64 {ats : Array TypeId} {ty : TypeId} {k : IntKind} {a b : Int} {K : Value → Prop} : bl0 P .min ats ty [.int k a, .int k b] w K = K (.int k (min a b)) := by
  unfold bl0
  have : rv P (builtin .min ats ty #[] [.int k a, .int k b].toArray) w = some (.value (.int k (min a b))) := by
    have e : min a b = if b < a then b else a := by split <;> omega
    rw [e]
    simp [builtin, Builtin.min_, Builtin.min2]
  rw [this]
  simp [valK]
theorem bl0_max_i64 {ats : Array TypeId} {ty : TypeId} {k : IntKind} {a b : Int} {K : Value → Prop} : bl0 P .max ats ty [.int k a, .int k b] w K = K (.int k (max a b)) := by
  unfold bl0
  have : rv P (builtin .max ats ty #[] [.int k a, .int k b].toArray) w = some (.value (.int k (max a b))) := by
    have e : max a b = if a < b then b else a := by split <;> omega
    rw [e]
    simp [builtin, Builtin.max_, Builtin.max2]
  rw [this]
  simp [valK]
theorem c_low {p : Value} {m : Int} (h : IntR w p m) (hm : m.natAbs < 18446744073709551616) (H : K (.int .u64 (m.natAbs : Int)) w) : call P f_impl_integer_low [p] w K := by
  obtain ⟨s, hb, l, h1, h2, h3, _⟩ := h
  have b1 := h1.bound
  refine I_impl_integer_low ?_
  unfold D_impl_integer_low
  rw [nch_bx hb]
  refine IntR.mag hb ?_
  rw [h1.row.len u_s_uint32]
  have hlen : l.length ≤ 2 := by
    refine Nat.le_of_not_lt fun hc => ?_
    have := h2.ge (by rintro rfl; simp at hc)
    have h4 : (4294967296 : Nat) ^ 2 ≤ 4294967296 ^ (l.length - 1) := Nat.pow_le_pow_right (by decide) (by omega)
    have h5 : (4294967296 : Nat) ^ 2 = 18446744073709551616 := by decide
    omega
  have hmin : bl0 P .min #[t_int, t_int] t_int [.int .i64 (l.length : Int), .int .i64 2] w = fun K => K (.int .i64 (l.length : Int)) := by
    funext K
    rw [bl0_min_i64]
    congr 2; omega
  rw [hmin]
  show bin P .sub t_int false true (.int .i64 (l.length : Int)) (.int .i64 1) w _
  rw [bin_sub, wrap_i64 (by omega) (by omega)]
  refine ⟨fun g x y w' => w' = w ∧ ∃ u : Nat, x = .int .u64 (u : Int) ∧ y = .int .i64 ((g : Int) - 1) ∧ g ≤ l.length ∧ u = val 4294967296 (l.drop g), ⟨l.length, rfl, 0, rfl, rfl, Nat.le_refl _, by simp [val]⟩, ?_⟩
  rintro g x y junk w' ⟨rfl, u, rfl, rfl, hg, hu⟩
  rw [bin_geq]
  refine cnd_dec (fun hge => ?_) (fun hlt => ?_)
  · have hg0 : 0 < g := by omega
    have hi : g - 1 < l.length := by omega
    have g1 := Dig_get h2.1 hi
    have hul : u < 4294967296 := by
      have := val_lt (h2.1.drop g)
      rw [List.length_drop, ← hu] at this
      have h4 : (4294967296 : Nat) ^ (l.length - g) ≤ 4294967296 ^ 1 := Nat.pow_le_pow_right (by decide) (by omega)
      omega
    rw [bin_shlN (s := 32) (by decide) (by rw [max_u64, show (2 : Nat) ^ 32 = 4294967296 from rfl]; omega), show (2 : Nat) ^ 32 = 4294967296 from rfl]
    rw [nch_bx hb]
    refine IntR.mag hb ?_
    rw [show (g : Int) - 1 = ((g - 1 : Nat) : Int) by omega]
    refine h1.at hi u_s_uint32 i_uint32 u_uint32 ?_
    rw [cnv_32_64' g1, bin_orN (b := l[g - 1]) (by simp only [IntKind.bits]; omega) (by simp only [IntKind.bits]; omega) rfl, Nat.or_comm, right_or g1]
    rw [bin_sub, wrap_i64 (by omega) (by omega)]
    refine ⟨g - 1, by omega, rfl, _, rfl, by congr 1, by omega, ?_⟩
    rw [List.drop_eq_getElem_cons hi, val, show g - 1 + 1 = g by omega, ← hu, Nat.mul_comm]
  · have : g = 0 := by omega
    subst this
    rw [List.drop_zero, h3] at hu
    subst hu
    exact H
theorem c_Int64 {p : Value} {m : Int} (h : IntR w p m) (hm : m.natAbs < 9223372036854775808) (H : K (.int .i64 m) w) : call P f_impl_integer_Int64 [p] w K := by
  have h0 := h
  obtain ⟨s, hb, l, h1, h2, h3, _⟩ := h
  refine I_impl_integer_Int64 ?_
  unfold D_impl_integer_Int64
  rw [nch_bx hb]
  refine IntR.neg hb ?_
  refine cnd_dec (fun hn => ?_) (fun hn => ?_)
  · refine c_low h0 (by omega) ?_
    rw [cnv_int_int u_uint64 u_int64, wrap_i64 (by omega) (by omega), una_neg_int, wrap_i64 (by omega) (by omega)]
    rw [show (0 : Int) - (m.natAbs : Int) = m by omega]
    exact H
  · refine c_low h0 (by omega) ?_
    rw [cnv_int_int u_uint64 u_int64, wrap_i64 (by omega) (by omega)]
    rw [show (m.natAbs : Int) = m by omega]
    exact H

/-! ### bits -/
theorem bit_val {l : List Nat} (hd : Dig 4294967296 l) (i : Nat) : val 4294967296 l / 2 ^ i % 2 = l.getD (i / 32) 0 / 2 ^ (i % 32) % 2 := by
  have hn : 2 ^ i = 4294967296 ^ (i / 32) * 2 ^ (i % 32) := by
    conv => lhs; rw [← Nat.div_add_mod i 32, Nat.pow_add, Nat.pow_mul]
  have hs : i % 32 < 32 := Nat.mod_lt _ (by decide)
  rw [hn, ← Nat.div_div_eq_div_mul]
  by_cases h : i / 32 < l.length
  · have hp : 0 < 4294967296 ^ (i / 32) := Nat.pow_pos (by decide)
    have h1 : val 4294967296 l / 4294967296 ^ (i / 32) = val 4294967296 (l.drop (i / 32)) := by
      rw [val_split _ l (Nat.le_of_lt h), Nat.add_mul_div_left _ _ hp, Nat.div_eq_of_lt, Nat.zero_add]
      have := val_lt (hd.take (i / 32))
      rw [List.length_take, Nat.min_eq_left (by omega)] at this
      exact this
    rw [h1, List.drop_eq_getElem_cons h, val, getD_get h]
    have h2 : (4294967296 : Nat) = 2 ^ (i % 32) * (2 * 2 ^ (31 - i % 32)) := by
      rw [← Nat.pow_succ', ← Nat.pow_add, show i % 32 + (31 - i % 32).succ = 32 by omega]
    have h3 : ∀ X, 4294967296 * X = 2 ^ (i % 32) * (2 * (2 ^ (31 - i % 32) * X)) := fun X => by
      conv => lhs; rw [h2]
      grind
    rw [h3, Nat.add_mul_div_left _ _ (Nat.two_pow_pos _), Nat.add_mul_mod_self_left]
  · have h1 : val 4294967296 l / 4294967296 ^ (i / 32) = 0 :=
      Nat.div_eq_of_lt (Nat.lt_of_lt_of_le (val_lt hd) (Nat.pow_le_pow_right (by decide) (by omega)))
    have h2 : l.getD (i / 32) 0 = 0 := by rw [List.getD_eq_getElem?_getD]; simp [show l.length ≤ i / 32 by omega]
    rw [h1, h2]
theorem c_Bit {p : Value} {m : Int} {i : Nat} (h : IntR w p m) (hi : i ≤ 9223372036854775807) (H : K (.int .u64 ((m.natAbs / 2 ^ i % 2 : Nat) : Int)) w) : call P f_impl_integer_Bit [p, .int .i64 (i : Int)] w K := by
  obtain ⟨s, hb, l, h1, h2, h3, _⟩ := h
  have hv := bit_val h2.1 i
  rw [h3] at hv
  rw [hv] at H
  refine I_impl_integer_Bit ?_
  unfold D_impl_integer_Bit
  rw [bin_quoN (b := 32) (by rw [max_i64]; omega) (by decide), nch_bx hb]
  refine IntR.mag hb ?_
  rw [h1.row.len u_s_uint32, bin_geq]
  refine cnd_dec (fun hge => ?_) (fun hlt => ?_)
  · have h2 : l.getD (i / 32) 0 = 0 := by rw [List.getD_eq_getElem?_getD]; simp [show l.length ≤ i / 32 by omega]
    rw [h2] at H
    simpa using H
  · have hlt : i / 32 < l.length := by omega
    rw [nch_bx hb]
    refine IntR.mag hb ?_
    rw [bin_quoN (b := 32) (by rw [max_i64]; omega) (by decide)]
    refine h1.at hlt u_s_uint32 i_uint32 u_uint32 ?_
    have g1 := Dig_get h2.1 hlt
    rw [bin_remN (b := 32) (by decide), bin_shrN (s := i % 32) (by simp only [IntKind.bits]; omega)]
    have hq : l[i / 32] / 2 ^ (i % 32) < 2 ^ IntKind.u32.bits := Nat.lt_of_le_of_lt (Nat.div_le_self _ _) g1
    rw [bin_andN (b := 1) hq (by decide) rfl, Nat.and_one_is_mod, cnv_int_int u_uint32 u_uint, w_u64' (by omega)]
    rw [getD_get hlt] at H
    exact H

/-- How many of the lowest bits are 0. -/
def IsTz (n k : Nat) : Prop := if n = 0 then k = 0 else n % 2 ^ k = 0 ∧ n / 2 ^ k % 2 = 1
end Go.Proofs.YtabgkpfcpncmhaaGreat

/- Contracts: bits that two numbers have; whole numbers of the reference out of the program's. -/
set_option linter.unusedVariables false
namespace Go.Proofs.YtabgkpfcpncmhaaGreat
open Go Go.Vc

variable {w : World} {K : Value → World → Prop}

theorem one_1 {a : Value} (ha : a.oneCell' = true) : ∀ x ∈ [a], x.oneCell' = true := by
  intro x hx
  simp only [List.mem_cons, List.not_mem_nil, or_false] at hx
  subst hx; exact ha
theorem one_2 {a b : Value} (ha : a.oneCell' = true) (hb : b.oneCell' = true) : ∀ x ∈ [a, b], x.oneCell' = true := by
  intro x hx
  simp only [List.mem_cons, List.not_mem_nil, or_false] at hx
  rcases hx with rfl | rfl <;> assumption
theorem one_3 {a b c : Value} (ha : a.oneCell' = true) (hb : b.oneCell' = true) (hc : c.oneCell' = true) : ∀ x ∈ [a, b, c], x.oneCell' = true := by
  intro x hx
  simp only [List.mem_cons, List.not_mem_nil, or_false] at hx
  rcases hx with rfl | rfl | rfl <;> assumption
/-- A field of a variable: where it is, what is read and written there. -/
theorem Bx_fa {w : World} {base : Nat} {t ty : TypeId} {p : Value} {cs : List Value} {fs : Array Field} {f off b : Nat} {z : Value} {d : TypeDesc} (h : Bx w base t p cs) (hu : P.underlying t = some (.struct fs)) (hf : (fs[f]?).map (fun x => (x.type, x.offset)) = some (ty, off)) (ht : TI P ty z 1 b)
    (hue : P.underlying ty = some d) (hd : aggB d = false) :
    ∃ a, (∀ (w : World) (K : Value → Prop), fda P t p f w K = K a) ∧ (∀ {w' : World} {base' : Nat} {cs' : List Value} {x : Value}, Bx w' base' t p cs' → cs'[off]? = some x → ∀ K, ld P ty a w' K = K x) ∧
      (∀ {w' : World} {base' : Nat} {cs' : List Value} {x : Value} {K : World → Prop}, Bx w' base' t p cs' → off < cs'.length → x.oneCell' = true → (∀ w'', Bx w'' base' t p (cs'.set off x) → w'.grownBy w'' (blk p) → K w'') → sto P ty a x w' K) := by
  obtain ⟨g, rfl, hb, hg⟩ := h
  have ha : (Addr.mk g 0 none).add off = ⟨g, off, none⟩ := by rw [Addr.add_lit, Nat.zero_add]
  refine ⟨.pointer (some ⟨g, off, none⟩), fun w K => by rw [fda_off hu hf ht (by decide), ha], fun h' hx K => ?_, fun h' ho h1 H => ?_⟩
  · obtain ⟨g', e, _, hg'⟩ := h'
    cases e
    rw [ld_scalar hue hd (v := _)]
    unfold World.cell?
    simp [hg', hx]
  · obtain ⟨g', e, hb', hg'⟩ := h'
    cases e
    rename_i cs' x K
    refine sto_scalar ht h1 (u := cs'[off]) ?_ ?_ (H _ ⟨g, rfl, hb', setCell_block hg'⟩ setCell_grown)
    · simp [World.cell?, hg', ho]
    · simp [World.frozen?, hg']

theorem app_ODx {k : IntKind} {t e : TypeId} {b base : Nat} {v : Value} {l : List Nat} {d : Nat} {KW : Value → World → Prop} (h : OD k e w base v l) (hu : P.underlying t = some (.slice e)) (ht : TI P e (.int k 0) 1 b) (hn : l.length + 1 ≤ maxLen) (hby : (l.length + 1) * b ≤ 140737488355328) (hbase : base ≤ w.heap.size)
    (H : ∀ v' w', OD k e w' base v' (l ++ [d]) → w.grownBy w' v.ownBlock → KW v' w') : bsl P t 1 [(0, iv k d)] w fun y w2 => Ext w w2 ∧ bl2 P .append #[t, t] t [v, y] w2 KW := by
  refine app1x h rfl hu ht rfl hn hby hbase fun v' w' ho hg => H v' w' ?_ hg
  unfold OD
  rw [List.length_append, List.map_append]
  exact ho
theorem app_OD {k : IntKind} {t e : TypeId} {b base : Nat} {v : Value} {l : List Nat} {d : Nat} {KW : Value → World → Prop} (h : OD k e w base v l) (hu : P.underlying t = some (.slice e)) (ht : TI P e (.int k 0) 1 b) (hn : l.length + 1 ≤ maxLen) (hby : (l.length + 1) * b ≤ 140737488355328) (hbase : base ≤ w.heap.size)
    (H : ∀ v' w', OD k e w' base v' (l ++ [d]) → w.grownBy w' v.ownBlock → KW v' w') : bsl P t 1 [(0, iv k d)] w fun y w2 => bl2 P .append #[t, t] t [v, y] w2 KW :=
  SemA_mono (fun _ _ q => q.2) (app_ODx h hu ht hn hby hbase H)

/-! ### bits of both -/
theorem and_split {a b x y k : Nat} (ha : a < 2 ^ k) (hb : b < 2 ^ k) : (a + 2 ^ k * x) &&& (b + 2 ^ k * y) = (a &&& b) + 2 ^ k * (x &&& y) := by
  have hab : a &&& b < 2 ^ k := Nat.lt_of_le_of_lt Nat.and_le_left ha
  apply Nat.eq_of_testBit_eq
  intro j
  rw [Nat.testBit_and, Nat.add_comm a, Nat.add_comm b, Nat.add_comm (a &&& b), Nat.testBit_two_pow_mul_add _ ha, Nat.testBit_two_pow_mul_add _ hb, Nat.testBit_two_pow_mul_add _ hab]
  split <;> rw [Nat.testBit_and]
theorem p32 (i : Nat) : (4294967296 : Nat) ^ i = 2 ^ (32 * i) := by rw [Nat.pow_mul]
/-! ### whole numbers of the reference -/
def Wl (l : List Nat) (m : Int) : Prop := Norm 16777216 l ∧ val 16777216 l = m.natAbs
/-- Limbs, read: their block is one of limbs. -/
structure LR (w : World) (s : Value) (l : List Nat) : Prop extends IR .i64 w s l where
  ty : Ty w s.ownBlock t_int64
instance {w : World} {s : Value} {l : List Nat} : Coe (LR w s l) (IR .i64 w s l) := ⟨LR.toIR⟩
theorem LR.ext {w' : World} {s : Value} {l : List Nat} (h : LR w s l) (he : Ext w w') : LR w' s l := ⟨h.toIR.ext he, Ty_ext h.ty he⟩
theorem LR.of {base : Nat} {s : Value} {l : List Nat} (h : OD .i64 t_int64 w base s l) : LR w s l := ⟨OD.IR h, Ty.owns h⟩
theorem LR.nil (w : World) : LR w (.slice none 0 0) [] := ⟨IR.nil _ _, Ty_none _ _⟩
theorem LR.kt {w' : World} {s : Value} {l : List Nat} {row : Option Nat} {e' : TypeId} (h : LR w s l) (hg : w.grownBy w' row) (ht : Ty w row e') (hne : t_int64 ≠ e') : LR w' s l :=
  ⟨IR.kept_at h.toIR hg (h.ty.apart ht hne), Ty_kept h.ty hg ht hne⟩
/-- A whole number of the reference, read; of one's own. -/
def Wr (w : World) (v : Value) (m : Int) : Prop := ∃ s l, v = .agg #[.int .i64 m.sign, s] ∧ LR w s l ∧ Wl l m
def Wo (w : World) (lo hi : Nat) (v : Value) (m : Int) : Prop := ∃ s l, v = .agg #[.int .i64 m.sign, s] ∧ OwnR w lo hi t_int64 1 s l.length (l.map (iv .i64)) ∧ Wl l m
theorem Wr.ext {w' : World} {v : Value} {m : Int} (h : Wr w v m) (he : Ext w w') : Wr w' v m := let ⟨s, l, h1, h2, h3⟩ := h; ⟨s, l, h1, h2.ext he, h3⟩
theorem Wo.ext {w' : World} {lo hi : Nat} {v : Value} {m : Int} (h : Wo w lo hi v m) (he : Ext w w') : Wo w' lo hi v m := let ⟨s, l, h1, h2, h3⟩ := h; ⟨s, l, h1, h2.ext he, h3⟩
theorem Wo.Wr {lo hi : Nat} {v : Value} {m : Int} (h : Wo w lo hi v m) : Wr w v m := let ⟨s, l, h1, h2, h3⟩ := h; ⟨s, l, h1, LR.of h2.own, h3⟩
theorem Wl.zero : Wl [] 0 := ⟨Norm.nil _, rfl⟩
theorem Wr.zero (w : World) : Wr w (.agg #[.int .i64 0, .slice none 0 0]) 0 := ⟨_, [], rfl, LR.nil _, Wl.zero⟩

theorem bld_Whole0 {K : Value → Prop} : bld P t_impl_Whole [] w K = K (.agg #[.int .i64 0, .slice none 0 0]) := bld_of (by kernel_rfl)
theorem bld_Whole1 {n : Int} {K : Value → Prop} : bld P t_impl_Whole [(0, .int .i64 n)] w K = K (.agg #[.int .i64 n, .slice none 0 0]) := bld_of (by kernel_rfl)
end Go.Proofs.YtabgkpfcpncmhaaGreat

/- Contracts: a whole number of the reference's kind out of the program's. -/
set_option linter.unusedVariables false
namespace Go.Proofs.YtabgkpfcpncmhaaGreat
open Go Go.Vc

variable {w : World} {K : Value → World → Prop}

theorem and_mask (a : Nat) : a &&& 16777215 = a % 16777216 := Nat.and_two_pow_sub_one_eq_mod a 24
theorem blk_ne {w1 w2 : World} {b1 b2 : Nat} {t1 t2 : TypeId} {p q : Value} {c1 c2 : List Value} (h1 : Bx w1 b1 t1 p c1) (h2 : Bx w2 b2 t2 q c2) (h : w1.heap.size ≤ b2) : blk p = none ∨ blk p ≠ blk q := by
  obtain ⟨g, rfl, _, hg⟩ := h1
  obtain ⟨g', rfl, hb, _⟩ := h2
  have := heap_lt hg
  right
  simp only [blk, ne_eq, Option.some.injEq]
  omega
theorem digs_step {Q p r n q0 q1 : Nat} (h : Q + p * r = n) (h0 : q0 = r % 16777216) (h1 : q1 = r / 16777216) : Q + p * q0 + p * 16777216 * q1 = n := by
  have := Nat.div_add_mod r 16777216
  subst h0 h1
  rw [← h]
  conv => rhs; rw [← this]
  grind

end Go.Proofs.YtabgkpfcpncmhaaGreat

/- Contracts: whole numbers of the reference in limbs of 24 bits. -/
set_option linter.unusedVariables false
namespace Go.Proofs.YtabgkpfcpncmhaaGreat
open Go Go.Vc

variable {w : World} {K : Value → World → Prop}

theorem lim_len {l : List Nat} (h : Norm 16777216 l) (hb : bl (val 16777216 l) ≤ 1099511627776) : l.length ≤ 45812984491 := by
  have := (Norm.len_le (s := 24) (by decide) h).1
  have e : val (2 ^ 24) l = val 16777216 l := rfl
  rw [e] at this
  omega
theorem IR.sl {k : IntKind} {v : Value} {l : List Nat} (h : IR k w v l) : ∃ a n c, v = .slice a n c := by
  obtain ⟨_, _, a, c, rfl, _⟩ := h.row
  exact ⟨_, _, _, rfl⟩
theorem sl_one {v : Value} (h : ∃ a n c, v = .slice a n c) : v.oneCell' = true := by obtain ⟨_, _, _, rfl⟩ := h; rfl
theorem bld_Whole2 {n : Int} {s : Value} {K : Value → Prop} (hs : ∃ a l c, s = .slice a l c) : bld P t_impl_Whole [(0, .int .i64 n), (1, s)] w K = K (.agg #[.int .i64 n, s]) := by
  obtain ⟨a, l, c, rfl⟩ := hs
  exact bld_of (by kernel_rfl)
/-- A whole number, put into its variable. -/
theorem wh_ret {base : Nat} {x v : Value} {m : Int} {lo hi : Nat} {cs : List Value} (hb : Bx w base t_impl_Whole x cs) (hl : cs.length = 2) (hv : Wo w lo hi v m) (H : ∀ w', w.grownBy w' (blk x) → Wo w' lo hi v m → K v w') :
    sto P t_impl_Whole x v w fun w' => ldc P t_impl_Whole x w' fun r => K r w' := by
  obtain ⟨s, l, rfl, ho, hw⟩ := hv
  refine hb.put i_impl_Whole (ds := [.int .i64 m.sign, s]) rfl hl (one_2 rfl (sl_one (IR.sl (OD.IR ho.own)))) fun w' b' g' => ?_
  exact b'.getc u_impl_Whole rfl i_impl_Whole rfl (H w' g' ⟨s, l, rfl, ⟨keep_row ho.own g' (Ty.box hb) (by decide), ho.top⟩, hw⟩)
theorem wo_mono {lo hi lo' hi' : Nat} {v : Value} {m : Int} (h : Wo w lo hi v m) (h1 : lo' ≤ lo) (h2 : hi ≤ hi') : Wo w lo' hi' v m := let ⟨s, l, a, b, c⟩ := h; ⟨s, l, a, b.mono h1 h2, c⟩

theorem c_l01Own {s : Value} {l : List Nat} (h : IR .i64 w s l) (hl : l.length ≤ 100000000000) (H : ∀ v' w', Ext w w' → OD .i64 t_int64 w' w.heap.size v' l → K v' w') : call P f_spec_l01Own [s] w K := by
  refine I_spec_l01Own ?_
  unfold D_spec_l01Own
  refine bsl_nil u_s_int64 i_int64 ?_
  have he := Ext_alloc w (.cells #[] t_int64)
  have hz : (w.alloc (.cells #[] t_int64)).ownsRow w.heap.size t_int64 1 (.slice (some ⟨w.heap.size, 0, none⟩) 0 0) 0 [] := owns_lit w [] t_int64
  generalize w.alloc (.cells #[] t_int64) = w1 at he hz ⊢
  refine append_intro hz (h.ext he).row (by simp [Value.oneCell']) u_s_int64 i_int64 rfl (by decide) (by simp only [maxLen]; omega) (by omega) he.size fun v' w2 ho hg => ?_
  refine H _ _ (ext_of_grown he (fun g hq => (hz.lt g hq).1) hg) ?_
  simpa using ho

theorem c_l02Make {s : Value} {l : List Nat} {sg m : Int} (h : IR .i64 w s l) (hd : Dig 16777216 l) (hm : m.natAbs = val 16777216 l) (hs : m ≠ 0 → m.sign = sg) (hl : l.length ≤ 100000000000)
    (H : ∀ v' w', Ext w w' → Wo w' w.heap.size w'.heap.size v' m → K v' w') : call P f_spec_l02Make [.int .i64 sg, s] w K := by
  refine I_spec_l02Make ?_
  unfold D_spec_l02Make
  refine alc_bx i_impl_Whole fun x w1 b1 e1 _ => ?_
  have h1 := h.ext e1
  rw [h1.row.len u_s_int64]
  refine ⟨fun g y w' => w' = w1 ∧ y = .int .i64 (g : Int) ∧ g ≤ l.length ∧ trim (l.take g) = trim l, ⟨l.length, rfl, rfl, Nat.le_refl _, by rw [List.take_length]⟩, ?_⟩
  rintro g y junk w' ⟨rfl, rfl, hg, ht⟩
  have hlt : (l.take g).length = g := by rw [List.length_take]; omega
  rw [bin_gtr]
  have fin : (l.take g).getLast? ≠ some 0 → bin P .eql t_int false true (.int .i64 (g : Int)) (.int .i64 0) w' fun x21_17 =>
      cnd x21_17 (bld P t_impl_Whole [] w' fun x22_18 => sto P t_impl_Whole x x22_18 w' fun w20 => ldc P t_impl_Whole x w20 fun r21 => K r21 w20)
        (sli P t_s_int64 s none (some (.int .i64 (g : Int))) none w' fun x26_22 => call P f_spec_l01Own [x26_22] w' fun x27_23 w24 => bld P t_impl_Whole [(0, .int .i64 sg), (1, x27_23)] w24 fun x28_25 => sto P t_impl_Whole x x28_25 w24 fun w27 => ldc P t_impl_Whole x w27 fun r28 => K r28 w27) := by
    intro hz
    rw [trim_last hz] at ht
    rw [bin_eql]
    refine cnd_dec (fun h0 => ?_) (fun h0 => ?_)
    · have hg0 : g = 0 := by omega
      subst hg0
      have hv0 : val 16777216 l = 0 := by rw [← val_trim, ← ht]; rfl
      have hm0 : m = 0 := by omega
      subst hm0
      rw [bld_Whole0]
      have hz0 : Wo w' w.heap.size w.heap.size (.agg #[.int .i64 0, .slice none 0 0]) 0 := ⟨_, [], rfl, ⟨OD.nil _ _ _ _, fun k hk => by cases hk⟩, Wl.zero⟩
      refine wh_ret b1 rfl hz0 fun w2 g2 h2 => ?_
      have e2 := ext_of_grown e1 (fun g hg => (b1.blk_lt hg).1) g2
      exact H _ _ e2 (wo_mono h2 (Nat.le_refl _) e2.size)
    · refine Row.sli_h h1.row h1.cap u_s_int64 i_int64 hg fun v' r1 r2 _ _ => ?_
      have hI : IR .i64 w' v' (l.take g) := ⟨by rw [hlt, List.map_take]; exact r1, r2⟩
      refine c_l01Own hI (by omega) fun s' w2 e2 o2 => ?_
      rw [bld_Whole2 (IR.sl (OD.IR o2))]
      have b2 := b1.ext e2
      have hn : Norm 16777216 (l.take g) := by rw [ht]; exact Norm.trim hd
      have hv : val 16777216 (l.take g) = m.natAbs := by rw [hm, ht, val_trim]
      have hm0 : m ≠ 0 := by
        rintro rfl
        have : l.take g ≠ [] := by
          intro e
          rw [e] at hlt
          simp at hlt
          omega
        have := hn.pos (by decide) this
        rw [hv] at this
        exact absurd this (by decide)
      have hW : Wo w2 w.heap.size w2.heap.size (.agg #[.int .i64 sg, s']) m := ⟨s', _, by rw [hs hm0], OwnR.of (owns_base o2 e1.size), hn, hv⟩
      refine wh_ret b2 rfl hW fun w3 g3 h3 => ?_
      have e3 : Ext w w3 := ext_of_grown (e1.trans e2) (fun g hg => (b2.blk_lt hg).1) g3
      exact H _ _ e3 (wo_mono h3 (Nat.le_refl _) g3.size)
  refine ⟨_, fun _ _ _ h => h, ?_⟩
  refine grd_split (fun hp => ?_) (fun hp => ?_)
  · simp only [decide_eq_true_eq] at hp
    have hg0 : 0 < g := by omega
    rw [bin_subI1 (b := 1) (by omega) (by have := h.bound; omega)]
    refine h1.at (i := g - 1) (by omega) u_s_int64 i_int64 u_int64 ?_
    rw [bin_eql, pick_bool, decide_eq_true hp, cond_true]
    have hlast : (l.take g).getLast? = some l[g - 1] := by
      rw [List.getLast?_eq_getElem?, hlt, List.getElem?_take, if_pos (by omega)]
      exact List.getElem?_eq_getElem (by omega)
    refine cnd_dec (fun hz => ?_) (fun hz => ?_)
    · have hz' : l[g - 1] = 0 := by simpa using hz
      rw [bin_subI1 (b := 1) (by omega) (by have := h.bound; omega)]
      refine ⟨g - 1, by omega, rfl, rfl, by omega, ?_⟩
      have htk := List.take_succ_eq_append_getElem (l := l) (i := g - 1) (by omega)
      rw [show g - 1 + 1 = g by omega, hz'] at htk
      rw [← ht, htk, trim_snoc_zero]
    · exact fin (by rw [hlast]; simpa using hz)
  · rw [hp, Bool.not_true, pick_bool, cond_false, cnd_false]
    simp only [Bool.not_true, decide_eq_false_iff_not] at hp
    have hg0 : g = 0 := by omega
    subst hg0
    exact fin (by simp)

/-! ### parts of a whole number -/
theorem bx_Wh {m : Int} {s : Value} {KW : Value → World → Prop} (H : ∀ x w', Bx w' w.heap.size t_impl_Whole x [.int .i64 m, s] → Ext w w' → KW x w') : bx P t_impl_Whole (.agg #[.int .i64 m, s]) w KW :=
  bx_bx fun x w' b e _ => H x w' b e
theorem wh_s {base : Nat} {x s : Value} {m : Int} {K : Value → Prop} (h : Bx w base t_impl_Whole x [.int .i64 m, s]) (H : K (.int .i64 m)) : fda P t_impl_Whole x 0 w (fun a => ld P t_int64 a w K) :=
  h.fld (off := 0) rfl u_impl_Whole rfl i_int64 u_int64 rfl H
theorem wh_l {base : Nat} {x s : Value} {m : Int} {K : Value → Prop} (h : Bx w base t_impl_Whole x [.int .i64 m, s]) (H : K s) : fda P t_impl_Whole x 1 w (fun a => ld P t_s_int64 a w K) :=
  h.fld (off := 1) rfl u_impl_Whole rfl i_s_int64 u_s_int64 rfl H
theorem wh_all {base : Nat} {x s : Value} {m : Int} {K : Value → Prop} (h : Bx w base t_impl_Whole x [.int .i64 m, s]) (H : K (.agg #[.int .i64 m, s])) : ld P t_impl_Whole x w K :=
  h.get u_impl_Whole rfl i_impl_Whole rfl H
theorem alc_Wh {KW : Value → World → Prop} (H : ∀ x w', (∃ cs, cs.length = 2 ∧ Bx w' w.heap.size t_impl_Whole x cs) → Ext w w' → KW x w') : alc P t_impl_Whole w KW :=
  alc_bx i_impl_Whole fun x w' b e _ => H x w' ⟨_, rfl, b⟩ e
/-- The end of a function that makes a whole number: 'Make', the variable, the result. -/
theorem wh_make {base : Nat} {x s : Value} {l : List Nat} {sg m : Int} {cs : List Value} {w0 : World} (he : Ext w0 w) (hb : Bx w base t_impl_Whole x cs) (hcs : cs.length = 2) (hbase : w0.heap.size ≤ base) (h : IR .i64 w s l) (hd : Dig 16777216 l) (hm : m.natAbs = val 16777216 l) (hs : m ≠ 0 → m.sign = sg) (hl : l.length ≤ 100000000000)
    (H : ∀ v' w', Ext w0 w' → Wo w' w0.heap.size w'.heap.size v' m → K v' w') : call P f_spec_l02Make [.int .i64 sg, s] w fun r w1 => sto P t_impl_Whole x r w1 fun w2 => ldc P t_impl_Whole x w2 fun r => K r w2 := by
  refine c_l02Make h hd hm hs hl fun v' w1 e1 h1 => ?_
  have b1 := hb.ext e1
  refine wh_ret b1 hcs h1 fun w2 g2 h2 => ?_
  have e2 : Ext w0 w2 := ext_of_grown (he.trans e1) (fun g hg => Nat.le_trans hbase (b1.blk_lt hg).1) g2
  exact H _ _ e2 (wo_mono h2 he.size g2.size)

/-! ### integers -/
theorem tmod_abs (a : Int) : (a.tmod 16777216).natAbs = a.natAbs % 16777216 := Int.natAbs_tmod a 16777216
theorem tdiv_abs (a : Int) : (a.tdiv 16777216).natAbs = a.natAbs / 16777216 := Int.natAbs_tdiv a 16777216

theorem c_l02Of {n : Int} (h1 : -9223372036854775807 ≤ n) (h2 : n ≤ 9223372036854775807) (H : ∀ v' w', Ext w w' → Wo w' w.heap.size w'.heap.size v' n → K v' w') : call P f_spec_l02Of [.int .i64 n] w K := by
  refine I_spec_l02Of ?_
  unfold D_spec_l02Of
  refine alc_Wh fun x w1 ⟨cs, hcs, b1⟩ e1 => ?_
  refine bsl_nil u_s_int64 i_int64 ?_
  have he := Ext_alloc w1 (.cells #[] t_int64)
  have hz : OD .i64 t_int64 (w1.alloc (.cells #[] t_int64)) w1.heap.size (.slice (some ⟨w1.heap.size, 0, none⟩) 0 0) [] := owns_lit w1 [] t_int64
  generalize w1.alloc (.cells #[] t_int64) = w2 at he hz ⊢
  refine ⟨fun y w' => w' = w2 ∧ y = .int .i64 (if n < 0 then -1 else 1), ?_, ?_⟩
  · rintro y junk w' ⟨rfl, rfl⟩
    refine ⟨fun g x y w' => ∃ (a : Int) (q : List Nat), g = a.natAbs ∧ x = .int .i64 a ∧ Ext w1 w' ∧ OD .i64 t_int64 w' w1.heap.size y q ∧ q.length ≤ 64 ∧ val 16777216 q + 16777216 ^ q.length * a.natAbs = n.natAbs ∧ Dig 16777216 q ∧ a.natAbs ≤ n.natAbs,
      ⟨n.natAbs, n, [], rfl, rfl, he, hz, Nat.zero_le _, by simp [val], (by intro d hd; cases hd), Nat.le_refl _⟩, ?_⟩
    rintro g x y junk w3 ⟨a, q, rfl, rfl, e3, oq, hq64, hv, dq, ha⟩
    have E3 := e1.trans e3
    have hql : a ≠ 0 → q.length < 64 := fun ha0 => by
      have h3 : 16777216 ^ q.length * 1 ≤ 16777216 ^ q.length * a.natAbs := Nat.mul_le_mul_left _ (by omega)
      have h4 : 2 ^ (24 * q.length) ≤ n.natAbs := by rw [Nat.pow_mul, show (2 : Nat) ^ 24 = 16777216 from rfl]; omega
      refine Nat.lt_of_not_le fun hc => ?_
      have : 2 ^ 64 ≤ 2 ^ (24 * q.length) := Nat.pow_le_pow_right (by decide) (by omega)
      have h64 : (2 : Nat) ^ 64 = 18446744073709551616 := by decide
      omega
    rw [bin_neq]
    refine cnd_dec (fun hne => ?_) (fun heq => ?_)
    · rw [bin_rem _ _ _ _ _ _ _ (by decide)]
      have hm := tmod_abs a
      have hq := tdiv_abs a
      have hmod := Nat.mod_lt a.natAbs (show 0 < 16777216 by decide)
      refine ⟨fun y w' => w' = w3 ∧ y = .int .i64 ((a.natAbs % 16777216 : Nat) : Int), ?_, ?_⟩
      · rintro y' junk w4 ⟨rfl, rfl⟩
        have := hql (by omega)
        refine app_OD oq u_s_int64 i_int64 (by simp only [maxLen]; omega) (by omega) e3.size fun v' w5 o5 g5 => ?_
        rw [bin_quo _ _ _ _ _ _ _ (by decide), wrap_i64 (by omega) (by omega)]
        refine ⟨_, ?_, a.tdiv 16777216, _, rfl, rfl, ext_of_grown e3 (fun g hg => (oq.lt g hg).1) g5, o5, by simp; omega, ?_, ?_, by omega⟩
        · rw [hq]; omega
        · rw [val_snoc, List.length_append, List.length_singleton, Nat.pow_succ, hq]
          exact digs_step hv rfl rfl
        · intro d hd
          rcases List.mem_append.1 hd with hd | hd
          · exact dq d hd
          · simp at hd; omega
      · rw [bin_lss]
        refine cnd_dec (fun hneg => ?_) (fun hpos => ?_)
        · rw [una_neg_int, wrap_i64 (by omega) (by omega)]
          exact ⟨rfl, by congr 1; omega⟩
        · exact ⟨rfl, by congr 1; omega⟩
    · have ha0 : a = 0 := by omega
      subst ha0
      refine wh_make E3 (b1.ext e3) hcs (Nat.le_refl _) (OD.IR oq) dq (by simpa using hv.symm) (fun hn => ?_) ?_ fun v' w' he' hw' => H v' w' he' hw'
      · split
        · rename_i h; exact Int.sign_eq_neg_one_of_neg h
        · exact Int.sign_eq_one_of_pos (by omega)
      · omega
  · rw [bin_lss]
    refine cnd_dec (fun hneg => ?_) (fun hpos => ?_)
    · exact ⟨rfl, by rw [if_pos hneg]⟩
    · exact ⟨rfl, by rw [if_neg hpos]⟩
end Go.Proofs.YtabgkpfcpncmhaaGreat

/- Contracts: sums, differences, products, shifts of the reference's whole numbers. -/
set_option linter.unusedVariables false
namespace Go.Proofs.YtabgkpfcpncmhaaGreat
open Go Go.Vc

variable {w : World} {K : Value → World → Prop}

theorem pL (i : Nat) : (16777216 : Nat) ^ (i + 1) = 16777216 ^ i * 16777216 := Nat.pow_succ ..
theorem Dig_snoc {b : Nat} {l : List Nat} {x : Nat} (h : Dig b l) (hx : x < b) : Dig b (l ++ [x]) := fun d hd => by
  rcases List.mem_append.1 hd with hd | hd
  · exact h d hd
  · simp at hd; omega
theorem getD_ge {l : List Nat} {i : Nat} (h : l.length ≤ i) : l.getD i 0 = 0 := by rw [List.getD_eq_getElem?_getD]; simp [h]
theorem bin_remI {t : TypeId} {cx cy : Bool} {a b : Nat} {c : Int} {K : Value → Prop} (hb : b ≠ 0) (hc : c = (b : Int) := by rfl) : bin P .rem t cx cy (.int .i64 (a : Int)) (.int .i64 c) w K = K (.int .i64 ((a % b : Nat) : Int)) := bin_remN hb hc
theorem bin_quoI {t : TypeId} {cx cy : Bool} {a b : Nat} {c : Int} {K : Value → Prop} (ha : a ≤ 9223372036854775807) (hb : b ≠ 0) (hc : c = (b : Int) := by rfl) : bin P .quo t cx cy (.int .i64 (a : Int)) (.int .i64 c) w K = K (.int .i64 ((a / b : Nat) : Int)) := bin_quoN (by rw [max_i64]; omega) hb hc

/-! ### comparing -/
theorem c_l02CompareLimbs {u v : Value} {l r : List Nat} (h1 : IR .i64 w u l) (h2 : IR .i64 w v r) (n1 : Norm 16777216 l) (n2 : Norm 16777216 r) (H : K (.int .i64 (cmpN (val 16777216 l) (val 16777216 r))) w) : call P f_spec_l02CompareLimbs [u, v] w K := by
  refine I_spec_l02CompareLimbs ?_
  unfold D_spec_l02CompareLimbs
  have b1 := h1.bound
  have b2 := h2.bound
  have one : ∀ {a b : Nat} {K : Prop}, a ≠ b → (∀ {w : World} {K : Value → World → Prop}, K (.int .i64 (cmpN a b)) w → (if a < b then K (.int .i64 (-1)) w else K (.int .i64 1) w)) := by
    intro a b _ hne w K hk
    unfold cmpN at hk
    split
    · rename_i h; rw [if_pos h] at hk; exact hk
    · rename_i h; rw [if_neg h, if_pos (by omega)] at hk; exact hk
  rw [h1.row.len u_s_int64, h2.row.len u_s_int64, bin_neq]
  refine cnd_dec (fun h => ?_) (fun h => ?_)
  · rw [h1.row.len u_s_int64, h2.row.len u_s_int64, bin_lss]
    rw [cmpN_len n1 n2 (by omega)] at H
    have := one (K := True) (show l.length ≠ r.length by omega) H
    refine cnd_dec (fun hl => ?_) (fun hl => ?_)
    · rw [if_pos (by omega)] at this; exact this
    · rw [if_neg (by omega)] at this; exact this
  · have hlen : l.length = r.length := by omega
    rw [h1.row.len u_s_int64, bin_sub, wrap_i64 (by omega) (by omega)]
    refine ⟨fun m x w' => w' = w ∧ x = .int .i64 ((m : Int) - 1) ∧ m ≤ l.length ∧ l.drop m = r.drop m, ⟨l.length, rfl, rfl, Nat.le_refl _, by rw [List.drop_length, hlen, List.drop_length]⟩, ?_⟩
    rintro m x junk w' ⟨rfl, rfl, hm, hd⟩
    rw [bin_geq]
    refine cnd_dec (fun hge => ?_) (fun hlt => ?_)
    · have hm0 : 0 < m := by omega
      rw [show (m : Int) - 1 = ((m - 1 : Nat) : Int) by omega]
      refine h1.at (i := m - 1) (by omega) u_s_int64 i_int64 u_int64 ?_
      refine h2.at (i := m - 1) (by omega) u_s_int64 i_int64 u_int64 ?_
      rw [bin_neq]
      refine cnd_dec (fun hne => ?_) (fun heq => ?_)
      · refine h1.at (i := m - 1) (by omega) u_s_int64 i_int64 u_int64 ?_
        refine h2.at (i := m - 1) (by omega) u_s_int64 i_int64 u_int64 ?_
        have hne' : l[m - 1] ≠ r[m - 1] := by omega
        rw [cmpN_dig (i := m - 1) n1.1 n2.1 hlen (by omega) (by rw [show m - 1 + 1 = m by omega]; exact hd) hne'] at H
        have := one (K := True) hne' H
        rw [bin_lss]
        refine cnd_dec (fun hl => ?_) (fun hl => ?_)
        · rw [if_pos (by omega)] at this; exact this
        · rw [if_neg (by omega)] at this; exact this
      · rw [bin_sub, wrap_i64 (by omega) (by omega)]
        refine ⟨m - 1, by omega, rfl, by congr 1, by omega, ?_⟩
        rw [List.drop_eq_getElem_cons (by omega : m - 1 < l.length), List.drop_eq_getElem_cons (by omega : m - 1 < r.length), show m - 1 + 1 = m by omega, hd]
        congr 1; omega
    · have hm0 : m = 0 := by omega
      subst hm0
      have : l = r := by simpa using hd
      subst this
      unfold cmpN at H
      rw [if_neg (by omega), if_neg (by omega)] at H
      exact H

/-! ### sums -/
theorem step_add24 {V L R p c a b s : Nat} (hv : V + c * p = L + R) (hs : s = c + a + b) : V + p * (s % 16777216) + s / 16777216 * (p * 16777216) = L + p * a + (R + p * b) := by
  have h := Nat.div_add_mod s 16777216
  have h2 : p * (16777216 * (s / 16777216) + s % 16777216) = p * (c + a + b) := by rw [h, hs]
  grind
theorem c_l02Plus {u v : Value} {l r : List Nat} (h1 : IR .i64 w u l) (h2 : IR .i64 w v r) (d1 : Dig 16777216 l) (d2 : Dig 16777216 r) (l1 : l.length ≤ 45812984491) (l2 : r.length ≤ 45812984491)
    (H : ∀ v' w' q, Ext w w' → OD .i64 t_int64 w' w.heap.size v' q → Dig 16777216 q → val 16777216 q = val 16777216 l + val 16777216 r → q.length ≤ 45812984492 → K v' w') : call P f_spec_l02Plus [u, v] w K := by
  refine I_spec_l02Plus ?_
  unfold D_spec_l02Plus
  refine bsl_nil u_s_int64 i_int64 ?_
  have he := Ext_alloc w (.cells #[] t_int64)
  have hz : OD .i64 t_int64 (w.alloc (.cells #[] t_int64)) w.heap.size (.slice (some ⟨w.heap.size, 0, none⟩) 0 0) [] := owns_lit w [] t_int64
  generalize w.alloc (.cells #[] t_int64) = w1 at he hz ⊢
  refine ⟨fun g x y z w' => ∃ (i c : Nat) (q : List Nat), g + i = max l.length r.length + 1 ∧ y = .int .i64 (c : Int) ∧ z = .int .i64 (i : Int) ∧ Ext w w' ∧ OD .i64 t_int64 w' w.heap.size x q ∧ q.length = i ∧ Dig 16777216 q ∧ c ≤ 1 ∧
    val 16777216 q + c * 16777216 ^ i = val 16777216 (l.take i) + val 16777216 (r.take i) ∧ (max l.length r.length < i → c = 0), ⟨max l.length r.length + 1, 0, 0, [], rfl, rfl, rfl, he, hz, rfl, (by intro d hd; cases hd), by omega, by simp [val], by omega⟩, ?_⟩
  rintro g x y z junk w2 ⟨i, c, q, hg, rfl, rfl, e2, oq, hq, dq, hc, hv, hfin⟩
  rw [(h1.ext e2).row.len u_s_int64, bin_lss]
  -- what follows
  have more : i < l.length ∨ i < r.length ∨ 0 < c → ∃ J22 : Value → World → Prop, (∀ (x6_25 : Value) (junk23 : Env) (w24 : World), J22 x6_25 w24 →
            ∃ J26 : Value → World → Prop, (∀ (x6_29 : Value) (junk27 : Env) (w28 : World), J26 x6_29 w28 →
              bin P .rem t_int64 false true x6_29 (.int .i64 16777216) w28 fun x47_30 =>
              bsl P t_s_int64 1 [(0, x47_30)] w28 fun x48_31 w32 =>
              bl2 P .append #[t_s_int64, t_s_int64] t_s_int64 [x, x48_31] w32 fun x49_33 w34 =>
              bin P .quo t_int64 false true x6_29 (.int .i64 16777216) w34 fun x51_35 =>
              bin P .add t_int false true (.int .i64 (i : Int)) (.int .i64 1) w34 fun x24_36 =>
              ∃ m37, m37 < g ∧ ∃ (i c : Nat) (q : List Nat), m37 + i = max l.length r.length + 1 ∧ x51_35 = .int .i64 (c : Int) ∧ x24_36 = .int .i64 (i : Int) ∧ Ext w w34 ∧ OD .i64 t_int64 w34 w.heap.size x49_33 q ∧ q.length = i ∧ Dig 16777216 q ∧ c ≤ 1 ∧
                val 16777216 q + c * 16777216 ^ i = val 16777216 (l.take i) + val 16777216 (r.take i) ∧ (max l.length r.length < i → c = 0)) ∧
              (bl0 P .len #[t_s_int64] t_int [v] w24 fun x37_38 =>
              bin P .lss t_int false false (.int .i64 (i : Int)) x37_38 w24 fun x38_39 =>
              cnd x38_39
                (ixa P t_s_int64 v (.int .i64 (i : Int)) w24 fun x42_40 =>
                ld P t_int64 x42_40 w24 fun x43_41 =>
                bin P .add t_int64 false false x6_25 x43_41 w24 fun x44_42 =>
                J26 x44_42 w24)
                (J26 x6_25 w24))) ∧
            (bl0 P .len #[t_s_int64] t_int [u] w2 fun x27_43 =>
            bin P .lss t_int false false (.int .i64 (i : Int)) x27_43 w2 fun x28_44 =>
            cnd x28_44
              (ixa P t_s_int64 u (.int .i64 (i : Int)) w2 fun x32_45 =>
              ld P t_int64 x32_45 w2 fun x33_46 =>
              bin P .add t_int64 false false (.int .i64 (c : Int)) x33_46 w2 fun x34_47 =>
              J22 x34_47 w2)
              (J22 (.int .i64 (c : Int)) w2)) := by
    intro hor
    have hi : i ≤ max l.length r.length := by
      rcases hor with h | h | h
      · omega
      · omega
      · refine Nat.le_of_not_lt fun hlt => ?_
        have := hfin hlt; omega
    have ga : l.getD i 0 < 16777216 := by
      by_cases h : i < l.length
      · rw [getD_get h]; exact Dig_get d1 h
      · rw [getD_ge (by omega)]; decide
    have gb : r.getD i 0 < 16777216 := by
      by_cases h : i < r.length
      · rw [getD_get h]; exact Dig_get d2 h
      · rw [getD_ge (by omega)]; decide
    refine ⟨fun x w' => w' = w2 ∧ x = .int .i64 ((c + l.getD i 0 : Nat) : Int), ?_, ?_⟩
    · rintro x' junk w3 ⟨rfl, rfl⟩
      refine ⟨fun x w' => w' = w3 ∧ x = .int .i64 ((c + l.getD i 0 + r.getD i 0 : Nat) : Int), ?_, ?_⟩
      · rintro x' junk w4 ⟨rfl, rfl⟩
        rw [bin_remI (b := 16777216) (by decide)]
        refine app_OD oq u_s_int64 i_int64 (by simp only [maxLen]; omega) (by omega) e2.size fun v' w5 o5 g5 => ?_
        rw [bin_quoI (b := 16777216) (by omega) (by decide), bin_addI1 (b := 1) (by omega)]
        refine ⟨g - 1, by omega, i + 1, _, _, by omega, rfl, rfl, own_step e2 oq g5, o5, by simp [hq], Dig_snoc dq (Nat.mod_lt _ (by decide)), by omega, ?_, fun hlt => ?_⟩
        · rw [val_snoc, hq, val_take_succD, val_take_succD, pL]
          exact step_add24 hv rfl
        · have h3 : i = max l.length r.length := by omega
          rw [getD_ge (by omega : l.length ≤ i), getD_ge (by omega : r.length ≤ i)]
          omega
      · rw [(h2.ext e2).row.len u_s_int64, bin_lss]
        refine cnd_dec (fun h => ?_) (fun h => ?_)
        · have h' : i < r.length := by omega
          refine (h2.ext e2).at h' u_s_int64 i_int64 u_int64 ?_
          rw [getD_get h'] at gb ⊢
          rw [bin_addI (by omega)]
          exact ⟨rfl, rfl⟩
        · exact ⟨rfl, by rw [getD_ge (l := r) (by omega)]; rfl⟩
    · rw [(h1.ext e2).row.len u_s_int64, bin_lss]
      refine cnd_dec (fun h => ?_) (fun h => ?_)
      · have h' : i < l.length := by omega
        refine (h1.ext e2).at h' u_s_int64 i_int64 u_int64 ?_
        rw [getD_get h'] at ga ⊢
        rw [bin_addI (by omega)]
        exact ⟨rfl, rfl⟩
      · exact ⟨rfl, by rw [getD_ge (l := l) (by omega)]; rfl⟩
  refine ⟨fun x w' => w' = w2 ∧ (¬ (i : Int) < l.length → x = .bool (decide (i < r.length))), ?_, ?_⟩
  · rintro x' junk w3 ⟨rfl, hx⟩
    have hp : ∃ b1 : Bool, b1 = decide (i < l.length ∨ i < r.length) ∧ pick (.bool (decide ((i : Int) < l.length))) (.bool true) x' = fun K => K (.bool b1) := by
      refine ⟨_, rfl, ?_⟩
      funext K
      rw [pick_bool]
      by_cases h : (i : Int) < l.length
      · rw [decide_eq_true h, cond_true, decide_eq_true (by left; omega)]
      · rw [decide_eq_false h, cond_false, hx h]
        congr 2
        rw [decide_eq_decide]; omega
    obtain ⟨b1, hb1, hp⟩ := hp
    rw [hp]
    refine ⟨fun x w' => w' = w3 ∧ (b1 = false → x = .bool (decide (0 < c))), ?_, ?_⟩
    · rintro x'' junk w4 ⟨rfl, hx2⟩
      rw [pick_bool]
      cases hb : b1
      · rw [cond_false, hx2 hb]
        refine cnd_dec (fun hc0 => ?_) (fun hc0 => ?_)
        · exact more (.inr (.inr hc0))
        · rw [hb] at hb1
          have hb1 := (decide_eq_false_iff_not.1 hb1.symm)
          have hc0 : c = 0 := by omega
          subst hc0
          rw [List.take_of_length_le (by omega), List.take_of_length_le (by omega)] at hv
          exact H _ _ _ e2 oq dq (by simpa using hv) (by omega)
      · rw [cond_true, cnd_true]
        rw [hb] at hb1
        have hb1 := of_decide_eq_true hb1.symm
        exact more (by rcases hb1 with h | h; exact .inl h; exact .inr (.inl h))
    · refine grd_split (fun h => ?_) (fun h => ?_)
      · rw [bin_gtr]
        exact ⟨rfl, fun _ => by congr 1; rw [decide_eq_decide]; omega⟩
      · exact ⟨rfl, fun h2 => by rw [h2] at h; cases h⟩
  · refine grd_split (fun h => ?_) (fun h => ?_)
    · rw [(h2.ext e2).row.len u_s_int64, bin_lss]
      exact ⟨rfl, fun _ => by congr 1; rw [decide_eq_decide]; omega⟩
    · exact ⟨rfl, fun h2 => by rw [decide_eq_false h2] at h; cases h⟩

/-! ### differences -/
theorem step_sub24 {V L R p c a b s0 s1 : Nat} (hv : V + R = L + c * p) (hk : s0 + (c + b) = a + s1 * 16777216) : V + p * s0 + (R + p * b) = L + p * a + s1 * (p * 16777216) := by
  have h2 : p * (s0 + (c + b)) = p * (a + s1 * 16777216) := by rw [hk]
  grind
theorem c_l02Minus {u v : Value} {l r : List Nat} (h1 : IR .i64 w u l) (h2 : IR .i64 w v r) (n1 : Norm 16777216 l) (n2 : Norm 16777216 r) (hle : val 16777216 r ≤ val 16777216 l) (l1 : l.length ≤ 45812984491)
    (H : ∀ v' w' q, Ext w w' → OD .i64 t_int64 w' w.heap.size v' q → Dig 16777216 q → val 16777216 q = val 16777216 l - val 16777216 r → q.length ≤ 45812984492 → K v' w') : call P f_spec_l02Minus [u, v] w K := by
  have d1 := n1.1
  have d2 := n2.1
  have hlr := len_mono n1 n2 hle
  refine I_spec_l02Minus ?_
  unfold D_spec_l02Minus
  refine bsl_nil u_s_int64 i_int64 ?_
  have he := Ext_alloc w (.cells #[] t_int64)
  have hz : OD .i64 t_int64 (w.alloc (.cells #[] t_int64)) w.heap.size (.slice (some ⟨w.heap.size, 0, none⟩) 0 0) [] := owns_lit w [] t_int64
  generalize w.alloc (.cells #[] t_int64) = w1 at he hz ⊢
  refine ⟨fun g x y z w' => ∃ (i c : Nat) (q : List Nat), g + i = l.length ∧ y = .int .i64 (c : Int) ∧ z = .int .i64 (i : Int) ∧ Ext w w' ∧ OD .i64 t_int64 w' w.heap.size x q ∧ q.length = i ∧ Dig 16777216 q ∧ c ≤ 1 ∧
    val 16777216 q + val 16777216 (r.take i) = val 16777216 (l.take i) + c * 16777216 ^ i, ⟨l.length, 0, 0, [], rfl, rfl, rfl, he, hz, rfl, (by intro d hd; cases hd), by omega, by simp [val]⟩, ?_⟩
  rintro g x y z junk w2 ⟨i, c, q, hg, rfl, rfl, e2, oq, hq, dq, hc, hv⟩
  rw [(h1.ext e2).row.len u_s_int64, bin_lss]
  refine cnd_dec (fun hlt => ?_) (fun hge => ?_)
  · have hi : i < l.length := by omega
    refine (h1.ext e2).at hi u_s_int64 i_int64 u_int64 ?_
    have g1 := Dig_get d1 hi
    have gb : r.getD i 0 < 16777216 := by
      by_cases h : i < r.length
      · rw [getD_get h]; exact Dig_get d2 h
      · rw [getD_ge (by omega)]; decide
    rw [bin_sub, wrap_i64 (by omega) (by omega)]
    refine ⟨fun x w' => w' = w2 ∧ x = .int .i64 ((l[i] : Int) - c - (r.getD i 0 : Nat)), ?_, ?_⟩
    · rintro x' junk w3 ⟨rfl, rfl⟩
      rw [bin_lss]
      refine cnd_dec (fun hneg => ?_) (fun hpos => ?_)
      · rw [bin_add, wrap_i64 (by omega) (by omega), show (l[i] : Int) - c - (r.getD i 0 : Nat) + 16777216 = ((l[i] + 16777216 - (c + r.getD i 0) : Nat) : Int) by omega]
        refine app_OD oq u_s_int64 i_int64 (by simp only [maxLen]; omega) (by omega) e2.size fun v' w5 o5 g5 => ?_
        rw [bin_addI1 (b := 1) (by omega)]
        refine ⟨g - 1, by omega, i + 1, 1, _, by omega, rfl, rfl, own_step e2 oq g5, o5, by simp [hq], Dig_snoc dq (by omega), by omega, ?_⟩
        rw [val_snoc, hq, val_take_succD, val_take_succD, pL, getD_get hi]
        exact step_sub24 hv (by omega)
      · rw [show (l[i] : Int) - c - (r.getD i 0 : Nat) = ((l[i] - (c + r.getD i 0) : Nat) : Int) by omega]
        refine app_OD oq u_s_int64 i_int64 (by simp only [maxLen]; omega) (by omega) e2.size fun v' w5 o5 g5 => ?_
        rw [bin_addI1 (b := 1) (by omega)]
        refine ⟨g - 1, by omega, i + 1, 0, _, by omega, rfl, rfl, own_step e2 oq g5, o5, by simp [hq], Dig_snoc dq (by omega), by omega, ?_⟩
        rw [val_snoc, hq, val_take_succD, val_take_succD, pL, getD_get hi]
        exact step_sub24 hv (by omega)
    · rw [(h2.ext e2).row.len u_s_int64, bin_lss]
      refine cnd_dec (fun h => ?_) (fun h => ?_)
      · have h' : i < r.length := by omega
        refine (h2.ext e2).at h' u_s_int64 i_int64 u_int64 ?_
        rw [getD_get h'] at gb ⊢
        rw [bin_sub, wrap_i64 (by omega) (by omega)]
        exact ⟨rfl, rfl⟩
      · exact ⟨rfl, by rw [getD_ge (l := r) (by omega)]; simp⟩
  · have hi : i = l.length := by omega
    subst hi
    rw [List.take_of_length_le (by omega : l.length ≤ l.length), List.take_of_length_le (by omega : r.length ≤ l.length)] at hv
    have hc0 : c = 0 := by
      have h3 := val_lt dq
      rw [hq] at h3
      rcases Nat.eq_zero_or_pos c with h | h
      · exact h
      · have : 1 * 16777216 ^ l.length ≤ c * 16777216 ^ l.length := Nat.mul_le_mul_right _ h
        omega
    subst hc0
    exact H _ _ _ e2 oq dq (by omega) (by omega)
end Go.Proofs.YtabgkpfcpncmhaaGreat

/- Contracts: the reference's whole numbers: sums, products, bits. -/
set_option linter.unusedVariables false
namespace Go.Proofs.YtabgkpfcpncmhaaGreat
open Go Go.Vc

variable {w : World} {K : Value → World → Prop}

theorem sign_nz {m n : Int} (h : m.sign = n.sign) : (m < 0 ↔ n < 0) ∧ (0 < m ↔ 0 < n) := by
  rcases Int.lt_trichotomy m 0 with h1 | h1 | h1 <;> rcases Int.lt_trichotomy n 0 with h2 | h2 | h2 <;>
    simp_all [Int.sign_eq_neg_one_of_neg, Int.sign_eq_one_of_pos] <;> omega
theorem sign_neg {m : Int} (h : m < 0) : m.sign = -1 := Int.sign_eq_neg_one_of_neg h
theorem sign_pos {m : Int} (h : 0 < m) : m.sign = 1 := Int.sign_eq_one_of_pos h
theorem sign_bd (m : Int) : -1 ≤ m.sign ∧ m.sign ≤ 1 := by
  rcases Int.lt_trichotomy m 0 with h1 | h1 | h1
  · rw [sign_neg h1]; decide
  · rw [h1]; decide
  · rw [sign_pos h1]; decide
/-- Bounds of a whole number's limbs. -/
theorem Wl.len {l : List Nat} {m : Int} (h : Wl l m) (hb : bl m.natAbs ≤ 1099511627776) : l.length ≤ 45812984491 := lim_len h.1 (by rw [h.2]; exact hb)

theorem c_l02Add {u v : Value} {m n : Int} (hu : Wr w u m) (hv : Wr w v n) (bm : bl m.natAbs ≤ 1099511627776) (bn : bl n.natAbs ≤ 1099511627776)
    (H : ∀ v' w', Ext w w' → Wo w' w.heap.size w'.heap.size v' (m + n) → K v' w') : call P f_spec_l02Add [u, v] w K := by
  obtain ⟨s, l, rfl, h1, wl⟩ := hu
  obtain ⟨t, r, rfl, h2, wr⟩ := hv
  have l1 := wl.len bm
  have l2 := wr.len bn
  obtain ⟨n1, v1⟩ := wl
  obtain ⟨n2, v2⟩ := wr
  refine I_spec_l02Add ?_
  unfold D_spec_l02Add
  refine bx_Wh fun x1 w1 b1 e1 => ?_
  refine bx_Wh fun x2 w2 b2 e2 => ?_
  refine alc_Wh fun x3 w3 ⟨cs, hcs, b3⟩ e3 => ?_
  have b1 := (b1.ext e2).ext e3
  have b2 := b2.ext e3
  have E2 := e1.trans e2
  have E3 := E2.trans e3
  have h1 := h1.ext E3
  have h2 := h2.ext E3
  refine wh_s b1 ?_
  rw [bin_eql]
  refine cnd_dec (fun h0 => ?_) (fun h0 => ?_)
  · have hm : m = 0 := Int.sign_eq_zero_iff_zero.1 h0
    refine wh_s b2 ?_
    refine wh_l b2 ?_
    refine wh_make (m := m + n) E3 b3 hcs E2.size h2 n2.1 (by rw [v2, hm, Int.zero_add]) (fun _ => by rw [hm, Int.zero_add]) (by omega) H
  · have hm : m ≠ 0 := by rintro rfl; exact h0 rfl
    refine wh_s b2 ?_
    rw [bin_eql]
    refine cnd_dec (fun h0' => ?_) (fun h0' => ?_)
    · have hn : n = 0 := Int.sign_eq_zero_iff_zero.1 h0'
      refine wh_s b1 ?_
      refine wh_l b1 ?_
      refine wh_make (m := m + n) E3 b3 hcs E2.size h1 n1.1 (by rw [v1, hn, Int.add_zero]) (fun _ => by rw [hn, Int.add_zero]) (by omega) H
    · have hn : n ≠ 0 := by rintro rfl; exact h0' rfl
      refine wh_s b1 ?_
      refine wh_s b2 ?_
      rw [bin_eql]
      refine cnd_dec (fun hs => ?_) (fun hs => ?_)
      · obtain ⟨q1, q2⟩ := sign_nz hs
        refine wh_s b1 ?_
        refine wh_l b1 ?_
        refine wh_l b2 ?_
        refine c_l02Plus h1 h2 n1.1 n2.1 l1 l2 fun v' w4 q e4 oq dq hq hl => ?_
        refine ⟨e4, ?_⟩
        refine wh_make (m := m + n) (E3.trans e4) (b3.ext e4) hcs E2.size (OD.IR oq) dq (by omega) (fun _ => ?_) (by omega) H
        rcases Int.lt_or_gt_of_ne hm with h | h
        · rw [sign_neg h, sign_neg (by omega)]
        · rw [sign_pos h, sign_pos (by omega)]
      · refine wh_l b1 ?_
        refine wh_l b2 ?_
        refine c_l02CompareLimbs h1 h2 n1 n2 ?_
        rw [bin_geq, v1, v2]
        have hopp : (m < 0 ∧ 0 < n) ∨ (0 < m ∧ n < 0) := by
          rcases Int.lt_or_gt_of_ne hm with h | h <;> rcases Int.lt_or_gt_of_ne hn with h' | h'
          · exact absurd (by rw [sign_neg h, sign_neg h']) hs
          · exact .inl ⟨h, h'⟩
          · exact .inr ⟨h, h'⟩
          · exact absurd (by rw [sign_pos h, sign_pos h']) hs
        refine cnd_dec (fun hc => ?_) (fun hc => ?_)
        · have hle : n.natAbs ≤ m.natAbs := by unfold cmpN at hc; split at hc <;> (try split at hc) <;> omega
          refine wh_s b1 ?_
          refine wh_l b1 ?_
          refine wh_l b2 ?_
          refine c_l02Minus h1 h2 n1 n2 (by rw [v1, v2]; exact hle) l1 fun v' w4 q e4 oq dq hq hl => ?_
          refine ⟨e4, ?_⟩
          refine wh_make (m := m + n) (E3.trans e4) (b3.ext e4) hcs E2.size (OD.IR oq) dq (by omega) (fun _ => ?_) (by omega) H
          rcases hopp with ⟨h, h'⟩ | ⟨h, h'⟩
          · rw [sign_neg h, sign_neg (by omega)]
          · rw [sign_pos h, sign_pos (by omega)]
        · have hle : m.natAbs ≤ n.natAbs := by unfold cmpN at hc; split at hc <;> (try split at hc) <;> omega
          refine wh_s b2 ?_
          refine wh_l b2 ?_
          refine wh_l b1 ?_
          refine c_l02Minus h2 h1 n2 n1 (by rw [v1, v2]; exact hle) l2 fun v' w4 q e4 oq dq hq hl => ?_
          refine ⟨e4, ?_⟩
          refine wh_make (m := m + n) (E3.trans e4) (b3.ext e4) hcs E2.size (OD.IR oq) dq (by omega) (fun _ => ?_) (by omega) H
          rcases hopp with ⟨h, h'⟩ | ⟨h, h'⟩
          · rw [sign_pos h', sign_pos (by omega)]
          · rw [sign_neg h', sign_neg (by omega)]

theorem c_l02Neg {v : Value} {m : Int} (h : Wr w v m) (bm : bl m.natAbs ≤ 1099511627776) (H : ∀ v' w', Ext w w' → Wo w' w.heap.size w'.heap.size v' (-m) → K v' w') : call P f_spec_l02Neg [v] w K := by
  obtain ⟨s, l, rfl, h1, wl⟩ := h
  have l1 := wl.len bm
  refine I_spec_l02Neg ?_
  unfold D_spec_l02Neg
  refine bx_Wh fun x1 w1 b1 e1 => ?_
  refine alc_Wh fun x2 w2 ⟨cs, hcs, b2⟩ e2 => ?_
  have b1 := b1.ext e2
  have E2 := e1.trans e2
  refine wh_s b1 ?_
  have hs := sign_bd m
  rw [una_neg_int, wrap_i64 (by omega) (by omega)]
  refine wh_l b1 ?_
  refine wh_make (m := -m) E2 b2 hcs e1.size (h1.ext E2) wl.1.1 (by rw [wl.2, Int.natAbs_neg]) (fun _ => by rw [Int.sign_neg]; omega) (by omega) H
theorem c_l02Abs {v : Value} {m : Int} (h : Wr w v m) (bm : bl m.natAbs ≤ 1099511627776) (H : ∀ v' w', Ext w w' → Wo w' w.heap.size w'.heap.size v' (m.natAbs : Int) → K v' w') : call P f_spec_l02Abs [v] w K := by
  obtain ⟨s, l, rfl, h1, wl⟩ := h
  have l1 := wl.len bm
  refine I_spec_l02Abs ?_
  unfold D_spec_l02Abs
  refine bx_Wh fun x1 w1 b1 e1 => ?_
  refine alc_Wh fun x2 w2 ⟨cs, hcs, b2⟩ e2 => ?_
  have b1 := b1.ext e2
  have E2 := e1.trans e2
  refine wh_s b1 ?_
  refine wh_s b1 ?_
  have hsq : IntKind.i64.wrap (m.sign * m.sign) = (if m = 0 then 0 else 1) := by
    rcases Int.lt_trichotomy m 0 with h | h | h
    · rw [sign_neg h, if_neg (by omega)]; decide
    · rw [if_pos h, h]; decide
    · rw [sign_pos h, if_neg (by omega)]; decide
  rw [bin_mul, hsq]
  refine wh_l b1 ?_
  refine wh_make (m := (m.natAbs : Int)) E2 b2 hcs e1.size (h1.ext E2) wl.1.1 (by rw [wl.2, Int.natAbs_natCast]) (fun hne => ?_) (by omega) H
  rw [if_neg (by omega), sign_pos (by omega)]

/-! ### products -/
theorem mul_step24 {V V' Q L p pi pk c x y o s : Nat} (hp : p = pi * pk) (hv : V + c * p = Q + x * L * pi) (hs : s = c + o + x * y) (hq : V' + p * o = V + p * (s % 16777216)) :
    V' + s / 16777216 * (p * 16777216) = Q + x * (L + pk * y) * pi := by
  have h := Nat.div_add_mod s 16777216
  have h2 : p * (16777216 * (s / 16777216) + s % 16777216) = p * (c + o + x * y) := by rw [h, hs]
  subst hp
  grind
theorem mul_limb {x y : Nat} (hx : x < 16777216) (hy : y < 16777216) : x * y ≤ 281474943156225 := by
  have : x * y ≤ 16777215 * 16777215 := Nat.mul_le_mul (by omega) (by omega)
  omega
theorem c_l02Mul {u v : Value} {m n : Int} (hu : Wr w u m) (hv : Wr w v n) (bm : bl m.natAbs ≤ 1099511627776) (bn : bl n.natAbs ≤ 1099511627776)
    (H : ∀ v' w', Ext w w' → Wo w' w.heap.size w'.heap.size v' (m * n) → K v' w') : call P f_spec_l02Mul [u, v] w K := by
  obtain ⟨s, l, rfl, h1, wl⟩ := hu
  obtain ⟨t, r, rfl, h2, wr⟩ := hv
  have l1 := wl.len bm
  have l2 := wr.len bn
  obtain ⟨n1, v1⟩ := wl
  obtain ⟨n2, v2⟩ := wr
  have d1 := n1.1
  have d2 := n2.1
  refine I_spec_l02Mul ?_
  unfold D_spec_l02Mul
  refine bx_Wh fun x1 w1 b1 e1 => ?_
  refine bx_Wh fun x2 w2 b2 e2 => ?_
  refine alc_Wh fun x3 w3 ⟨cs, hcs, b3⟩ e3 => ?_
  have b1 := (b1.ext e2).ext e3
  have b2 := b2.ext e3
  have E2 := e1.trans e2
  have E3 := E2.trans e3
  have h1 := h1.ext E3
  have h2 := h2.ext E3
  refine wh_l b1 ?_
  rw [h1.row.len u_s_int64]
  refine wh_l b2 ?_
  rw [h2.row.len u_s_int64, bin_addI (by omega), bin_addI1 (b := 1) (by omega)]
  refine OD.make u_s_int64 i_int64 (by omega) (by simp only [maxLen]; omega) fun w4 o ho he => ?_
  refine ⟨fun g y w' => ∃ (i : Nat) (q : List Nat), g + i = l.length ∧ y = .int .i64 (i : Int) ∧ Ext w3 w' ∧ OD .i64 t_int64 w' w3.heap.size o q ∧ q.length = l.length + r.length + 1 ∧ Dig 16777216 q ∧ (∀ j, i + r.length ≤ j → q.getD j 0 = 0) ∧
    val 16777216 q = val 16777216 (l.take i) * val 16777216 r, ⟨l.length, 0, _, rfl, rfl, he, ho, by simp, Dig_rep _ _ (by decide), fun j _ => by simp [List.getElem?_replicate]; split <;> rfl, by simp [val, val_replicate]⟩, ?_⟩
  rintro g y junk w5 ⟨i, q, hg, rfl, e5, oq, hq, dq, hz, hv⟩
  refine wh_l (b1.ext e5) ?_
  rw [(h1.ext e5).row.len u_s_int64, bin_lss]
  refine cnd_dec (fun hlt => ?_) (fun hge => ?_)
  · have hi : i < l.length := by omega
    have g1 := Dig_get d1 hi
    refine ⟨fun m' x y w' => ∃ (k c : Nat) (q' : List Nat), m' + k = r.length ∧ x = .int .i64 (c : Int) ∧ y = .int .i64 (k : Int) ∧ Ext w3 w' ∧ OD .i64 t_int64 w' w3.heap.size o q' ∧ q'.length = l.length + r.length + 1 ∧ Dig 16777216 q' ∧ (∀ j, i + r.length ≤ j → q'.getD j 0 = 0) ∧ c < 16777216 ∧
      val 16777216 q' + c * 16777216 ^ (i + k) = val 16777216 (l.take i) * val 16777216 r + l[i] * val 16777216 (r.take k) * 16777216 ^ i,
      ⟨r.length, 0, 0, q, rfl, rfl, rfl, e5, oq, hq, dq, hz, by omega, by simp [val, hv]⟩, ?_⟩
    rintro m' x y junk w6 ⟨k, c, q', hm', rfl, rfl, e6, oq', hq', dq', hz', hc, hv'⟩
    refine wh_l (b2.ext e6) ?_
    rw [(h2.ext e6).row.len u_s_int64, bin_lss]
    refine cnd_dec (fun hlt' => ?_) (fun hge' => ?_)
    · have hk : k < r.length := by omega
      have hik : i + k < q'.length := by omega
      have g2 := Dig_get d2 hk
      have g3 := Dig_get dq' hik
      have hw := mul_limb g1 g2
      rw [bin_addI (by omega)]
      refine (OD.IR oq').at hik u_s_int64 i_int64 u_int64 ?_
      rw [bin_addI (by omega)]
      refine wh_l (b1.ext e6) ?_
      refine (h1.ext e6).at hi u_s_int64 i_int64 u_int64 ?_
      refine wh_l (b2.ext e6) ?_
      refine (h2.ext e6).at hk u_s_int64 i_int64 u_int64 ?_
      rw [bin_mul, show (l[i] : Int) * r[k] = ((l[i] * r[k] : Nat) : Int) by simp, wrap_i64 (by omega) (by omega), bin_addI (by omega), bin_addI (by omega), bin_remI (b := 16777216) (by decide)]
      refine OD.set oq' hik u_s_int64 i_int64 fun w7 o7 g7 => ?_
      rw [bin_quoI (b := 16777216) (by omega) (by decide), bin_addI1 (b := 1) (by omega)]
      refine ⟨m' - 1, by omega, k + 1, _, _, by omega, rfl, rfl, own_step e6 oq' g7, o7, by simpa using hq', Dig_set dq' (Nat.mod_lt _ (by decide)), fun j hj => ?_, by omega, ?_⟩
      · rw [getD_set hik, if_neg (by omega)]; exact hz' j hj
      · rw [val_take_succD, getD_get hk, show (16777216 : Nat) ^ (i + (k + 1)) = 16777216 ^ (i + k) * 16777216 from pL (i + k)]
        exact mul_step24 (Nat.pow_add ..) hv' rfl (val_set_all _ hik)
    · have hk : k = r.length := by omega
      subst hk
      have hik : i + r.length < q'.length := by omega
      refine wh_l (b2.ext e6) ?_
      rw [(h2.ext e6).row.len u_s_int64, bin_addI (by omega)]
      refine OD.set oq' hik u_s_int64 i_int64 fun w7 o7 g7 => ?_
      rw [bin_addI1 (b := 1) (by omega)]
      refine ⟨g - 1, by omega, i + 1, _, by omega, rfl, own_step e6 oq' g7, o7, by simpa using hq', Dig_set dq' hc, fun j hj => ?_, ?_⟩
      · rw [getD_set hik, if_neg (by omega)]; exact hz' j (by omega)
      · rw [val_take_succD, getD_get hi]
        rw [List.take_of_length_le (Nat.le_refl _)] at hv'
        refine mul_last (Nat.pow_add ..) hv' ?_
        have h3 := val_set_all 16777216 (l := q') (x := c) hik
        have h4 := hz' (i + r.length) (Nat.le_refl _)
        rw [getD_get hik] at h4
        rw [h4] at h3
        exact h3
  · have hi : i = l.length := by omega
    subst hi
    rw [List.take_of_length_le (Nat.le_refl _)] at hv
    refine wh_s (b1.ext e5) ?_
    refine wh_s (b2.ext e5) ?_
    have hsg : IntKind.i64.wrap (m.sign * n.sign) = (m * n).sign := by
      rw [Int.sign_mul]
      have := sign_bd (m * n)
      rw [Int.sign_mul] at this
      exact wrap_i64 (by omega) (by omega)
    rw [bin_mul, hsg]
    refine wh_make (m := m * n) (E3.trans e5) (b3.ext e5) hcs E2.size (OD.IR oq) dq (by rw [hv, v1, v2, Int.natAbs_mul]) (fun _ => rfl) (by omega) H

/-! ### bits -/
theorem c_l02Length {v : Value} {m : Int} (h : Wr w v m) (bm : bl m.natAbs ≤ 1099511627776) (H : ∀ w', Ext w w' → K (.int .i64 (bl m.natAbs : Nat)) w') : call P f_spec_l02Length [v] w K := by
  obtain ⟨s, l, rfl, h1, wl⟩ := h
  have l1 := wl.len bm
  obtain ⟨n1, v1⟩ := wl
  refine I_spec_l02Length ?_
  unfold D_spec_l02Length
  refine bx_Wh fun x1 w1 b1 e1 => ?_
  have h1 := h1.ext e1
  refine wh_l b1 ?_
  rw [h1.row.len u_s_int64, bin_eql]
  refine cnd_dec (fun h0 => ?_) (fun h0 => ?_)
  · obtain rfl : l = [] := List.eq_nil_of_length_eq_zero (by omega)
    have := H w1 e1
    rw [← v1] at this
    exact this
  · have hl : 0 < l.length := by omega
    have hz : l[l.length - 1] ≠ 0 := by
      intro hz
      have := n1.2
      rw [List.getLast?_eq_getElem?, List.getElem?_eq_getElem (by omega), hz] at this
      exact this rfl
    have e : bl m.natAbs = 24 * (l.length - 1) + bl l[l.length - 1] := by
      have h1 := val_split 16777216 l (i := l.length - 1) (by omega)
      rw [List.drop_eq_getElem_cons (by omega), List.drop_eq_nil_of_le (by omega)] at h1
      simp only [val, Nat.mul_zero, Nat.add_zero] at h1
      have h2 := val_lt (n1.1.take (l.length - 1))
      rw [List.length_take, Nat.min_eq_left (by omega)] at h2
      have hp : (16777216 : Nat) ^ (l.length - 1) = 2 ^ (24 * (l.length - 1)) := by rw [Nat.pow_mul]
      rw [hp] at h1 h2
      rw [← v1, h1, bl_top h2 hz]
    rw [bin_subI1 (b := 1) (by omega) (by omega), bin_mul, wrap_i64 (by omega) (by omega)]
    refine wh_l b1 ?_
    rw [bin_subI1 (b := 1) (by omega) (by omega)]
    refine h1.at (i := l.length - 1) (by omega) u_s_int64 i_int64 u_int64 ?_
    have g1 := Dig_get n1.1 (show l.length - 1 < l.length by omega)
    refine ⟨fun g x y w' => w' = w1 ∧ ∃ d c : Nat, x = .int .i64 (c : Int) ∧ y = .int .i64 (d : Int) ∧ g = bl d ∧ c + bl d = bl m.natAbs ∧ d < 16777216, ⟨bl l[l.length - 1], rfl, l[l.length - 1], 24 * (l.length - 1), by congr 1; omega, rfl, rfl, by omega, g1⟩, ?_⟩
    rintro g x y junk w' ⟨rfl, d, c, rfl, rfl, rfl, hc, hd16⟩
    rw [bin_gtr]
    refine cnd_dec (fun hd => ?_) (fun hd => ?_)
    · rw [bin_addI1 (b := 1) (by omega), bin_quoI (b := 2) (by omega) (by decide)]
      have hb := bl_shr d 1
      rw [Nat.pow_one] at hb
      have hp := bl_pos (n := d) (by omega)
      exact ⟨_, by rw [hb]; omega, rfl, _, _, rfl, rfl, rfl, by rw [hb]; omega, by omega⟩
    · have : d = 0 := by omega
      subst this
      rw [bl_zero] at hc
      have := H w' e1
      rw [← hc] at this
      exact this

theorem bit_val24 {l : List Nat} (hd : Dig 16777216 l) (i : Nat) : val 16777216 l / 2 ^ i % 2 = l.getD (i / 24) 0 / 2 ^ (i % 24) % 2 := by
  have hn : 2 ^ i = 16777216 ^ (i / 24) * 2 ^ (i % 24) := by
    conv => lhs; rw [← Nat.div_add_mod i 24, Nat.pow_add, Nat.pow_mul]
  have hs : i % 24 < 24 := Nat.mod_lt _ (by decide)
  rw [hn, ← Nat.div_div_eq_div_mul]
  by_cases h : i / 24 < l.length
  · have hp : 0 < 16777216 ^ (i / 24) := Nat.pow_pos (by decide)
    have h1 : val 16777216 l / 16777216 ^ (i / 24) = val 16777216 (l.drop (i / 24)) := by
      rw [val_split _ l (Nat.le_of_lt h), Nat.add_mul_div_left _ _ hp, Nat.div_eq_of_lt, Nat.zero_add]
      have := val_lt (hd.take (i / 24))
      rw [List.length_take, Nat.min_eq_left (by omega)] at this
      exact this
    rw [h1, List.drop_eq_getElem_cons h, val, getD_get h]
    have h2 : (16777216 : Nat) = 2 ^ (i % 24) * (2 * 2 ^ (23 - i % 24)) := by
      rw [← Nat.pow_succ', ← Nat.pow_add, show i % 24 + (23 - i % 24).succ = 24 by omega]
    have h3 : ∀ X, 16777216 * X = 2 ^ (i % 24) * (2 * (2 ^ (23 - i % 24) * X)) := fun X => by
      conv => lhs; rw [h2]
      grind
    rw [h3, Nat.add_mul_div_left _ _ (Nat.two_pow_pos _), Nat.add_mul_mod_self_left]
  · have h1 : val 16777216 l / 16777216 ^ (i / 24) = 0 :=
      Nat.div_eq_of_lt (Nat.lt_of_lt_of_le (val_lt hd) (Nat.pow_le_pow_right (by decide) (by omega)))
    rw [h1, getD_ge (by omega)]
theorem bin_and1 {t : TypeId} {cx cy : Bool} {a : Nat} {K : Value → Prop} (ha : a ≤ 9223372036854775807) : bin P .and t cx cy (.int .i64 (a : Int)) (.int .i64 1) w K = K (.int .i64 ((a % 2 : Nat) : Int)) := by
  rw [bin_and, BitVec.toNat_and, toNat_word (by simp only [IntKind.bits]; omega)]
  have : (BitVec.ofInt IntKind.i64.bits 1).toNat = 1 := by decide
  rw [this, Nat.and_one_is_mod, wrap_i64 (by omega) (by omega)]
theorem c_l02Bit {v : Value} {m : Int} {i : Nat} (h : Wr w v m) (hi : i ≤ 9223372036854775807) (H : ∀ w', Ext w w' → K (.int .i64 ((m.natAbs / 2 ^ i % 2 : Nat) : Int)) w') : call P f_spec_l02Bit [v, .int .i64 (i : Int)] w K := by
  obtain ⟨s, l, rfl, h1, n1, v1⟩ := h
  have hv := bit_val24 n1.1 i
  rw [v1] at hv
  rw [hv] at H
  refine I_spec_l02Bit ?_
  unfold D_spec_l02Bit
  refine bx_Wh fun x1 w1 b1 e1 => ?_
  have h1 := h1.ext e1
  have H := H w1 e1
  rw [bin_quoI (b := 24) (by omega) (by decide)]
  refine wh_l b1 ?_
  rw [h1.row.len u_s_int64, bin_geq]
  refine cnd_dec (fun hge => ?_) (fun hlt => ?_)
  · rw [getD_ge (by omega)] at H
    simpa using H
  · have hlt : i / 24 < l.length := by omega
    refine wh_l b1 ?_
    rw [bin_quoI (b := 24) (by omega) (by decide)]
    refine h1.at hlt u_s_int64 i_int64 u_int64 ?_
    have g1 := Dig_get n1.1 hlt
    have hs : i % 24 < 24 := Nat.mod_lt _ (by decide)
    rw [bin_remI (b := 24) (by decide), cnv_int_int u_int64 u_uint64, w_u64' (by omega), bin_shrN (s := i % 24) (by simp only [IntKind.bits]; omega)]
    have := Nat.div_le_self l[i / 24] (2 ^ (i % 24))
    rw [bin_and1 (by omega)]
    rw [getD_get hlt] at H
    exact H
theorem c_l02Twos {v : Value} {m : Int} (h : Wr w v m) (hm : m ≠ 0) (bm : bl m.natAbs ≤ 1099511627776) (H : ∀ (k : Nat) w', Ext w w' → IsTz m.natAbs k → k ≤ bl m.natAbs → K (.int .i64 (k : Int)) w') : call P f_spec_l02Twos [v] w K := by
  obtain ⟨s, l, rfl, h1, wl⟩ := h
  refine I_spec_l02Twos ?_
  unfold D_spec_l02Twos
  refine bx_Wh fun x1 w1 b1 e1 => ?_
  have hlt : ∀ k : Nat, m.natAbs % 2 ^ k = 0 → k < bl m.natAbs := fun k hk => by
    have := Nat.le_of_dvd (by omega) (Nat.dvd_of_mod_eq_zero hk)
    rwa [← lt_bl] at this
  refine ⟨fun g x w' => ∃ k : Nat, x = .int .i64 (k : Int) ∧ g + k = bl m.natAbs ∧ m.natAbs % 2 ^ k = 0 ∧ Ext w1 w', ⟨bl m.natAbs, 0, rfl, rfl, by simp [Nat.mod_one], Ext.refl _⟩, ?_⟩
  rintro g x junk w' ⟨k, rfl, hg, hz, e2⟩
  have hk := hlt k hz
  refine wh_all (b1.ext e2) ?_
  refine c_l02Bit ⟨s, l, rfl, h1.ext (e1.trans e2), wl⟩ (by omega) fun w3 e3 => ?_
  rw [bin_eql]
  refine cnd_dec (fun h2 => ?_) (fun h2 => ?_)
  · rw [bin_addI1 (b := 1) (by omega)]
    have h3 : m.natAbs / 2 ^ k % 2 = 0 := by omega
    exact ⟨g - 1, by omega, k + 1, rfl, by omega, by rw [Nat.mod_pow_succ, hz, h3]; rfl, e2.trans e3⟩
  · refine H k w3 (e1.trans (e2.trans e3)) ?_ (by omega)
    unfold IsTz
    rw [if_neg (by omega)]
    exact ⟨hz, by have := Nat.mod_lt (m.natAbs / 2 ^ k) (show 0 < 2 by decide); omega⟩
end Go.Proofs.YtabgkpfcpncmhaaGreat

/- Contracts: shifts of the reference's whole numbers; differences; what fits. -/
set_option linter.unusedVariables false
namespace Go.Proofs.YtabgkpfcpncmhaaGreat
open Go Go.Vc

variable {w : World} {K : Value → World → Prop}

theorem wh_fa {base : Nat} {x s : Value} {m : Int} (h : Bx w base t_impl_Whole x [.int .i64 m, s]) :
    ∃ a, (∀ (w : World) (K : Value → Prop), fda P t_impl_Whole x 0 w K = K a) ∧ (∀ {w' : World} {base' : Nat} {m' : Int} {s' : Value}, Bx w' base' t_impl_Whole x [.int .i64 m', s'] → ∀ K, ld P t_int64 a w' K = K (.int .i64 m')) := by
  obtain ⟨a, h1, h2, _⟩ := Bx_fa (f := 0) (off := 0) (ty := t_int64) h u_impl_Whole rfl i_int64 u_int64 rfl
  exact ⟨a, h1, fun h' => h2 h' rfl⟩
theorem bin_shlI {t : TypeId} {cx cy : Bool} {yk : IntKind} {a s : Nat} {c : Int} {K : Value → Prop} (hs : s ≤ 64) (h : a * 2 ^ s ≤ 9223372036854775807) (hc : c = (s : Int) := by rfl) : bin P .shl t cx cy (.int .i64 (a : Int)) (.int yk c) w K = K (.int .i64 ((a * 2 ^ s : Nat) : Int)) :=
  bin_shlN hs (by rw [max_i64]; omega) hc
theorem p24 (k : Nat) : 2 ^ k = 16777216 ^ (k / 24) * 2 ^ (k % 24) := by
  conv => lhs; rw [← Nat.div_add_mod k 24, Nat.pow_add, Nat.pow_mul]
theorem left_step24 {V T c d s p x S F : Nat} (hv : V + c * p = T * S * F) (hs : x = c + d * S) (hp : p = s * F) : V + p * (x % 16777216) + x / 16777216 * (p * 16777216) = (T + s * d) * S * F := by
  have h := Nat.div_add_mod x 16777216
  have h2 : p * (16777216 * (x / 16777216) + x % 16777216) = p * (c + d * S) := by rw [h, hs]
  subst hp
  grind
theorem val_zeros (b n : Nat) (l : List Nat) : val b (List.replicate n 0 ++ l) = b ^ n * val b l := by rw [val_append, val_replicate, List.length_replicate, Nat.zero_add]

theorem c_l02Left {v : Value} {m : Int} {k : Nat} (h : Wr w v m) (bm : bl m.natAbs ≤ 1099511627776) (bk : k ≤ 1099511627776) (H : ∀ v' w', Ext w w' → Wo w' w.heap.size w'.heap.size v' (m * 2 ^ k) → K v' w') : call P f_spec_l02Left [v, .int .i64 (k : Int)] w K := by
  obtain ⟨s, l, rfl, h1, wl⟩ := h
  have l1 := wl.len bm
  obtain ⟨n1, v1⟩ := wl
  have d1 := n1.1
  refine I_spec_l02Left ?_
  unfold D_spec_l02Left
  refine bx_Wh fun x1 w1 b1 e1 => ?_
  refine alc_Wh fun x2 w2 ⟨cs, hcs, b2⟩ e2 => ?_
  have b1 := b1.ext e2
  have E2 := e1.trans e2
  have h1 := h1.ext E2
  rw [bin_quoI (b := 24) (by omega) (by decide)]
  refine OD.make u_s_int64 i_int64 (by omega) (by simp only [maxLen]; omega) fun w3 o ho he => ?_
  have hs : k % 24 < 24 := Nat.mod_lt _ (by decide)
  have hps : 2 ^ (k % 24) ≤ 8388608 := Nat.pow_le_pow_right (n := 2) (by decide) (show k % 24 ≤ 23 by omega)
  have hpp := Nat.two_pow_pos (k % 24)
  refine ⟨fun g x y z w' => ∃ (i c : Nat) (q : List Nat), g + i = l.length ∧ y = .int .i64 (c : Int) ∧ z = .int .i64 (i : Int) ∧ Ext w2 w' ∧ OD .i64 t_int64 w' w2.heap.size x q ∧ q.length = k / 24 + i ∧ Dig 16777216 q ∧ c < 16777216 ∧
    val 16777216 q + c * 16777216 ^ (k / 24 + i) = val 16777216 (l.take i) * 2 ^ (k % 24) * 16777216 ^ (k / 24), ⟨l.length, 0, 0, _, rfl, rfl, rfl, he, ho, by simp, Dig_rep _ _ (by decide), by omega, by simp [val, val_replicate]⟩, ?_⟩
  rintro g x y z junk w4 ⟨i, c, q, hg, rfl, rfl, e4, oq, hq, dq, hc, hv⟩
  have E4 := E2.trans e4
  refine wh_l (b1.ext e4) ?_
  rw [(h1.ext e4).row.len u_s_int64, bin_lss]
  refine cnd_dec (fun hlt => ?_) (fun hge => ?_)
  · have hi : i < l.length := by omega
    have g1 := Dig_get d1 hi
    refine wh_l (b1.ext e4) ?_
    refine (h1.ext e4).at hi u_s_int64 i_int64 u_int64 ?_
    have hmul : l[i] * 2 ^ (k % 24) ≤ 16777215 * 8388608 := Nat.mul_le_mul (by omega) hps
    rw [bin_remI (b := 24) (by decide), cnv_int_int u_int64 u_uint64, w_u64' (by omega), bin_shlI (s := k % 24) (by omega) (by omega), bin_addI (by omega), bin_remI (b := 16777216) (by decide)]
    refine app_OD oq u_s_int64 i_int64 (by simp only [maxLen]; omega) (by omega) e4.size fun v' w5 o5 g5 => ?_
    rw [bin_quoI (b := 16777216) (by omega) (by decide), bin_addI1 (b := 1) (by omega)]
    refine ⟨g - 1, by omega, i + 1, _, _, by omega, rfl, rfl, own_step e4 oq g5, o5, by simp [hq]; omega, Dig_snoc dq (Nat.mod_lt _ (by decide)), ?_, ?_⟩
    · rw [Nat.div_lt_iff_lt_mul (by decide)]; omega
    · rw [val_snoc, hq, val_take_succ _ hi, show (16777216 : Nat) ^ (k / 24 + (i + 1)) = 16777216 ^ (k / 24 + i) * 16777216 from pL _]
      exact left_step24 hv rfl (by rw [Nat.pow_add, Nat.mul_comm])
  · have hi : i = l.length := by omega
    subst hi
    rw [List.take_of_length_le (Nat.le_refl _)] at hv
    have b14 := b1.ext e4
    obtain ⟨a, fa, la⟩ := wh_fa b14
    rw [fa, la b14]
    refine app_ODx oq u_s_int64 i_int64 (by simp only [maxLen]; omega) (by omega) e4.size fun v' w5 o5 g5 => ?_
    have e5 := own_step e4 oq g5
    rw [fa, la (b1.ext e5)]
    refine ⟨rfl, rfl, ?_⟩
    have hval : val 16777216 (q ++ [c]) = m.natAbs * 2 ^ k := by
      rw [val_snoc, hq, Nat.mul_comm, hv, v1, p24 k]
      grind
    refine wh_make (m := m * 2 ^ k) (E2.trans e5) (b2.ext e5) hcs e1.size (OD.IR o5) (Dig_snoc dq hc) (by rw [hval, Int.natAbs_mul, natAbs_two_pow]) (fun _ => ?_) (by simp; omega) H
    rw [Int.sign_mul, Int.sign_eq_one_of_pos (Int.pow_pos (by decide)), Int.mul_one]

/-! ### to the right -/
theorem right_dig24 {l : List Nat} {i s : Nat} (hd : Dig 16777216 l) (hi : i < l.length) (hs : s < 24) :
    val 16777216 l / 2 ^ s / 16777216 ^ i % 16777216 = (l[i] / 2 ^ s + l.getD (i + 1) 0 * 2 ^ (24 - s)) % 16777216 := by
  have h1 : val 16777216 l / 2 ^ s / 16777216 ^ i = val 16777216 l / 16777216 ^ i / 2 ^ s := by
    rw [Nat.div_div_eq_div_mul, Nat.div_div_eq_div_mul, Nat.mul_comm]
  have h2 : val 16777216 l / 16777216 ^ i = val 16777216 (l.drop i) := by
    have hp : 0 < 16777216 ^ i := Nat.pow_pos (by decide)
    rw [val_split _ l (Nat.le_of_lt hi), Nat.add_mul_div_left _ _ hp, Nat.div_eq_of_lt, Nat.zero_add]
    have := val_lt (hd.take i)
    rw [List.length_take, Nat.min_eq_left (by omega)] at this
    exact this
  have h3 : ∃ X, val 16777216 (l.drop i) = l[i] + l.getD (i + 1) 0 * 16777216 + 281474976710656 * X := by
    rw [List.drop_eq_getElem_cons hi, val]
    by_cases h : i + 1 < l.length
    · rw [List.drop_eq_getElem_cons h, val, getD_get h]
      exact ⟨val 16777216 (l.drop (i + 1 + 1)), by grind⟩
    · rw [List.drop_eq_nil_of_le (by omega), val, getD_ge (by omega)]
      exact ⟨0, rfl⟩
  obtain ⟨X, hX⟩ := h3
  have hb : (16777216 : Nat) = 2 ^ s * 2 ^ (24 - s) := by rw [← Nat.pow_add, show s + (24 - s) = 24 by omega]
  rw [h1, h2, hX]
  have h4 : l[i] + l.getD (i + 1) 0 * 16777216 + 281474976710656 * X = l[i] + 2 ^ s * (l.getD (i + 1) 0 * 2 ^ (24 - s) + 16777216 * (2 ^ (24 - s) * X)) := by
    have h5 : (281474976710656 : Nat) = 16777216 * 16777216 := rfl
    have h6 : l.getD (i + 1) 0 * 16777216 = 2 ^ s * (l.getD (i + 1) 0 * 2 ^ (24 - s)) := by
      conv => lhs; rw [hb]
      grind
    have h7 : 281474976710656 * X = 2 ^ s * (16777216 * (2 ^ (24 - s) * X)) := by
      rw [h5]
      conv => lhs; rw [show (16777216 * 16777216 : Nat) = 16777216 * (2 ^ s * 2 ^ (24 - s)) by rw [← hb]]
      grind
    rw [h6, h7]; grind
  rw [h4, Nat.add_mul_div_left _ _ (Nat.two_pow_pos _), ← Nat.add_assoc, Nat.add_mul_mod_self_left]

/-- The sign is that of the number, or 0 with the value 0. -/
theorem c_l02Cut {v : Value} {m m' : Int} {k : Nat} (h : Wr w v m) (bm : bl m.natAbs ≤ 1099511627776) (bk : k ≤ 9223372036854775807) (hm : m'.natAbs = m.natAbs / 2 ^ k) (hs : m' ≠ 0 → m'.sign = m.sign) (H : ∀ v' w', Ext w w' → Wo w' w.heap.size w'.heap.size v' m' → K v' w') : call P f_spec_l02Cut [v, .int .i64 (k : Int)] w K := by
  obtain ⟨s, l, rfl, h1, wl⟩ := h
  have l1 := wl.len bm
  obtain ⟨n1, v1⟩ := wl
  have d1 := n1.1
  refine I_spec_l02Cut ?_
  unfold D_spec_l02Cut
  refine bx_Wh fun x1 w1 b1 e1 => ?_
  refine alc_Wh fun x2 w2 ⟨cs, hcs, b2⟩ e2 => ?_
  have b1 := b1.ext e2
  have E2 := e1.trans e2
  have h1 := h1.ext E2
  refine bsl_nil u_s_int64 i_int64 ?_
  have he := Ext_alloc w2 (.cells #[] t_int64)
  have hz : OD .i64 t_int64 (w2.alloc (.cells #[] t_int64)) w2.heap.size (.slice (some ⟨w2.heap.size, 0, none⟩) 0 0) [] := owns_lit w2 [] t_int64
  generalize w2.alloc (.cells #[] t_int64) = w3 at he hz ⊢
  rw [bin_quoI (b := 24) (by omega) (by decide)]
  have hs24 : k % 24 < 24 := Nat.mod_lt _ (by decide)
  -- the number without its lowest limbs
  have hdiv : m.natAbs / 2 ^ k = val 16777216 (l.drop (k / 24)) / 2 ^ (k % 24) := by
    rw [p24 k, ← Nat.div_div_eq_div_mul, ← v1]
    congr 1
    by_cases hle : k / 24 ≤ l.length
    · have hp : 0 < 16777216 ^ (k / 24) := Nat.pow_pos (by decide)
      conv => lhs; rw [val_split _ l hle]
      rw [Nat.add_mul_div_left _ _ hp, Nat.div_eq_of_lt, Nat.zero_add]
      have := val_lt (d1.take (k / 24))
      rw [List.length_take, Nat.min_eq_left hle] at this
      exact this
    · rw [List.drop_eq_nil_of_le (by omega), val]
      exact Nat.div_eq_of_lt (Nat.lt_of_lt_of_le (val_lt d1) (Nat.pow_le_pow_right (by decide) (by omega)))
  have dr : Dig 16777216 (l.drop (k / 24)) := d1.drop _
  have hrl : (l.drop (k / 24)).length = l.length - k / 24 := List.length_drop
  have hget : ∀ j, (l.drop (k / 24)).getD j 0 = l.getD (k / 24 + j) 0 := fun j => by simp [List.getD_eq_getElem?_getD, List.getElem?_drop]
  generalize hR : l.drop (k / 24) = R at *
  refine ⟨fun g x y w' => ∃ (j : Nat) (q : List Nat), g + j = R.length ∧ y = .int .i64 ((k / 24 + j : Nat) : Int) ∧ Ext w2 w' ∧ OD .i64 t_int64 w' w2.heap.size x q ∧ q.length = j ∧ Dig 16777216 q ∧
    val 16777216 q = val 16777216 R / 2 ^ (k % 24) % 16777216 ^ j, ⟨R.length, 0, [], rfl, rfl, he, hz, rfl, (by intro d hd; cases hd), by simp [val, Nat.mod_one]⟩, ?_⟩
  rintro g x y junk w4 ⟨j, q, hg, rfl, e4, oq, hq, dq, hv⟩
  refine wh_l (b1.ext e4) ?_
  rw [(h1.ext e4).row.len u_s_int64, bin_lss]
  refine cnd_dec (fun hlt => ?_) (fun hge => ?_)
  · have hi : k / 24 + j < l.length := by omega
    have hj : j < R.length := by omega
    have g1 := Dig_get d1 hi
    have hRj : R[j] = l[k / 24 + j] := by
      have := hget j
      rw [getD_get hj, getD_get hi] at this; exact this
    refine wh_l (b1.ext e4) ?_
    refine (h1.ext e4).at hi u_s_int64 i_int64 u_int64 ?_
    have hle := Nat.div_le_self l[k / 24 + j] (2 ^ (k % 24))
    have key := right_dig24 dr hj hs24
    rw [hRj, hget] at key
    rw [bin_remI (b := 24) (by decide), cnv_int_int u_int64 u_uint64, w_u64' (by omega), bin_shrN (s := k % 24) (by simp only [IntKind.bits]; omega), bin_addI1 (b := 1) (by omega)]
    refine wh_l (b1.ext e4) ?_
    rw [(h1.ext e4).row.len u_s_int64, bin_lss]
    have app : ∀ d : Nat, d = (l[k / 24 + j] / 2 ^ (k % 24) + l.getD (k / 24 + (j + 1)) 0 * 2 ^ (24 - k % 24)) % 16777216 → bsl P t_s_int64 1 [(0, .int .i64 (d : Int))] w4 fun x49_41 w42 =>
        bl2 P .append #[t_s_int64, t_s_int64] t_s_int64 [x, x49_41] w42 fun x50_43 w44 =>
        bin P .add t_int64 false true (.int .i64 ((k / 24 + j : Nat) : Int)) (.int .i64 1) w44 fun x17_45 =>
        ∃ m46, m46 < g ∧ ∃ (j : Nat) (q : List Nat), m46 + j = R.length ∧ x17_45 = .int .i64 ((k / 24 + j : Nat) : Int) ∧ Ext w2 w44 ∧ OD .i64 t_int64 w44 w2.heap.size x50_43 q ∧ q.length = j ∧ Dig 16777216 q ∧ val 16777216 q = val 16777216 R / 2 ^ (k % 24) % 16777216 ^ j := by
      intro d hd
      refine app_OD oq u_s_int64 i_int64 (by simp only [maxLen]; omega) (by omega) e4.size fun v' w5 o5 g5 => ?_
      rw [bin_addI1 (b := 1) (by omega)]
      refine ⟨g - 1, by omega, j + 1, _, by omega, rfl, own_step e4 oq g5, o5, by simp [hq], Dig_snoc dq (by rw [hd]; exact Nat.mod_lt _ (by decide)), ?_⟩
      rw [val_snoc, hq, hv, hd, ← key, Nat.mod_pow_succ]
    refine cnd_dec (fun h2 => ?_) (fun h2 => ?_)
    · have hi2 : k / 24 + j + 1 < l.length := by omega
      have g2 := Dig_get d1 hi2
      refine wh_l (b1.ext e4) ?_
      rw [bin_addI1 (b := 1) (by omega)]
      refine (h1.ext e4).at hi2 u_s_int64 i_int64 u_int64 ?_
      have hp2 : 2 ^ (24 - k % 24) ≤ 16777216 := Nat.pow_le_pow_right (n := 2) (by decide) (show 24 - k % 24 ≤ 24 by omega)
      have hmul : l[k / 24 + j + 1] * 2 ^ (24 - k % 24) ≤ 16777215 * 16777216 := Nat.mul_le_mul (by omega) hp2
      rw [bin_remI (b := 24) (by decide), bin_sub, wrap_i64 (by omega) (by omega), show (24 : Int) - ((k % 24 : Nat) : Int) = ((24 - k % 24 : Nat) : Int) by omega, cnv_int_int u_int64 u_uint64, w_u64' (by omega),
        bin_shlI (s := 24 - k % 24) (by omega) (by omega), bin_addI (by omega), bin_remI (b := 16777216) (by decide)]
      exact app _ (by rw [show k / 24 + (j + 1) = k / 24 + j + 1 from rfl, getD_get hi2])
    · refine app _ ?_
      rw [getD_ge (by omega : l.length ≤ k / 24 + (j + 1)), Nat.zero_mul, Nat.add_zero]
      exact (Nat.mod_eq_of_lt (by omega)).symm
  · have hj : R.length ≤ j := by omega
    refine wh_s (b1.ext e4) ?_
    have hval : val 16777216 q = m'.natAbs := by
      rw [hm, hdiv, hv, Nat.mod_eq_of_lt]
      refine Nat.lt_of_le_of_lt (Nat.div_le_self _ _) (Nat.lt_of_lt_of_le (val_lt dr) (Nat.pow_le_pow_right (by decide) hj))
    exact wh_make (m := m') (E2.trans e4) (b2.ext e4) hcs e1.size (OD.IR oq) dq hval.symm hs (by omega) H

/-! ### what fits -/
theorem grd_both {v : Value} {want : Bool} {A B : Prop} (hA : A) (hB : B) : grd v want A B := by
  unfold grd
  split
  · generalize (_ == want) = c
    cases c
    · exact hB
    · exact hA
  · exact hB
theorem len100 {l : List Nat} (h : Norm 16777216 l) : l.length ≤ 100 ↔ bl (val 16777216 l) ≤ 2400 := by
  have h1 := (Norm.len_le (s := 24) (by decide) h)
  have e : val (2 ^ 24) l = val 16777216 l := rfl
  rw [e] at h1
  constructor
  · intro h2; omega
  · intro h2
    refine Nat.le_of_not_lt fun hc => ?_
    have := Norm.len_lt (s := 24) (by decide) h (by rintro rfl; simp at hc)
    rw [e] at this
    omega
end Go.Proofs.YtabgkpfcpncmhaaGreat

/- Contracts: the program's exact numbers. -/
set_option linter.unusedVariables false
namespace Go.Proofs.YtabgkpfcpncmhaaGreat
open Go Go.Vc

variable {w : World} {K : Value → World → Prop}

/-- An exact number m * 2^e of the program; with its value and bounds. -/
def Nm (w : World) (v : Value) (m e : Int) : Prop := ∃ p, v = .agg #[p, .int .i64 e] ∧ IntR w p m
def NQ (w : World) (v : Value) (lo hi : Nat) (q : Rat) : Prop := ∃ m e, Nm w v m e ∧ Bd lo hi m e ∧ q = dy m e
theorem Nm.ext {w' : World} {v : Value} {m e : Int} (h : Nm w v m e) (he : Ext w w') : Nm w' v m e := let ⟨p, h1, h2⟩ := h; ⟨p, h1, h2.ext he⟩
theorem NQ.ext {w' : World} {v : Value} {lo hi : Nat} {q : Rat} (h : NQ w v lo hi q) (he : Ext w w') : NQ w' v lo hi q := let ⟨m, e, h1, h2⟩ := h; ⟨m, e, h1.ext he, h2⟩
theorem NQ.mono {v : Value} {lo hi lo' hi' : Nat} {q : Rat} (h : NQ w v lo hi q) (h1 : lo ≤ lo') (h2 : hi ≤ hi') : NQ w v lo' hi' q := let ⟨m, e, a, b, c⟩ := h; ⟨m, e, a, b.mono h1 h2, c⟩
theorem IntR.ptr {p : Value} {m : Int} (h : IntR w p m) : ∃ a, p = .pointer (some a) := by
  obtain ⟨s, ⟨g, rfl, _⟩, _⟩ := h
  exact ⟨_, rfl⟩
theorem IntR.one {p : Value} {m : Int} (h : IntR w p m) : p.oneCell' = true := by obtain ⟨a, rfl⟩ := h.ptr; rfl
theorem bld_num {p : Value} {e : Int} {K : Value → Prop} (hp : ∃ a, p = .pointer (some a)) : bld P t_impl_num [(0, p), (1, .int .i64 e)] w K = K (.agg #[p, .int .i64 e]) := by
  obtain ⟨a, rfl⟩ := hp
  exact bld_of (by kernel_rfl)
theorem bld_num0 {p : Value} {K : Value → Prop} (hp : ∃ a, p = .pointer (some a)) : bld P t_impl_num [(0, p)] w K = K (.agg #[p, .int .i64 0]) := by
  obtain ⟨a, rfl⟩ := hp
  exact bld_of (by kernel_rfl)
def nm (p : Value) (e : Int) : List Value := [p, .int .i64 e]

/-- A number in a variable: its parts. -/
theorem num_m {base : Nat} {x p : Value} {e : Int} {K : Value → Prop} (h : Bx w base t_impl_num x (nm p e)) (H : K p) : fda P t_impl_num x 0 w (fun a => ld P t_p_impl_integer a w K) :=
  h.fld (off := 0) rfl u_impl_num rfl i_p_impl_integer u_p_impl_integer rfl H
theorem num_e {base : Nat} {x p : Value} {e : Int} {K : Value → Prop} (h : Bx w base t_impl_num x (nm p e)) (H : K (.int .i64 e)) : fda P t_impl_num x 1 w (fun a => ld P t_int a w K) :=
  h.fld (off := 1) rfl u_impl_num rfl i_int u_int rfl H
theorem num_all {base : Nat} {x p : Value} {e : Int} {K : Value → Prop} (h : Bx w base t_impl_num x (nm p e)) (H : K (.agg #[p, .int .i64 e])) : ld P t_impl_num x w K :=
  h.get u_impl_num rfl i_impl_num rfl H
theorem num_fa {base : Nat} {x p : Value} {e : Int} (h : Bx w base t_impl_num x (nm p e)) :
    ∃ a, (∀ (w : World) (K : Value → Prop), fda P t_impl_num x 1 w K = K a) ∧ (∀ {w' : World} {base' : Nat} {p' : Value} {e' : Int}, Bx w' base' t_impl_num x (nm p' e') → ∀ K, ld P t_int a w' K = K (.int .i64 e')) := by
  obtain ⟨a, h1, h2, _⟩ := Bx_fa (f := 1) (off := 1) (ty := t_int) h u_impl_num rfl i_int u_int rfl
  exact ⟨a, h1, fun h' => h2 h' rfl⟩
/-- The result, put into its variable. -/
theorem num_ret {base : Nat} {x p : Value} {e : Int} {cs : List Value} (hb : Bx w base t_impl_num x cs) (hl : cs.length = 2) (hp : p.oneCell' = true) (H : ∀ w', w.grownBy w' (blk x) → K (.agg #[p, .int .i64 e]) w') :
    sto P t_impl_num x (.agg #[p, .int .i64 e]) w fun w' => ldc P t_impl_num x w' fun r => K r w' := by
  refine hb.put i_impl_num (ds := [p, .int .i64 e]) rfl hl (one_2 hp rfl) fun w' b' g' => ?_
  exact b'.getc u_impl_num rfl i_impl_num rfl (H w' g')
theorem bx_num {x : Value} {p : Value} {e : Int} {KW : Value → World → Prop} (H : ∀ x w', Bx w' w.heap.size t_impl_num x (nm p e) → Ext w w' → KW x w') : bx P t_impl_num (.agg #[p, .int .i64 e]) w KW :=
  bx_bx fun x w' b e _ => H x w' b e
theorem alc_num {KW : Value → World → Prop} (H : ∀ x w', (∃ cs, cs.length = 2 ∧ Bx w' w.heap.size t_impl_num x cs) → Ext w w' → KW x w') : alc P t_impl_num w KW :=
  alc_bx i_impl_num fun x w' b e _ => H x w' ⟨_, rfl, b⟩ e
theorem Nm.grown {w1 w2 : World} {base : Nat} {x p : Value} {cs : List Value} {m : Int} (h : IntR w1 p m) (hb : Bx w1 base t_impl_num x cs) (hg : w1.grownBy w2 (blk x)) : IntR w2 p m := h.kt hg (Ty.box hb) (by decide) (by decide)

def sgQ (q : Rat) : Int := if q < 0 then -1 else if 0 < q then 1 else 0
theorem sgQ_dy (m e : Int) : sgQ (dy m e) = m.sign := by
  unfold sgQ
  simp only [dy_neg_iff, dy_pos]
  split
  · rename_i h; rw [Int.sign_eq_neg_one_of_neg h]
  · split
    · rename_i h; rw [Int.sign_eq_one_of_pos h]
    · have : m = 0 := by omega
      subst this; rfl
theorem sgQ_zero {q : Rat} : sgQ q = 0 ↔ q = 0 := by
  unfold sgQ
  constructor
  · intro h
    split at h
    · cases h
    · split at h
      · cases h
      · grind
  · rintro rfl; rfl

theorem c_nsign {v : Value} {m e : Int} (h : Nm w v m e) (H : ∀ w', Ext w w' → K (.int .i64 m.sign) w') : call P f_impl_num_sign [v] w K := by
  obtain ⟨p, rfl, hp⟩ := h
  refine I_impl_num_sign ?_
  unfold D_impl_num_sign
  refine bx_num (x := undef) fun x w1 b1 e1 => ?_
  refine num_m b1 ?_
  exact c_Sign (hp.ext e1) (H _ e1)
theorem c_num_sign {v : Value} {lo hi : Nat} {q : Rat} (h : NQ w v lo hi q) (H : ∀ w', Ext w w' → K (.int .i64 (sgQ q)) w') : call P f_impl_num_sign [v] w K := by
  obtain ⟨m, e, h1, h2, rfl⟩ := h
  refine c_nsign h1 fun w' he => ?_
  rw [← sgQ_dy m e]; exact H w' he

theorem c_num_neg {v : Value} {lo hi : Nat} {q : Rat} (h : NQ w v lo hi q) (hl : lo ≤ 1000000000) (hh : hi ≤ 1000000000) (H : ∀ v' w', Ext w w' → NQ w' v' lo hi (-q) → K v' w') : call P f_impl_num_neg [v] w K := by
  obtain ⟨m, e, ⟨p, rfl, hp⟩, hb, rfl⟩ := h
  have hbl := hb.bl
  refine I_impl_num_neg ?_
  unfold D_impl_num_neg
  refine bx_num (x := undef) fun x1 w1 b1 e1 => ?_
  refine alc_num fun x2 w2 ⟨cs, hcs, b2⟩ e2 => ?_
  have b1 := b1.ext e2
  have E2 := e1.trans e2
  refine num_m b1 ?_
  obtain ⟨a, fa, la⟩ := num_fa b1
  rw [fa, la b1]
  refine alc_Z fun x3 w3 z3 _ e3 => ?_
  refine ⟨e3, ?_⟩
  refine c_Neg z3 ((hp.ext E2).ext e3) (by omega) fun w4 z4 i4 g4 => ?_
  have e4 : Ext w2 w4 := ext_of_grown e3 (fun g hg => z3.blk_ge hg) g4
  rw [fa, la (b1.ext e4)]
  refine ⟨rfl, rfl, ?_⟩
  rw [bld_num i4.ptr]
  have b2 := b2.ext e4
  refine num_ret b2 hcs i4.one fun w5 g5 => ?_
  have e5 : Ext w w5 := ext_of_grown (E2.trans e4) (fun g hg => Nat.le_trans e1.size (b2.blk_lt hg).1) g5
  exact H _ _ e5 ⟨-m, e, ⟨x3, rfl, Nm.grown i4 b2 g5⟩, hb.neg, (dy_neg m e).symm⟩

def absQ (q : Rat) : Rat := if q < 0 then -q else q
theorem absQ_dy (m e : Int) : absQ (dy m e) = dy (m.natAbs : Int) e := by
  unfold absQ
  simp only [dy_neg_iff]
  split
  · rename_i h; rw [← dy_neg]; congr 1; omega
  · congr 1; omega
theorem c_num_mul {u v : Value} {lo hi lo' hi' : Nat} {q r : Rat} (hu : NQ w u lo hi q) (hv : NQ w v lo' hi' r) (hl : lo ≤ 100000000) (hh : hi ≤ 100000000) (hl' : lo' ≤ 100000000) (hh' : hi' ≤ 100000000)
    (H : ∀ v' w', Ext w w' → NQ w' v' (lo + lo') (hi + hi') (q * r) → K v' w') : call P f_impl_num_mul [u, v] w K := by
  obtain ⟨m, e, ⟨p, rfl, hp⟩, hb, rfl⟩ := hu
  obtain ⟨n, g, ⟨p', rfl, hp'⟩, hb', rfl⟩ := hv
  have hbl := hb.bl
  have hbl' := hb'.bl
  have := hb.low; have := hb.top; have := hb'.low; have := hb'.top
  refine I_impl_num_mul ?_
  unfold D_impl_num_mul
  refine bx_num (x := undef) fun x1 w1 b1 e1 => ?_
  refine bx_num (x := undef) fun x2 w2 b2 e2 => ?_
  refine alc_num fun x3 w3 ⟨cs, hcs, b3⟩ e3 => ?_
  have b1 := (b1.ext e2).ext e3
  have b2 := b2.ext e3
  have E2 := e1.trans e2
  have E3 := E2.trans e3
  refine num_m b1 ?_
  refine num_m b2 ?_
  obtain ⟨a, fa, la⟩ := num_fa b1
  obtain ⟨a', fa', la'⟩ := num_fa b2
  rw [fa, la b1, fa', la' b2, bin_add, wrap_i64 (by omega) (by omega)]
  refine alc_Z fun x5 w4 z4 _ e4 => ?_
  refine ⟨e4, ?_⟩
  refine c_Mul z4 ((hp.ext E3).ext e4) ((hp'.ext E3).ext e4) (by omega) (by omega) fun w5 z5 i5 g5 => ?_
  have e5 : Ext w3 w5 := ext_of_grown e4 (fun g hg => z4.blk_ge hg) g5
  rw [fa, la (b1.ext e5), fa', la' (b2.ext e5), bin_add, wrap_i64 (by omega) (by omega)]
  refine ⟨rfl, rfl, rfl, rfl, rfl, ?_⟩
  rw [bld_num i5.ptr]
  have b3 := b3.ext e5
  refine num_ret b3 hcs i5.one fun w6 g6 => ?_
  have e6 : Ext w w6 := ext_of_grown (E3.trans e5) (fun g hg => Nat.le_trans E2.size (b3.blk_lt hg).1) g6
  exact H _ _ e6 ⟨m * n, e + g, ⟨x5, rfl, Nm.grown i5 b3 g6⟩, hb.mul hb', dy_mul m e n g⟩

/-! ### sums -/
theorem c_at {v : Value} {m e e0 : Int} (h : Nm w v m e) (hle : e0 ≤ e) (hd : e - e0 ≤ 1099511627776) (h0 : -1099511627776 ≤ e0) (hb : bl m.natAbs ≤ 1099511627776)
    (H : ∀ p w', Ext w w' → ZO w' w.heap.size p → IntR w' p (m * 2 ^ (e - e0).toNat) → K p w') : call P f_impl_num_at [v, .int .i64 e0] w K := by
  obtain ⟨p, rfl, hp⟩ := h
  refine I_impl_num_at ?_
  unfold D_impl_num_at
  refine bx_num (x := undef) fun x1 w1 b1 e1 => ?_
  refine alc_Z fun x5 w2 z2 _ e2 => ?_
  have b1 := b1.ext e2
  refine num_m b1 ?_
  refine num_e b1 ?_
  rw [bin_sub, wrap_i64 (by omega) (by omega), show e - e0 = (((e - e0).toNat : Nat) : Int) by omega, cnv_int_uint (by omega)]
  refine c_Lsh z2 (hp.ext (e1.trans e2)) hb (by omega) fun w3 z3 i3 g3 => ?_
  have e3 : Ext w w3 := ext_of_grown (e1.trans e2) (fun g hg => Nat.le_trans e1.size (z2.blk_ge hg)) g3
  exact H _ _ e3 (z3.low e1.size) i3

theorem c_num_add {u v : Value} {lo hi : Nat} {q r : Rat} (hu : NQ w u lo hi q) (hv : NQ w v lo hi r) (hl : lo ≤ 1000000000) (hh : hi ≤ 1000000000)
    (H : ∀ v' w', Ext w w' → NQ w' v' lo (hi + 1) (q + r) → K v' w') : call P f_impl_num_add [u, v] w K := by
  obtain ⟨m, e, ⟨p, rfl, hp⟩, hb, rfl⟩ := hu
  obtain ⟨n, g, ⟨p', rfl, hp'⟩, hb', rfl⟩ := hv
  have hbl := hb.bl
  have hbl' := hb'.bl
  have := hb.low; have := hb.top; have := hb'.low; have := hb'.top
  refine I_impl_num_add ?_
  unfold D_impl_num_add
  refine bx_num (x := undef) fun x1 w1 b1 e1 => ?_
  refine bx_num (x := undef) fun x2 w2 b2 e2 => ?_
  refine alc_num fun x3 w3 ⟨cs, hcs, b3⟩ e3 => ?_
  have b1 := (b1.ext e2).ext e3
  have b2 := b2.ext e3
  have E2 := e1.trans e2
  have E3 := E2.trans e3
  refine num_all b1 ?_
  refine c_nsign ⟨p, rfl, hp.ext E3⟩ fun w4 e4 => ?_
  rw [bin_eql]
  have E4 := E3.trans e4
  refine cnd_dec (fun h0 => ?_) (fun h0 => ?_)
  · have hm : m = 0 := Int.sign_eq_zero_iff_zero.1 h0
    refine num_all (b2.ext e4) ?_
    have b3 := b3.ext e4
    have ip := hp'.ext E4
    refine num_ret b3 hcs ip.one fun w5 g5 => ?_
    have e5 : Ext w w5 := ext_of_grown E4 (fun g hg => Nat.le_trans E2.size (b3.blk_lt hg).1) g5
    refine H _ _ e5 ⟨n, g, ⟨p', rfl, Nm.grown ip b3 g5⟩, hb'.mono (Nat.le_refl _) (Nat.le_succ _), ?_⟩
    rw [hm, dy_zero, Rat.zero_add]
  · refine num_all (b2.ext e4) ?_
    refine c_nsign ⟨p', rfl, hp'.ext E4⟩ fun w5 e5 => ?_
    have E5 := E4.trans e5
    rw [bin_eql]
    refine cnd_dec (fun h1 => ?_) (fun h1 => ?_)
    · have hn : n = 0 := Int.sign_eq_zero_iff_zero.1 h1
      refine num_all ((b1.ext e4).ext e5) ?_
      have b3 := (b3.ext e4).ext e5
      have ip := hp.ext E5
      refine num_ret b3 hcs ip.one fun w6 g6 => ?_
      have e6 : Ext w w6 := ext_of_grown E5 (fun g hg => Nat.le_trans E2.size (b3.blk_lt hg).1) g6
      refine H _ _ e6 ⟨m, e, ⟨p, rfl, Nm.grown ip b3 g6⟩, hb.mono (Nat.le_refl _) (Nat.le_succ _), ?_⟩
      rw [hn, dy_zero, Rat.add_zero]
    · have b1 := (b1.ext e4).ext e5
      have b2 := (b2.ext e4).ext e5
      have b3 := (b3.ext e4).ext e5
      refine num_e b1 ?_
      refine num_e b2 ?_
      rw [bl0_min_i64]
      refine ⟨_, fun _ _ h => h, ?_⟩
      refine num_all b1 ?_
      refine num_all b2 ?_
      have ip := hp.ext E5
      have ip' := hp'.ext E5
      have hs1 := ibl_shl_le m (e - min e g).toNat
      have hs2 := ibl_shl_le n (g - min e g).toNat
      have fin : ∀ (z a b : Value) (w6 w0 : World), Ext w5 w0 → ZO w6 w5.heap.size z → Ext w5 w6 → IntR w6 a (m * 2 ^ (e - min e g).toNat) → IntR w6 b (n * 2 ^ (g - min e g).toNat) →
          call P f_impl_integer_Add [z, a, b] w6 fun x28 w7 => bld P t_impl_num [(0, x28), (1, .int .i64 (min e g))] w7 fun x30 => sto P t_impl_num x3 x30 w7 fun w8 => ldc P t_impl_num x3 w8 fun r => K r w8 := by
        intro z a b w6 w0 _ hz e6 ia ib
        refine c_Add hz ia ib (by omega) (by omega) fun w7 z7 i7 g7 => ?_
        have e7 : Ext w5 w7 := ext_of_grown e6 (fun g hg => hz.blk_ge hg) g7
        rw [bld_num i7.ptr]
        have b3 := b3.ext e7
        refine num_ret b3 hcs i7.one fun w8 g8 => ?_
        have e8 : Ext w w8 := ext_of_grown (E5.trans e7) (fun g hg => Nat.le_trans E2.size (b3.blk_lt hg).1) g8
        exact H _ _ e8 ⟨addM m e n g, min e g, ⟨z, rfl, Nm.grown i7 b3 g8⟩, hb.add hb', (dy_addM m e n g).symm⟩
      refine ⟨?_, ?_⟩
      · refine alc_Z fun z w6 z6 _ e6 => ?_
        refine ⟨e6, ?_⟩
        refine c_at (e := e) ⟨p, rfl, ip.ext e6⟩ (by omega) (by omega) (by omega) (by omega) fun a w7 e7 z7 i7 => ?_
        refine ⟨e7, ?_⟩
        refine c_at (e := g) ⟨p', rfl, (ip'.ext e6).ext e7⟩ (by omega) (by omega) (by omega) (by omega) fun b w8 e8 z8 i8 => ?_
        exact fin z a b w8 w5 (Ext.refl _) ((z6.ext e7).ext e8) (e6.trans (e7.trans e8)) (i7.ext e8) i8
      · refine c_at (e := e) ⟨p, rfl, ip⟩ (by omega) (by omega) (by omega) (by omega) fun a w7 e7 z7 i7 => ?_
        refine ⟨e7, ?_, ?_⟩
        · refine alc_Z fun z w6 z6 _ e6 => ?_
          refine ⟨e6, ?_⟩
          refine c_at (e := g) ⟨p', rfl, (ip'.ext e7).ext e6⟩ (by omega) (by omega) (by omega) (by omega) fun b w8 e8 z8 i8 => ?_
          exact fin z a b w8 w5 (Ext.refl _) ((z6.low e7.size).ext e8) (e7.trans (e6.trans e8)) ((i7.ext e6).ext e8) i8
        · refine c_at (e := g) ⟨p', rfl, ip'.ext e7⟩ (by omega) (by omega) (by omega) (by omega) fun b w8 e8 z8 i8 => ?_
          refine alc_Z fun z w6 z6 _ e6 => ?_
          refine ⟨e6, ?_⟩
          exact fin z a b w6 w5 (Ext.refl _) (z6.low (e7.trans e8).size) (e7.trans (e8.trans e6)) ((i7.ext e8).ext e6) (i8.ext e6)

theorem c_num_sub {u v : Value} {lo hi : Nat} {q r : Rat} (hu : NQ w u lo hi q) (hv : NQ w v lo hi r) (hl : lo ≤ 1000000000) (hh : hi ≤ 1000000000)
    (H : ∀ v' w', Ext w w' → NQ w' v' lo (hi + 1) (q - r) → K v' w') : call P f_impl_num_sub [u, v] w K := by
  obtain ⟨m, e, ⟨p, rfl, hp⟩, hb, hq⟩ := hu
  obtain ⟨n, g, ⟨p', rfl, hp'⟩, hb', hr⟩ := hv
  refine I_impl_num_sub ?_
  unfold D_impl_num_sub
  refine bx_num (x := undef) fun x1 w1 b1 e1 => ?_
  refine bx_num (x := undef) fun x2 w2 b2 e2 => ?_
  refine alc_num fun x3 w3 ⟨cs, hcs, b3⟩ e3 => ?_
  have E2 := e1.trans e2
  have E3 := E2.trans e3
  refine num_all ((b1.ext e2).ext e3) ?_
  refine num_all (b2.ext e3) ?_
  refine c_num_neg ⟨n, g, ⟨p', rfl, hp'.ext E3⟩, hb', hr⟩ hl hh fun v1 w4 e4 n4 => ?_
  refine ⟨e4, ?_⟩
  refine c_num_add ⟨m, e, ⟨p, rfl, hp.ext (E3.trans e4)⟩, hb, hq⟩ n4 hl hh fun v2 w5 e5 n5 => ?_
  obtain ⟨m', e', ⟨p2, rfl, h2⟩, hb2, hq2⟩ := n5
  have b3 := (b3.ext e4).ext e5
  refine num_ret b3 hcs h2.one fun w6 g6 => ?_
  have e6 : Ext w w6 := ext_of_grown (E3.trans (e4.trans e5)) (fun g hg => Nat.le_trans E2.size (b3.blk_lt hg).1) g6
  refine H _ _ e6 ⟨m', e', ⟨p2, rfl, Nm.grown h2 b3 g6⟩, hb2, ?_⟩
  rw [← hq2, Rat.sub_eq_add_neg]

def cmpQ (q r : Rat) : Int := sgQ (q - r)
end Go.Proofs.YtabgkpfcpncmhaaGreat

/- Contracts: the program's exact numbers as results; the number of a float. -/
set_option linter.unusedVariables false
namespace Go.Proofs.YtabgkpfcpncmhaaGreat
open Go Go.Vc

variable {w : World} {K : Value → World → Prop}

theorem tz_int {m : Int} {k : Nat} (hm : m ≠ 0) (h : IsTz m.natAbs k) : m / 2 ^ k * 2 ^ k = m ∧ (m / 2 ^ k) % 2 = 1 := by
  unfold IsTz at h
  rw [if_neg (by omega)] at h
  obtain ⟨h1, h2⟩ := h
  have hp : (0 : Int) < 2 ^ k := Int.pow_pos (by decide)
  have hd : ((2 : Int) ^ k) ∣ m := by
    have : ((2 ^ k : Nat) : Int) ∣ m := Int.ofNat_dvd_left.2 (Nat.dvd_of_mod_eq_zero h1)
    simpa using this
  obtain ⟨c, hc⟩ := hd
  have e : m / 2 ^ k = c := by rw [hc]; exact Int.mul_ediv_cancel_left _ (Int.ne_of_gt hp)
  rw [e]
  refine ⟨by rw [hc, Int.mul_comm], ?_⟩
  have h3 : m.natAbs = 2 ^ k * c.natAbs := by rw [hc, Int.natAbs_mul, natAbs_two_pow]
  rw [h3, Nat.mul_div_cancel_left _ (Nat.two_pow_pos _)] at h2
  omega
/-- The canonical form. -/
structure Cn (lo hi : Nat) (q : Rat) (m e : Int) : Prop where
  canon : Canon m e
  bd : Bd lo hi m e
  val : q = dy m e
theorem Cn.uniq {lo hi lo' hi' : Nat} {q : Rat} {m e n g : Int} (h : Cn lo hi q m e) (k : Cn lo' hi' q n g) : m = n ∧ e = g := canon_inj h.canon k.canon (h.val.symm.trans k.val)
theorem Cn.odd {lo hi : Nat} {m e : Int} {k : Nat} (hb : Bd lo hi m e) (hm : m ≠ 0) (h : IsTz m.natAbs k) : Cn lo hi (dy m e) (m / 2 ^ k) (e + k) := by
  obtain ⟨h1, h2⟩ := tz_int hm h
  have hc : m / 2 ^ k ≠ 0 := by intro h0; rw [h0] at h2; cases h2
  refine ⟨.inr h2, ⟨?_, ?_, fun _ => ?_⟩, ?_⟩
  · have := hb.low; omega
  · have := hb.mag hm
    have h4 := ibl_shl hc k
    rw [h1] at h4
    have h5 := bl_pos (n := (m / 2 ^ k).natAbs) (by omega)
    omega
  · have := hb.mag hm
    have h4 := ibl_shl hc k
    rw [h1] at h4
    omega
  · rw [← dy_shift' (m := m / 2 ^ k) (e := e + k) (e' := e) (k := k) (by omega), h1]

/-! ### results -/
def Do (w : World) (lo hi : Nat) (v : Value) (m e : Int) : Prop := ∃ s l, v = .agg #[.int .i64 m.sign, s, .int .i64 e] ∧ OwnR w lo hi t_int64 1 s l.length (l.map (iv .i64)) ∧ Wl l m
def fitsD (m e : Int) : Prop := bl m.natAbs ≤ 2400 ∧ -3000 ≤ e ∧ e ≤ 3000
instance (m e : Int) : Decidable (fitsD m e) := by unfold fitsD; infer_instance
def dyR (m e : Int) : (Int × Int) × Int := if fitsD m e then ((m, e), 0) else ((0, 0), 3)
theorem Do.zero (w : World) (lo hi : Nat) : Do w lo hi (.agg #[.int .i64 0, .slice none 0 0, .int .i64 0]) 0 0 := ⟨_, [], rfl, ⟨OD.nil _ _ _ _, fun k hk => by cases hk⟩, Wl.zero⟩
theorem bld_Dyadic0 {K : Value → Prop} : bld P t_impl_Dyadic [] w K = K (.agg #[.int .i64 0, .slice none 0 0, .int .i64 0]) := bld_of (by kernel_rfl)
theorem bld_Dyadic {n e : Int} {s : Value} {K : Value → Prop} (hs : ∃ a l c, s = .slice a l c) : bld P t_impl_Dyadic [(0, .agg #[.int .i64 n, s]), (1, .int .i64 e)] w K = K (.agg #[.int .i64 n, s, .int .i64 e]) := by
  obtain ⟨a, l, c, rfl⟩ := hs
  exact bld_of (by kernel_rfl)
theorem own_sl {lo hi n : Nat} {e : TypeId} {s : Value} {xs : List Value} (h : OwnR w lo hi e 1 s n xs) : ∃ a l c, s = .slice a l c := by
  obtain ⟨_, _, a, c, rfl, _⟩ := owns_Row h.own
  exact ⟨_, _, _, rfl⟩
theorem own_one {lo hi n : Nat} {e : TypeId} {s : Value} {xs : List Value} (h : OwnR w lo hi e 1 s n xs) : s.oneCell' = true := by
  obtain ⟨a, l, c, rfl⟩ := own_sl h
  rfl
/-- A dyadic result, put into its variable. -/
theorem dy_ret {base : Nat} {x : Value} {n e c : Int} {s : Value} {cs : List Value} (hb : Bx w base t_impl_Dyadic x cs) (hl : cs.length = 3) (hs : s.oneCell' = true) (H : ∀ w', w.grownBy w' (blk x) → K (.tuple #[.agg #[.int .i64 n, s, .int .i64 e], .int .i64 c]) w') :
    sto P t_impl_Dyadic x (.agg #[.int .i64 n, s, .int .i64 e]) w fun w' => ldc P t_impl_Dyadic x w' fun r => K (.tuple #[r, .int .i64 c]) w' := by
  refine hb.put i_impl_Dyadic (ds := [.int .i64 n, s, .int .i64 e]) rfl hl (one_3 rfl hs rfl) fun w' b' g' => ?_
  exact b'.getc u_impl_Dyadic rfl i_impl_Dyadic rfl (H w' g')

/-! ### the number of a float -/
def fM (b : Nat) : Int := let m : Nat := b % 8388608 + (if 0 < b / 8388608 % 256 then 8388608 else 0); if b / 2147483648 % 2 = 1 then -(m : Int) else m
def fE (b : Nat) : Int := (if 0 < b / 8388608 % 256 then ((b / 8388608 % 256 : Nat) : Int) else 1) - 150
def fq (b : Nat) : Rat := dy (fM b) (fE b)
theorem fM_abs (b : Nat) : (fM b).natAbs < 16777216 := by
  unfold fM
  have := Nat.mod_lt b (show 0 < 8388608 by decide)
  simp only
  split <;> split <;> omega
theorem f_bd {b : Nat} (h : Fin Ieee.single b) : Bd 149 128 (fM b) (fE b) := by
  rw [fin_iff_bits] at h
  have h1 := Nat.mod_lt (b / 8388608) (show 0 < 256 by decide)
  have h2 := fM_abs b
  have h3 : bl (fM b).natAbs ≤ 24 := bl_le.2 (by exact h2)
  have h4 : -149 ≤ fE b ∧ fE b ≤ 104 := by unfold fE; split <;> omega
  exact ⟨by omega, by omega, fun _ => by omega⟩

theorem c_parts {b : Nat} (hb : b < 4294967296) (H : K (.tuple #[.int .i64 (fM b), .int .i64 (fE b)]) w) : call P f_impl_parts [fl b] w K := by
  refine I_impl_parts ?_
  unfold D_impl_parts
  refine c_Float32bits ?_
  have e1 : b / 8388608 &&& 255 = b / 8388608 % 256 := Nat.and_two_pow_sub_one_eq_mod _ 8
  have e2 : b &&& 8388607 = b % 8388608 := Nat.and_two_pow_sub_one_eq_mod _ 23
  have h1 := Nat.mod_lt (b / 8388608) (show 0 < 256 by decide)
  have h2 := Nat.mod_lt b (show 0 < 8388608 by decide)
  rw [bin_shrN (s := 23) (by decide), show (2 : Nat) ^ 23 = 8388608 from rfl]
  rw [bin_andN (b := 255) (by simp only [IntKind.bits]; omega) (by decide) rfl, e1, cnv_int_int u_uint32 u_int64, wrap_i64 (by omega) (by omega)]
  rw [bin_andN (b := 8388607) (by simp only [IntKind.bits]; omega) (by decide) rfl, e2, cnv_int_int u_uint32 u_int64, wrap_i64 (by omega) (by omega)]
  refine ⟨fun x y w' => w' = w ∧ x = .int .i64 (fE b + 150) ∧ y = .int .i64 ((fM b).natAbs : Int), ?_, ?_⟩
  · rintro x y junk w' ⟨rfl, rfl, rfl⟩
    have hE : -149 ≤ fE b ∧ fE b ≤ 105 := by unfold fE; split <;> omega
    have hM := fM_abs b
    rw [bin_shrN (s := 31) (by decide), bin_neq, show (2 : Nat) ^ 31 = 2147483648 from rfl]
    refine cnd_dec (fun h => ?_) (fun h => ?_)
    · rw [una_neg_int, wrap_i64 (by omega) (by omega), bin_sub, wrap_i64 (by omega) (by omega)]
      have h3 : b / 2147483648 % 2 = 1 := by omega
      have : (0 : Int) - ((fM b).natAbs : Int) = fM b := by
        unfold fM; simp only [h3, if_true]; omega
      rw [this, show fE b + 150 - 150 = fE b by omega]
      exact H
    · rw [bin_sub, wrap_i64 (by omega) (by omega)]
      have h3 : ¬ b / 2147483648 % 2 = 1 := by omega
      have : ((fM b).natAbs : Int) = fM b := by
        unfold fM; simp only [h3, if_false]; omega
      rw [this, show fE b + 150 - 150 = fE b by omega]
      exact H
  · rw [bin_gtr]
    refine cnd_dec (fun h => ?_) (fun h => ?_)
    · have h3 : 0 < b / 8388608 % 256 := by omega
      rw [bin_add, wrap_i64 (by omega) (by omega)]
      refine ⟨rfl, ?_, ?_⟩
      · congr 1; unfold fE; rw [if_pos h3]; omega
      · congr 1; unfold fM; simp only [h3, if_true]; split <;> omega
    · have h3 : ¬ 0 < b / 8388608 % 256 := by omega
      refine ⟨rfl, ?_, ?_⟩
      · congr 1; unfold fE; rw [if_neg h3]; omega
      · congr 1; unfold fM; simp only [h3, if_false]; split <;> omega
theorem c_numOfm {b : Nat} (hb : b < 4294967296) (H : ∀ v w', Ext w w' → Nm w' v (fM b) (fE b) → K v w') : call P f_impl_numOf [fl b] w K := by
  refine I_impl_numOf ?_
  unfold D_impl_numOf
  refine alc_num fun x1 w1 ⟨cs, hcs, b1⟩ e1 => ?_
  refine c_parts hb ?_
  rw [xtr_0, xtr_1]
  have h1 := fM_abs b
  refine c_newInt (by omega) (by omega) fun p w2 e2 z2 i2 => ?_
  rw [bld_num i2.ptr]
  have b1 := b1.ext e2
  refine num_ret b1 hcs i2.one fun w3 g3 => ?_
  have e3 : Ext w w3 := ext_of_grown (e1.trans e2) (fun g hg => (b1.blk_lt hg).1) g3
  exact H _ _ e3 ⟨p, rfl, Nm.grown i2 b1 g3⟩
theorem c_numOf {b : Nat} (hb : b < 4294967296) (hf : Fin Ieee.single b) (H : ∀ v w', Ext w w' → NQ w' v 149 128 (fq b) → K v w') : call P f_impl_numOf [fl b] w K :=
  c_numOfm hb fun v w' he hn => H v w' he ⟨_, _, hn, f_bd hf, rfl⟩
end Go.Proofs.YtabgkpfcpncmhaaGreat

/- Contracts: the reference's exact numbers. -/
set_option linter.unusedVariables false
namespace Go.Proofs.YtabgkpfcpncmhaaGreat
open Go Go.Vc

variable {w : World} {K : Value → World → Prop}

def Dr (w : World) (v : Value) (m e : Int) : Prop := ∃ s l, v = .agg #[.int .i64 m.sign, s, .int .i64 e] ∧ LR w s l ∧ Wl l m
def DQ (w : World) (v : Value) (lo hi : Nat) (q : Rat) : Prop := ∃ m e, Dr w v m e ∧ Cn lo hi q m e
theorem Dr.ext {w' : World} {v : Value} {m e : Int} (h : Dr w v m e) (he : Ext w w') : Dr w' v m e := let ⟨s, l, h1, h2, h3⟩ := h; ⟨s, l, h1, h2.ext he, h3⟩
theorem DQ.ext {w' : World} {v : Value} {lo hi : Nat} {q : Rat} (h : DQ w v lo hi q) (he : Ext w w') : DQ w' v lo hi q := let ⟨m, e, h1, h2⟩ := h; ⟨m, e, h1.ext he, h2⟩
theorem Cn.mono {lo hi lo' hi' : Nat} {q : Rat} {m e : Int} (h : Cn lo hi q m e) (h1 : lo ≤ lo') (h2 : hi ≤ hi') : Cn lo' hi' q m e := ⟨h.canon, h.bd.mono h1 h2, h.val⟩
theorem Dr.kt {w' : World} {v : Value} {m e : Int} {row : Option Nat} {e' : TypeId} (h : Dr w v m e) (hg : w.grownBy w' row) (ht : Ty w row e') (hne : t_int64 ≠ e') : Dr w' v m e := let ⟨s, l, h1, h2, h3⟩ := h; ⟨s, l, h1, h2.kt hg ht hne, h3⟩
theorem DQ.kt {w' : World} {v : Value} {lo hi : Nat} {q : Rat} {row : Option Nat} {e' : TypeId} (h : DQ w v lo hi q) (hg : w.grownBy w' row) (ht : Ty w row e') (hne : t_int64 ≠ e') : DQ w' v lo hi q := let ⟨m, e, h1, h2⟩ := h; ⟨m, e, h1.kt hg ht hne, h2⟩
theorem DQ.mono {v : Value} {lo hi lo' hi' : Nat} {q : Rat} (h : DQ w v lo hi q) (h1 : lo ≤ lo') (h2 : hi ≤ hi') : DQ w v lo' hi' q := let ⟨m, e, a, b⟩ := h; ⟨m, e, a, b.mono h1 h2⟩
theorem Do.Dr {lo hi : Nat} {v : Value} {m e : Int} (h : Do w lo hi v m e) : Dr w v m e := let ⟨s, l, h1, h2, h3⟩ := h; ⟨s, l, h1, LR.of h2.own, h3⟩
theorem Do.ext {w' : World} {lo hi : Nat} {v : Value} {m e : Int} (h : Do w lo hi v m e) (he : Ext w w') : Do w' lo hi v m e := let ⟨s, l, h1, h2, h3⟩ := h; ⟨s, l, h1, h2.ext he, h3⟩
theorem Do.mono {lo hi lo' hi' : Nat} {v : Value} {m e : Int} (h : Do w lo hi v m e) (h1 : lo' ≤ lo) (h2 : hi ≤ hi') : Do w lo' hi' v m e := let ⟨s, l, a, b, c⟩ := h; ⟨s, l, a, b.mono h1 h2, c⟩
theorem Dr.zero (w : World) : Dr w (.agg #[.int .i64 0, .slice none 0 0, .int .i64 0]) 0 0 := ⟨_, [], rfl, LR.nil _, Wl.zero⟩
theorem DQ.zero (w : World) : DQ w (.agg #[.int .i64 0, .slice none 0 0, .int .i64 0]) 0 0 0 := ⟨0, 0, Dr.zero w, .inl ⟨rfl, rfl⟩, Bd.zero _ _, (dy_zero 0).symm⟩
theorem Wr.sl {s : Value} {m : Int} {n : Int} (h : Wr w (.agg #[.int .i64 n, s]) m) : ∃ a l c, s = .slice a l c := by
  obtain ⟨s', l, e, h1, _⟩ := h
  simp only [Value.agg.injEq, Array.mk.injEq, List.cons.injEq, and_true] at e
  rw [e.2]
  exact IR.sl h1.toIR

/-! ### in a variable -/
def dv3 (n : Int) (s : Value) (e : Int) : List Value := [.int .i64 n, s, .int .i64 e]
section
variable {base : Nat} {x s : Value} {n e : Int} {K : Value → Prop}
theorem dy_all (h : Bx w base t_impl_Dyadic x (dv3 n s e)) (H : K (.agg #[.int .i64 n, s, .int .i64 e])) : ld P t_impl_Dyadic x w K :=
  h.get u_impl_Dyadic rfl i_impl_Dyadic rfl H
theorem dy_e (h : Bx w base t_impl_Dyadic x (dv3 n s e)) (H : K (.int .i64 e)) : fda P t_impl_Dyadic x 1 w (fun a => ld P t_int64 a w K) :=
  h.fld (off := 2) rfl u_impl_Dyadic rfl i_int64 u_int64 rfl H
theorem dy_w (h : Bx w base t_impl_Dyadic x (dv3 n s e)) (H : K (.agg #[.int .i64 n, s])) : fda P t_impl_Dyadic x 0 w (fun a => ld P t_impl_Whole a w K) := by
  obtain ⟨g, rfl, hc⟩ := h.cell
  rw [d_impl_Dyadic_0, addr_zero]
  refine (ld_agg (cs := [.int .i64 n, s]) u_impl_Whole rfl i_impl_Whole rfl (fun j u hu => ?_)) ▸ H
  rw [Addr.add_lit, Nat.zero_add]
  refine (hc j u ?_).1
  match j, hu with
  | 0, hu => exact hu
  | 1, hu => exact hu
  | _ + 2, hu => simp at hu
theorem dy_ws (h : Bx w base t_impl_Dyadic x (dv3 n s e)) (H : K (.int .i64 n)) : fda P t_impl_Dyadic x 0 w (fun a => fda P t_impl_Whole a 0 w (fun b => ld P t_int64 b w K)) := by
  obtain ⟨g, rfl, hc⟩ := h.cell
  rw [d_impl_Dyadic_0, addr_zero, d_impl_Whole_0, addr_zero, ld_scalar u_int64 rfl (hc 0 _ rfl).1]
  exact H
theorem dy_wl (h : Bx w base t_impl_Dyadic x (dv3 n s e)) (H : K s) : fda P t_impl_Dyadic x 0 w (fun a => fda P t_impl_Whole a 1 w (fun b => ld P t_s_int64 b w K)) := by
  obtain ⟨g, rfl, hc⟩ := h.cell
  rw [d_impl_Dyadic_0, addr_zero, d_impl_Whole_1, Addr.add_lit, ld_scalar u_s_int64 rfl (hc 1 _ rfl).1]
  exact H
theorem bx_Dy {KW : Value → World → Prop} (H : ∀ x w', Bx w' w.heap.size t_impl_Dyadic x (dv3 n s e) → Ext w w' → KW x w') : bx P t_impl_Dyadic (.agg #[.int .i64 n, s, .int .i64 e]) w KW :=
  bx_bx fun x w' b e _ => H x w' b e
theorem alc_Dy {KW : Value → World → Prop} (H : ∀ x w', (∃ cs, cs.length = 3 ∧ Bx w' w.heap.size t_impl_Dyadic x cs) → Ext w w' → KW x w') : alc P t_impl_Dyadic w KW :=
  alc_bx i_impl_Dyadic fun x w' b e _ => H x w' ⟨_, rfl, b⟩ e
end
/-- A store of an exact number that is read. -/
theorem Dr.put {base : Nat} {x v : Value} {m e : Int} {cs : List Value} {KW : World → Prop} (h : Dr w v m e) (hb : Bx w base t_impl_Dyadic x cs) (hl : cs.length = 3) (H : ∀ w', (∃ s, v = .agg #[.int .i64 m.sign, s, .int .i64 e] ∧ Bx w' base t_impl_Dyadic x (dv3 m.sign s e)) → w.grownBy w' (blk x) → KW w') : sto P t_impl_Dyadic x v w KW := by
  obtain ⟨s, l, rfl, h1, hw⟩ := h
  exact hb.put i_impl_Dyadic (ds := dv3 m.sign s e) rfl hl (one_3 rfl (sl_one (IR.sl h1.toIR)) rfl) fun w' b' g' => H w' ⟨s, rfl, b'⟩ g'
/-- The end of a function that makes an exact number. -/
theorem dq_ret {base : Nat} {x v : Value} {m e : Int} {lo hi : Nat} {cs : List Value} (hb : Bx w base t_impl_Dyadic x cs) (hl : cs.length = 3) (hv : Do w lo hi v m e) (H : ∀ w', w.grownBy w' (blk x) → Do w' lo hi v m e → K v w') :
    sto P t_impl_Dyadic x v w fun w' => ldc P t_impl_Dyadic x w' fun r => K r w' := by
  obtain ⟨s, l, rfl, ho, hw⟩ := hv
  refine hb.put i_impl_Dyadic (ds := dv3 m.sign s e) rfl hl (one_3 rfl (own_one ho) rfl) fun w' b' g' => ?_
  exact b'.getc u_impl_Dyadic rfl i_impl_Dyadic rfl (H w' g' ⟨s, l, rfl, ⟨keep_row ho.own g' (Ty.box hb) (by decide), ho.top⟩, hw⟩)

theorem c_l03Make {v : Value} {m e : Int} {lo hi : Nat} (h : Wr w v m) (hb : Bd lo hi m e) (hl : lo ≤ 1000000000) (hh : hi ≤ 1000000000)
    (H : ∀ v' w' m' e', Ext w w' → Do w' w.heap.size w'.heap.size v' m' e' → Cn lo hi (dy m e) m' e' → K v' w') : call P f_spec_l03Make [v, .int .i64 e] w K := by
  obtain ⟨s, l, rfl, h1, wl⟩ := h
  have hbl := hb.bl
  have := hb.low; have := hb.top
  refine I_spec_l03Make ?_
  unfold D_spec_l03Make
  refine bx_Wh fun x1 w1 b1 e1 => ?_
  refine alc_Dy fun x2 w2 ⟨cs, hcs, b2⟩ e2 => ?_
  have b1 := b1.ext e2
  have E2 := e1.trans e2
  refine wh_s b1 ?_
  rw [bin_eql]
  refine cnd_dec (fun h0 => ?_) (fun h0 => ?_)
  · have hm : m = 0 := Int.sign_eq_zero_iff_zero.1 h0
    rw [bld_Dyadic0]
    refine dq_ret (lo := w.heap.size) (hi := w2.heap.size) (m := 0) (e := 0) b2 hcs (Do.zero _ _ _) fun w3 g3 h3 => ?_
    have e3 : Ext w w3 := ext_of_grown E2 (fun g hg => Nat.le_trans e1.size (b2.blk_lt hg).1) g3
    refine H _ _ _ _ e3 (h3.mono (Nat.le_refl _) g3.size) ⟨.inl ⟨rfl, rfl⟩, Bd.zero _ _, ?_⟩
    rw [hm, dy_zero, dy_zero]
  · have hm : m ≠ 0 := by rintro rfl; exact h0 rfl
    refine wh_all b1 ?_
    refine c_l02Twos ⟨s, l, rfl, h1.ext E2, wl⟩ hm (by omega) fun k w3 e3 hk hkb => ?_
    refine wh_all (b1.ext e3) ?_
    obtain ⟨t1, t2⟩ := tz_int hm hk
    have hm' : m / 2 ^ k ≠ 0 := by intro h0; rw [h0] at t2; cases t2
    have hab : (m / 2 ^ k).natAbs = m.natAbs / 2 ^ k := by
      have : m.natAbs = (m / 2 ^ k).natAbs * 2 ^ k := by
        conv => lhs; rw [← t1]
        rw [Int.natAbs_mul, natAbs_two_pow]
      rw [this, Nat.mul_div_cancel _ (Nat.two_pow_pos _)]
    have hsg : (m / 2 ^ k).sign = m.sign := by
      conv => rhs; rw [← t1]
      rw [Int.sign_mul, Int.sign_eq_one_of_pos (Int.pow_pos (by decide)), Int.mul_one]
    refine c_l02Cut (m' := m / 2 ^ k) ⟨s, l, rfl, h1.ext (E2.trans e3), wl⟩ (by omega) (by omega) hab (fun _ => hsg) fun v' w4 e4 h4 => ?_
    obtain ⟨s', l', rfl, ho, hw⟩ := h4
    rw [bin_add, wrap_i64 (by omega) (by omega), bld_Dyadic (own_sl ho)]
    have b2 := (b2.ext e3).ext e4
    have hD : Do w4 w.heap.size w4.heap.size (.agg #[.int .i64 (m / 2 ^ k).sign, s', .int .i64 (e + k)]) (m / 2 ^ k) (e + k) := ⟨s', l', rfl, ho.mono (E2.trans e3).size (Nat.le_refl _), hw⟩
    refine dq_ret b2 hcs hD fun w5 g5 h5 => ?_
    have e5 : Ext w w5 := ext_of_grown (E2.trans (e3.trans e4)) (fun g hg => Nat.le_trans e1.size (b2.blk_lt hg).1) g5
    exact H _ _ _ _ e5 (h5.mono (Nat.le_refl _) g5.size) (Cn.odd hb hm hk)

/-- 'Make' at the end of a function. -/
theorem dq_make {base : Nat} {x v : Value} {m e : Int} {lo hi : Nat} {cs : List Value} {w0 : World} {q : Rat} (he : Ext w0 w) (hbx : Bx w base t_impl_Dyadic x cs) (hcs : cs.length = 3) (hbase : w0.heap.size ≤ base) (h : Wr w v m) (hb : Bd lo hi m e) (hl : lo ≤ 1000000000) (hh : hi ≤ 1000000000) (hq : q = dy m e)
    (H : ∀ v' w' m' e', Ext w0 w' → Do w' w0.heap.size w'.heap.size v' m' e' → Cn lo hi q m' e' → K v' w') : call P f_spec_l03Make [v, .int .i64 e] w fun r w1 => sto P t_impl_Dyadic x r w1 fun w2 => ldc P t_impl_Dyadic x w2 fun r => K r w2 := by
  subst hq
  refine c_l03Make h hb hl hh fun v' w1 m' e' e1 h1 hc => ?_
  have b1 := hbx.ext e1
  refine dq_ret b1 hcs h1 fun w2 g2 h2 => ?_
  have e2 : Ext w0 w2 := ext_of_grown (he.trans e1) (fun g hg => Nat.le_trans hbase (b1.blk_lt hg).1) g2
  exact H _ _ _ _ e2 (h2.mono he.size g2.size) hc

theorem c_l03Neg {v : Value} {lo hi : Nat} {q : Rat} (h : DQ w v lo hi q) (hl : lo ≤ 1000000000) (hh : hi ≤ 1000000000) (H : ∀ v' w', Ext w w' → DQ w' v' lo hi (-q) → K v' w') : call P f_spec_l03Neg [v] w K := by
  obtain ⟨m, e, ⟨s, l, rfl, h1, wl⟩, hc⟩ := h
  have hbl := hc.bd.bl
  refine I_spec_l03Neg ?_
  unfold D_spec_l03Neg
  refine bx_Dy fun x1 w1 b1 e1 => ?_
  refine alc_Dy fun x2 w2 ⟨cs, hcs, b2⟩ e2 => ?_
  have b1 := b1.ext e2
  have E2 := e1.trans e2
  refine dy_w b1 ?_
  refine dy_e b1 ?_
  refine c_l02Neg ⟨s, l, rfl, h1.ext E2, wl⟩ (by omega) fun v' w3 e3 h3 => ?_
  refine ⟨e3, ?_⟩
  obtain ⟨s', l', rfl, ho, hw⟩ := h3
  rw [bld_Dyadic (own_sl ho)]
  have b2 := b2.ext e3
  have hD : Do w3 w2.heap.size w3.heap.size (.agg #[.int .i64 (-m).sign, s', .int .i64 e]) (-m) e := ⟨s', l', rfl, ho, hw⟩
  refine dq_ret b2 hcs hD fun w4 g4 h4 => ?_
  have e4 : Ext w w4 := ext_of_grown (E2.trans e3) (fun g hg => Nat.le_trans e1.size (b2.blk_lt hg).1) g4
  refine H _ _ e4 ⟨-m, e, h4.Dr, ?_, hc.bd.neg, by rw [dy_neg, hc.val]⟩
  rcases hc.canon with ⟨ha, hb⟩ | ha
  · exact .inl ⟨by omega, hb⟩
  · exact .inr (by omega)

theorem c_l03Add {u v : Value} {lo hi : Nat} {q r : Rat} (hu : DQ w u lo hi q) (hv : DQ w v lo hi r) (hl : lo ≤ 100000000) (hh : hi ≤ 100000000)
    (H : ∀ v' w', Ext w w' → DQ w' v' lo (hi + 1) (q + r) → K v' w') : call P f_spec_l03Add [u, v] w K := by
  obtain ⟨m, e, ⟨s, l, rfl, h1, wl⟩, hc⟩ := hu
  obtain ⟨n, g, ⟨t, l', rfl, h2, wl'⟩, hc'⟩ := hv
  have hbl := hc.bd.bl
  have hbl' := hc'.bd.bl
  have := hc.bd.low; have := hc.bd.top; have := hc'.bd.low; have := hc'.bd.top
  have H' : ∀ v' w' m' e', Ext w w' → Do w' w.heap.size w'.heap.size v' m' e' → Cn lo (hi + 1) (q + r) m' e' → K v' w' := fun v' w' m' e' he hd hc => H v' w' he ⟨m', e', hd.Dr, hc⟩
  refine I_spec_l03Add ?_
  unfold D_spec_l03Add
  refine bx_Dy fun x1 w1 b1 e1 => ?_
  refine bx_Dy fun x2 w2 b2 e2 => ?_
  refine alc_Dy fun x3 w3 ⟨cs, hcs, b3⟩ e3 => ?_
  have b1 := (b1.ext e2).ext e3
  have b2 := b2.ext e3
  have E2 := e1.trans e2
  have E3 := E2.trans e3
  have h1 := h1.ext E3
  have h2 := h2.ext E3
  refine dy_ws b1 ?_
  rw [bin_eql]
  refine cnd_dec (fun h0 => ?_) (fun h0 => ?_)
  · have hm : m = 0 := Int.sign_eq_zero_iff_zero.1 h0
    refine dy_w b2 ?_
    refine dy_e b2 ?_
    refine dq_make E3 b3 hcs E2.size ⟨t, l', rfl, h2, wl'⟩ (hc'.bd.mono (Nat.le_refl _) (Nat.le_succ _)) (by omega) (by omega) ?_ H'
    rw [hc.val, hm, dy_zero, Rat.zero_add, hc'.val]
  · have hm : m ≠ 0 := by rintro rfl; exact h0 rfl
    refine dy_ws b2 ?_
    rw [bin_eql]
    refine cnd_dec (fun h0' => ?_) (fun h0' => ?_)
    · have hn : n = 0 := Int.sign_eq_zero_iff_zero.1 h0'
      refine dy_w b1 ?_
      refine dy_e b1 ?_
      refine dq_make E3 b3 hcs E2.size ⟨s, l, rfl, h1, wl⟩ (hc.bd.mono (Nat.le_refl _) (Nat.le_succ _)) (by omega) (by omega) ?_ H'
      rw [hc'.val, hn, dy_zero, Rat.add_zero, hc.val]
    · have hn : n ≠ 0 := by rintro rfl; exact h0' rfl
      refine dy_e b1 ?_
      refine dy_e b2 ?_
      rw [bl0_min_i64]
      refine dy_w b1 ?_
      refine dy_e b1 ?_
      rw [bin_sub, wrap_i64 (by omega) (by omega), show e - min e g = (((e - min e g).toNat : Nat) : Int) by omega]
      refine dy_w b2 ?_
      refine dy_e b2 ?_
      rw [bin_sub, wrap_i64 (by omega) (by omega), show g - min e g = (((g - min e g).toNat : Nat) : Int) by omega]
      have hs1 := ibl_shl_le m (e - min e g).toNat
      have hs2 := ibl_shl_le n (g - min e g).toNat
      have hs3 := (hc.bd.add hc'.bd).bl
      refine c_l02Left ⟨s, l, rfl, h1, wl⟩ (by omega) (by omega) fun v1 w4 e4 h4 => ?_
      refine ⟨e4, ?_⟩
      refine c_l02Left ⟨t, l', rfl, h2.ext e4, wl'⟩ (by omega) (by omega) fun v2 w5 e5 h5 => ?_
      refine c_l02Add (h4.ext e5).Wr h5.Wr (by omega) (by omega) fun v3 w6 e6 h6 => ?_
      refine dq_make (m := addM m e n g) (E3.trans (e4.trans (e5.trans e6))) (((b3.ext e4).ext e5).ext e6) hcs E2.size h6.Wr (hc.bd.add hc'.bd) (by omega) (by omega) ?_ H'
      rw [dy_addM, hc.val, hc'.val]

theorem c_l03Sub {u v : Value} {lo hi : Nat} {q r : Rat} (hu : DQ w u lo hi q) (hv : DQ w v lo hi r) (hl : lo ≤ 100000000) (hh : hi ≤ 100000000)
    (H : ∀ v' w', Ext w w' → DQ w' v' lo (hi + 1) (q - r) → K v' w') : call P f_spec_l03Sub [u, v] w K := by
  obtain ⟨m, e, ⟨s, l, rfl, h1, wl⟩, hc⟩ := hu
  obtain ⟨n, g, ⟨t, l', rfl, h2, wl'⟩, hc'⟩ := hv
  refine I_spec_l03Sub ?_
  unfold D_spec_l03Sub
  refine bx_Dy fun x1 w1 b1 e1 => ?_
  refine bx_Dy fun x2 w2 b2 e2 => ?_
  refine alc_Dy fun x3 w3 ⟨cs, hcs, b3⟩ e3 => ?_
  have E2 := e1.trans e2
  have E3 := E2.trans e3
  refine dy_all ((b1.ext e2).ext e3) ?_
  refine dy_all (b2.ext e3) ?_
  refine c_l03Neg ⟨n, g, ⟨t, l', rfl, h2.ext E3, wl'⟩, hc'⟩ (by omega) (by omega) fun v1 w4 e4 n4 => ?_
  refine ⟨e4, ?_⟩
  refine c_l03Add ⟨m, e, ⟨s, l, rfl, h1.ext (E3.trans e4), wl⟩, hc⟩ n4 hl hh fun v2 w5 e5 n5 => ?_
  obtain ⟨m', e', hd', hc2⟩ := n5
  have b3 := (b3.ext e4).ext e5
  refine hd'.put b3 hcs fun w6 ⟨s', hv', b6⟩ g6 => ?_
  have h6 := hd'.kt g6 (Ty.box b3) (by decide)
  subst hv'
  refine b6.getc u_impl_Dyadic rfl i_impl_Dyadic rfl ?_
  have e6 : Ext w w6 := ext_of_grown (E3.trans (e4.trans e5)) (fun g hg => Nat.le_trans E2.size (b3.blk_lt hg).1) g6
  exact H _ _ e6 ⟨m', e', h6, by rw [Rat.sub_eq_add_neg]; exact hc2⟩

theorem c_l03Mul {u v : Value} {lo hi lo' hi' : Nat} {q r : Rat} (hu : DQ w u lo hi q) (hv : DQ w v lo' hi' r) (hl : lo ≤ 100000000) (hh : hi ≤ 100000000) (hl' : lo' ≤ 100000000) (hh' : hi' ≤ 100000000)
    (H : ∀ v' w', Ext w w' → DQ w' v' (lo + lo') (hi + hi') (q * r) → K v' w') : call P f_spec_l03Mul [u, v] w K := by
  obtain ⟨m, e, ⟨s, l, rfl, h1, wl⟩, hc⟩ := hu
  obtain ⟨n, g, ⟨t, l', rfl, h2, wl'⟩, hc'⟩ := hv
  have hbl := hc.bd.bl
  have hbl' := hc'.bd.bl
  have := hc.bd.low; have := hc.bd.top; have := hc'.bd.low; have := hc'.bd.top
  refine I_spec_l03Mul ?_
  unfold D_spec_l03Mul
  refine bx_Dy fun x1 w1 b1 e1 => ?_
  refine bx_Dy fun x2 w2 b2 e2 => ?_
  refine alc_Dy fun x3 w3 ⟨cs, hcs, b3⟩ e3 => ?_
  have b1 := (b1.ext e2).ext e3
  have b2 := b2.ext e3
  have E2 := e1.trans e2
  have E3 := E2.trans e3
  refine dy_w b1 ?_
  refine dy_w b2 ?_
  refine dy_e b1 ?_
  refine dy_e b2 ?_
  rw [bin_add, wrap_i64 (by omega) (by omega)]
  refine c_l02Mul ⟨s, l, rfl, h1.ext E3, wl⟩ ⟨t, l', rfl, h2.ext E3, wl'⟩ (by omega) (by omega) fun v1 w4 e4 h4 => ?_
  refine ⟨e4, ?_⟩
  refine dq_make (E3.trans e4) (b3.ext e4) hcs E2.size h4.Wr (hc.bd.mul hc'.bd) (by omega) (by omega) ?_ fun v' w' m' e' he hd hc => H v' w' he ⟨m', e', hd.Dr, hc⟩
  rw [← dy_mul, hc.val, hc'.val]
end Go.Proofs.YtabgkpfcpncmhaaGreat

/- Contracts: the reference's parts of a float; floats of 64 bits doubled and halved. -/
set_option linter.unusedVariables false
namespace Go.Proofs.YtabgkpfcpncmhaaGreat
open Go Go.Vc Ieee

variable {w : World} {K : Value → World → Prop}

/-! ### words of single precision -/
theorem xor_split {a b x y k : Nat} (ha : a < 2 ^ k) (hb : b < 2 ^ k) : (2 ^ k * x + a) ^^^ (2 ^ k * y + b) = 2 ^ k * (x ^^^ y) + (a ^^^ b) := by
  have hab : a ^^^ b < 2 ^ k := Nat.xor_lt_two_pow ha hb
  apply Nat.eq_of_testBit_eq
  intro j
  rw [Nat.testBit_xor, Nat.testBit_two_pow_mul_add _ ha, Nat.testBit_two_pow_mul_add _ hb, Nat.testBit_two_pow_mul_add _ hab]
  split <;> rw [Nat.testBit_xor]
theorem neg32 (b : Nat) (h : b < 4294967296) : Op.negFloat .f32 b = if b < 2147483648 then b + 2147483648 else b - 2147483648 := by
  show b ^^^ 2 ^ 31 = _
  have h1 := xor_split (a := b % 2 ^ 31) (b := 0) (x := b / 2 ^ 31) (y := 1) (k := 31) (Nat.mod_lt _ (by decide)) (by decide)
  rw [Nat.div_add_mod, Nat.mul_one, Nat.add_zero, Nat.xor_zero] at h1
  rw [h1]
  have h31 : (2 : Nat) ^ 31 = 2147483648 := by decide
  rw [h31]
  split
  · rename_i hlt
    rw [Nat.div_eq_of_lt hlt, Nat.mod_eq_of_lt hlt]
    have : (0 ^^^ 1 : Nat) = 1 := by decide
    rw [this]; omega
  · have h2 : b / 2147483648 = 1 := by omega
    rw [h2]
    have : (1 ^^^ 1 : Nat) = 0 := by decide
    rw [this]; omega
theorem read_f {b : Nat} (h : Vc.Fin single b) (hb : b < 4294967296) : single.read b = .number (b / 2147483648 % 2 == 1) (fM b).natAbs (fE b) := by
  unfold Go.Vc.Fin at h
  rw [s_sw, s_inf] at h
  unfold Format.read
  rw [s_sw, s_bin, s_inf, show single.leastPlace = -149 from by decide]
  simp only
  have hM : (fM b).natAbs = b % 8388608 + (if 0 < b / 8388608 % 256 then 8388608 else 0) := by
    unfold fM; simp only
    generalize (if 0 < b / 8388608 % 256 then 8388608 else 0) = x
    split <;> omega
  rw [hM]
  have e1 : b % 2147483648 % 8388608 = b % 8388608 := by omega
  have e2 : b % 2147483648 / 8388608 = b / 8388608 % 256 := by omega
  by_cases h0 : b % 2147483648 < 8388608
  · have h3 : ¬ 0 < b / 8388608 % 256 := by omega
    rw [if_pos h0, if_neg h3]
    unfold fE
    rw [if_neg h3]
    congr 1
    omega
  · have h3 : 0 < b / 8388608 % 256 := by omega
    rw [if_neg h0, if_pos h, if_pos h3]
    unfold fE
    rw [if_pos h3]
    congr 1
    · omega
    · omega
theorem sgn_f {b : Nat} (hb : b < 4294967296) : (fM b < 0 → 2147483648 ≤ b) ∧ (0 < fM b → b < 2147483648) := by
  unfold fM
  simp only
  constructor
  · intro h
    split at h
    · omega
    · omega
  · intro h
    split at h
    · split at h <;> omega
    · omega
theorem cmp_zero (m : Int) (k : Nat) : compare (m * 2 ^ k) 0 = compare m 0 := by
  have hp : (0 : Int) < 2 ^ k := Int.pow_pos (by decide)
  rcases Int.lt_trichotomy m 0 with h | h | h
  · have h1 := Int.mul_neg_of_neg_of_pos h hp
    rw [Int.compare_eq_lt.2 h, Int.compare_eq_lt.2 h1]
  · subst h; simp
  · have h1 := Int.mul_pos h hp
    rw [Int.compare_eq_gt.2 h, Int.compare_eq_gt.2 h1]
theorem order_zero {b : Nat} (h : Vc.Fin single b) (hb : b < 4294967296) : single.order b 0 = some (compare (fM b) 0) := by
  unfold Format.order
  rw [read_f h hb, show single.read 0 = .number false 0 (-149) from by decide]
  simp only [Datum.order, signed_eq]
  congr 1
  simp only [Bool.false_eq_true, if_false, Int.mul_zero, Int.zero_mul, show ((0 : Nat) : Int) = 0 from rfl]
  rw [cmp_zero]
  congr 1
  have := sgn_f hb
  by_cases hs : b / 2147483648 % 2 = 1
  · simp only [hs, beq_self_eq_true, if_true]
    have : ¬ 0 < fM b := fun q => by have := this.2 q; omega
    omega
  · have hs' : (b / 2147483648 % 2 == 1) = false := by simpa using hs
    simp only [hs', Bool.false_eq_true, if_false]
    have : ¬ fM b < 0 := fun q => by have := this.1 q; omega
    omega

theorem c_l01Abs {b : Nat} (h : Vc.Fin single b) (hb : b < 4294967296) (H : ∀ a : Nat, a < 4294967296 → Vc.Fin single a → single.read a = .number false (fM b).natAbs (fE b) → K (fl a) w) : call P f_spec_l01Abs [fl b] w K := by
  refine I_spec_l01Abs ?_
  unfold D_spec_l01Abs
  have ho := order_zero h hb
  have hs := sgn_f hb
  have hr := read_f h hb
  rw [bin_flss, show FloatKind.f32.format.order b 0 = some (compare (fM b) 0) from ho]
  by_cases h1 : fM b < 0
  · rw [Int.compare_eq_lt.2 h1]
    refine cnd_yes rfl ?_
    rw [una_neg_float, neg32 b hb]
    have h2 := hs.1 h1
    rw [if_neg (by omega)]
    have hf' : Vc.Fin single (b - 2147483648) := by unfold Go.Vc.Fin at h ⊢; rw [s_sw, s_inf] at *; omega
    refine H _ (by omega) hf' ?_
    rw [read_f hf' (by omega)]
    have e1 : fM (b - 2147483648) = -(fM b) := by
      unfold fM
      have a1 : (b - 2147483648) % 8388608 = b % 8388608 := by omega
      have a2 : (b - 2147483648) / 8388608 % 256 = b / 8388608 % 256 := by omega
      have a3 : ¬ (b - 2147483648) / 2147483648 % 2 = 1 := by omega
      have a4 : b / 2147483648 % 2 = 1 := by omega
      simp only [a1, a2, a3, a4, if_false, if_true]
      omega
    have e2 : fE (b - 2147483648) = fE b := by
      unfold fE
      have a2 : (b - 2147483648) / 8388608 % 256 = b / 8388608 % 256 := by omega
      rw [a2]
    have e3 : ((b - 2147483648) / 2147483648 % 2 == 1) = false := by
      have : ¬ (b - 2147483648) / 2147483648 % 2 = 1 := by omega
      simpa using this
    rw [e1, e2, e3, Int.natAbs_neg]
  · have hn : ¬ (compare (fM b) 0 = .lt) := fun q => h1 (Int.compare_eq_lt.1 q)
    refine cnd_no (by simpa using hn) ?_
    rw [bin_feql, show FloatKind.f32.format.order b 0 = some (compare (fM b) 0) from ho]
    by_cases h2 : fM b = 0
    · rw [h2]
      refine cnd_yes rfl ?_
      refine H 0 (by decide) (by decide) ?_
      have hE : fE b = -149 := by
        unfold fM at h2
        unfold fE
        simp only at h2
        have : ¬ 0 < b / 8388608 % 256 := by
          intro h3
          simp only [h3, if_true] at h2
          split at h2 <;> omega
        rw [if_neg this]; rfl
      rw [hE, h2]; decide
    · have hn2 : ¬ (compare (fM b) 0 = .eq) := fun q => h2 (Int.compare_eq_eq.1 q)
      refine cnd_no (by simpa using hn2) ?_
      refine H b hb h ?_
      rw [hr]
      have : b / 2147483648 % 2 ≠ 1 := by have := hs.2 (by omega); omega
      have e3 : (b / 2147483648 % 2 == 1) = false := by simpa using this
      rw [e3]

/-! ### words of double precision -/
abbrev W64 := W double
theorem two64 : (4611686018427387904 : Nat) = W double false 1 1 := by decide
theorem p2464 : (4715268809856909312 : Nat) = W double false 16777216 0 := by decide
theorem c_l01Twos {s : Bool} {m : Nat} {e k : Int} (h1 : bl m ≤ 53) (h2 : -1000 ≤ e) (h3 : e ≤ 900) (h4 : -1000 ≤ e + k) (h5 : e + k ≤ 900) (H : K (.float .f64 (W64 s m (e + k))) w) : call P f_spec_l01Twos [.float .f64 (W64 s m e), .int .i64 k] w K := by
  have hk : -2000 ≤ k ∧ k ≤ 2000 := by omega
  have has1 : Has double 1 1 := Has64 (by decide) (by decide) (by decide)
  refine I_spec_l01Twos ?_
  unfold D_spec_l01Twos
  refine ⟨fun g x y w' => w' = w ∧ ∃ j : Nat, x = .float .f64 (W64 s m (e + j)) ∧ y = .int .i64 (k - j) ∧ g + j = k.toNat, ⟨k.toNat, rfl, 0, by simp, by simp, rfl⟩, ?_⟩
  rintro g x y junk w' ⟨rfl, j, rfl, rfl, hg⟩
  rw [bin_gtr]
  refine cnd_dec (fun hpos => ?_) (fun hneg => ?_)
  · refine rbin_float (by simp) fun r hr => ?_
    have hm := mul_W (s := s) (t := false) hsd (Has64 (m := m) (e := e + j) h1 (by omega) (by omega)) has1
    rw [← two64] at hm
    have := FR_some hr (show floatBits .mul .f64 _ _ = some _ from hm)
    subst this
    rw [bin_sub, wrap_i64 (by omega) (by omega), Bool.xor_false, Nat.mul_one]
    exact ⟨g - 1, by omega, rfl, j + 1, by congr 2; omega, by congr 1; omega, by omega⟩
  · have hj : (j : Int) = max k 0 := by omega
    refine ⟨fun g x y w'' => w'' = w' ∧ ∃ i : Nat, x = .float .f64 (W64 s m (e + j - i)) ∧ y = .int .i64 (k - j + i) ∧ g + i = (-k).toNat, ⟨(-k).toNat, rfl, 0, by simp, by simp, rfl⟩, ?_⟩
    rintro g' x y junk w'' ⟨rfl, i, rfl, rfl, hg'⟩
    rw [bin_lss]
    refine cnd_dec (fun hlt => ?_) (fun hge => ?_)
    · refine rbin_float (by simp) fun r hr => ?_
      have hm := div_two (s := s) hsd (by decide) (Has64 (m := m) (e := e + j - i) h1 (by omega) (by omega)) has1
      rw [← two64] at hm
      have := FR_some hr (show floatBits .quo .f64 _ _ = some _ from hm)
      subst this
      rw [bin_add, wrap_i64 (by omega) (by omega)]
      exact ⟨g' - 1, by omega, rfl, i + 1, by congr 2; omega, by congr 1; omega, by omega⟩
    · rw [show e + (j : Int) - i = e + k by omega]
      exact H

theorem dy_le {m n e : Int} : dy m e ≤ dy n e ↔ m ≤ n := by
  rw [Rat.le_iff_sub_nonneg, Rat.sub_eq_add_neg, ← dy_neg, dy_add, dy_nonneg]; omega
theorem dy_lt {m n e : Int} : dy m e < dy n e ↔ m < n := by
  rw [← Rat.not_le, dy_le]; omega
theorem order_ge {m n : Nat} {e g : Int} (h1 : Has double m e) (h2 : Has double n g) : (double.order (W64 false m e) (W64 false n g) == some .gt || double.order (W64 false m e) (W64 false n g) == some .eq) = decide (dy n g ≤ dy m e) := by
  obtain ⟨k, l, r1, s1⟩ := read_any (s := false) hsd h1
  obtain ⟨k', l', r2, s2⟩ := read_any (s := false) hsd h2
  unfold Format.order
  rw [r1, r2]
  simp only [Datum.order, signed_eq, Bool.false_eq_true, if_false, Int.one_mul]
  have a1 : dy ((k : Int) * 2 ^ (l - min l l').toNat) (min l l') = dy m e := by rw [s1.dy]; exact dy_shift' (by omega)
  have a2 : dy ((k' : Int) * 2 ^ (l' - min l l').toNat) (min l l') = dy n g := by rw [s2.dy]; exact dy_shift' (by omega)
  rw [← a1, ← a2]
  generalize (k : Int) * 2 ^ (l - min l l').toNat = x
  generalize (k' : Int) * 2 ^ (l' - min l l').toNat = y
  rw [Bool.eq_iff_iff, decide_eq_true_eq, dy_le]
  simp only [Bool.or_eq_true, beq_iff_eq, Option.some.injEq, Int.compare_eq_gt, Int.compare_eq_eq]
  omega
theorem toInt_W {m : Nat} (h : Has double m 0) : (double.read (W64 false m 0)).toInt .zero = some (m : Int) := by
  obtain ⟨k, l, r1, s1⟩ := read_any (s := false) hsd h
  rw [r1]
  unfold Datum.toInt Datum.integral
  simp only [signed_eq, Bool.false_eq_true, if_false, Int.one_mul, Int.pow_zero, Int.mul_one, Nat.shiftLeft_eq]
  congr 2
  obtain ⟨i, j, a, b⟩ := s1
  by_cases hl : 0 ≤ l
  · rw [show (-l).toNat = 0 by omega, cut_zero]
    have : i = j - l.toNat ∧ l.toNat ≤ j ∨ True := .inr trivial
    have hp := Nat.two_pow_pos i
    refine Nat.eq_of_mul_eq_mul_right hp ?_
    rw [b, Nat.mul_assoc, ← Nat.pow_add]
    congr 2
    omega
  · rw [show l.toNat = 0 by omega, Nat.pow_zero, Nat.mul_one]
    have hk : k = m * 2 ^ (-l).toNat := by
      refine Nat.eq_of_mul_eq_mul_right (Nat.two_pow_pos j) ?_
      rw [← b, Nat.mul_assoc, ← Nat.pow_add]
      congr 2
      omega
    rw [hk]
    by_cases hm : m = 0
    · subst hm
      rw [Nat.zero_mul]
      unfold Toward.cut
      simp
    · exact cut_exact .zero false m _ (fun h => absurd h hm)
set_option maxRecDepth 20000 in
theorem rcnv_to_int {s d : TypeId} {b : Nat} {n : Int} {K : Value → Prop} (hs : P.underlying s = some (.float .f64)) (hd : P.underlying d = some (.int .i64)) (h : (double.read b).toInt .zero = some n) (h1 : -9223372036854775808 ≤ n) (h2 : n ≤ 9223372036854775807) (H : K (.int .i64 n)) : rcnv P s d (.float .f64 b) w K := by
  unfold rcnv convert
  rw [rd_bind']
  refine rd_of_rv _ (rv_underlying hs) ?_
  rw [rd_bind']
  refine rd_of_rv _ (rv_underlying hd) ?_
  simp only [Conv.floatToInt]
  have : (FloatKind.f64.decode b).toInt .zero = some n := h
  rw [this]
  simp only
  rw [if_pos (show IntKind.i64.min ≤ n ∧ n ≤ IntKind.i64.max from ⟨by rw [show IntKind.i64.min = -9223372036854775808 from rfl]; exact h1, by rw [show IntKind.i64.max = 9223372036854775807 from rfl]; exact h2⟩)]
  exact H

theorem mul_two_le {a m d j : Nat} (h : a ≤ m) (hj : j < d) : a * 2 ≤ m * 2 ^ (d - j) := by
  have h2 : 2 ^ 1 ≤ 2 ^ (d - j) := Nat.pow_le_pow_right (by decide) (by omega)
  exact Nat.mul_le_mul h h2
theorem norm_f {b : Nat} (h : Vc.Fin single b) (hd : -149 < fE b) : 8388608 ≤ (fM b).natAbs := by
  have hx : 0 < b / 8388608 % 256 := by
    refine Nat.pos_of_ne_zero fun h0 => ?_
    unfold fE at hd
    rw [if_neg (by omega)] at hd
    omega
  unfold fM
  simp only [hx, if_true]
  split <;> omega
set_option maxRecDepth 20000 in
theorem c_l01Parts {b : Nat} (h : Vc.Fin single b) (hb : b < 4294967296) (H : K (.tuple #[.int .i64 ((fM b).natAbs : Int), .int .i64 (fE b)]) w) : call P f_spec_l01Parts [fl b] w K := by
  refine I_spec_l01Parts ?_
  unfold D_spec_l01Parts
  refine c_l01Abs h hb fun a ha hfa hra => ?_
  have hM := fM_abs b
  have hbl : bl (fM b).natAbs ≤ 24 := bl_le.2 (by exact hM)
  have hE : -149 ≤ fE b ∧ fE b ≤ 104 := by have := f_bd h; have h1 := this.low; unfold fE at *; rw [fin_iff_bits] at h; split <;> omega
  refine rcnv_widen u_float32 u_float64 fun r hr => ?_
  have hw : r = W64 false (fM b).natAbs (fE b) := by
    rcases hr with ⟨_, hr⟩ | ⟨hn, _⟩
    · rw [hr]; unfold wid; rw [hra]; rfl
    · exact absurd hfa (not_fin_of_nan hn)
  subst hw
  refine c_l01Twos (by omega) (by omega) (by omega) (by omega) (by omega) ?_
  obtain ⟨d, hd⟩ : ∃ d : Nat, fE b + 149 = d := ⟨(fE b + 149).toNat, by omega⟩
  rw [hd]
  refine ⟨fun g x y w' => w' = w ∧ ∃ j : Nat, x = .int .i64 (-149 + j) ∧ y = .float .f64 (W64 false (fM b).natAbs ((d : Int) - j)) ∧ g + j = d, ⟨d, rfl, 0, rfl, by simp, rfl⟩, ?_⟩
  rintro g x y junk w' ⟨rfl, j, rfl, rfl, hg⟩
  rw [bin_fgeq, p2464]
  have hge := order_ge (m := (fM b).natAbs) (e := (d : Int) - j) (n := 16777216) (g := 0) (Has64 (by omega) (by omega) (by omega)) (Has64 (by decide) (by decide) (by decide))
  rw [show FloatKind.f64.format = double from rfl, hge]
  have hcmp : (dy (16777216 : Nat) 0 ≤ dy ((fM b).natAbs : Int) ((d : Int) - j)) ↔ j < d := by
    have e1 : dy ((fM b).natAbs : Int) ((d : Int) - j) = dy (((fM b).natAbs * 2 ^ (d - j) : Nat) : Int) 0 := by
      rw [Int.natCast_mul, Int.natCast_pow]
      exact (dy_shift' (by omega)).symm
    rw [e1, dy_le]
    constructor
    · intro hle
      refine Nat.lt_of_not_le fun hc => ?_
      rw [show d - j = 0 by omega, Nat.pow_zero, Nat.mul_one] at hle
      omega
    · intro hlt
      have h3 := mul_two_le (norm_f h (by omega)) hlt
      generalize (fM b).natAbs * 2 ^ (d - j) = y at *
      omega
  refine cnd_dec (fun hy => ?_) (fun hn => ?_)
  · have hlt := hcmp.1 hy
    refine rbin_float (by simp) fun r hr => ?_
    have hm := div_two (s := false) hsd (by decide) (Has64 (m := (fM b).natAbs) (e := (d : Int) - j) (by omega) (by omega) (by omega)) (Has64 (m := 1) (e := 1) (by decide) (by decide) (by decide))
    rw [← two64] at hm
    have := FR_some hr (show floatBits .quo .f64 _ _ = some _ from hm)
    subst this
    rw [bin_add, wrap_i64 (by omega) (by omega)]
    exact ⟨g - 1, by omega, rfl, j + 1, by congr 1; omega, by congr 2; omega, by omega⟩
  · have hj : j = d := by
      have : ¬ j < d := fun q => hn (hcmp.2 q)
      omega
    subst hj
    rw [Int.sub_self]
    refine rcnv_to_int u_float64 u_int64 (toInt_W (Has64 (by omega) (by omega) (by omega))) (by omega) (by omega) ?_
    rw [show -149 + (j : Int) = fE b by omega]
    exact H

theorem c_l03Of {b : Nat} (h : Vc.Fin single b) (hb : b < 4294967296) (H : ∀ v' w', Ext w w' → DQ w' v' 149 128 (fq b) → K v' w') : call P f_spec_l03Of [fl b] w K := by
  have hM := fM_abs b
  have hs := sgn_f hb
  refine I_spec_l03Of ?_
  unfold D_spec_l03Of
  refine alc_Dy fun x w1 ⟨cs, hcs, b1⟩ e1 => ?_
  refine c_l01Parts h hb ?_
  rw [xtr_0, xtr_1, bin_flss, show FloatKind.f32.format.order b 0 = some (compare (fM b) 0) from order_zero h hb]
  have H' : ∀ v' w' m' e', Ext w w' → Do w' w.heap.size w'.heap.size v' m' e' → Cn 149 128 (fq b) m' e' → K v' w' := fun v' w' m' e' he hd hc => H v' w' he ⟨m', e', hd.Dr, hc⟩
  by_cases h1 : fM b < 0
  · rw [Int.compare_eq_lt.2 h1]
    refine cnd_yes rfl ?_
    rw [una_neg_int, wrap_i64 (by omega) (by omega), show (0 : Int) - ((fM b).natAbs : Int) = fM b by omega]
    refine c_l02Of (by omega) (by omega) fun v2 w2 e2 h2 => ?_
    exact dq_make (e1.trans e2) (b1.ext e2) hcs (Nat.le_refl _) h2.Wr (f_bd h) (by decide) (by decide) rfl H'
  · have hn : ¬ (compare (fM b) 0 = .lt) := fun q => h1 (Int.compare_eq_lt.1 q)
    refine cnd_no (by simpa using hn) ?_
    rw [show ((fM b).natAbs : Int) = fM b by omega]
    refine c_l02Of (by omega) (by omega) fun v2 w2 e2 h2 => ?_
    exact dq_make (e1.trans e2) (b1.ext e2) hcs (Nat.le_refl _) h2.Wr (f_bd h) (by decide) (by decide) rfl H'
end Go.Proofs.YtabgkpfcpncmhaaGreat

/- Contracts: variables that hold exact numbers; comparison; the results of the reference. -/
set_option linter.unusedVariables false
namespace Go.Proofs.YtabgkpfcpncmhaaGreat
open Go Go.Vc

variable {w : World} {K : Value → World → Prop} {g : Nat} {x v : Value} {lo hi : Nat} {q : Rat}

/-! ### variables of the program's numbers -/
def NC (w : World) (g : Nat) (x : Value) : Prop := blk x = some g ∧ ∃ cs, cs.length = 2 ∧ Bx w g t_impl_num x cs
def NV (w : World) (g : Nat) (x : Value) (lo hi : Nat) (q : Rat) : Prop := blk x = some g ∧ ∃ p e, Bx w g t_impl_num x (nm p e) ∧ NQ w (.agg #[p, .int .i64 e]) lo hi q
theorem NQ.kt {w' : World} {row : Option Nat} {e' : TypeId} (h : NQ w v lo hi q) (hg : w.grownBy w' row) (ht : Ty w row e') (h1 : t_uint32 ≠ e') (h2 : t_impl_integer ≠ e') : NQ w' v lo hi q := by
  obtain ⟨m, e, ⟨p, a, b⟩, c⟩ := h
  exact ⟨m, e, ⟨p, a, b.kt hg ht h1 h2⟩, c⟩
theorem NC.ext {w' : World} (h : NC w g x) (he : Ext w w') : NC w' g x := let ⟨a, cs, b, c⟩ := h; ⟨a, cs, b, c.ext he⟩
theorem NV.ext {w' : World} (h : NV w g x lo hi q) (he : Ext w w') : NV w' g x lo hi q := let ⟨a, p, e, b, c⟩ := h; ⟨a, p, e, b.ext he, c.ext he⟩
theorem NV.NC (h : NV w g x lo hi q) : NC w g x := let ⟨a, _, _, b, _⟩ := h; ⟨a, _, rfl, b⟩
theorem NV.mono {lo' hi' : Nat} (h : NV w g x lo hi q) (h1 : lo ≤ lo') (h2 : hi ≤ hi') : NV w g x lo' hi' q := let ⟨a, p, e, b, c⟩ := h; ⟨a, p, e, b, c.mono h1 h2⟩
theorem NV.get {K : Value → Prop} (h : NV w g x lo hi q) (H : ∀ v, NQ w v lo hi q → K v) : ld P t_impl_num x w K := let ⟨_, _, _, b, c⟩ := h; num_all b (H _ c)
theorem NV.getc {K : Value → Prop} (h : NV w g x lo hi q) (H : ∀ v, NQ w v lo hi q → K v) : ldc P t_impl_num x w K := let ⟨_, _, _, b, c⟩ := h; b.getc u_impl_num rfl i_impl_num rfl (H _ c)
theorem NC.put {K : World → Prop} (h : NC w g x) (hv : NQ w v lo hi q) (H : ∀ w', NV w' g x lo hi q → w.grownBy w' (some g) → Ty w (some g) t_impl_num → K w') : sto P t_impl_num x v w K := by
  obtain ⟨hg, cs, hl, b⟩ := h
  have t := Ty.box b
  obtain ⟨m, e, ⟨p, rfl, ip⟩, hb, hq⟩ := hv
  refine b.put i_impl_num (ds := nm p e) rfl hl (one_2 ip.one rfl) fun w' b' g' => ?_
  rw [hg] at g' t
  exact H w' ⟨hg, p, e, b', m, e, ⟨p, rfl, ip.kt g' t (by decide) (by decide)⟩, hb, hq⟩ g' t
theorem alc_NC {KW : Value → World → Prop} (H : ∀ x w', NC w' w.heap.size x → Ext w w' → KW x w') : alc P t_impl_num w KW :=
  alc_bx i_impl_num fun x w' b e hp => H x w' ⟨hp, _, rfl, b⟩ e
theorem NV.ty (h : NV w g x lo hi q) : Ty w (some g) t_impl_num := let ⟨a, _, _, b, _⟩ := h; a ▸ Ty.box b
theorem NV.lt (h : NV w g x lo hi q) : g < w.heap.size := let ⟨a, _, _, b, _⟩ := h; (b.blk_lt a).2
theorem NC.lt (h : NC w g x) : g < w.heap.size := let ⟨a, _, _, b⟩ := h; (b.blk_lt a).2
theorem ext_gr {w w' w'' : World} {g : Nat} (he : Ext w w') (hw : w.heap.size ≤ g) (hg : w'.grownBy w'' (some g)) : Ext w w'' :=
  ext_of_grown he (fun k hk => by cases hk; exact hw) hg

/-! ### variables of the reference's numbers -/
def DC (w : World) (g : Nat) (x : Value) : Prop := blk x = some g ∧ ∃ cs, cs.length = 3 ∧ Bx w g t_impl_Dyadic x cs
def DV (w : World) (g : Nat) (x : Value) (lo hi : Nat) (q : Rat) : Prop := blk x = some g ∧ ∃ n s e, Bx w g t_impl_Dyadic x (dv3 n s e) ∧ DQ w (.agg #[.int .i64 n, s, .int .i64 e]) lo hi q
theorem DC.ext {w' : World} (h : DC w g x) (he : Ext w w') : DC w' g x := let ⟨a, cs, b, c⟩ := h; ⟨a, cs, b, c.ext he⟩
theorem DV.ext {w' : World} (h : DV w g x lo hi q) (he : Ext w w') : DV w' g x lo hi q := let ⟨a, p, s, e, b, c⟩ := h; ⟨a, p, s, e, b.ext he, c.ext he⟩
theorem DV.DC (h : DV w g x lo hi q) : DC w g x := let ⟨a, _, _, _, b, _⟩ := h; ⟨a, _, rfl, b⟩
theorem DV.mono {lo' hi' : Nat} (h : DV w g x lo hi q) (h1 : lo ≤ lo') (h2 : hi ≤ hi') : DV w g x lo' hi' q := let ⟨a, p, s, e, b, c⟩ := h; ⟨a, p, s, e, b, c.mono h1 h2⟩
theorem DV.get {K : Value → Prop} (h : DV w g x lo hi q) (H : ∀ v, DQ w v lo hi q → K v) : ld P t_impl_Dyadic x w K := let ⟨_, _, _, _, b, c⟩ := h; dy_all b (H _ c)
theorem DV.getc {K : Value → Prop} (h : DV w g x lo hi q) (H : ∀ v, DQ w v lo hi q → K v) : ldc P t_impl_Dyadic x w K := let ⟨_, _, _, _, b, c⟩ := h; b.getc u_impl_Dyadic rfl i_impl_Dyadic rfl (H _ c)
theorem DC.put {K : World → Prop} (h : DC w g x) (hv : DQ w v lo hi q) (H : ∀ w', DV w' g x lo hi q → w.grownBy w' (some g) → Ty w (some g) t_impl_Dyadic → K w') : sto P t_impl_Dyadic x v w K := by
  obtain ⟨hg, cs, hl, b⟩ := h
  have t := Ty.box b
  obtain ⟨m, e, hd, hc⟩ := hv
  refine hd.put b hl fun w' ⟨s, hv, b'⟩ g' => ?_
  rw [hg] at g' t
  subst hv
  exact H w' ⟨hg, _, s, e, b', m, e, hd.kt g' t (by decide), hc⟩ g' t
theorem alc_DC {KW : Value → World → Prop} (H : ∀ x w', DC w' w.heap.size x → Ext w w' → KW x w') : alc P t_impl_Dyadic w KW :=
  alc_bx i_impl_Dyadic fun x w' b e hp => H x w' ⟨hp, _, rfl, b⟩ e
theorem DV.ty (h : DV w g x lo hi q) : Ty w (some g) t_impl_Dyadic := let ⟨a, _, _, _, b, _⟩ := h; a ▸ Ty.box b
theorem DV.lt (h : DV w g x lo hi q) : g < w.heap.size := let ⟨a, _, _, _, b, _⟩ := h; (b.blk_lt a).2
theorem DC.lt (h : DC w g x) : g < w.heap.size := let ⟨a, _, _, b⟩ := h; (b.blk_lt a).2
/-- A store into the whole part. -/
theorem dy_wput {base : Nat} {x s s' : Value} {n n' e : Int} {KW : World → Prop} (h : Bx w base t_impl_Dyadic x (dv3 n s e)) (h1 : s'.oneCell' = true) (H : ∀ w', Bx w' base t_impl_Dyadic x (dv3 n' s' e) → w.grownBy w' (blk x) → KW w') :
    fda P t_impl_Dyadic x 0 w (fun a => sto P t_impl_Whole a (.agg #[.int .i64 n', s']) w KW) := by
  obtain ⟨g, rfl, hb, hg⟩ := h
  rw [d_impl_Dyadic_0, addr_zero]
  have b1 := setCell_block (off := 0) (x := .int .i64 n') hg
  have b2 := setCell_block (off := 1) (x := s') b1
  refine sto_agg (cs := [.int .i64 n', s']) i_impl_Whole rfl (one_2 rfl h1) (fun j hj => ?_) (H ((w.setCell ⟨g, 0, none⟩ (.int .i64 n')).setCell ⟨g, 1, none⟩ s') ⟨g, rfl, hb, b2⟩ (grown_trans setCell_grown setCell_grown))
  have hj : j < 2 := hj
  match j, hj with
  | 0, _ => exact ⟨.int .i64 n, by rw [Addr.add_lit]; simp [World.cell?, hg, dv3], by rw [Addr.add_lit]; simp [World.frozen?, hg]⟩
  | 1, _ => exact ⟨s, by rw [Addr.add_lit]; simp [World.cell?, hg, dv3], by rw [Addr.add_lit]; simp [World.frozen?, hg]⟩
/-- The absolute value, in its place. -/
theorem DV.absv {KW : World → Prop} (h : DV w g x lo hi q) (hl : lo ≤ 1000000000) (hh : hi ≤ 1000000000) (H : ∀ w1 w', Ext w w1 → w1.grownBy w' (some g) → DV w' g x lo hi (absQ q) → KW w') :
    fda P t_impl_Dyadic x 0 w fun a => ld P t_impl_Whole a w fun b => call P f_spec_l02Abs [b] w fun c w1 => fda P t_impl_Dyadic x 0 w1 fun a => sto P t_impl_Whole a c w1 KW := by
  obtain ⟨hg, n, s, e, b, m, e', ⟨s2, l, hv, h1, wl⟩, hc⟩ := h
  simp only [Value.agg.injEq, Array.mk.injEq, List.cons.injEq, Value.int.injEq, true_and, and_true] at hv
  obtain ⟨rfl, rfl, rfl⟩ := hv
  have hbl := hc.bd.bl
  refine dy_w b ?_
  refine c_l02Abs ⟨s, l, rfl, h1, wl⟩ (by omega) fun v2 w2 e2 h2 => ?_
  obtain ⟨s', l', rfl, ho, hw⟩ := h2
  have b2 := b.ext e2
  refine dy_wput b2 (own_one ho) fun w3 b3 g3 => ?_
  have t2 := Ty.box b2
  have ho3 := (LR.of ho.own).kt g3 t2 (by decide)
  rw [hg] at g3
  refine H w2 w3 e2 g3 ⟨hg, _, s', e, b3, (m.natAbs : Int), e, ⟨s', l', rfl, ho3, hw⟩, ?_, hc.bd.abs, ?_⟩
  · rcases hc.canon with ⟨a1, a2⟩ | a1
    · exact .inl ⟨by omega, a2⟩
    · exact .inr (by omega)
  · rw [hc.val, absQ_dy]

theorem fld_dy_s {n e : Int} {s : Value} {K : Value → Prop} (hs : ∃ a l c, s = .slice a l c) (H : K (.int .i64 n)) : fld P t_impl_Dyadic (.agg #[.int .i64 n, s, .int .i64 e]) 0 w (fun a => fld P t_impl_Whole a 0 w K) := by
  obtain ⟨a, l, c, rfl⟩ := hs
  exact ⟨.agg #[.int .i64 n, .slice a l c], by kernel_rfl, .int .i64 n, by kernel_rfl, H⟩

/-! ### 'Is' and 'Fit' -/
end Go.Proofs.YtabgkpfcpncmhaaGreat

/- Elimination: what it computes, and the data it works on. -/
set_option linter.unusedVariables false
namespace Go.Proofs.YtabgkpfcpncmhaaGreat
open Go Go.Vc

variable {w : World} {K : Value → World → Prop}

/-! ### what is computed -/
def swapL {α : Type} (l : List α) (i j : Nat) (d : α) : List α := (l.set i (l.getD j d)).set j (l.getD i d)
def sw (i j p : Nat) : Nat := if p = j then i else if p = i then j else p
@[simp] theorem swapL_length {α : Type} (l : List α) (i j : Nat) (d : α) : (swapL l i j d).length = l.length := by simp [swapL]
theorem swapL_get {α : Type} {l : List α} {i j : Nat} {d : α} (hi : i < l.length) (hj : j < l.length) (p : Nat) : (swapL l i j d)[p]? = l[sw i j p]? := by
  unfold swapL sw
  rw [List.getElem?_set]
  by_cases h1 : j = p
  · subst h1
    simp [hi, hj]
  · rw [if_neg h1, List.getElem?_set, if_neg (fun e : p = j => h1 e.symm)]
    by_cases h2 : i = p
    · subst h2
      simp [hi, hj]
    · rw [if_neg h2, if_neg (fun e : p = i => h2 e.symm)]
theorem swapL_comm {α : Type} {l : List α} {i j : Nat} {d : α} (hi : i < l.length) (hj : j < l.length) : (l.set j (l.getD i d)).set i (l.getD j d) = swapL l i j d := by
  apply List.ext_getElem?
  intro p
  rw [swapL_get hi hj]
  have := swapL_get (d := d) hj hi p
  unfold swapL at this
  rw [this]
  unfold sw
  by_cases h1 : p = i
  · subst h1
    by_cases h2 : p = j
    · subst h2; rfl
    · rw [if_pos rfl, if_neg h2, if_pos rfl]
  · by_cases h2 : p = j
    · subst h2; rw [if_neg h1, if_pos rfl, if_pos rfl]
    · rw [if_neg h1, if_neg h2, if_neg h2, if_neg h1]

def szF (a : Nat) : Nat := if Ieee.single.order a 0 == some .lt then Op.negFloat .f32 a else a
def absF (a : Nat) : Nat := if Ieee.single.order a 0 == some .lt then Op.negFloat .f32 a else if Ieee.single.order a 0 == some .eq then 0 else a
def gtF (a b : Nat) : Bool := Ieee.single.order (szF a) (szF b) == some .gt
def isZ (a : Nat) : Bool := Ieee.single.order a 0 == some .eq

theorem signed_zero (s : Bool) (k : Nat) : Ieee.signed s 0 k = 0 := by unfold Ieee.signed; cases s <;> simp
theorem signed_eq_zero {s : Bool} {m k : Nat} (h : Ieee.signed s m k = 0) : m = 0 := by
  unfold Ieee.signed at h
  have h1 : m <<< k = 0 := by cases s <;> simp at h <;> simpa using h
  rw [Nat.shiftLeft_eq] at h1
  rcases Nat.mul_eq_zero.1 h1 with h | h
  · exact h
  · exact absurd h (Nat.pos_iff_ne_zero.1 (Nat.two_pow_pos k))
theorem read_isZ {a : Nat} (ha : Fin Ieee.single a) (h : isZ a = true) : ∃ s e, Ieee.single.read a = .number s 0 e ∧ Ieee.single.read 0 = .number false 0 e := by
  have h0 : Ieee.single.read 0 = .number false 0 Ieee.single.leastPlace := by decide
  obtain ⟨m, e, hr⟩ := read_fin ha
  have hm : m = 0 := by
    unfold isZ Ieee.Format.order at h
    rw [h0, hr] at h
    simp only [Ieee.Datum.order, signed_zero, beq_iff_eq, Option.some.injEq] at h
    exact signed_eq_zero (by simpa using h)
  subst hm
  refine ⟨_, e, hr, ?_⟩
  rw [h0]
  unfold Ieee.Format.read at hr
  simp only [] at hr
  have hlt : a % Ieee.single.signWeight < Ieee.single.infRung := ha
  by_cases hb : a % Ieee.single.signWeight < Ieee.single.binade
  · rw [if_pos hb] at hr
    simp only [Ieee.Datum.number.injEq] at hr
    rw [hr.2.2]
  · rw [if_neg hb, if_pos hlt] at hr
    simp only [Ieee.Datum.number.injEq] at hr
    have := hr.2.1
    have hb0 : 0 < Ieee.single.binade := by decide
    omega
theorem order_zl {a : Nat} (ha : Fin Ieee.single a) (h : isZ a = true) (y : Nat) : Ieee.single.order a y = Ieee.single.order 0 y := by
  obtain ⟨s, e, h1, h2⟩ := read_isZ ha h
  unfold Ieee.Format.order
  rw [h1, h2]
  cases Ieee.single.read y <;> simp [Ieee.Datum.order, signed_zero]
theorem order_zr {a : Nat} (ha : Fin Ieee.single a) (h : isZ a = true) (y : Nat) : Ieee.single.order y a = Ieee.single.order y 0 := by
  obtain ⟨s, e, h1, h2⟩ := read_isZ ha h
  unfold Ieee.Format.order
  rw [h1, h2]
  cases Ieee.single.read y <;> simp [Ieee.Datum.order, signed_zero]
theorem absF_szF {a : Nat} : absF a = szF a ∨ (isZ a = true ∧ absF a = 0 ∧ szF a = a) := by
  unfold absF szF isZ
  cases h : Ieee.single.order a 0 with
  | none => simp
  | some o => cases o <;> simp
theorem gt_abs {a b : Nat} (ha : Fin Ieee.single a) (hb : Fin Ieee.single b) : (Ieee.single.order (absF a) (absF b) == some .gt) = gtF a b := by
  unfold gtF
  rcases absF_szF (a := a) with h1 | ⟨z1, h1, e1⟩
  · rcases absF_szF (a := b) with h2 | ⟨z2, h2, e2⟩
    · rw [h1, h2]
    · rw [h1, h2, e2, order_zr hb z2]
  · rcases absF_szF (a := b) with h2 | ⟨z2, h2, e2⟩
    · rw [h1, h2, e1, order_zl ha z1]
    · rw [h1, h2, e1, e2, order_zl ha z1, order_zr hb z2]
theorem gtF_self (a : Nat) : gtF a a = false := by
  unfold gtF Ieee.Format.order
  cases Ieee.single.read (szF a) <;> simp [Ieee.Datum.order]

theorem c_spec_l01Abs {a : Nat} (H : K (fl (absF a)) w) : call P f_spec_l01Abs [fl a] w K := by
  refine I_spec_l01Abs ?_
  unfold D_spec_l01Abs
  rw [bin_flss]
  unfold absF at H
  refine cnd_split (fun h => ?_) (fun h => ?_)
  · rw [show (Ieee.single.order a 0 == some .lt) = true from h, if_pos rfl] at H
    rw [una_neg_float]; exact H
  · rw [show (Ieee.single.order a 0 == some .lt) = false from h, if_neg (by simp)] at H
    rw [bin_feql]
    refine cnd_split (fun h => ?_) (fun h => ?_)
    · rw [show (Ieee.single.order a 0 == some .eq) = true from h, if_pos rfl] at H
      exact H
    · rw [show (Ieee.single.order a 0 == some .eq) = false from h, if_neg (by simp)] at H
      exact H

def bestF (m : List (List Nat)) (k : Nat) : Nat → Nat → Nat → Nat
  | 0, _, b => b
  | f + 1, i, b => bestF m k f (i + 1) (if gtF (cell m i k) (cell m b k) then i else b)
/-- The row below a pivot: its columns from j on. -/
def colsE (p : List Nat) (q : Nat) : Nat → Nat → List Nat → Option (List Nat)
  | 0, _, r => some r
  | f + 1, j, r => if finB (opF .sub (r.getD j 0) (opF .mul q (p.getD j 0))) then colsE p q f (j + 1) (r.set j (opF .sub (r.getD j 0) (opF .mul q (p.getD j 0)))) else none
def rowE (n k : Nat) (p r : List Nat) : Option (List Nat) :=
  if finB (opF .quo (r.getD k 0) (p.getD k 0)) then colsE p (opF .quo (r.getD k 0) (p.getD k 0)) (n - (k + 1)) (k + 1) (r.set k (opF .quo (r.getD k 0) (p.getD k 0))) else none
def rowsE (n k : Nat) : Nat → Nat → List (List Nat) → Option (List (List Nat))
  | 0, _, m => some m
  | f + 1, i, m => match rowE n k (m.getD k []) (m.getD i []) with
    | none => none
    | some r => rowsE n k f (i + 1) (m.set i r)
def elimE (n : Nat) : Nat → Nat → List Nat → List (List Nat) → Except Int (List Nat × List (List Nat))
  | 0, _, o, m => .ok (o, m)
  | f + 1, k, o, m =>
    if isZ (cell (swapL m k (bestF m k (n - k) k k) []) k k) then .error 5
    else match rowsE n k (n - (k + 1)) (k + 1) (swapL m k (bestF m k (n - k) k k) []) with
      | none => .error 3
      | some m' => elimE n f (k + 1) (swapL o k (bestF m k (n - k) k k) 0) m'
def elimF (m : List (List Nat)) : Except Int (List Nat × List (List Nat)) := elimE m.length m.length 0 (List.range m.length) m

theorem bestF_start {m : List (List Nat)} {k n : Nat} (h : k < n) : bestF m k (n - k) k k = bestF m k (n - (k + 1)) (k + 1) k := by
  have : n - k = (n - (k + 1)) + 1 := by omega
  rw [this, bestF, gtF_self]; simp
theorem bestF_range {m : List (List Nat)} {k n : Nat} : ∀ {f i b : Nat}, f + i ≤ n → b < n → k ≤ b → k ≤ i → bestF m k f i b < n ∧ k ≤ bestF m k f i b
  | 0, i, b, h1, h2, h3, h4 => ⟨h2, h3⟩
  | f + 1, i, b, h1, h2, h3, h4 => by
    rw [bestF]
    refine bestF_range (by omega) ?_ ?_ (by omega) <;> split <;> omega

/-- What is true of the table all along. -/
structure Good (n : Nat) (m : List (List Nat)) : Prop where
  sq : square n m
  fin : ∀ r ∈ m, r.all finB = true
  lt : bits m
theorem Good.cellFin {n : Nat} {m : List (List Nat)} (h : Good n m) (i j : Nat) : finB (cell m i j) = true := cell_fin h.fin i j
theorem Good.len {n : Nat} {m : List (List Nat)} (h : Good n m) : m.length = n := h.sq.1
theorem Good.row {n : Nat} {m : List (List Nat)} (h : Good n m) {i : Nat} (hi : i < m.length) : m[i].length = n := h.sq.row hi
theorem Good.set {n : Nat} {m : List (List Nat)} (h : Good n m) (i : Nat) {r : List Nat} (h1 : r.length = n) (h2 : r.all finB = true) (h3 : ∀ b ∈ r, b < 4294967296) : Good n (m.set i r) := by
  refine ⟨⟨by rw [List.length_set]; exact h.sq.1, fun x hx => ?_⟩, fun x hx => ?_, fun x hx => ?_⟩
  all_goals
    rcases List.mem_or_eq_of_mem_set hx with hx | rfl
    · first | exact h.sq.2 x hx | exact h.fin x hx | exact h.lt x hx
    · first | exact h1 | exact h2 | exact h3
theorem mem_swapL {α : Type} {l : List α} {i j : Nat} {d x : α} (hi : i < l.length) (hj : j < l.length) (hx : x ∈ swapL l i j d) : x ∈ l := by
  obtain ⟨p, hp⟩ := List.mem_iff_getElem?.1 hx
  rw [swapL_get hi hj] at hp
  exact List.mem_iff_getElem?.2 ⟨_, hp⟩
theorem Good.swap {n : Nat} {m : List (List Nat)} (h : Good n m) {i j : Nat} (hi : i < m.length) (hj : j < m.length) : Good n (swapL m i j []) :=
  ⟨⟨by rw [swapL_length]; exact h.sq.1, fun x hx => h.sq.2 x (mem_swapL hi hj hx)⟩, fun x hx => h.fin x (mem_swapL hi hj hx), fun x hx => h.lt x (mem_swapL hi hj hx)⟩
theorem all_set {r : List Nat} {j x : Nat} (h : r.all finB = true) (hx : finB x = true) : (r.set j x).all finB = true := by
  rw [List.all_eq_true] at *
  intro b hb
  rcases List.mem_or_eq_of_mem_set hb with hb | rfl
  · exact h b hb
  · exact hx
theorem lt_set {r : List Nat} {j x : Nat} (h : ∀ b ∈ r, b < 4294967296) (hx : x < 4294967296) : ∀ b ∈ r.set j x, b < 4294967296 := by
  intro b hb
  rcases List.mem_or_eq_of_mem_set hb with hb | rfl
  · exact h b hb
  · exact hx
theorem colsE_step {p r : List Nat} {q n j : Nat} (h : j < n) : colsE p q (n - j) j r = if finB (opF .sub (r.getD j 0) (opF .mul q (p.getD j 0))) then colsE p q (n - (j + 1)) (j + 1) (r.set j (opF .sub (r.getD j 0) (opF .mul q (p.getD j 0)))) else none := by
  rw [show n - j = (n - (j + 1)) + 1 by omega, colsE]
theorem colsE_end {p r : List Nat} {q n j : Nat} (h : n ≤ j) : colsE p q (n - j) j r = some r := by
  rw [show n - j = 0 by omega, colsE]
theorem rowsE_step {n k i : Nat} {m : List (List Nat)} (h : i < n) : rowsE n k (n - i) i m = match rowE n k (m.getD k []) (m.getD i []) with
    | none => none
    | some r => rowsE n k (n - (i + 1)) (i + 1) (m.set i r) := by
  rw [show n - i = (n - (i + 1)) + 1 by omega, rowsE]
theorem rowsE_end {n k i : Nat} {m : List (List Nat)} (h : n ≤ i) : rowsE n k (n - i) i m = some m := by
  rw [show n - i = 0 by omega, rowsE]
theorem elimE_step {n k : Nat} {o : List Nat} {m : List (List Nat)} (h : k < n) : elimE n (n - k) k o m = if isZ (cell (swapL m k (bestF m k (n - k) k k) []) k k) then .error 5
    else match rowsE n k (n - (k + 1)) (k + 1) (swapL m k (bestF m k (n - k) k k) []) with
      | none => .error 3
      | some m' => elimE n (n - (k + 1)) (k + 1) (swapL o k (bestF m k (n - k) k k) 0) m' := by
  rw [show elimE n (n - k) k o m = elimE n ((n - (k + 1)) + 1) k o m by rw [show n - k = (n - (k + 1)) + 1 by omega], elimE]
theorem elimE_end {n k : Nat} {o : List Nat} {m : List (List Nat)} (h : n ≤ k) : elimE n (n - k) k o m = .ok (o, m) := by
  rw [show n - k = 0 by omega, elimE]
end Go.Proofs.YtabgkpfcpncmhaaGreat

/- Elimination: an elimination's data in the heap, and what its steps do to them. -/
set_option linter.unusedVariables false
namespace Go.Proofs.YtabgkpfcpncmhaaGreat
open Go Go.Vc

variable {w : World} {K : Value → World → Prop}

abbrev ivN (n : Nat) : Value := .int .i64 (n : Int)
abbrev OI (w : World) (base : Nat) (v : Value) (l : List Nat) : Prop := w.ownsRow base t_int64 1 v l.length (l.map ivN)
theorem oneCell_iv (n : Nat) : (ivN n).oneCell' = true := rfl

section
variable {lo hi : Nat} {v : Value} {m : List (List Nat)} {vs : List Value}
theorem OM.keep {w' : World} {row : Option Nat} {e : TypeId} (h : OM w lo hi v m vs) (hg : w.grownBy w' row) (ht : Ty w row e) (h1 : t_s_float32 ≠ e) (h2 : t_float32 ≠ e) : OM w' lo hi v m vs :=
  ⟨keep_row h.outer hg ht h1, fun i hi => let ⟨x, hx, ho, hk⟩ := h.rows i hi; ⟨x, hx, keep_row ho hg ht h2, hk⟩, h.apart, h.top⟩
theorem OM.pushed {w' : World} {v' : Value} {hi2 : Nat} {r : Value} {l : List Nat} (h : OM w lo hi v m vs) (hr : OwnR w hi hi2 t_float32 1 r l.length (l.map fl)) (hlh : lo ≤ hi)
    (h1 : w'.ownsRow lo t_s_float32 1 v' (m.length + 1) (vs ++ [r])) (h2 : w.grownBy w' v.ownBlock) : OM w' lo w'.heap.size v' (m ++ [l]) (vs ++ [r]) := by
  refine ⟨by simpa using h1, fun i hi' => ?_, fun i j x y hij hx hy => ?_, fun k hk => (h1.lt k hk).2⟩
  · by_cases he : i < m.length
    · obtain ⟨x, hx, ho, hk⟩ := h.rows i he
      have hv : i < vs.length := (List.getElem?_eq_some_iff.1 hx).1
      refine ⟨x, by rw [List.getElem?_append_left hv]; exact hx, ?_, fun k hkk => ?_⟩
      · rw [List.getElem_append_left he]
        exact ho.kept h2 (owns_ne ho h.outer (by decide))
      · have := (ho.lt k hkk).2
        have := h2.size
        omega
    · have hi'' : i = m.length := by simp at hi'; omega
      subst hi''
      refine ⟨r, by rw [← h.vlen]; simp, ?_, fun k hkk => ?_⟩
      · rw [List.getElem_append_right (Nat.le_refl _)]
        simp only [Nat.sub_self, List.getElem_cons_zero]
        exact owns_base (hr.own.kept h2 (owns_ne hr.own h.outer (by decide))) hlh
      · have := (hr.own.lt k hkk).2
        have := h2.size
        omega
  · by_cases he : j < vs.length
    · rw [List.getElem?_append_left he] at hy
      rw [List.getElem?_append_left (by omega)] at hx
      exact h.apart i j x y hij hx hy
    · have hjl := (List.getElem?_eq_some_iff.1 hy).1
      have : j = vs.length := by simp at hjl; omega
      subst this
      simp at hy; subst hy
      rw [List.getElem?_append_left hij] at hx
      have hvl := h.vlen
      obtain ⟨x', hx', ho', hk'⟩ := h.rows i (by omega)
      rw [hx] at hx'; cases hx'
      cases hob : x.ownBlock with
      | none => exact .inl rfl
      | some k =>
        refine .inr fun hne => ?_
        have h1 := hk' k hob
        have h2 := (hr.own.lt k hne.symm).1
        omega
theorem OM.bound (h : OM w lo hi v m vs) : m.length ≤ maxLen := owns_bound h.outer
theorem sw_sw (i j p : Nat) : sw i j (sw i j p) = p := by
  unfold sw
  by_cases e1 : p = j
  · subst e1
    rw [if_pos rfl]
    by_cases e2 : i = p
    · rw [if_pos e2]; exact e2
    · rw [if_neg e2, if_pos rfl]
  · rw [if_neg e1]
    by_cases e2 : p = i
    · subst e2
      rw [if_pos rfl, if_pos rfl]
    · rw [if_neg e2, if_neg e1, if_neg e2]
/-- The outer row's cells change places. -/
theorem OM.perm {w' : World} {i j : Nat} {n : Nat} (h : OM w lo hi v m vs) (hi' : i < m.length) (hj' : j < m.length) (hn : n = m.length) (ho : w'.ownsRow lo t_s_float32 1 v n (swapL vs i j undef)) (hg : w.grownBy w' v.ownBlock) : OM w' lo hi v (swapL m i j []) (swapL vs i j undef) := by
  subst hn
  have hvl := h.vlen
  have hgv := fun p => swapL_get (l := vs) (d := undef) (i := i) (j := j) (by omega) (by omega) p
  have hgm := fun p => swapL_get (l := m) (d := []) (i := i) (j := j) hi' hj' p
  have hsw : ∀ p, p < m.length → sw i j p < m.length := by
    intro p hp
    unfold sw
    by_cases e1 : p = j
    · rw [if_pos e1]; exact hi'
    · rw [if_neg e1]
      by_cases e2 : p = i
      · rw [if_pos e2]; exact hj'
      · rw [if_neg e2]; exact hp
  have hinj : ∀ p q, p ≠ q → sw i j p ≠ sw i j q := fun p q hne he => hne (by rw [← sw_sw i j p, he, sw_sw])
  refine ⟨by rw [swapL_length]; exact ho, fun p hp => ?_, fun p q x y hpq hx hy => ?_, h.top⟩
  · have hp' : p < m.length := by simpa using hp
    obtain ⟨x, hx, hox, hk⟩ := h.rows (sw i j p) (hsw p hp')
    refine ⟨x, by rw [hgv]; exact hx, ?_, hk⟩
    have e : (swapL m i j [])[p] = m[sw i j p]'(hsw p hp') := by
      have := hgm p
      rw [List.getElem?_eq_getElem hp, List.getElem?_eq_getElem (hsw p hp')] at this
      exact Option.some.inj this
    rw [e]
    exact hox.kept hg (owns_ne hox h.outer (by decide))
  · rw [hgv] at hx hy
    rcases Nat.lt_or_ge (sw i j p) (sw i j q) with hlt | hge
    · exact h.apart _ _ x y hlt hx hy
    · have hne := hinj p q (by omega)
      rcases h.apart _ _ y x (by omega) hy hx with h1 | h1
      · cases hob : x.ownBlock with
        | none => exact .inl rfl
        | some k => exact .inr (by rw [h1]; simp)
      · exact .inr fun e => h1 e.symm
theorem OM.put' {i j : Nat} {r : Value} {x : Nat} {K : World → Prop} (h : OM w lo hi v m vs) (hr : vs[i]? = some r) (hi' : i < m.length) (hj : j < m[i].length)
    (H : ∀ w', OM w' lo hi v (m.set i (m[i].set j x)) vs → w.grownBy w' r.ownBlock → Ty w r.ownBlock t_float32 → (∀ k, r.ownBlock = some k → lo ≤ k) → K w') :
    ixa P t_s_float32 r (.int .i64 (j : Int)) w (fun a => sto P t_float32 a (fl x) w K) := by
  obtain ⟨r', hr', ho, hk⟩ := h.rows i hi'
  rw [hr] at hr'; cases hr'
  refine owns_set ho hj (oneCell_fl _) u_s_float32 i_float32 fun w' ho' hg => ?_
  have e : OS w' lo r (m[i].set j x) := by
    show w'.ownsRow lo t_float32 1 r (m[i].set j x).length ((m[i].set j x).map fl)
    rw [List.length_set, List.map_set]; exact ho'
  exact H w' (h.row hr hg e).1 hg (Ty.owns ho) fun k hk => (ho.lt k hk).1
theorem OM.atI (h : OM w lo hi v m vs) {i : Nat} (hi' : i < m.length) {K : Value → Prop} (H : ∀ r, vs[i]? = some r → K r) : ixa P t_s_s_float32 v (.int .i64 (i : Int)) w (fun a => ld P t_s_float32 a w K) :=
  h.at hi' fun r hr _ => H r hr
theorem OM.rowAt (h : OM w lo hi v m vs) {i j : Nat} {r : Value} (hr : vs[i]? = some r) (hi' : i < m.length) (hj : j < m[i].length) {K : Value → Prop} (H : K (fl m[i][j])) : ixa P t_s_float32 r (.int .i64 (j : Int)) w (fun a => ld P t_float32 a w K) := by
  obtain ⟨r', hr', ho, hk⟩ := h.rows i hi'
  rw [hr] at hr'; cases hr'
  exact (owns_Row ho).at1 (get_map hj) u_s_float32 i_float32 u_float32 rfl H
end

/-- The variables of an elimination at work: p holds its fields, q is the function's result. -/
structure EL (w : World) (B : Nat) (p q ov tv : Value) (o : List Nat) (m : List (List Nat)) (vs : List Value) : Prop where
  bx : Bx w B t_impl_Elimination p [ov, tv]
  res : Bx w B t_impl_Elimination q [.slice none 0 0, .slice none 0 0]
  ne : blk q ≠ blk p
  ord : OI w B ov o
  tab : OM w B w.heap.size tv m vs
section
variable {B : Nat} {p q ov tv : Value} {o : List Nat} {m : List (List Nat)} {vs : List Value}
theorem EL.ext {w' : World} (h : EL w B p q ov tv o m vs) (he : Ext w w') : EL w' B p q ov tv o m vs := ⟨h.bx.ext he, h.res.ext he, h.ne, owns_ext h.ord he, (h.tab.ext he).sized⟩
theorem EL.getO (h : EL w B p q ov tv o m vs) {K : Value → Prop} (H : K ov) : fda P t_impl_Elimination p 0 w (fun a => ld P t_s_int64 a w K) := Bx.fld h.bx (off := 0) rfl u_impl_Elimination rfl i_s_int64 u_s_int64 rfl H
theorem EL.getT (h : EL w B p q ov tv o m vs) {K : Value → Prop} (H : K tv) : fda P t_impl_Elimination p 1 w (fun a => ld P t_s_s_float32 a w K) := Bx.fld h.bx (off := 1) rfl u_impl_Elimination rfl i_s_s_float32 u_s_s_float32 rfl H
theorem EL.ordAt (h : EL w B p q ov tv o m vs) {i : Nat} (hi : i < o.length) {K : Value → Prop} (H : K (ivN o[i])) : ixa P t_s_int64 ov (.int .i64 (i : Int)) w (fun a => ld P t_int64 a w K) :=
  (owns_Row h.ord).at1 (get_map hi) u_s_int64 i_int64 u_int64 rfl H
/-- 'm[i][j] = x'. -/
theorem EL.put {i j : Nat} {r : Value} {x : Nat} {K : World → Prop} (h : EL w B p q ov tv o m vs) (hr : vs[i]? = some r) (hi' : i < m.length) (hj : j < m[i].length)
    (H : ∀ w', EL w' B p q ov tv o (m.set i (m[i].set j x)) vs → (∀ {A w0}, A ≤ B → A ≤ w.heap.size → RowKit.Below A w0 w → RowKit.Below A w0 w') → K w') :
    ixa P t_s_float32 r (.int .i64 (j : Int)) w (fun a => sto P t_float32 a (fl x) w K) := by
  refine h.tab.put' hr hi' hj fun w' ho hg ht hlo => H w' ⟨keep_box h.bx hg ht (by decide), keep_box h.res hg ht (by decide), h.ne, keep_row h.ord hg ht (by decide), ho.sized⟩ fun hA hs hb => hb.grown hg hs fun k hk => Nat.le_trans hA (hlo k hk)
/-- A store of a row into the table. -/
theorem EL.setO {i x : Nat} {K : World → Prop} (h : EL w B p q ov tv o m vs) (hi : i < o.length) (H : ∀ w', EL w' B p q ov tv (o.set i x) m vs → (∀ {A w0}, A ≤ B → A ≤ w.heap.size → RowKit.Below A w0 w → RowKit.Below A w0 w') → K w') :
    ixa P t_s_int64 ov (.int .i64 (i : Int)) w (fun a => sto P t_int64 a (ivN x) w K) := by
  refine owns_set h.ord hi (oneCell_iv x) u_s_int64 i_int64 fun w' ho hg => ?_
  have ht := Ty.owns h.ord
  refine H w' ⟨keep_box h.bx hg ht (by decide), keep_box h.res hg ht (by decide), h.ne, ?_, (h.tab.keep hg ht (by decide) (by decide)).sized⟩ fun hA hs hb => hb.grown hg hs fun k hk => Nat.le_trans hA (h.ord.lt k hk).1
  show w'.ownsRow B t_int64 1 ov (o.set i x).length ((o.set i x).map ivN)
  rw [List.length_set, List.map_set]; exact ho
/-- Two rows of the table change places: 't[i] = row j', then 't[j] = row i'. -/
theorem EL.swap1 {i j : Nat} {ri rj : Value} {K : World → Prop} (h : EL w B p q ov tv o m vs) (hi : i < m.length) (hj : j < m.length) (hri : vs[i]? = some ri) (hrj : vs[j]? = some rj)
    (H : ∀ w1, Bx w1 B t_impl_Elimination p [ov, tv] → (∀ {K2 : World → Prop}, (∀ w2, EL w2 B p q ov tv o (swapL m i j []) (swapL vs i j undef) → (∀ {A w0}, A ≤ B → A ≤ w.heap.size → RowKit.Below A w0 w → RowKit.Below A w0 w2) → K2 w2) →
      ixa P t_s_s_float32 tv (.int .i64 (j : Int)) w1 (fun a => sto P t_s_float32 a ri w1 K2)) → K w1) :
    ixa P t_s_s_float32 tv (.int .i64 (i : Int)) w (fun a => sto P t_s_float32 a rj w K) := by
  obtain ⟨ri', hri', oi, _⟩ := h.tab.rows i hi
  obtain ⟨rj', hrj', oj, _⟩ := h.tab.rows j hj
  rw [hri] at hri'; cases hri'
  rw [hrj] at hrj'; cases hrj'
  refine owns_set h.tab.outer hi (oneCell_sl oj) u_s_s_float32 i_s_float32 fun w1 o1 g1 => ?_
  have t1 := Ty.owns h.tab.outer
  refine H w1 (keep_box h.bx g1 t1 (by decide)) fun {K2} H2 => ?_
  refine owns_set o1 hj (oneCell_sl oi) u_s_s_float32 i_s_float32 fun w2 o2 g2 => ?_
  have g := grown_trans g1 g2
  have hvl := h.tab.vlen
  have e : (vs.set i rj).set j ri = swapL vs i j undef := by
    unfold swapL
    rw [List.getD_eq_getElem?_getD, List.getD_eq_getElem?_getD, hri, hrj]; rfl
  rw [e] at o2
  refine H2 w2 ⟨keep_box h.bx g t1 (by decide), keep_box h.res g t1 (by decide), h.ne, keep_row h.ord g t1 (by decide), (h.tab.perm hi hj rfl o2 g).sized⟩ fun hA hs hb => hb.grown g hs fun k hk => Nat.le_trans hA (h.tab.outer.lt k hk).1
end
end Go.Proofs.YtabgkpfcpncmhaaGreat

/- Elimination: the program's. -/
set_option linter.unusedVariables false
namespace Go.Proofs.YtabgkpfcpncmhaaGreat
open Go Go.Vc

variable {w : World} {K : Value → World → Prop}

theorem FSS.at0 {v : Value} {m : List (List Nat)} {w' : World} (h : FSS w v m) (he : Ext w w') {i : Nat} (hi : i < m.length) {K : Value → Prop} (H : ∀ x, FS w x m[i] → K x) : ixa P t_s_s_float32 v (.int .i64 (i : Int)) w' (fun a => ld P t_s_float32 a w' K) := by
  obtain ⟨vs, h1, h2⟩ := h.ex
  obtain ⟨x, hx, hf⟩ := h2 i hi
  exact (h1.ext he).at1 hx u_s_s_float32 i_s_float32 u_s_float32 rfl (H x hf)

/-- A field of one cell, with its address. -/
theorem Bx_fld2 {base : Nat} {t ty : TypeId} {p : Value} {cs : List Value} {z : Value} {b : Nat} {d : TypeDesc} {fs : Array Field} {f off : Nat} {x : Value} {K : Value → Value → Prop} (h : Bx w base t p cs) (hx : cs[off]? = some x) (hu : P.underlying t = some (.struct fs))
    (hf : (fs[f]?).map (fun x => (x.type, x.offset)) = some (ty, off)) (ht : TI P ty z 1 b) (hue : P.underlying ty = some d) (hd : aggB d = false)
    (H : ∀ a, (∀ {w' base' cs'}, Bx w' base' t p cs' → ∀ {K' : Value → Prop}, K' a → fda P t p f w' K') → (∀ {w' base' cs' y}, Bx w' base' t p cs' → cs'[off]? = some y → ∀ {K' : Value → Prop}, K' y → ld P ty a w' K') → K a x) :
    fda P t p f w (fun a => ld P ty a w (fun x => K a x)) := by
  obtain ⟨g, rfl, hc⟩ := h.cell
  have e0 : ∀ {w' : World} {K' : Value → Prop}, fda P t (.pointer (some ⟨g, 0, none⟩)) f w' K' = K' (.pointer (some ⟨g, off, none⟩)) := by
    intro w' K'
    rw [fda_off hu hf ht (by decide), Addr.add_lit, Nat.zero_add]
  rw [e0, ld_scalar hue hd (hc off x hx).1]
  refine H _ (fun h' K' hk => by rw [e0]; exact hk) (fun {w' base' cs' y} h' hy K' hk => ?_)
  obtain ⟨g', hg', hc'⟩ := h'.cell
  simp only [Value.pointer.injEq, Option.some.injEq, Addr.mk.injEq] at hg'
  obtain ⟨rfl, _⟩ := hg'
  rw [ld_scalar hue hd (hc' off y hy).1]; exact hk

theorem nb1 {b : Bool} (h : (!b) = true) : b = false := by simpa using h
theorem nb0 {b : Bool} (h : (!b) = false) : b = true := by simpa using h
theorem bslF0 {KW : Value → World → Prop} (H : ∀ w', Ext w w' → KW (.slice (some ⟨w.heap.size, 0, none⟩) 0 0) w') : bsl P t_s_float32 0 [] w KW := bsl_nil u_s_float32 i_float32 (H _ (Ext_alloc _ _))
theorem one2 {a b : Value} (ha : a.oneCell' = true) (hb : b.oneCell' = true) : ∀ x ∈ [a, b], x.oneCell' = true := by
  intro x hx
  simp at hx
  rcases hx with rfl | rfl
  · exact ha
  · exact hb
abbrev nilS : Value := .slice none 0 0
theorem bld_elim {K : Value → Prop} : bld P t_impl_Elimination [] w K = K (.agg #[nilS, nilS]) := bld_of (by kernel_rfl)

/-- One step of elimination in a row. -/
theorem step_sub {a b s p q : Nat} (ha : finB a = true) (hb : finB b = true) (hs : finB s = true) (hp : FR .mul .f32 a b p) (hq : FR .sub .f32 s p q) : p = opF .mul a b ∧ q = opF .sub s (opF .mul a b) ∧ (finB p = true ∨ finB p = false ∧ finB q = false) := by
  rw [finB_iff] at ha hb hs
  have hm := mul_fin (k := .f32) ha hb
  have e := FR_opF hp hm
  refine ⟨e, ?_⟩
  by_cases hf : Fin Ieee.single p
  · refine ⟨?_, .inl (finB_iff.2 hf)⟩
    rw [← e]
    exact FR_opF hq (sub_fin (k := .f32) hs hf)
  · refine ⟨?_, .inr ⟨finB_not.2 hf, finB_not.2 (sub_bad (k := .f32) hs hf hq)⟩⟩
    rw [← e]
    have hn : ¬ NaN Ieee.single p := by rw [e]; exact opF_nan hm
    rcases fin_inf_nan Ieee.single p with h | h | h
    · exact absurd h hf
    · have hread := read_inf hs1 h
      obtain ⟨m, e', h1⟩ := read_fin hs
      have : floatBits .sub .f32 s p = some (Ieee.single.write (.infinity (!(p / Ieee.single.signWeight % 2 == 1)))) := by
        show Ieee.single.sub s p = _
        unfold Ieee.Format.sub; rw [h1, hread]; rfl
      rw [FR_some hq this]
      unfold opF
      rw [this]; rfl
    · exact absurd h hn
theorem quo_ok {a b q : Nat} (ha : finB a = true) (hb : finB b = true) (hz : isZ b = false) (hq : FR .quo .f32 a b q) : q = opF .quo a b := by
  rw [finB_iff] at ha hb
  exact FR_opF hq (div_def (k := .f32) ha hb (by
    intro h
    unfold isZ at hz
    rw [show Ieee.single.order b 0 = some .eq from h] at hz
    simp at hz))

theorem Good.of {m : List (List Nat)} (h : matB m = true) (hb : bits m) : Good m.length m := by
  obtain ⟨h1, h2, h3⟩ := matB_parts h
  exact ⟨⟨rfl, fun r hr => (h1 r hr).1⟩, fun r hr => (h1 r hr).2, hb⟩
theorem cell_getD {m : List (List Nat)} {i j : Nat} (h : i < m.length) (h' : j < m[i].length) : (m.getD i []).getD j 0 = m[i][j] := cell_get h h'
theorem getD_lt {m : List (List Nat)} {i : Nat} (h : i < m.length) : m.getD i [] = m[i] := by simp [h]
theorem getDn {l : List Nat} {i : Nat} (h : i < l.length) : l.getD i 0 = l[i] := by simp [h]
theorem set_row {m : List (List Nat)} {i j x : Nat} {r : List Nat} (h : i < m.length) (h' : i < (m.set i r).length) : (m.set i r).set i ((m.set i r)[i].set j x) = m.set i (r.set j x) := by
  rw [List.getElem_set_self, List.set_set]

/-- The columns of one row: the program's loop. -/
theorem impl_cols {B n i k : Nat} {w0 w1 : World} {p q ov tv : Value} {O : List Nat} {T : List (List Nat)} {V : List Value} {r0 : List Nat} {by_ : Nat} {Fail Done : World → Prop} (hn : n ≤ 8) (hG : Good n T) (hi : i < n) (hki : k < i) (hB : B ≤ w0.heap.size) (hb1 : RowKit.Below B w0 w1)
    (h1 : EL w1 B p q ov tv O (T.set i r0) V) (hf : finB by_ = true) (hr0 : r0.length = n) (hr0f : r0.all finB = true) (hr0b : ∀ b ∈ r0, b < 4294967296)
    (hfail : colsE (T.getD k []) by_ (n - (k + 1)) (k + 1) r0 = none → ∀ w' t', RowKit.Below B w0 w' → EL w' B p q ov tv O t' V → Fail w')
    (hdone : ∀ r w', colsE (T.getD k []) by_ (n - (k + 1)) (k + 1) r0 = some r → RowKit.Below B w0 w' → EL w' B p q ov tv O (T.set i r) V → r.length = n → r.all finB = true → (∀ b ∈ r, b < 4294967296) → Done w') :
    ∃ I140 : Nat → Value → World → Prop, (∃ m178, I140 m178 (.int .i64 ((k : Int) + 1)) w1) ∧ ∀ (m143 : Nat) (x14_144 : Value) (junk141 : Env) (w142 : World), I140 m143 x14_144 w142 →
      bin P .lss t_int false false x14_144 (.int .i64 n) w142 fun x150_145 =>
      cnd x150_145
        (ixa P t_s_s_float32 tv (.int .i64 k) w142 fun x156_146 =>
        ld P t_s_float32 x156_146 w142 fun x157_147 =>
        ixa P t_s_float32 x157_147 x14_144 w142 fun x159_148 =>
        ld P t_float32 x159_148 w142 fun x160_149 =>
        rbin P .mul t_float32 false false (fl by_) x160_149 w142 fun x161_150 =>
        ixa P t_s_s_float32 tv (.int .i64 i) w142 fun x164_151 =>
        ld P t_s_float32 x164_151 w142 fun x165_152 =>
        ixa P t_s_s_float32 tv (.int .i64 i) w142 fun x169_153 =>
        ld P t_s_float32 x169_153 w142 fun x170_154 =>
        ixa P t_s_float32 x170_154 x14_144 w142 fun x172_155 =>
        ld P t_float32 x172_155 w142 fun x173_156 =>
        rbin P .sub t_float32 false false x173_156 x161_150 w142 fun x175_157 =>
        ixa P t_s_float32 x165_152 x14_144 w142 fun x176_158 =>
        sto P t_float32 x176_158 x175_157 w142 fun w160 =>
        ixa P t_s_s_float32 tv (.int .i64 i) w160 fun x180_161 =>
        ld P t_s_float32 x180_161 w160 fun x181_162 =>
        ixa P t_s_float32 x181_162 x14_144 w160 fun x183_163 =>
        ld P t_float32 x183_163 w160 fun x184_164 =>
        bsl P t_s_float32 2 [(0, x161_150), (1, x184_164)] w160 fun x185_165 w166 =>
        call P f_impl_areFinite [x185_165] w166 fun x186_167 w168 =>
        una P .not x186_167 w168 fun x187_169 =>
        cnd x187_169
          (Fail w168)
          (bin P .add t_int false true x14_144 (.int .i64 1) w168 fun x152_174 =>
          ∃ m175, m175 < m143 ∧ I140 m175 x152_174 w168))
        (Done w142) := by
  have htA := hG.len
  have hk : k < n := by omega
  have hik : i < T.length := by omega
  have hkT : k < T.length := by omega
  have ekT : T.getD k [] = T[k] := getD_lt hkT
  rw [ekT] at hfail hdone
  have hkl : T[k].length = n := hG.row hkT
  have hkf := hG.fin _ (List.getElem_mem hkT)
  refine ⟨fun g x w' => RowKit.Below B w0 w' ∧ ∃ (j : Nat) (r : List Nat), x = .int .i64 j ∧ g + j = n ∧ k + 1 ≤ j ∧ EL w' B p q ov tv O (T.set i r) V ∧ r.length = n ∧ r.all finB = true ∧ (∀ b ∈ r, b < 4294967296) ∧ colsE T[k] by_ (n - j) j r = colsE T[k] by_ (n - (k + 1)) (k + 1) r0,
    ⟨n - (k + 1), hb1, k + 1, r0, rfl, by omega, Nat.le_refl _, h1, hr0, hr0f, hr0b, rfl⟩, ?_⟩
  rintro g3 x junk3 wC ⟨hbC, j, r, rfl, hg3, hkj3, hC, hrl, hrf, hrb, hcols⟩
  have sC := hbC.size
  have hsl : (T.set i r).length = n := by rw [List.length_set]; exact htA
  have hi1 : i < (T.set i r).length := by omega
  have hk1 : k < (T.set i r).length := by omega
  have eri : (T.set i r)[i] = r := List.getElem_set_self _
  have erk : (T.set i r)[k] = T[k] := List.getElem_set_ne (by omega) _
  rw [bin_lss]
  refine cnd_dec (fun hlt3 => ?_) (fun hge3 => ?_)
  · have hj : j < n := by omega
    have hjk : j < T[k].length := by omega
    have hjr : j < r.length := by omega
    have hjk1 : j < (T.set i r)[k].length := by rw [erk]; exact hjk
    have hji1 : j < (T.set i r)[i].length := by rw [eri]; exact hjr
    refine hC.tab.atI (i := k) hk1 fun rk3 hrk3 => ?_
    refine hC.tab.rowAt (j := j) hrk3 hk1 hjk1 ?_
    refine rbin_float (by simp) fun pr hpr => ?_
    refine hC.tab.atI (i := i) hi1 fun ri3 hri3 => ?_
    refine hC.tab.atI (i := i) hi1 fun ri4 hri4 => ?_
    refine hC.tab.rowAt (j := j) hri4 hi1 hji1 ?_
    refine rbin_float (by simp) fun df hdf => ?_
    have e1 : (T.set i r)[k][j] = T[k][j] := by simp only [erk]
    have e2 : (T.set i r)[i][j] = r[j] := by simp only [eri]
    rw [e1] at hpr
    rw [e2] at hdf
    obtain ⟨epr, edf, hcase⟩ := step_sub hf (all_get hkf hjk) (all_get hrf hjr) hpr hdf
    rw [colsE_step hj, getDn hjr, getDn hjk, ← edf] at hcols
    have hprl := FR_lt hpr
    have hdfl := FR_lt hdf
    refine hC.put (i := i) (j := j) hri3 hi1 hji1 fun wD hD hbD => ?_
    rw [set_row hik] at hD
    have hbD := hbD (Nat.le_refl _) (Nat.le_trans hB sC) hbC
    have hi4 : i < (T.set i (r.set j df)).length := by rw [List.length_set]; omega
    have eri4 : (T.set i (r.set j df))[i] = r.set j df := List.getElem_set_self _
    have hj4 : j < (T.set i (r.set j df))[i].length := by rw [eri4, List.length_set]; exact hjr
    refine hD.tab.atI (i := i) hi4 fun ri5 hri5 => ?_
    refine hD.tab.rowAt (j := j) hri5 hi4 hj4 ?_
    have e3 : (T.set i (r.set j df))[i][j] = df := by simp only [eri4, List.getElem_set_self]
    rw [e3]
    refine bslF2 hprl hdfl fun v5 w5 e5 hf5 => ?_
    refine c_areFinite hf5 ?_
    rw [una_not]
    have hfdf : [pr, df].all finB = finB df := by
      have eall : [pr, df].all finB = (finB pr && finB df) := by simp
      rw [eall]
      rcases hcase with h1 | ⟨h1, h2⟩
      · rw [h1, Bool.true_and]
      · rw [h1, h2]; rfl
    rw [hfdf]
    have hbE : RowKit.Below B w0 w5 := hbD.trans (RowKit.Below.mono e5 (Nat.le_trans hB hbD.size))
    have hE := hD.ext e5
    refine cnd_split (fun hf6 => ?_) (fun hf6 => ?_)
    · have hf6 : finB df = false := nb1 hf6
      rw [hf6] at hcols
      exact hfail hcols.symm _ _ hbE hE
    · have hf6 : finB df = true := nb0 hf6
      rw [hf6] at hcols
      rw [bin_add, wrap_i64 (by omega) (by omega)]
      exact ⟨g3 - 1, by omega, hbE, j + 1, r.set j df, rfl, by omega, by omega, hE, by rw [List.length_set]; exact hrl, all_set hrf hf6, lt_set hrb hdfl, hcols⟩
  · rw [colsE_end (by omega)] at hcols
    exact hdone r wC hcols.symm hbC hC hrl hrf hrb

/-- The rows below a pivot: the program's loop. -/
theorem impl_rows {B n k : Nat} {w0 w1 : World} {p q ov tv : Value} {O : List Nat} {T : List (List Nat)} {V : List Value} {Fail Done : World → Prop} (hn : n ≤ 8) (hG : Good n T) (hk : k < n) (hB : B ≤ w0.heap.size) (hb1 : RowKit.Below B w0 w1)
    (h1 : EL w1 B p q ov tv O T V) (hz : isZ (cell T k k) = false)
    (hfail : rowsE n k (n - (k + 1)) (k + 1) T = none → ∀ w' t', RowKit.Below B w0 w' → EL w' B p q ov tv O t' V → Fail w')
    (hdone : ∀ t' w', rowsE n k (n - (k + 1)) (k + 1) T = some t' → RowKit.Below B w0 w' → EL w' B p q ov tv O t' V → Good n t' → Done w') :
    ∃ I112 : Nat → Value → World → Prop, (∃ m181, I112 m181 (.int .i64 ((k : Int) + 1)) w1) ∧ ∀ (m115 : Nat) (x12_116 : Value) (junk113 : Env) (w114 : World), I112 m115 x12_116 w114 →
      bin P .lss t_int false false x12_116 (.int .i64 n) w114 fun x117_117 =>
      cnd x117_117
        (ixa P t_s_s_float32 tv x12_116 w114 fun x122_118 =>
        ld P t_s_float32 x122_118 w114 fun x123_119 =>
        ixa P t_s_float32 x123_119 (.int .i64 k) w114 fun x125_120 =>
        ld P t_float32 x125_120 w114 fun x126_121 =>
        ixa P t_s_s_float32 tv (.int .i64 k) w114 fun x129_122 =>
        ld P t_s_float32 x129_122 w114 fun x130_123 =>
        ixa P t_s_float32 x130_123 (.int .i64 k) w114 fun x132_124 =>
        ld P t_float32 x132_124 w114 fun x133_125 =>
        rbin P .quo t_float32 false false x126_121 x133_125 w114 fun x134_126 =>
        call P f_impl_isFinite [x134_126] w114 fun x136_127 w128 =>
        una P .not x136_127 w128 fun x137_129 =>
        cnd x137_129
          (Fail w128)
          (ixa P t_s_s_float32 tv x12_116 w128 fun x141_134 =>
          ld P t_s_float32 x141_134 w128 fun x142_135 =>
          ixa P t_s_float32 x142_135 (.int .i64 k) w128 fun x145_136 =>
          sto P t_float32 x145_136 x134_126 w128 fun w138 =>
          bin P .add t_int false true (.int .i64 k) (.int .i64 1) w138 fun x147_139 =>
          ∃ I140 : Nat → Value → World → Prop, (∃ m178, I140 m178 x147_139 w138) ∧ ∀ (m143 : Nat) (x14_144 : Value) (junk141 : Env) (w142 : World), I140 m143 x14_144 w142 →
            bin P .lss t_int false false x14_144 (.int .i64 n) w142 fun x150_145 =>
            cnd x150_145
              (ixa P t_s_s_float32 tv (.int .i64 k) w142 fun x156_146 =>
              ld P t_s_float32 x156_146 w142 fun x157_147 =>
              ixa P t_s_float32 x157_147 x14_144 w142 fun x159_148 =>
              ld P t_float32 x159_148 w142 fun x160_149 =>
              rbin P .mul t_float32 false false x134_126 x160_149 w142 fun x161_150 =>
              ixa P t_s_s_float32 tv x12_116 w142 fun x164_151 =>
              ld P t_s_float32 x164_151 w142 fun x165_152 =>
              ixa P t_s_s_float32 tv x12_116 w142 fun x169_153 =>
              ld P t_s_float32 x169_153 w142 fun x170_154 =>
              ixa P t_s_float32 x170_154 x14_144 w142 fun x172_155 =>
              ld P t_float32 x172_155 w142 fun x173_156 =>
              rbin P .sub t_float32 false false x173_156 x161_150 w142 fun x175_157 =>
              ixa P t_s_float32 x165_152 x14_144 w142 fun x176_158 =>
              sto P t_float32 x176_158 x175_157 w142 fun w160 =>
              ixa P t_s_s_float32 tv x12_116 w160 fun x180_161 =>
              ld P t_s_float32 x180_161 w160 fun x181_162 =>
              ixa P t_s_float32 x181_162 x14_144 w160 fun x183_163 =>
              ld P t_float32 x183_163 w160 fun x184_164 =>
              bsl P t_s_float32 2 [(0, x161_150), (1, x184_164)] w160 fun x185_165 w166 =>
              call P f_impl_areFinite [x185_165] w166 fun x186_167 w168 =>
              una P .not x186_167 w168 fun x187_169 =>
              cnd x187_169
                (Fail w168)
                (bin P .add t_int false true x14_144 (.int .i64 1) w168 fun x152_174 =>
                ∃ m175, m175 < m143 ∧ I140 m175 x152_174 w168))
              (bin P .add t_int false true x12_116 (.int .i64 1) w142 fun x119_176 =>
              ∃ m177, m177 < m115 ∧ I112 m177 x119_176 w142)))
        (Done w114) := by
  refine ⟨fun g x w' => RowKit.Below B w0 w' ∧ ∃ (i : Nat) (t : List (List Nat)), x = .int .i64 i ∧ g + i = n ∧ k + 1 ≤ i ∧ EL w' B p q ov tv O t V ∧ Good n t ∧ cell t k k = cell T k k ∧ rowsE n k (n - i) i t = rowsE n k (n - (k + 1)) (k + 1) T,
    ⟨n - (k + 1), hb1, k + 1, T, rfl, by omega, Nat.le_refl _, h1, hG, rfl, rfl⟩, ?_⟩
  rintro g2 x junk2 wA ⟨hbA, i, t', rfl, hg2, hki, hA, hGA, hcell, hrows⟩
  have sA := hbA.size
  have htA := hGA.len
  rw [bin_lss]
  refine cnd_dec (fun hlt2 => ?_) (fun hge2 => ?_)
  · have hi : i < n := by omega
    have hi1 : i < t'.length := by omega
    have hk1 : k < t'.length := by omega
    have hik : k < t'[i].length := by rw [hGA.row]; exact hk
    have hkk' : k < t'[k].length := by rw [hGA.row]; exact hk
    refine hA.tab.atI (i := i) hi1 fun ri hri => ?_
    refine hA.tab.rowAt hri hi1 hik ?_
    refine hA.tab.atI (i := k) hk1 fun rk' hrk' => ?_
    refine hA.tab.rowAt hrk' hk1 hkk' ?_
    refine rbin_float (by simp) fun by_ hby => ?_
    have hfi := all_get (hGA.fin _ (List.getElem_mem hi1)) hik
    have hfk := all_get (hGA.fin _ (List.getElem_mem hk1)) hkk'
    have hzk : isZ t'[k][k] = false := by rw [← cell_get hk1 hkk', hcell]; exact hz
    have eby := quo_ok hfi hfk hzk hby
    have hbl := FR_lt hby
    refine c_isFinite hbl ?_
    rw [una_not]
    rw [rowsE_step hi, getD_lt hi1] at hrows
    have erow : rowE n k (t'.getD k []) t'[i] = if finB by_ then colsE (t'.getD k []) by_ (n - (k + 1)) (k + 1) (t'[i].set k by_) else none := by
      unfold rowE
      rw [getD_lt hk1, getDn hik, getDn hkk', ← eby]
    refine cnd_split (fun hf => ?_) (fun hf => ?_)
    · have hf : finB by_ = false := nb1 hf
      rw [hf] at erow
      rw [erow] at hrows
      exact hfail hrows.symm _ _ hbA hA
    · have hf : finB by_ = true := nb0 hf
      rw [hf] at erow
      simp only [if_true] at erow
      refine hA.tab.atI (i := i) hi1 fun ri2 hri2 => ?_
      refine hA.put hri2 hi1 hik fun wB hB' hbB => ?_
      have hbB := hbB (Nat.le_refl _) (Nat.le_trans hB sA) hbA
      rw [bin_add, wrap_i64 (by omega) (by omega)]
      refine impl_cols (Fail := Fail) hn hGA hi (by omega) hB hbB hB' hf (by rw [List.length_set, hGA.row]) (all_set (hGA.fin _ (List.getElem_mem _)) hf) (lt_set (hGA.lt _ (List.getElem_mem _)) hbl) (fun he w' t2 hb2 h2 => ?_) (fun r w' he hb2 h2 hrl hrf hrb => ?_)
      · rw [erow, he] at hrows
        exact hfail hrows.symm _ _ hb2 h2
      · rw [erow, he] at hrows
        rw [bin_add, wrap_i64 (by omega) (by omega)]
        refine ⟨g2 - 1, by omega, hb2, i + 1, t'.set i r, rfl, by omega, by omega, h2, hGA.set i hrl hrf hrb, ?_, hrows⟩
        have hk2 : k < (t'.set i r).length := by rw [List.length_set]; exact hk1
        have erk : (t'.set i r)[k] = t'[k] := List.getElem_set_ne (by omega) _
        rw [← hcell, cell_get hk2 (by rw [erk]; exact hkk'), cell_get hk1 hkk']
        simp only [erk]
  · rw [rowsE_end (by omega)] at hrows
    exact hdone t' wA hrows.symm hbA hA hGA

end Go.Proofs.YtabgkpfcpncmhaaGreat

/- Elimination: the reference's. -/
set_option linter.unusedVariables false
namespace Go.Proofs.YtabgkpfcpncmhaaGreat
open Go Go.Vc

variable {w : World} {K : Value → World → Prop}

theorem swapL_symm {α : Type} {l : List α} {i j : Nat} {d : α} (hi : i < l.length) (hj : j < l.length) : swapL l j i d = swapL l i j d := by
  rw [← swapL_comm hi hj]; rfl

/-- The columns of one row: the reference's loop. -/
theorem spec_cols {B n i k : Nat} {w0 w1 : World} {p q ov tv ri rk : Value} {O : List Nat} {T : List (List Nat)} {V : List Value} {by_ : Nat} {Fail Done : World → Prop} (hn : n ≤ 8) (hG : Good n T) (hi : i < n) (hki : k < i) (hB : B ≤ w0.heap.size) (hb1 : RowKit.Below B w0 w1)
    (h1 : EL w1 B p q ov tv O (T.set i ((T.getD i []).set k by_)) V) (hri : V[i]? = some ri) (hrk : V[k]? = some rk) (hbl : by_ < 4294967296)
    (hfail : (if finB by_ then colsE (T.getD k []) by_ (n - (k + 1)) (k + 1) ((T.getD i []).set k by_) else none) = none → ∀ w' t', RowKit.Below B w0 w' → EL w' B p q ov tv O t' V → Fail w')
    (hdone : ∀ r w', (if finB by_ then colsE (T.getD k []) by_ (n - (k + 1)) (k + 1) ((T.getD i []).set k by_) else none) = some r → RowKit.Below B w0 w' → EL w' B p q ov tv O (T.set i r) V → r.length = n → r.all finB = true → (∀ b ∈ r, b < 4294967296) → Done w') :
    ∃ I139 : Nat → Value → World → Prop, (∃ m178, I139 m178 (.int .i64 ((k : Int) + 1)) w1) ∧ ∀ (m142 : Nat) (x14_143 : Value) (junk140 : Env) (w141 : World), I139 m142 x14_143 w141 →
      bin P .lss t_int false false x14_143 (.int .i64 n) w141 fun x145_144 =>
      cnd x145_144
        (ixa P t_s_float32 ri x14_143 w141 fun x152_145 =>
        ld P t_float32 x152_145 w141 fun x153_146 =>
        ixa P t_s_float32 ri (.int .i64 k) w141 fun x156_147 =>
        ld P t_float32 x156_147 w141 fun x157_148 =>
        ixa P t_s_float32 rk x14_143 w141 fun x160_149 =>
        ld P t_float32 x160_149 w141 fun x161_150 =>
        rbin P .mul t_float32 false false x157_148 x161_150 w141 fun x162_151 =>
        rbin P .sub t_float32 false false x153_146 x162_151 w141 fun x163_152 =>
        ixa P t_s_float32 ri x14_143 w141 fun x164_153 =>
        sto P t_float32 x164_153 x163_152 w141 fun w155 =>
        ixa P t_s_float32 ri x14_143 w155 fun x167_156 =>
        ld P t_float32 x167_156 w155 fun x168_157 =>
        call P f_spec_l01Finite [x168_157] w155 fun x169_158 w159 =>
        una P .not x169_158 w159 fun x170_160 =>
        cnd x170_160
          (Fail w159)
          (bin P .add t_int false true x14_143 (.int .i64 1) w159 fun x147_165 =>
          ∃ m166, m166 < m142 ∧ I139 m166 x147_165 w159))
        (ixa P t_s_float32 ri (.int .i64 k) w141 fun x174_167 =>
        ld P t_float32 x174_167 w141 fun x175_168 =>
        call P f_spec_l01Finite [x175_168] w141 fun x176_169 w170 =>
        una P .not x176_169 w170 fun x177_171 =>
        cnd x177_171
          (Fail w170)
          (Done w170)) := by
  have htA := hG.len
  have hk : k < n := by omega
  have hik : i < T.length := by omega
  have hkT : k < T.length := by omega
  rw [getD_lt hkT, getD_lt hik] at hfail hdone
  rw [getD_lt hik] at h1
  have hkl : T[k].length = n := hG.row hkT
  have hil : T[i].length = n := hG.row hik
  have hkf := hG.fin _ (List.getElem_mem hkT)
  have hif := hG.fin _ (List.getElem_mem hik)
  have hib := hG.lt _ (List.getElem_mem hik)
  by_cases hfb : finB by_ = true
  · simp only [hfb, if_true] at hfail hdone
    refine ⟨fun g x w' => RowKit.Below B w0 w' ∧ ∃ (j : Nat) (r : List Nat), x = .int .i64 j ∧ g + j = n ∧ k + 1 ≤ j ∧ EL w' B p q ov tv O (T.set i r) V ∧ r.length = n ∧ r.all finB = true ∧ (∀ b ∈ r, b < 4294967296) ∧ r.getD k 0 = by_ ∧ colsE T[k] by_ (n - j) j r = colsE T[k] by_ (n - (k + 1)) (k + 1) (T[i].set k by_),
      ⟨n - (k + 1), hb1, k + 1, _, rfl, by omega, Nat.le_refl _, h1, by rw [List.length_set]; exact hil, all_set hif hfb, lt_set hib hbl, by simp [hil, hk], rfl⟩, ?_⟩
    rintro g3 x junk3 wC ⟨hbC, j, r, rfl, hg3, hkj3, hC, hrl, hrf, hrb, hrk0, hcols⟩
    have sC := hbC.size
    have hsl : (T.set i r).length = n := by rw [List.length_set]; exact htA
    have hi1 : i < (T.set i r).length := by omega
    have hk1 : k < (T.set i r).length := by omega
    have eri : (T.set i r)[i] = r := List.getElem_set_self _
    have erk : (T.set i r)[k] = T[k] := List.getElem_set_ne (by omega) _
    have hkr : k < r.length := by omega
    have hki1 : k < (T.set i r)[i].length := by rw [eri]; exact hkr
    have hrk1 : r[k] = by_ := by rw [← getDn hkr]; exact hrk0
    have ekk : (T.set i r)[i][k] = by_ := by simp only [eri]; exact hrk1
    rw [bin_lss]
    refine cnd_dec (fun hlt3 => ?_) (fun hge3 => ?_)
    · have hj : j < n := by omega
      have hjk : j < T[k].length := by omega
      have hjr : j < r.length := by omega
      have hjk1 : j < (T.set i r)[k].length := by rw [erk]; exact hjk
      have hji1 : j < (T.set i r)[i].length := by rw [eri]; exact hjr
      refine hC.tab.rowAt (j := j) hri hi1 hji1 ?_
      refine hC.tab.rowAt (j := k) hri hi1 hki1 ?_
      refine hC.tab.rowAt (j := j) hrk hk1 hjk1 ?_
      refine rbin_float (by simp) fun pr hpr => ?_
      refine rbin_float (by simp) fun df hdf => ?_
      have e1 : (T.set i r)[k][j] = T[k][j] := by simp only [erk]
      have e2 : (T.set i r)[i][j] = r[j] := by simp only [eri]
      rw [ekk, e1] at hpr
      rw [e2] at hdf
      obtain ⟨epr, edf, hcase⟩ := step_sub hfb (all_get hkf hjk) (all_get hrf hjr) hpr hdf
      rw [colsE_step hj, getDn hjr, getDn hjk, ← edf] at hcols
      have hdfl := FR_lt hdf
      refine hC.put (i := i) (j := j) hri hi1 hji1 fun wD hD hbD => ?_
      rw [set_row hik] at hD
      have hbD := hbD (Nat.le_refl _) (Nat.le_trans hB sC) hbC
      have hi4 : i < (T.set i (r.set j df)).length := by rw [List.length_set]; omega
      have eri4 : (T.set i (r.set j df))[i] = r.set j df := List.getElem_set_self _
      have hj4 : j < (T.set i (r.set j df))[i].length := by rw [eri4, List.length_set]; exact hjr
      refine hD.tab.rowAt (j := j) hri hi4 hj4 ?_
      have e3 : (T.set i (r.set j df))[i][j] = df := by simp only [eri4, List.getElem_set_self]
      rw [e3]
      refine c_l01Finite ?_
      rw [una_not]
      refine cnd_split (fun hf6 => ?_) (fun hf6 => ?_)
      · have hf6 : finB df = false := nb1 hf6
        rw [hf6] at hcols
        exact hfail hcols.symm _ _ hbD hD
      · have hf6 : finB df = true := nb0 hf6
        rw [hf6] at hcols
        rw [bin_add, wrap_i64 (by omega) (by omega)]
        refine ⟨g3 - 1, by omega, hbD, j + 1, r.set j df, rfl, by omega, by omega, hD, by rw [List.length_set]; exact hrl, all_set hrf hf6, lt_set hrb hdfl, ?_, hcols⟩
        rw [getDn (by rw [List.length_set]; exact hkr), List.getElem_set_ne (by omega)]
        exact hrk1
    · rw [colsE_end (by omega)] at hcols
      refine hC.tab.rowAt (j := k) hri hi1 hki1 ?_
      rw [ekk]
      refine c_l01Finite ?_
      rw [una_not, hfb]
      exact cnd_no rfl (hdone r wC hcols.symm hbC hC hrl hrf hrb)
  · have hfb : finB by_ = false := by simpa using hfb
    simp only [hfb, Bool.false_eq_true, if_false] at hfail
    have hfail := hfail trivial
    generalize hr0 : T[i].set k by_ = r at h1
    have hrl : r.length = n := by rw [← hr0, List.length_set]; exact hil
    have hkr : k < r.length := by omega
    have hrk1 : r[k] = by_ := by simp only [← hr0, List.getElem_set_self]
    refine ⟨fun g x w' => w' = w1 ∧ x = .int .i64 ((k + 1 : Nat) : Int), ⟨0, rfl, rfl⟩, ?_⟩
    rintro g3 x junk3 wC ⟨rfl, rfl⟩
    have hsl : (T.set i r).length = n := by rw [List.length_set]; exact htA
    have hi1 : i < (T.set i r).length := by omega
    have hk1 : k < (T.set i r).length := by omega
    have eri : (T.set i r)[i] = r := List.getElem_set_self _
    have erk : (T.set i r)[k] = T[k] := List.getElem_set_ne (by omega) _
    have hki1 : k < (T.set i r)[i].length := by rw [eri]; exact hkr
    have ekk : (T.set i r)[i][k] = by_ := by simp only [eri]; exact hrk1
    rw [bin_lss]
    refine cnd_dec (fun hlt3 => ?_) (fun hge3 => by omega)
    have hj : k + 1 < n := by omega
    have hjk : k + 1 < T[k].length := by omega
    have hjr : k + 1 < r.length := by omega
    have hjk1 : k + 1 < (T.set i r)[k].length := by rw [erk]; exact hjk
    have hji1 : k + 1 < (T.set i r)[i].length := by rw [eri]; exact hjr
    refine h1.tab.rowAt (j := k + 1) hri hi1 hji1 ?_
    refine h1.tab.rowAt (j := k) hri hi1 hki1 ?_
    refine h1.tab.rowAt (j := k + 1) hrk hk1 hjk1 ?_
    refine rbin_float (by simp) fun pr hpr => ?_
    refine rbin_float (by simp) fun df hdf => ?_
    have e1 : (T.set i r)[k][k + 1] = T[k][k + 1] := by simp only [erk]
    have hi2 : k + 1 < T[i].length := by omega
    have e2' : r[k + 1] = T[i][k + 1] := by
      simp only [← hr0]
      exact List.getElem_set_ne (h := by omega) _
    have e2 : (T.set i r)[i][k + 1] = T[i][k + 1] := by
      simp only [eri]
      exact e2'
    rw [ekk, e1] at hpr
    rw [e2] at hdf
    have n1 : ¬ Fin Ieee.single pr := mul_bad (k := .f32) (finB_not.1 hfb) (finB_iff.1 (all_get hkf hjk)) hpr
    have n2 : ¬ Fin Ieee.single df := sub_bad (k := .f32) (finB_iff.1 (all_get hif (by omega))) n1 hdf
    refine h1.put (i := i) (j := k + 1) hri hi1 hji1 fun wD hD hbD => ?_
    rw [set_row hik] at hD
    have hbD := hbD (Nat.le_refl _) (Nat.le_trans hB hb1.size) hb1
    have hi4 : i < (T.set i (r.set (k + 1) df)).length := by rw [List.length_set]; omega
    have eri4 : (T.set i (r.set (k + 1) df))[i] = r.set (k + 1) df := List.getElem_set_self _
    have hj4 : k + 1 < (T.set i (r.set (k + 1) df))[i].length := by rw [eri4, List.length_set]; exact hjr
    refine hD.tab.rowAt (j := k + 1) hri hi4 hj4 ?_
    have e3 : (T.set i (r.set (k + 1) df))[i][k + 1] = df := by simp only [eri4, List.getElem_set_self]
    rw [e3]
    refine c_l01Finite ?_
    rw [una_not, finB_not.2 n2]
    exact cnd_yes rfl (hfail _ _ hbD hD)

/-- The rows below a pivot: the reference's loop. -/
theorem spec_rows {B n k : Nat} {w0 w1 : World} {p q ov tv rk : Value} {O : List Nat} {T : List (List Nat)} {V : List Value} {Fail Done : World → Prop} (hn : n ≤ 8) (hG : Good n T) (hk : k < n) (hB : B ≤ w0.heap.size) (hb1 : RowKit.Below B w0 w1)
    (h1 : EL w1 B p q ov tv O T V) (hrk : V[k]? = some rk) (hz : isZ (cell T k k) = false)
    (hfail : rowsE n k (n - (k + 1)) (k + 1) T = none → ∀ w' t', RowKit.Below B w0 w' → EL w' B p q ov tv O t' V → Fail w')
    (hdone : ∀ t' w', rowsE n k (n - (k + 1)) (k + 1) T = some t' → RowKit.Below B w0 w' → EL w' B p q ov tv O t' V → Good n t' → Done w') :
    ∃ I120 : Nat → Value → World → Prop, (∃ m181, I120 m181 (.int .i64 ((k : Int) + 1)) w1) ∧ ∀ (m123 : Nat) (x12_124 : Value) (junk121 : Env) (w122 : World), I120 m123 x12_124 w122 →
      bin P .lss t_int false false x12_124 (.int .i64 n) w122 fun x121_125 =>
      cnd x121_125
        (fda P t_impl_Elimination p 1 w122 fun x124_126 =>
        ld P t_s_s_float32 x124_126 w122 fun x125_127 =>
        ixa P t_s_s_float32 x125_127 x12_124 w122 fun x127_128 =>
        ld P t_s_float32 x127_128 w122 fun x128_129 =>
        ixa P t_s_float32 x128_129 (.int .i64 k) w122 fun x133_130 =>
        ld P t_float32 x133_130 w122 fun x134_131 =>
        ixa P t_s_float32 rk (.int .i64 k) w122 fun x137_132 =>
        ld P t_float32 x137_132 w122 fun x138_133 =>
        rbin P .quo t_float32 false false x134_131 x138_133 w122 fun x139_134 =>
        ixa P t_s_float32 x128_129 (.int .i64 k) w122 fun x140_135 =>
        sto P t_float32 x140_135 x139_134 w122 fun w137 =>
        bin P .add t_int false true (.int .i64 k) (.int .i64 1) w137 fun x142_138 =>
        ∃ I139 : Nat → Value → World → Prop, (∃ m178, I139 m178 x142_138 w137) ∧ ∀ (m142 : Nat) (x14_143 : Value) (junk140 : Env) (w141 : World), I139 m142 x14_143 w141 →
          bin P .lss t_int false false x14_143 (.int .i64 n) w141 fun x145_144 =>
          cnd x145_144
            (ixa P t_s_float32 x128_129 x14_143 w141 fun x152_145 =>
            ld P t_float32 x152_145 w141 fun x153_146 =>
            ixa P t_s_float32 x128_129 (.int .i64 k) w141 fun x156_147 =>
            ld P t_float32 x156_147 w141 fun x157_148 =>
            ixa P t_s_float32 rk x14_143 w141 fun x160_149 =>
            ld P t_float32 x160_149 w141 fun x161_150 =>
            rbin P .mul t_float32 false false x157_148 x161_150 w141 fun x162_151 =>
            rbin P .sub t_float32 false false x153_146 x162_151 w141 fun x163_152 =>
            ixa P t_s_float32 x128_129 x14_143 w141 fun x164_153 =>
            sto P t_float32 x164_153 x163_152 w141 fun w155 =>
            ixa P t_s_float32 x128_129 x14_143 w155 fun x167_156 =>
            ld P t_float32 x167_156 w155 fun x168_157 =>
            call P f_spec_l01Finite [x168_157] w155 fun x169_158 w159 =>
            una P .not x169_158 w159 fun x170_160 =>
            cnd x170_160
              (Fail w159)
              (bin P .add t_int false true x14_143 (.int .i64 1) w159 fun x147_165 =>
              ∃ m166, m166 < m142 ∧ I139 m166 x147_165 w159))
            (ixa P t_s_float32 x128_129 (.int .i64 k) w141 fun x174_167 =>
            ld P t_float32 x174_167 w141 fun x175_168 =>
            call P f_spec_l01Finite [x175_168] w141 fun x176_169 w170 =>
            una P .not x176_169 w170 fun x177_171 =>
            cnd x177_171
              (Fail w170)
              (bin P .add t_int false true x12_124 (.int .i64 1) w170 fun x123_176 =>
              ∃ m177, m177 < m123 ∧ I120 m177 x123_176 w170)))
        (Done w122) := by
  refine ⟨fun g x w' => RowKit.Below B w0 w' ∧ ∃ (i : Nat) (t : List (List Nat)), x = .int .i64 i ∧ g + i = n ∧ k + 1 ≤ i ∧ EL w' B p q ov tv O t V ∧ Good n t ∧ cell t k k = cell T k k ∧ rowsE n k (n - i) i t = rowsE n k (n - (k + 1)) (k + 1) T,
    ⟨n - (k + 1), hb1, k + 1, T, rfl, by omega, Nat.le_refl _, h1, hG, rfl, rfl⟩, ?_⟩
  rintro g2 x junk2 wA ⟨hbA, i, t', rfl, hg2, hki, hA, hGA, hcell, hrows⟩
  have sA := hbA.size
  have htA := hGA.len
  rw [bin_lss]
  refine cnd_dec (fun hlt2 => ?_) (fun hge2 => ?_)
  · have hi : i < n := by omega
    have hi1 : i < t'.length := by omega
    have hk1 : k < t'.length := by omega
    have hik : k < t'[i].length := by rw [hGA.row]; exact hk
    have hkk' : k < t'[k].length := by rw [hGA.row]; exact hk
    refine hA.getT ?_
    refine hA.tab.atI (i := i) hi1 fun ri hri => ?_
    refine hA.tab.rowAt hri hi1 hik ?_
    refine hA.tab.rowAt hrk hk1 hkk' ?_
    refine rbin_float (by simp) fun by_ hby => ?_
    have hfi := all_get (hGA.fin _ (List.getElem_mem hi1)) hik
    have hfk := all_get (hGA.fin _ (List.getElem_mem hk1)) hkk'
    have hzk : isZ t'[k][k] = false := by rw [← cell_get hk1 hkk', hcell]; exact hz
    have eby := quo_ok hfi hfk hzk hby
    have hbl := FR_lt hby
    rw [rowsE_step hi] at hrows
    have erow : rowE n k (t'.getD k []) (t'.getD i []) = if finB by_ then colsE (t'.getD k []) by_ (n - (k + 1)) (k + 1) ((t'.getD i []).set k by_) else none := by
      unfold rowE
      rw [getD_lt hk1, getD_lt hi1, getDn hik, getDn hkk', ← eby]
    refine hA.put hri hi1 hik fun wB hB' hbB => ?_
    have hbB := hbB (Nat.le_refl _) (Nat.le_trans hB sA) hbA
    rw [← getD_lt hi1] at hB'
    rw [bin_add, wrap_i64 (by omega) (by omega)]
    refine spec_cols (Fail := Fail) hn hGA hi (by omega) hB hbB hB' hri hrk hbl (fun he w' t2 hb2 h2 => ?_) (fun r w' he hb2 h2 hrl hrf hrb => ?_)
    · rw [erow, he] at hrows
      exact hfail hrows.symm _ _ hb2 h2
    · rw [erow, he] at hrows
      rw [bin_add, wrap_i64 (by omega) (by omega)]
      refine ⟨g2 - 1, by omega, hb2, i + 1, t'.set i r, rfl, by omega, by omega, h2, hGA.set i hrl hrf hrb, ?_, hrows⟩
      have hk2 : k < (t'.set i r).length := by rw [List.length_set]; exact hk1
      have erk : (t'.set i r)[k] = t'[k] := List.getElem_set_ne (by omega) _
      rw [← hcell, cell_get hk2 (by rw [erk]; exact hkk'), cell_get hk1 hkk']
      simp only [erk]
  · rw [rowsE_end (by omega)] at hrows
    exact hdone t' wA hrows.symm hbA hA hGA

end Go.Proofs.YtabgkpfcpncmhaaGreat
