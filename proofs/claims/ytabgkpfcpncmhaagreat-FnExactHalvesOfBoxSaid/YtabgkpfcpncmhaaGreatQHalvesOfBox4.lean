import Derived.Deep.SlicePairs
import Derived.Test.YtabgkpfcpncmhaaGreatVcP
import Derived.Test.YtabgkpfcpncmhaaGreatVcK
import Derived.Test.YtabgkpfcpncmhaaGreatVcO
import Derived.ProofKit
import Derived.Test.YtabgkpfcpncmhaaGreatRows
import Derived.Test.YtabgkpfcpncmhaaGreatQHalvesOfBox3
set_option linter.unusedSimpArgs false
set_option linter.unusedVariables false
/- The interface for intervals and lists of intervals. -/
set_option linter.unusedVariables false
namespace Go.Proofs.YtabgkpfcpncmhaaGreat
open Go Go.Vc

variable {w : World} {K : Value → World → Prop} {lo hi : Nat} {v : Value}

abbrev IV := Nat × Nat
abbrev ivv (p : IV) : Value := .agg #[fl p.1, fl p.2]
def ivB (p : IV) : Prop := p.1 < 4294967296 ∧ p.2 < 4294967296
section
variable {base : Nat} {x : Value} {a b : Nat} {K : Value → Prop} {t : TypeId}
abbrev iv2 (a b : Nat) : List Value := [fl a, fl b]
theorem bx_iv {KW : Value → World → Prop} (H : ∀ x w', Bx w' w.heap.size t x (iv2 a b) → Ext w w' → KW x w') : bx P t (.agg #[fl a, fl b]) w KW :=
  bx_bx fun x w' b e _ => H x w' b e
theorem alc_iv {KW : Value → World → Prop} (H : ∀ x w', (∃ a b, Bx w' w.heap.size t_impl_Interval x (iv2 a b)) → Ext w w' → KW x w') : alc P t_impl_Interval w KW :=
  alc_bx i_impl_Interval fun x w' b e _ => H x w' ⟨0, 0, b⟩ e
theorem iv_lo (h : Bx w base t_impl_Interval x (iv2 a b)) (H : K (fl a)) : fda P t_impl_Interval x 0 w (fun y => ld P t_float32 y w K) :=
  h.fld (off := 0) rfl u_impl_Interval rfl i_float32 u_float32 rfl H
theorem iv_hi (h : Bx w base t_impl_Interval x (iv2 a b)) (H : K (fl b)) : fda P t_impl_Interval x 1 w (fun y => ld P t_float32 y w K) :=
  h.fld (off := 1) rfl u_impl_Interval rfl i_float32 u_float32 rfl H
theorem iv_all (h : Bx w base t_impl_Interval x (iv2 a b)) (H : K (.agg #[fl a, fl b])) : ld P t_impl_Interval x w K :=
  h.get u_impl_Interval rfl i_impl_Interval rfl H
theorem iv_allc (h : Bx w base t_impl_Interval x (iv2 a b)) (H : K (.agg #[fl a, fl b])) : ldc P t_impl_Interval x w K :=
  h.getc u_impl_Interval rfl i_impl_Interval rfl H
theorem one_iv (a b : Nat) : ∀ u ∈ iv2 a b, u.oneCell' = true := by
  intro u hu
  simp only [List.mem_cons, List.not_mem_nil, or_false] at hu
  rcases hu with rfl | rfl <;> rfl
theorem iv_put {a' b' : Nat} {KW : World → Prop} (h : Bx w base t_impl_Interval x (iv2 a b)) (H : ∀ w', Bx w' base t_impl_Interval x (iv2 a' b') → w.grownBy w' (blk x) → KW w') : sto P t_impl_Interval x (.agg #[fl a', fl b']) w KW :=
  h.put i_impl_Interval (ds := iv2 a' b') rfl rfl (one_iv _ _) H
theorem iv_ret {a' b' : Nat} {KW : Value → World → Prop} (h : Bx w base t_impl_Interval x (iv2 a b)) (H : ∀ w', w.grownBy w' (blk x) → KW (.agg #[fl a', fl b']) w') :
    sto P t_impl_Interval x (.agg #[fl a', fl b']) w fun w' => ldc P t_impl_Interval x w' fun r => KW r w' :=
  iv_put h fun w' b' g' => iv_allc b' (H w' g')
theorem bld_iv (a b : Nat) : bld P t_impl_Interval [(0, fl a), (1, fl b)] w K = K (.agg #[fl a, fl b]) := bld_of (by kernel_rfl)
theorem bld_iv0 : bld P t_impl_Interval [] w K = K (.agg #[fl 0, fl 0]) := bld_of (by kernel_rfl)
end

/-! ### one interval -/
def I_Interval (w : World) (v : Value) (p : IV) : Prop := v = ivv p ∧ ivB p
theorem I_Interval.ext {w' : World} {p : IV} (h : I_Interval w v p) (he : Ext w w') : I_Interval w' v p := h
def O_Interval (w : World) (lo hi : Nat) (v : Value) (p : IV) : Prop := v = ivv p ∧ ivB p
theorem O_Interval.ext {w' : World} {p : IV} (h : O_Interval w lo hi v p) (he : Ext w w') : O_Interval w' lo hi v p := h
theorem O_Interval.chg {w' : World} {p : IV} {lo' hi' : Nat} (h : O_Interval w lo hi v p) (hc : Chg lo' hi' w w') (hd : hi ≤ lo' ∨ hi' ≤ lo) : O_Interval w' lo hi v p := h
theorem O_Interval.I {p : IV} (h : O_Interval w lo hi v p) : I_Interval w v p := h
def cnt_Interval (p : IV) : Nat := 0
theorem Interval_agg {p : IV} (h : I_Interval w v p) : ∃ cs : List Value, v = .agg cs.toArray ∧ cs.length = 2 ∧ ∀ x ∈ cs, x.oneCell' = true := ⟨iv2 p.1 p.2, h.1, rfl, one_iv _ _⟩
set_option maxRecDepth 20000 in
theorem c_eqInterval {p q : IV} (h1 : Feq p.1 q.1) (h2 : Feq p.2 q.2) (H : ∀ w', Ext w w' → K (.bool true) w') : call P f_laws_eqInterval [ivv p, ivv q] w K := by
  refine I_laws_eqInterval ?_
  unfold D_laws_eqInterval
  refine bx_iv fun x w1 b1 e1 => ?_
  refine bx_iv fun y w2 b2 e2 => ?_
  have b1 := b1.ext e2
  refine iv_lo b1 ?_
  refine rcnv_widen u_float32 u_float64 fun r hr => ?_
  refine iv_lo b2 ?_
  refine rcnv_widen u_float32 u_float64 fun q hq => ?_
  refine c_sameFloat (wid_deq h1 hr hq) ?_
  rw [una_not, Bool.not_true, cnd_false]
  refine iv_hi b1 ?_
  refine rcnv_widen u_float32 u_float64 fun r hr => ?_
  refine iv_hi b2 ?_
  refine rcnv_widen u_float32 u_float64 fun q hq => ?_
  refine c_sameFloat (wid_deq h2 hr hq) ?_
  rw [una_not, Bool.not_true, cnd_false]
  exact H _ (e1.trans e2)
theorem c_eq_Interval {u : Value} {p : IV} (h1 : I_Interval w u p) (h2 : I_Interval w v p) (H : ∀ w', Ext w w' → K (.bool true) w') : call P f_laws_eqInterval [u, v] w K := by
  obtain ⟨rfl, _⟩ := h1
  obtain ⟨rfl, _⟩ := h2
  exact c_eqInterval (Feq.refl _) (Feq.refl _) H

/-! ### lists of intervals -/
structure A_IntervalS (w : World) (v : Value) (l : List IV) : Prop where
  row : Row 2 w v l.length (pfs l)
  lt : ∀ p ∈ l, ivB p
  cap : CapOk v
abbrev I_IntervalS := A_IntervalS
theorem A_IntervalS.ext {w' : World} {l : List IV} (h : A_IntervalS w v l) (he : Ext w w') : A_IntervalS w' v l := ⟨h.row.ext he, h.lt, h.cap⟩
theorem A_IntervalS.N {l : List IV} (h : A_IntervalS w v l) : A_IntervalS (Vc.N w) v l := ⟨h.row, h.lt, h.cap⟩
theorem A_IntervalS.bound {l : List IV} (h : A_IntervalS w v l) : l.length ≤ 9223372036854775807 := by have := h.row.bound; simp only [maxLen] at this; omega
def O_IntervalS (w : World) (lo hi : Nat) (v : Value) (l : List IV) : Prop := OwnR w lo hi t_impl_Interval 2 v l.length (pfs l) ∧ ∀ p ∈ l, ivB p
theorem O_IntervalS.ext {l : List IV} {w' : World} (h : O_IntervalS w lo hi v l) (he : Ext w w') : O_IntervalS w' lo hi v l := ⟨h.1.ext he, h.2⟩
theorem O_IntervalS.chg {l : List IV} {w' : World} {lo' hi' : Nat} (h : O_IntervalS w lo hi v l) (hc : Chg lo' hi' w w') (hd : hi ≤ lo' ∨ hi' ≤ lo) : O_IntervalS w' lo hi v l := ⟨h.1.chg hc hd, h.2⟩
theorem O_IntervalS.I {l : List IV} (h : O_IntervalS w lo hi v l) : I_IntervalS w v l := ⟨owns_Row h.1.own, h.2, owns_cap h.1.own⟩
def sz_IntervalS (l : List IV) : Nat := l.length
def cnt_IntervalS (l : List IV) : Nat := l.length * 2
def mk_IntervalS (k : Int) (l : List IV) : List IV := (List.range l.length).map (fun i => (floatOfInt .f32 (k + (i * 2 : Nat)), floatOfInt .f32 (k + (i * 2 + 1 : Nat))))
theorem cnt_sz_IntervalS (l : List IV) : cnt_IntervalS l ≤ 2 * sz_IntervalS l := by unfold cnt_IntervalS sz_IntervalS; omega
theorem mk_len (k : Int) (l : List IV) : (mk_IntervalS k l).length = l.length := by simp [mk_IntervalS]
theorem mkS_get (k : Int) (l : List IV) (i : Nat) (h : i < (mk_IntervalS k l).length) : (mk_IntervalS k l)[i] = (floatOfInt .f32 (k + (i * 2 : Nat)), floatOfInt .f32 (k + (i * 2 + 1 : Nat))) := by simp [mk_IntervalS]
theorem mkS_bits (k : Int) (l : List IV) : ∀ p ∈ mk_IntervalS k l, ivB p := by
  intro b hb
  simp only [mk_IntervalS, List.mem_map] at hb
  obtain ⟨j, _, rfl⟩ := hb
  exact ⟨floatOfInt_lt .f32 _, floatOfInt_lt .f32 _⟩
theorem len_IntervalS {l : List IV} (h : A_IntervalS w v l) {ty : TypeId} {K : Value → Prop} : bl0 P .len #[t_s_laws_Interval] ty [v] w K = K (.int .i64 (sz_IntervalS l)) := h.row.len u_s_laws_Interval
theorem A_IntervalS.len {l : List IV} (h : A_IntervalS w v l) {ty : TypeId} {K : Value → Prop} : bl0 P .len #[t_s_impl_Interval] ty [v] w K = K (.int .i64 l.length) := h.row.len u_s_impl_Interval
theorem A_IntervalS.at {l : List IV} {k : IntKind} {i : Nat} {K : Value → Prop} (h : A_IntervalS w v l) (hi : i < l.length) (H : ivB l[i] → K (ivv l[i])) : ixa P t_s_impl_Interval v (.int k (i : Int)) w (fun a => ld P t_impl_Interval a w K) := by
  refine Row.atA (cs := iv2 l[i].1 l[i].2) h.row hi rfl (fun j u hj => ?_) u_s_impl_Interval i_impl_Interval u_impl_Interval rfl (H (h.lt _ (List.getElem_mem hi)))
  match j, hj with
  | 0, hj => cases hj; exact pfs_get0 hi
  | 1, hj => cases hj; exact pfs_get1 hi
  | _ + 2, hj => simp at hj
theorem A_IntervalS.atL {l : List IV} {k : IntKind} {i : Nat} {K : Value → Prop} (h : A_IntervalS w v l) (hi : i < l.length) (H : ivB l[i] → K (ivv l[i])) : ixa P t_s_laws_Interval v (.int k (i : Int)) w (fun a => ld P t_laws_Interval a w K) := by
  refine Row.atA (cs := iv2 l[i].1 l[i].2) h.row hi rfl (fun j u hj => ?_) u_s_laws_Interval i_laws_Interval u_laws_Interval rfl (H (h.lt _ (List.getElem_mem hi)))
  match j, hj with
  | 0, hj => cases hj; exact pfs_get0 hi
  | 1, hj => cases hj; exact pfs_get1 hi
  | _ + 2, hj => simp at hj
theorem A_IntervalS.atlo {l : List IV} {k : IntKind} {i : Nat} {K : Value → Prop} (h : A_IntervalS w v l) (hi : i < l.length) (H : K (fl l[i].1)) : ixa P t_s_impl_Interval v (.int k (i : Int)) w (fun a => fda P t_impl_Interval a 0 w (fun y => ld P t_float32 y w K)) :=
  h.row.fld hi (pfs_get0 hi) u_s_impl_Interval i_impl_Interval u_impl_Interval (off := 0) rfl i_float32 u_float32 rfl H
theorem A_IntervalS.athi {l : List IV} {k : IntKind} {i : Nat} {K : Value → Prop} (h : A_IntervalS w v l) (hi : i < l.length) (H : K (fl l[i].2)) : ixa P t_s_impl_Interval v (.int k (i : Int)) w (fun a => fda P t_impl_Interval a 1 w (fun y => ld P t_float32 y w K)) :=
  h.row.fld hi (pfs_get1 hi) u_s_impl_Interval i_impl_Interval u_impl_Interval (off := 1) rfl i_float32 u_float32 rfl H

theorem c_sz_IntervalS {l : List IV} {left : Int} (h : A_IntervalS w v l) (h0 : 0 ≤ left) (h1 : left ≤ 1048576) (H : ∀ (r : Int) w', Ext w w' → (r = -1 ∨ ((sz_IntervalS l : Nat) : Int) ≤ left ∧ r = left - (sz_IntervalS l : Nat)) → K (.int .i64 r) w') : call P f_laws_szIntervalS [v, .int .i64 left] w K := by
  refine I_laws_szIntervalS ?_
  unfold D_laws_szIntervalS
  have hb := h.bound
  have hs : sz_IntervalS l = l.length := rfl
  rw [len_IntervalS h, bin_sub, wrap_i64 (by omega) (by omega), bin_lss]
  exact cnd_dec (fun h2 => H _ _ (Ext.refl _) (.inl rfl)) (fun h2 => H _ _ (Ext.refl _) (.inr ⟨by omega, rfl⟩))
theorem blk_apart {w1 w2 : World} {b1 b2 : Nat} {t1 t2 : TypeId} {p q : Value} {c1 c2 : List Value} (h1 : Bx w1 b1 t1 p c1) (h2 : Bx w2 b2 t2 q c2) (h : w1.heap.size ≤ b2) : blk q ≠ blk p := by
  obtain ⟨g, rfl, _, hg⟩ := h1
  obtain ⟨g', rfl, hb, _⟩ := h2
  have := heap_lt hg
  simp only [blk, ne_eq, Option.some.injEq]
  omega
theorem c_toInterval {p : IV} (H : ∀ w', Ext w w' → K (ivv p) w') : call P f_laws_toInterval [ivv p] w K := by
  refine I_laws_toInterval ?_
  unfold D_laws_toInterval
  refine bx_iv fun x w1 b1 e1 => ?_
  refine alc_iv fun y w2 ⟨a2, c2, b2⟩ e2 => ?_
  refine alc_iv fun z w3 ⟨a3, c3, b3⟩ e3 => ?_
  have b1 := (b1.ext e2).ext e3
  have n2 := blk_apart b2 b3 (Nat.le_refl _)
  have b2 := b2.ext e3
  have E := e1.trans (e2.trans e3)
  have s3 : w.heap.size ≤ w2.heap.size := (e1.trans e2).size
  refine b1.fld (off := 0) rfl u_laws_Interval rfl i_float32 u_float32 rfl ?_
  refine b3.fput (off := 0) (show 0 < 2 by decide) u_impl_Interval rfl i_float32 rfl fun w4 b3' g4 => ?_
  have E4 : Ext w w4 := ext_of_grown E (fun g hg => Nat.le_trans s3 (b3.blk_lt hg).1) g4
  have b1 := keep_box b1 g4 (Ty.box b3) (by decide)
  have b2 := b2.kept g4 (.inr n2)
  refine b1.fld (off := 1) rfl u_laws_Interval rfl i_float32 u_float32 rfl ?_
  refine b3'.fput (off := 1) (show 1 < 2 by decide) u_impl_Interval rfl i_float32 rfl fun w5 b3'' g5 => ?_
  have E5 : Ext w w5 := ext_of_grown E4 (fun g hg => Nat.le_trans s3 (b3'.blk_lt hg).1) g5
  have b2 := b2.kept g5 (.inr n2)
  have b3'' : Bx w5 w2.heap.size t_impl_Interval z (iv2 p.1 p.2) := b3''
  refine iv_all b3'' ?_
  refine iv_ret b2 fun w6 g6 => ?_
  exact H _ (ext_of_grown E5 (fun g hg => Nat.le_trans e1.size (b2.blk_lt hg).1) g6)

theorem c_to_IntervalS {l : List IV} (h : A_IntervalS w v l) (hs : sz_IntervalS l ≤ 1048576) (H : ∀ v' w', Ext w w' → O_IntervalS w' w.heap.size w'.heap.size v' l → K v' w') : call P f_laws_toIntervalS [v] w K := by
  have hs : l.length ≤ 1048576 := hs
  refine I_laws_toIntervalS ?_
  unfold D_laws_toIntervalS
  rw [len_IntervalS h]
  refine mks_pairs u_s_impl_Interval i_impl_Interval (by unfold sz_IntervalS; omega) (by unfold sz_IntervalS; simp only [maxLen]; omega) fun w1 v1 ho he => ?_
  refine ⟨fun m x w' => Ext w w' ∧ ∃ i : Nat, x = .int .i64 i ∧ m + i = l.length ∧ w'.ownsRow w.heap.size t_impl_Interval 2 v1 l.length (pfs (l.take i ++ List.replicate (l.length - i) (0, 0))),
    ⟨l.length, he, 0, rfl, by omega, by simpa [sz_IntervalS] using ho⟩, ?_⟩
  rintro m x junk w2 ⟨e2, i, rfl, hm, ho2⟩
  have h2 := h.ext e2
  rw [len_IntervalS h2, bin_lss]
  refine cnd_dec (fun hlt => ?_) (fun hge => ?_)
  · have hi : i < l.length := by unfold sz_IntervalS at hlt; omega
    refine h2.atL hi fun hb => ?_
    refine c_toInterval fun w3 e3 => ?_
    refine owns_set2 (owns_ext ho2 e3) hi rfl rfl u_s_impl_Interval i_impl_Interval fun w4 ho4 g4 => ?_
    rw [bin_add, wrap_i64 (by omega) (by omega)]
    refine ⟨m - 1, by omega, ?_, i + 1, rfl, by omega, ?_⟩
    · exact ext_of_grown (e2.trans e3) (fun g hg => (ho2.lt g hg).1) g4
    · rw [pfs_set (by simp; omega)] at ho4
      rw [replicate_set_take l (0, 0) i hi] at ho4
      exact ho4
  · have hi : i = l.length := by unfold sz_IntervalS at hge; omega
    subst hi
    simp only [List.take_length, Nat.sub_self, List.replicate_zero, List.append_nil] at ho2
    exact H _ _ e2 ⟨OwnR.of ho2, h.lt⟩

set_option maxRecDepth 20000 in
theorem c_eq_IntervalS {u : Value} {l : List IV} (h1 : I_IntervalS w u l) (h2 : I_IntervalS w v l) (H : ∀ w', Ext w w' → K (.bool true) w') : call P f_laws_eqIntervalS [u, v] w K := by
  refine I_laws_eqIntervalS ?_
  unfold D_laws_eqIntervalS
  have hb := h1.bound
  rw [h1.len, h2.len, bin_neq]
  refine cnd_dec (fun h1 => by omega) (fun _ => ?_)
  refine ⟨fun m x w' => Ext w w' ∧ ∃ i : Nat, x = .int .i64 i ∧ m + i = l.length, ⟨l.length, Ext.refl _, 0, rfl, by omega⟩, ?_⟩
  rintro m x junk w' ⟨e, i, rfl, hm⟩
  have h1 := h1.ext e
  have h2 := h2.ext e
  rw [h1.len, bin_lss]
  refine cnd_dec (fun hlt => ?_) (fun hge => H _ e)
  have hi : i < l.length := by omega
  refine h1.at hi fun _ => ?_
  refine h2.at hi fun _ => ?_
  refine c_eqInterval (Feq.refl _) (Feq.refl _) fun w2 e2 => ?_
  rw [una_not, Bool.not_true, cnd_false, bin_add, wrap_i64 (by omega) (by omega)]
  exact ⟨m - 1, by omega, e.trans e2, i + 1, rfl, by omega⟩

theorem mkS_succ (k : Int) (l : List IV) (i : Nat) (hi : i < l.length) (r : List IV) (hr : r = (mk_IntervalS k l).take i ++ l.drop i) :
    r.set i (floatOfInt .f32 (k + (i * 2 : Nat)), floatOfInt .f32 (k + (i * 2 + 1 : Nat))) = (mk_IntervalS k l).take (i + 1) ++ l.drop (i + 1) := by
  subst hr
  have hl : i < (mk_IntervalS k l).length := by rw [mk_len]; exact hi
  rw [List.set_append_right _ _ (by simp; omega)]
  have e : min i (mk_IntervalS k l).length = i := by omega
  rw [List.length_take, e, Nat.sub_self, List.drop_eq_getElem_cons hi, List.set_cons_zero, List.take_succ_eq_append_getElem hl, mkS_get, List.append_assoc]
  rfl

theorem c_mark_IntervalS {l : List IV} {k : Int} (h : O_IntervalS w lo hi v l) (h0 : 0 ≤ k) (h1 : k + cnt_IntervalS l ≤ 4611686018427387904) (H : ∀ w', O_IntervalS w' lo hi v (mk_IntervalS k l) → Chg lo hi w w' → K (.int .i64 (k + cnt_IntervalS l)) w') :
    call P f_laws_markIntervalS [v, .int .i64 k] w K := by
  obtain ⟨ho, hbits⟩ := h
  unfold cnt_IntervalS at *
  refine I_laws_markIntervalS ?_
  unfold D_laws_markIntervalS
  refine ⟨fun g x y w' => w.grownBy w' v.ownBlock ∧ ∃ i : Nat, y = .int .i64 i ∧ x = .int .i64 (k + (i * 2 : Nat)) ∧ g + i = l.length ∧ w'.ownsRow lo t_impl_Interval 2 v l.length (pfs ((mk_IntervalS k l).take i ++ l.drop i)),
    ⟨l.length, World.grownBy.refl _ _, 0, rfl, by simp, by omega, by simpa using ho.own⟩, ?_⟩
  rintro g x y junk w2 ⟨hg, i, rfl, rfl, hm, ho2⟩
  rw [(owns_Row ho2).len u_s_impl_Interval, bin_lss]
  refine cnd_dec (fun hlt => ?_) (fun hge => ?_)
  · have hi : i < l.length := by omega
    have hlen : ((mk_IntervalS k l).take i ++ l.drop i).length = l.length := by simp [mk_len]; omega
    rw [cnv_int_float u_int u_float32]
    refine owns_fset ho2 hi (off := 0) (by decide) rfl u_s_impl_Interval i_impl_Interval u_impl_Interval rfl i_float32 fun w3 ho3 hg3 => ?_
    rw [bin_add, wrap_i64 (by omega) (by omega), cnv_int_float u_int u_float32]
    refine owns_fset ho3 hi (off := 1) (by decide) rfl u_s_impl_Interval i_impl_Interval u_impl_Interval rfl i_float32 fun w4 ho4 hg4 => ?_
    rw [bin_add, wrap_i64 (by omega) (by omega), bin_add, wrap_i64 (by omega) (by omega)]
    refine ⟨g - 1, by omega, grown_trans (grown_trans hg hg3) hg4, i + 1, rfl, by congr 1; omega, by omega, ?_⟩
    rw [Nat.add_zero, pfs_set (by omega), show k + ((i * 2 : Nat) : Int) + 1 = k + ((i * 2 + 1 : Nat) : Int) by omega, mkS_succ k l i hi _ rfl] at ho4
    exact ho4
  · have hi : i = l.length := by omega
    subst hi
    have e : (mk_IntervalS k l).take l.length ++ l.drop l.length = mk_IntervalS k l := by
      rw [List.drop_length, List.append_nil, List.take_of_length_le (by rw [mk_len]; exact Nat.le_refl _)]
    rw [e] at ho2
    refine H _ ⟨⟨?_, ho.top⟩, mkS_bits _ _⟩ (ho.grown hg)
    rw [mk_len]; exact ho2

theorem c_held_IntervalS {l : List IV} {k : Int} (h : I_IntervalS w v (mk_IntervalS k l)) (h0 : 0 ≤ k) (h1 : k + cnt_IntervalS l ≤ 4611686018427387904) (H : ∀ w', Ext w w' → K (.int .i64 (k + cnt_IntervalS l)) w') : call P f_laws_heldIntervalS [v, .int .i64 k] w K := by
  unfold cnt_IntervalS at *
  refine I_laws_heldIntervalS ?_
  unfold D_laws_heldIntervalS
  refine ⟨fun g x y w' => w' = w ∧ ∃ i : Nat, y = .int .i64 i ∧ x = .int .i64 (k + (i * 2 : Nat)) ∧ g + i = l.length, ⟨l.length, rfl, 0, rfl, by simp, by omega⟩, ?_⟩
  rintro g x y junk w2 ⟨rfl, i, rfl, rfl, hm⟩
  rw [h.len, mk_len, bin_lss]
  refine cnd_dec (fun hlt => ?_) (fun hge => ?_)
  · have hi : i < (mk_IntervalS k l).length := by rw [mk_len]; omega
    refine h.atlo hi ?_
    rw [cnv_int_float u_int u_float32, mkS_get, bin_fneq, order_mark]
    rw [show ((some Ordering.eq != some Ordering.eq) = false) from rfl, cnd_false, bin_add, wrap_i64 (by omega) (by omega)]
    refine h.athi hi ?_
    rw [cnv_int_float u_int u_float32, mkS_get, show k + ((i * 2 : Nat) : Int) + 1 = k + ((i * 2 + 1 : Nat) : Int) by omega, bin_fneq, order_mark]
    rw [show ((some Ordering.eq != some Ordering.eq) = false) from rfl, cnd_false, bin_add, bin_add, wrap_i64 (by omega) (by omega), wrap_i64 (by omega) (by omega)]
    exact ⟨g - 1, by omega, rfl, i + 1, rfl, by congr 1; omega, by omega⟩
  · have hi : i = l.length := by omega
    subst hi
    exact H _ (Ext.refl _)

/-! ### from a row's reading -/
theorem cells_laws_Interval : P.cellsOf t_laws_Interval = 2 := by kernel_rfl
theorem cells_f32 : P.cellsOf t_float32 = 1 := by kernel_rfl
open Go.ChangeShapes Go.WideShapes Go.ChangeAt in
theorem open_IntervalS {H : Type} {enc : TypeId × Value → H} {w : World} {base : Nat} {held : Bool} {fuel : Nat} {v : Value} {x : DataW H × List MemPlace} (h : DataW.trod enc P w base (fun _ => true) held fuel t_s_laws_Interval [v] = some x) : ∃ l, A_IntervalS w v l := by
  rcases Deep.open_slice_pairs u_s_laws_Interval u_laws_Interval cells_laws_Interval rfl rfl cells_f32 cells_f32 h with ⟨hcs, _⟩ | ⟨a, len, cap, m, n, V0, V1, D0, D1, P0, P1, hcs, hb, hl, hm, hmm, _, hx⟩
  · obtain rfl : v = .slice none 0 0 := by simpa using hcs
    exact ⟨[], Row.nil 2 w, (fun p hp => by cases hp), Nat.le_refl _⟩
  · obtain rfl : v = .slice (some a) len cap := by simpa using hcs
    simp only [if_true] at hmm
    subst hmm
    have each : ∀ i, i < m → ∃ p : IV, V0 i = fl p.1 ∧ V1 i = fl p.2 ∧ ivB p := fun i hi => by
      obtain ⟨_, _, q0, q1⟩ := hx i hi
      obtain ⟨b0, c0, l0⟩ := trod_float u_float32 q0
      obtain ⟨b1, c1, l1⟩ := trod_float u_float32 q1
      exact ⟨(b0, b1), by simpa using c0, by simpa using c1, by simpa [Lit.wf] using l0, by simpa [Lit.wf] using l1⟩
    obtain ⟨q, hq⟩ := Deep.choose_lt each
    refine ⟨(List.range len).map q, ?_, fun p hp => ?_, hl⟩
    · have hlen : ((List.range len).map q).length = len := by simp
      refine ⟨by rw [pfs_len], by rw [hlen]; omega, some a, m, by rw [hlen], fun hn => ?_⟩
      rw [hlen] at hn
      have h0 := (hx 0 (by omega)).1
      obtain ⟨b, o, sp⟩ := a
      have hsp : sp = none := by
        have := World.cell?_spot h0
        simpa [Addr.add] using this
      subst hsp
      refine ⟨b, o, rfl, fun j u hu => ?_⟩
      have hj : j < len * 2 := by
        have := (List.getElem?_eq_some_iff.1 hu).1
        rw [pfs_len, hlen] at this; exact this
      have hi : j / 2 < ((List.range len).map q).length := by rw [hlen]; omega
      have g0 := pfs_get0 hi
      have g1 := pfs_get1 hi
      simp only [List.getElem_map, List.getElem_range] at g0 g1
      obtain ⟨c0, c1, _, _⟩ := hx (j / 2) (by omega)
      obtain ⟨r0, r1, _⟩ := hq (j / 2) (by omega)
      rw [Addr.add_lit] at c0 c1
      rcases Nat.mod_two_eq_zero_or_one j with h2 | h2
      · rw [show j = j / 2 * 2 by omega] at hu ⊢
        rw [g0] at hu; cases hu
        rw [c0, r0]
      · rw [show j = j / 2 * 2 + 1 by omega] at hu ⊢
        rw [g1] at hu; cases hu
        rw [← Nat.add_assoc] at *
        rw [c1, r1]
    · simp only [List.mem_map, List.mem_range] at hp
      obtain ⟨i, hi, rfl⟩ := hp
      exact (hq i (by omega)).2.2
end Go.Proofs.YtabgkpfcpncmhaaGreat

/- Elimination: what it computes, and the data it works on. -/
set_option linter.unusedVariables false
namespace Go.Proofs.YtabgkpfcpncmhaaGreat
open Go Go.Vc

variable {w : World} {K : Value → World → Prop}

/-! ### what is computed -/
def swapL {α : Type} (l : List α) (i j : Nat) (d : α) : List α := (l.set i (l.getD j d)).set j (l.getD i d)
def sw (i j p : Nat) : Nat := if p = j then i else if p = i then j else p
@[simp] theorem swapL_length {α : Type} (l : List α) (i j : Nat) (d : α) : (swapL l i j d).length = l.length := by simp [swapL]
theorem swapL_get {α : Type} {l : List α} {i j : Nat} {d : α} (hi : i < l.length) (hj : j < l.length) (p : Nat) : (swapL l i j d)[p]? = l[sw i j p]? := by
  unfold swapL sw
  rw [List.getElem?_set]
  by_cases h1 : j = p
  · subst h1
    simp [hi, hj]
  · rw [if_neg h1, List.getElem?_set, if_neg (fun e : p = j => h1 e.symm)]
    by_cases h2 : i = p
    · subst h2
      simp [hi, hj]
    · rw [if_neg h2, if_neg (fun e : p = i => h2 e.symm)]
theorem swapL_comm {α : Type} {l : List α} {i j : Nat} {d : α} (hi : i < l.length) (hj : j < l.length) : (l.set j (l.getD i d)).set i (l.getD j d) = swapL l i j d := by
  apply List.ext_getElem?
  intro p
  rw [swapL_get hi hj]
  have := swapL_get (d := d) hj hi p
  unfold swapL at this
  rw [this]
  unfold sw
  by_cases h1 : p = i
  · subst h1
    by_cases h2 : p = j
    · subst h2; rfl
    · rw [if_pos rfl, if_neg h2, if_pos rfl]
  · by_cases h2 : p = j
    · subst h2; rw [if_neg h1, if_pos rfl, if_pos rfl]
    · rw [if_neg h1, if_neg h2, if_neg h2, if_neg h1]

def szF (a : Nat) : Nat := if Ieee.single.order a 0 == some .lt then Op.negFloat .f32 a else a
def absF (a : Nat) : Nat := if Ieee.single.order a 0 == some .lt then Op.negFloat .f32 a else if Ieee.single.order a 0 == some .eq then 0 else a
def gtF (a b : Nat) : Bool := Ieee.single.order (szF a) (szF b) == some .gt
def isZ (a : Nat) : Bool := Ieee.single.order a 0 == some .eq

theorem signed_zero (s : Bool) (k : Nat) : Ieee.signed s 0 k = 0 := by unfold Ieee.signed; cases s <;> simp
theorem signed_eq_zero {s : Bool} {m k : Nat} (h : Ieee.signed s m k = 0) : m = 0 := by
  unfold Ieee.signed at h
  have h1 : m <<< k = 0 := by cases s <;> simp at h <;> simpa using h
  rw [Nat.shiftLeft_eq] at h1
  rcases Nat.mul_eq_zero.1 h1 with h | h
  · exact h
  · exact absurd h (Nat.pos_iff_ne_zero.1 (Nat.two_pow_pos k))
theorem read_isZ {a : Nat} (ha : Fin Ieee.single a) (h : isZ a = true) : ∃ s e, Ieee.single.read a = .number s 0 e ∧ Ieee.single.read 0 = .number false 0 e := by
  have h0 : Ieee.single.read 0 = .number false 0 Ieee.single.leastPlace := by decide
  obtain ⟨m, e, hr⟩ := read_fin ha
  have hm : m = 0 := by
    unfold isZ Ieee.Format.order at h
    rw [h0, hr] at h
    simp only [Ieee.Datum.order, signed_zero, beq_iff_eq, Option.some.injEq] at h
    exact signed_eq_zero (by simpa using h)
  subst hm
  refine ⟨_, e, hr, ?_⟩
  rw [h0]
  unfold Ieee.Format.read at hr
  simp only [] at hr
  have hlt : a % Ieee.single.signWeight < Ieee.single.infRung := ha
  by_cases hb : a % Ieee.single.signWeight < Ieee.single.binade
  · rw [if_pos hb] at hr
    simp only [Ieee.Datum.number.injEq] at hr
    rw [hr.2.2]
  · rw [if_neg hb, if_pos hlt] at hr
    simp only [Ieee.Datum.number.injEq] at hr
    have := hr.2.1
    have hb0 : 0 < Ieee.single.binade := by decide
    omega
theorem order_zl {a : Nat} (ha : Fin Ieee.single a) (h : isZ a = true) (y : Nat) : Ieee.single.order a y = Ieee.single.order 0 y := by
  obtain ⟨s, e, h1, h2⟩ := read_isZ ha h
  unfold Ieee.Format.order
  rw [h1, h2]
  cases Ieee.single.read y <;> simp [Ieee.Datum.order, signed_zero]
theorem order_zr {a : Nat} (ha : Fin Ieee.single a) (h : isZ a = true) (y : Nat) : Ieee.single.order y a = Ieee.single.order y 0 := by
  obtain ⟨s, e, h1, h2⟩ := read_isZ ha h
  unfold Ieee.Format.order
  rw [h1, h2]
  cases Ieee.single.read y <;> simp [Ieee.Datum.order, signed_zero]
theorem absF_szF {a : Nat} : absF a = szF a ∨ (isZ a = true ∧ absF a = 0 ∧ szF a = a) := by
  unfold absF szF isZ
  cases h : Ieee.single.order a 0 with
  | none => simp
  | some o => cases o <;> simp
theorem gt_abs {a b : Nat} (ha : Fin Ieee.single a) (hb : Fin Ieee.single b) : (Ieee.single.order (absF a) (absF b) == some .gt) = gtF a b := by
  unfold gtF
  rcases absF_szF (a := a) with h1 | ⟨z1, h1, e1⟩
  · rcases absF_szF (a := b) with h2 | ⟨z2, h2, e2⟩
    · rw [h1, h2]
    · rw [h1, h2, e2, order_zr hb z2]
  · rcases absF_szF (a := b) with h2 | ⟨z2, h2, e2⟩
    · rw [h1, h2, e1, order_zl ha z1]
    · rw [h1, h2, e1, e2, order_zl ha z1, order_zr hb z2]
theorem gtF_self (a : Nat) : gtF a a = false := by
  unfold gtF Ieee.Format.order
  cases Ieee.single.read (szF a) <;> simp [Ieee.Datum.order]

theorem c_spec_l01Abs {a : Nat} (H : K (fl (absF a)) w) : call P f_spec_l01Abs [fl a] w K := by
  refine I_spec_l01Abs ?_
  unfold D_spec_l01Abs
  rw [bin_flss]
  unfold absF at H
  refine cnd_split (fun h => ?_) (fun h => ?_)
  · rw [show (Ieee.single.order a 0 == some .lt) = true from h, if_pos rfl] at H
    rw [una_neg_float]; exact H
  · rw [show (Ieee.single.order a 0 == some .lt) = false from h, if_neg (by simp)] at H
    rw [bin_feql]
    refine cnd_split (fun h => ?_) (fun h => ?_)
    · rw [show (Ieee.single.order a 0 == some .eq) = true from h, if_pos rfl] at H
      exact H
    · rw [show (Ieee.single.order a 0 == some .eq) = false from h, if_neg (by simp)] at H
      exact H

def bestF (m : List (List Nat)) (k : Nat) : Nat → Nat → Nat → Nat
  | 0, _, b => b
  | f + 1, i, b => bestF m k f (i + 1) (if gtF (cell m i k) (cell m b k) then i else b)
/-- The row below a pivot: its columns from j on. -/
def colsE (p : List Nat) (q : Nat) : Nat → Nat → List Nat → Option (List Nat)
  | 0, _, r => some r
  | f + 1, j, r => if finB (opF .sub (r.getD j 0) (opF .mul q (p.getD j 0))) then colsE p q f (j + 1) (r.set j (opF .sub (r.getD j 0) (opF .mul q (p.getD j 0)))) else none
def rowE (n k : Nat) (p r : List Nat) : Option (List Nat) :=
  if finB (opF .quo (r.getD k 0) (p.getD k 0)) then colsE p (opF .quo (r.getD k 0) (p.getD k 0)) (n - (k + 1)) (k + 1) (r.set k (opF .quo (r.getD k 0) (p.getD k 0))) else none
def rowsE (n k : Nat) : Nat → Nat → List (List Nat) → Option (List (List Nat))
  | 0, _, m => some m
  | f + 1, i, m => match rowE n k (m.getD k []) (m.getD i []) with
    | none => none
    | some r => rowsE n k f (i + 1) (m.set i r)
def elimE (n : Nat) : Nat → Nat → List Nat → List (List Nat) → Except Int (List Nat × List (List Nat))
  | 0, _, o, m => .ok (o, m)
  | f + 1, k, o, m =>
    if isZ (cell (swapL m k (bestF m k (n - k) k k) []) k k) then .error 5
    else match rowsE n k (n - (k + 1)) (k + 1) (swapL m k (bestF m k (n - k) k k) []) with
      | none => .error 3
      | some m' => elimE n f (k + 1) (swapL o k (bestF m k (n - k) k k) 0) m'
def elimF (m : List (List Nat)) : Except Int (List Nat × List (List Nat)) := elimE m.length m.length 0 (List.range m.length) m

theorem bestF_start {m : List (List Nat)} {k n : Nat} (h : k < n) : bestF m k (n - k) k k = bestF m k (n - (k + 1)) (k + 1) k := by
  have : n - k = (n - (k + 1)) + 1 := by omega
  rw [this, bestF, gtF_self]; simp
theorem bestF_range {m : List (List Nat)} {k n : Nat} : ∀ {f i b : Nat}, f + i ≤ n → b < n → k ≤ b → k ≤ i → bestF m k f i b < n ∧ k ≤ bestF m k f i b
  | 0, i, b, h1, h2, h3, h4 => ⟨h2, h3⟩
  | f + 1, i, b, h1, h2, h3, h4 => by
    rw [bestF]
    refine bestF_range (by omega) ?_ ?_ (by omega) <;> split <;> omega

/-- What is true of the table all along. -/
structure Good (n : Nat) (m : List (List Nat)) : Prop where
  sq : square n m
  fin : ∀ r ∈ m, r.all finB = true
  lt : bits m
theorem Good.cellFin {n : Nat} {m : List (List Nat)} (h : Good n m) (i j : Nat) : finB (cell m i j) = true := cell_fin h.fin i j
theorem Good.len {n : Nat} {m : List (List Nat)} (h : Good n m) : m.length = n := h.sq.1
theorem Good.row {n : Nat} {m : List (List Nat)} (h : Good n m) {i : Nat} (hi : i < m.length) : m[i].length = n := h.sq.row hi
theorem Good.set {n : Nat} {m : List (List Nat)} (h : Good n m) (i : Nat) {r : List Nat} (h1 : r.length = n) (h2 : r.all finB = true) (h3 : ∀ b ∈ r, b < 4294967296) : Good n (m.set i r) := by
  refine ⟨⟨by rw [List.length_set]; exact h.sq.1, fun x hx => ?_⟩, fun x hx => ?_, fun x hx => ?_⟩
  all_goals
    rcases List.mem_or_eq_of_mem_set hx with hx | rfl
    · first | exact h.sq.2 x hx | exact h.fin x hx | exact h.lt x hx
    · first | exact h1 | exact h2 | exact h3
theorem mem_swapL {α : Type} {l : List α} {i j : Nat} {d x : α} (hi : i < l.length) (hj : j < l.length) (hx : x ∈ swapL l i j d) : x ∈ l := by
  obtain ⟨p, hp⟩ := List.mem_iff_getElem?.1 hx
  rw [swapL_get hi hj] at hp
  exact List.mem_iff_getElem?.2 ⟨_, hp⟩
theorem Good.swap {n : Nat} {m : List (List Nat)} (h : Good n m) {i j : Nat} (hi : i < m.length) (hj : j < m.length) : Good n (swapL m i j []) :=
  ⟨⟨by rw [swapL_length]; exact h.sq.1, fun x hx => h.sq.2 x (mem_swapL hi hj hx)⟩, fun x hx => h.fin x (mem_swapL hi hj hx), fun x hx => h.lt x (mem_swapL hi hj hx)⟩
theorem all_set {r : List Nat} {j x : Nat} (h : r.all finB = true) (hx : finB x = true) : (r.set j x).all finB = true := by
  rw [List.all_eq_true] at *
  intro b hb
  rcases List.mem_or_eq_of_mem_set hb with hb | rfl
  · exact h b hb
  · exact hx
theorem lt_set {r : List Nat} {j x : Nat} (h : ∀ b ∈ r, b < 4294967296) (hx : x < 4294967296) : ∀ b ∈ r.set j x, b < 4294967296 := by
  intro b hb
  rcases List.mem_or_eq_of_mem_set hb with hb | rfl
  · exact h b hb
  · exact hx
theorem colsE_step {p r : List Nat} {q n j : Nat} (h : j < n) : colsE p q (n - j) j r = if finB (opF .sub (r.getD j 0) (opF .mul q (p.getD j 0))) then colsE p q (n - (j + 1)) (j + 1) (r.set j (opF .sub (r.getD j 0) (opF .mul q (p.getD j 0)))) else none := by
  rw [show n - j = (n - (j + 1)) + 1 by omega, colsE]
theorem colsE_end {p r : List Nat} {q n j : Nat} (h : n ≤ j) : colsE p q (n - j) j r = some r := by
  rw [show n - j = 0 by omega, colsE]
theorem rowsE_step {n k i : Nat} {m : List (List Nat)} (h : i < n) : rowsE n k (n - i) i m = match rowE n k (m.getD k []) (m.getD i []) with
    | none => none
    | some r => rowsE n k (n - (i + 1)) (i + 1) (m.set i r) := by
  rw [show n - i = (n - (i + 1)) + 1 by omega, rowsE]
theorem rowsE_end {n k i : Nat} {m : List (List Nat)} (h : n ≤ i) : rowsE n k (n - i) i m = some m := by
  rw [show n - i = 0 by omega, rowsE]
theorem elimE_step {n k : Nat} {o : List Nat} {m : List (List Nat)} (h : k < n) : elimE n (n - k) k o m = if isZ (cell (swapL m k (bestF m k (n - k) k k) []) k k) then .error 5
    else match rowsE n k (n - (k + 1)) (k + 1) (swapL m k (bestF m k (n - k) k k) []) with
      | none => .error 3
      | some m' => elimE n (n - (k + 1)) (k + 1) (swapL o k (bestF m k (n - k) k k) 0) m' := by
  rw [show elimE n (n - k) k o m = elimE n ((n - (k + 1)) + 1) k o m by rw [show n - k = (n - (k + 1)) + 1 by omega], elimE]
theorem elimE_end {n k : Nat} {o : List Nat} {m : List (List Nat)} (h : n ≤ k) : elimE n (n - k) k o m = .ok (o, m) := by
  rw [show n - k = 0 by omega, elimE]
end Go.Proofs.YtabgkpfcpncmhaaGreat

/- Elimination: an elimination's data in the heap, and what its steps do to them. -/
set_option linter.unusedVariables false
namespace Go.Proofs.YtabgkpfcpncmhaaGreat
open Go Go.Vc

variable {w : World} {K : Value → World → Prop}

abbrev ivN (n : Nat) : Value := .int .i64 (n : Int)
abbrev OI (w : World) (base : Nat) (v : Value) (l : List Nat) : Prop := w.ownsRow base t_int64 1 v l.length (l.map ivN)
theorem oneCell_iv (n : Nat) : (ivN n).oneCell' = true := rfl

section
variable {lo hi : Nat} {v : Value} {m : List (List Nat)} {vs : List Value}
theorem OM.keep {w' : World} {row : Option Nat} {e : TypeId} (h : OM w lo hi v m vs) (hg : w.grownBy w' row) (ht : Ty w row e) (h1 : t_s_float32 ≠ e) (h2 : t_float32 ≠ e) : OM w' lo hi v m vs :=
  ⟨keep_row h.outer hg ht h1, fun i hi => let ⟨x, hx, ho, hk⟩ := h.rows i hi; ⟨x, hx, keep_row ho hg ht h2, hk⟩, h.apart, h.top⟩
theorem OM.pushed {w' : World} {v' : Value} {hi2 : Nat} {r : Value} {l : List Nat} (h : OM w lo hi v m vs) (hr : OwnR w hi hi2 t_float32 1 r l.length (l.map fl)) (hlh : lo ≤ hi)
    (h1 : w'.ownsRow lo t_s_float32 1 v' (m.length + 1) (vs ++ [r])) (h2 : w.grownBy w' v.ownBlock) : OM w' lo w'.heap.size v' (m ++ [l]) (vs ++ [r]) := by
  refine ⟨by simpa using h1, fun i hi' => ?_, fun i j x y hij hx hy => ?_, fun k hk => (h1.lt k hk).2⟩
  · by_cases he : i < m.length
    · obtain ⟨x, hx, ho, hk⟩ := h.rows i he
      have hv : i < vs.length := (List.getElem?_eq_some_iff.1 hx).1
      refine ⟨x, by rw [List.getElem?_append_left hv]; exact hx, ?_, fun k hkk => ?_⟩
      · rw [List.getElem_append_left he]
        exact ho.kept h2 (owns_ne ho h.outer (by decide))
      · have := (ho.lt k hkk).2
        have := h2.size
        omega
    · have hi'' : i = m.length := by simp at hi'; omega
      subst hi''
      refine ⟨r, by rw [← h.vlen]; simp, ?_, fun k hkk => ?_⟩
      · rw [List.getElem_append_right (Nat.le_refl _)]
        simp only [Nat.sub_self, List.getElem_cons_zero]
        exact owns_base (hr.own.kept h2 (owns_ne hr.own h.outer (by decide))) hlh
      · have := (hr.own.lt k hkk).2
        have := h2.size
        omega
  · by_cases he : j < vs.length
    · rw [List.getElem?_append_left he] at hy
      rw [List.getElem?_append_left (by omega)] at hx
      exact h.apart i j x y hij hx hy
    · have hjl := (List.getElem?_eq_some_iff.1 hy).1
      have : j = vs.length := by simp at hjl; omega
      subst this
      simp at hy; subst hy
      rw [List.getElem?_append_left hij] at hx
      have hvl := h.vlen
      obtain ⟨x', hx', ho', hk'⟩ := h.rows i (by omega)
      rw [hx] at hx'; cases hx'
      cases hob : x.ownBlock with
      | none => exact .inl rfl
      | some k =>
        refine .inr fun hne => ?_
        have h1 := hk' k hob
        have h2 := (hr.own.lt k hne.symm).1
        omega
theorem OM.bound (h : OM w lo hi v m vs) : m.length ≤ maxLen := owns_bound h.outer
theorem sw_sw (i j p : Nat) : sw i j (sw i j p) = p := by
  unfold sw
  by_cases e1 : p = j
  · subst e1
    rw [if_pos rfl]
    by_cases e2 : i = p
    · rw [if_pos e2]; exact e2
    · rw [if_neg e2, if_pos rfl]
  · rw [if_neg e1]
    by_cases e2 : p = i
    · subst e2
      rw [if_pos rfl, if_pos rfl]
    · rw [if_neg e2, if_neg e1, if_neg e2]
/-- The outer row's cells change places. -/
theorem OM.perm {w' : World} {i j : Nat} {n : Nat} (h : OM w lo hi v m vs) (hi' : i < m.length) (hj' : j < m.length) (hn : n = m.length) (ho : w'.ownsRow lo t_s_float32 1 v n (swapL vs i j undef)) (hg : w.grownBy w' v.ownBlock) : OM w' lo hi v (swapL m i j []) (swapL vs i j undef) := by
  subst hn
  have hvl := h.vlen
  have hgv := fun p => swapL_get (l := vs) (d := undef) (i := i) (j := j) (by omega) (by omega) p
  have hgm := fun p => swapL_get (l := m) (d := []) (i := i) (j := j) hi' hj' p
  have hsw : ∀ p, p < m.length → sw i j p < m.length := by
    intro p hp
    unfold sw
    by_cases e1 : p = j
    · rw [if_pos e1]; exact hi'
    · rw [if_neg e1]
      by_cases e2 : p = i
      · rw [if_pos e2]; exact hj'
      · rw [if_neg e2]; exact hp
  have hinj : ∀ p q, p ≠ q → sw i j p ≠ sw i j q := fun p q hne he => hne (by rw [← sw_sw i j p, he, sw_sw])
  refine ⟨by rw [swapL_length]; exact ho, fun p hp => ?_, fun p q x y hpq hx hy => ?_, h.top⟩
  · have hp' : p < m.length := by simpa using hp
    obtain ⟨x, hx, hox, hk⟩ := h.rows (sw i j p) (hsw p hp')
    refine ⟨x, by rw [hgv]; exact hx, ?_, hk⟩
    have e : (swapL m i j [])[p] = m[sw i j p]'(hsw p hp') := by
      have := hgm p
      rw [List.getElem?_eq_getElem hp, List.getElem?_eq_getElem (hsw p hp')] at this
      exact Option.some.inj this
    rw [e]
    exact hox.kept hg (owns_ne hox h.outer (by decide))
  · rw [hgv] at hx hy
    rcases Nat.lt_or_ge (sw i j p) (sw i j q) with hlt | hge
    · exact h.apart _ _ x y hlt hx hy
    · have hne := hinj p q (by omega)
      rcases h.apart _ _ y x (by omega) hy hx with h1 | h1
      · cases hob : x.ownBlock with
        | none => exact .inl rfl
        | some k => exact .inr (by rw [h1]; simp)
      · exact .inr fun e => h1 e.symm
theorem OM.put' {i j : Nat} {r : Value} {x : Nat} {K : World → Prop} (h : OM w lo hi v m vs) (hr : vs[i]? = some r) (hi' : i < m.length) (hj : j < m[i].length)
    (H : ∀ w', OM w' lo hi v (m.set i (m[i].set j x)) vs → w.grownBy w' r.ownBlock → Ty w r.ownBlock t_float32 → (∀ k, r.ownBlock = some k → lo ≤ k) → K w') :
    ixa P t_s_float32 r (.int .i64 (j : Int)) w (fun a => sto P t_float32 a (fl x) w K) := by
  obtain ⟨r', hr', ho, hk⟩ := h.rows i hi'
  rw [hr] at hr'; cases hr'
  refine owns_set ho hj (oneCell_fl _) u_s_float32 i_float32 fun w' ho' hg => ?_
  have e : OS w' lo r (m[i].set j x) := by
    show w'.ownsRow lo t_float32 1 r (m[i].set j x).length ((m[i].set j x).map fl)
    rw [List.length_set, List.map_set]; exact ho'
  exact H w' (h.row hr hg e).1 hg (Ty.owns ho) fun k hk => (ho.lt k hk).1
theorem OM.atI (h : OM w lo hi v m vs) {i : Nat} (hi' : i < m.length) {K : Value → Prop} (H : ∀ r, vs[i]? = some r → K r) : ixa P t_s_s_float32 v (.int .i64 (i : Int)) w (fun a => ld P t_s_float32 a w K) :=
  h.at hi' fun r hr _ => H r hr
theorem OM.rowAt (h : OM w lo hi v m vs) {i j : Nat} {r : Value} (hr : vs[i]? = some r) (hi' : i < m.length) (hj : j < m[i].length) {K : Value → Prop} (H : K (fl m[i][j])) : ixa P t_s_float32 r (.int .i64 (j : Int)) w (fun a => ld P t_float32 a w K) := by
  obtain ⟨r', hr', ho, hk⟩ := h.rows i hi'
  rw [hr] at hr'; cases hr'
  exact (owns_Row ho).at1 (get_map hj) u_s_float32 i_float32 u_float32 rfl H
end

/-- The variables of an elimination at work: p holds its fields, q is the function's result. -/
structure EL (w : World) (B : Nat) (p q ov tv : Value) (o : List Nat) (m : List (List Nat)) (vs : List Value) : Prop where
  bx : Bx w B t_impl_Elimination p [ov, tv]
  res : Bx w B t_impl_Elimination q [.slice none 0 0, .slice none 0 0]
  ne : blk q ≠ blk p
  ord : OI w B ov o
  tab : OM w B w.heap.size tv m vs
section
variable {B : Nat} {p q ov tv : Value} {o : List Nat} {m : List (List Nat)} {vs : List Value}
theorem EL.ext {w' : World} (h : EL w B p q ov tv o m vs) (he : Ext w w') : EL w' B p q ov tv o m vs := ⟨h.bx.ext he, h.res.ext he, h.ne, owns_ext h.ord he, (h.tab.ext he).sized⟩
theorem EL.getO (h : EL w B p q ov tv o m vs) {K : Value → Prop} (H : K ov) : fda P t_impl_Elimination p 0 w (fun a => ld P t_s_int64 a w K) := Bx.fld h.bx (off := 0) rfl u_impl_Elimination rfl i_s_int64 u_s_int64 rfl H
theorem EL.getT (h : EL w B p q ov tv o m vs) {K : Value → Prop} (H : K tv) : fda P t_impl_Elimination p 1 w (fun a => ld P t_s_s_float32 a w K) := Bx.fld h.bx (off := 1) rfl u_impl_Elimination rfl i_s_s_float32 u_s_s_float32 rfl H
theorem EL.ordAt (h : EL w B p q ov tv o m vs) {i : Nat} (hi : i < o.length) {K : Value → Prop} (H : K (ivN o[i])) : ixa P t_s_int64 ov (.int .i64 (i : Int)) w (fun a => ld P t_int64 a w K) :=
  (owns_Row h.ord).at1 (get_map hi) u_s_int64 i_int64 u_int64 rfl H
/-- 'm[i][j] = x'. -/
theorem EL.put {i j : Nat} {r : Value} {x : Nat} {K : World → Prop} (h : EL w B p q ov tv o m vs) (hr : vs[i]? = some r) (hi' : i < m.length) (hj : j < m[i].length)
    (H : ∀ w', EL w' B p q ov tv o (m.set i (m[i].set j x)) vs → (∀ {A w0}, A ≤ B → A ≤ w.heap.size → RowKit.Below A w0 w → RowKit.Below A w0 w') → K w') :
    ixa P t_s_float32 r (.int .i64 (j : Int)) w (fun a => sto P t_float32 a (fl x) w K) := by
  refine h.tab.put' hr hi' hj fun w' ho hg ht hlo => H w' ⟨keep_box h.bx hg ht (by decide), keep_box h.res hg ht (by decide), h.ne, keep_row h.ord hg ht (by decide), ho.sized⟩ fun hA hs hb => hb.grown hg hs fun k hk => Nat.le_trans hA (hlo k hk)
/-- A store of a row into the table. -/
theorem EL.setO {i x : Nat} {K : World → Prop} (h : EL w B p q ov tv o m vs) (hi : i < o.length) (H : ∀ w', EL w' B p q ov tv (o.set i x) m vs → (∀ {A w0}, A ≤ B → A ≤ w.heap.size → RowKit.Below A w0 w → RowKit.Below A w0 w') → K w') :
    ixa P t_s_int64 ov (.int .i64 (i : Int)) w (fun a => sto P t_int64 a (ivN x) w K) := by
  refine owns_set h.ord hi (oneCell_iv x) u_s_int64 i_int64 fun w' ho hg => ?_
  have ht := Ty.owns h.ord
  refine H w' ⟨keep_box h.bx hg ht (by decide), keep_box h.res hg ht (by decide), h.ne, ?_, (h.tab.keep hg ht (by decide) (by decide)).sized⟩ fun hA hs hb => hb.grown hg hs fun k hk => Nat.le_trans hA (h.ord.lt k hk).1
  show w'.ownsRow B t_int64 1 ov (o.set i x).length ((o.set i x).map ivN)
  rw [List.length_set, List.map_set]; exact ho
/-- Two rows of the table change places: 't[i] = row j', then 't[j] = row i'. -/
theorem EL.swap1 {i j : Nat} {ri rj : Value} {K : World → Prop} (h : EL w B p q ov tv o m vs) (hi : i < m.length) (hj : j < m.length) (hri : vs[i]? = some ri) (hrj : vs[j]? = some rj)
    (H : ∀ w1, Bx w1 B t_impl_Elimination p [ov, tv] → (∀ {K2 : World → Prop}, (∀ w2, EL w2 B p q ov tv o (swapL m i j []) (swapL vs i j undef) → (∀ {A w0}, A ≤ B → A ≤ w.heap.size → RowKit.Below A w0 w → RowKit.Below A w0 w2) → K2 w2) →
      ixa P t_s_s_float32 tv (.int .i64 (j : Int)) w1 (fun a => sto P t_s_float32 a ri w1 K2)) → K w1) :
    ixa P t_s_s_float32 tv (.int .i64 (i : Int)) w (fun a => sto P t_s_float32 a rj w K) := by
  obtain ⟨ri', hri', oi, _⟩ := h.tab.rows i hi
  obtain ⟨rj', hrj', oj, _⟩ := h.tab.rows j hj
  rw [hri] at hri'; cases hri'
  rw [hrj] at hrj'; cases hrj'
  refine owns_set h.tab.outer hi (oneCell_sl oj) u_s_s_float32 i_s_float32 fun w1 o1 g1 => ?_
  have t1 := Ty.owns h.tab.outer
  refine H w1 (keep_box h.bx g1 t1 (by decide)) fun {K2} H2 => ?_
  refine owns_set o1 hj (oneCell_sl oi) u_s_s_float32 i_s_float32 fun w2 o2 g2 => ?_
  have g := grown_trans g1 g2
  have hvl := h.tab.vlen
  have e : (vs.set i rj).set j ri = swapL vs i j undef := by
    unfold swapL
    rw [List.getD_eq_getElem?_getD, List.getD_eq_getElem?_getD, hri, hrj]; rfl
  rw [e] at o2
  refine H2 w2 ⟨keep_box h.bx g t1 (by decide), keep_box h.res g t1 (by decide), h.ne, keep_row h.ord g t1 (by decide), (h.tab.perm hi hj rfl o2 g).sized⟩ fun hA hs hb => hb.grown g hs fun k hk => Nat.le_trans hA (h.tab.outer.lt k hk).1
end
end Go.Proofs.YtabgkpfcpncmhaaGreat

/- Elimination: the program's. -/
set_option linter.unusedVariables false
namespace Go.Proofs.YtabgkpfcpncmhaaGreat
open Go Go.Vc

variable {w : World} {K : Value → World → Prop}

theorem FSS.at0 {v : Value} {m : List (List Nat)} {w' : World} (h : FSS w v m) (he : Ext w w') {i : Nat} (hi : i < m.length) {K : Value → Prop} (H : ∀ x, FS w x m[i] → K x) : ixa P t_s_s_float32 v (.int .i64 (i : Int)) w' (fun a => ld P t_s_float32 a w' K) := by
  obtain ⟨vs, h1, h2⟩ := h.ex
  obtain ⟨x, hx, hf⟩ := h2 i hi
  exact (h1.ext he).at1 hx u_s_s_float32 i_s_float32 u_s_float32 rfl (H x hf)

/-- A field of one cell, with its address. -/
theorem Bx_fld2 {base : Nat} {t ty : TypeId} {p : Value} {cs : List Value} {z : Value} {b : Nat} {d : TypeDesc} {fs : Array Field} {f off : Nat} {x : Value} {K : Value → Value → Prop} (h : Bx w base t p cs) (hx : cs[off]? = some x) (hu : P.underlying t = some (.struct fs))
    (hf : (fs[f]?).map (fun x => (x.type, x.offset)) = some (ty, off)) (ht : TI P ty z 1 b) (hue : P.underlying ty = some d) (hd : aggB d = false)
    (H : ∀ a, (∀ {w' base' cs'}, Bx w' base' t p cs' → ∀ {K' : Value → Prop}, K' a → fda P t p f w' K') → (∀ {w' base' cs' y}, Bx w' base' t p cs' → cs'[off]? = some y → ∀ {K' : Value → Prop}, K' y → ld P ty a w' K') → K a x) :
    fda P t p f w (fun a => ld P ty a w (fun x => K a x)) := by
  obtain ⟨g, rfl, hc⟩ := h.cell
  have e0 : ∀ {w' : World} {K' : Value → Prop}, fda P t (.pointer (some ⟨g, 0, none⟩)) f w' K' = K' (.pointer (some ⟨g, off, none⟩)) := by
    intro w' K'
    rw [fda_off hu hf ht (by decide), Addr.add_lit, Nat.zero_add]
  rw [e0, ld_scalar hue hd (hc off x hx).1]
  refine H _ (fun h' K' hk => by rw [e0]; exact hk) (fun {w' base' cs' y} h' hy K' hk => ?_)
  obtain ⟨g', hg', hc'⟩ := h'.cell
  simp only [Value.pointer.injEq, Option.some.injEq, Addr.mk.injEq] at hg'
  obtain ⟨rfl, _⟩ := hg'
  rw [ld_scalar hue hd (hc' off y hy).1]; exact hk

theorem nb1 {b : Bool} (h : (!b) = true) : b = false := by simpa using h
theorem nb0 {b : Bool} (h : (!b) = false) : b = true := by simpa using h
theorem bslF0 {KW : Value → World → Prop} (H : ∀ w', Ext w w' → KW (.slice (some ⟨w.heap.size, 0, none⟩) 0 0) w') : bsl P t_s_float32 0 [] w KW := bsl_nil u_s_float32 i_float32 (H _ (Ext_alloc _ _))
theorem one2 {a b : Value} (ha : a.oneCell' = true) (hb : b.oneCell' = true) : ∀ x ∈ [a, b], x.oneCell' = true := by
  intro x hx
  simp at hx
  rcases hx with rfl | rfl
  · exact ha
  · exact hb
abbrev nilS : Value := .slice none 0 0
theorem bld_elim {K : Value → Prop} : bld P t_impl_Elimination [] w K = K (.agg #[nilS, nilS]) := bld_of (by kernel_rfl)

/-- One step of elimination in a row. -/
theorem step_sub {a b s p q : Nat} (ha : finB a = true) (hb : finB b = true) (hs : finB s = true) (hp : FR .mul .f32 a b p) (hq : FR .sub .f32 s p q) : p = opF .mul a b ∧ q = opF .sub s (opF .mul a b) ∧ (finB p = true ∨ finB p = false ∧ finB q = false) := by
  rw [finB_iff] at ha hb hs
  have hm := mul_fin (k := .f32) ha hb
  have e := FR_opF hp hm
  refine ⟨e, ?_⟩
  by_cases hf : Fin Ieee.single p
  · refine ⟨?_, .inl (finB_iff.2 hf)⟩
    rw [← e]
    exact FR_opF hq (sub_fin (k := .f32) hs hf)
  · refine ⟨?_, .inr ⟨finB_not.2 hf, finB_not.2 (sub_bad (k := .f32) hs hf hq)⟩⟩
    rw [← e]
    have hn : ¬ NaN Ieee.single p := by rw [e]; exact opF_nan hm
    rcases fin_inf_nan Ieee.single p with h | h | h
    · exact absurd h hf
    · have hread := read_inf hs1 h
      obtain ⟨m, e', h1⟩ := read_fin hs
      have : floatBits .sub .f32 s p = some (Ieee.single.write (.infinity (!(p / Ieee.single.signWeight % 2 == 1)))) := by
        show Ieee.single.sub s p = _
        unfold Ieee.Format.sub; rw [h1, hread]; rfl
      rw [FR_some hq this]
      unfold opF
      rw [this]; rfl
    · exact absurd h hn
theorem quo_ok {a b q : Nat} (ha : finB a = true) (hb : finB b = true) (hz : isZ b = false) (hq : FR .quo .f32 a b q) : q = opF .quo a b := by
  rw [finB_iff] at ha hb
  exact FR_opF hq (div_def (k := .f32) ha hb (by
    intro h
    unfold isZ at hz
    rw [show Ieee.single.order b 0 = some .eq from h] at hz
    simp at hz))

theorem Good.of {m : List (List Nat)} (h : matB m = true) (hb : bits m) : Good m.length m := by
  obtain ⟨h1, h2, h3⟩ := matB_parts h
  exact ⟨⟨rfl, fun r hr => (h1 r hr).1⟩, fun r hr => (h1 r hr).2, hb⟩
theorem cell_getD {m : List (List Nat)} {i j : Nat} (h : i < m.length) (h' : j < m[i].length) : (m.getD i []).getD j 0 = m[i][j] := cell_get h h'
theorem getD_lt {m : List (List Nat)} {i : Nat} (h : i < m.length) : m.getD i [] = m[i] := by simp [h]
theorem getDn {l : List Nat} {i : Nat} (h : i < l.length) : l.getD i 0 = l[i] := by simp [h]
theorem set_row {m : List (List Nat)} {i j x : Nat} {r : List Nat} (h : i < m.length) (h' : i < (m.set i r).length) : (m.set i r).set i ((m.set i r)[i].set j x) = m.set i (r.set j x) := by
  rw [List.getElem_set_self, List.set_set]

end Go.Proofs.YtabgkpfcpncmhaaGreat

/- Elimination: the reference's. -/
set_option linter.unusedVariables false
namespace Go.Proofs.YtabgkpfcpncmhaaGreat
open Go Go.Vc

variable {w : World} {K : Value → World → Prop}

theorem swapL_symm {α : Type} {l : List α} {i j : Nat} {d : α} (hi : i < l.length) (hj : j < l.length) : swapL l j i d = swapL l i j d := by
  rw [← swapL_comm hi hj]; rfl

/-- The columns of one row: the reference's loop. -/
theorem spec_cols {B n i k : Nat} {w0 w1 : World} {p q ov tv ri rk : Value} {O : List Nat} {T : List (List Nat)} {V : List Value} {by_ : Nat} {Fail Done : World → Prop} (hn : n ≤ 8) (hG : Good n T) (hi : i < n) (hki : k < i) (hB : B ≤ w0.heap.size) (hb1 : RowKit.Below B w0 w1)
    (h1 : EL w1 B p q ov tv O (T.set i ((T.getD i []).set k by_)) V) (hri : V[i]? = some ri) (hrk : V[k]? = some rk) (hbl : by_ < 4294967296)
    (hfail : (if finB by_ then colsE (T.getD k []) by_ (n - (k + 1)) (k + 1) ((T.getD i []).set k by_) else none) = none → ∀ w' t', RowKit.Below B w0 w' → EL w' B p q ov tv O t' V → Fail w')
    (hdone : ∀ r w', (if finB by_ then colsE (T.getD k []) by_ (n - (k + 1)) (k + 1) ((T.getD i []).set k by_) else none) = some r → RowKit.Below B w0 w' → EL w' B p q ov tv O (T.set i r) V → r.length = n → r.all finB = true → (∀ b ∈ r, b < 4294967296) → Done w') :
    ∃ I139 : Nat → Value → World → Prop, (∃ m178, I139 m178 (.int .i64 ((k : Int) + 1)) w1) ∧ ∀ (m142 : Nat) (x14_143 : Value) (junk140 : Env) (w141 : World), I139 m142 x14_143 w141 →
      bin P .lss t_int false false x14_143 (.int .i64 n) w141 fun x145_144 =>
      cnd x145_144
        (ixa P t_s_float32 ri x14_143 w141 fun x152_145 =>
        ld P t_float32 x152_145 w141 fun x153_146 =>
        ixa P t_s_float32 ri (.int .i64 k) w141 fun x156_147 =>
        ld P t_float32 x156_147 w141 fun x157_148 =>
        ixa P t_s_float32 rk x14_143 w141 fun x160_149 =>
        ld P t_float32 x160_149 w141 fun x161_150 =>
        rbin P .mul t_float32 false false x157_148 x161_150 w141 fun x162_151 =>
        rbin P .sub t_float32 false false x153_146 x162_151 w141 fun x163_152 =>
        ixa P t_s_float32 ri x14_143 w141 fun x164_153 =>
        sto P t_float32 x164_153 x163_152 w141 fun w155 =>
        ixa P t_s_float32 ri x14_143 w155 fun x167_156 =>
        ld P t_float32 x167_156 w155 fun x168_157 =>
        call P f_spec_l01Finite [x168_157] w155 fun x169_158 w159 =>
        una P .not x169_158 w159 fun x170_160 =>
        cnd x170_160
          (Fail w159)
          (bin P .add t_int false true x14_143 (.int .i64 1) w159 fun x147_165 =>
          ∃ m166, m166 < m142 ∧ I139 m166 x147_165 w159))
        (ixa P t_s_float32 ri (.int .i64 k) w141 fun x174_167 =>
        ld P t_float32 x174_167 w141 fun x175_168 =>
        call P f_spec_l01Finite [x175_168] w141 fun x176_169 w170 =>
        una P .not x176_169 w170 fun x177_171 =>
        cnd x177_171
          (Fail w170)
          (Done w170)) := by
  have htA := hG.len
  have hk : k < n := by omega
  have hik : i < T.length := by omega
  have hkT : k < T.length := by omega
  rw [getD_lt hkT, getD_lt hik] at hfail hdone
  rw [getD_lt hik] at h1
  have hkl : T[k].length = n := hG.row hkT
  have hil : T[i].length = n := hG.row hik
  have hkf := hG.fin _ (List.getElem_mem hkT)
  have hif := hG.fin _ (List.getElem_mem hik)
  have hib := hG.lt _ (List.getElem_mem hik)
  by_cases hfb : finB by_ = true
  · simp only [hfb, if_true] at hfail hdone
    refine ⟨fun g x w' => RowKit.Below B w0 w' ∧ ∃ (j : Nat) (r : List Nat), x = .int .i64 j ∧ g + j = n ∧ k + 1 ≤ j ∧ EL w' B p q ov tv O (T.set i r) V ∧ r.length = n ∧ r.all finB = true ∧ (∀ b ∈ r, b < 4294967296) ∧ r.getD k 0 = by_ ∧ colsE T[k] by_ (n - j) j r = colsE T[k] by_ (n - (k + 1)) (k + 1) (T[i].set k by_),
      ⟨n - (k + 1), hb1, k + 1, _, rfl, by omega, Nat.le_refl _, h1, by rw [List.length_set]; exact hil, all_set hif hfb, lt_set hib hbl, by simp [hil, hk], rfl⟩, ?_⟩
    rintro g3 x junk3 wC ⟨hbC, j, r, rfl, hg3, hkj3, hC, hrl, hrf, hrb, hrk0, hcols⟩
    have sC := hbC.size
    have hsl : (T.set i r).length = n := by rw [List.length_set]; exact htA
    have hi1 : i < (T.set i r).length := by omega
    have hk1 : k < (T.set i r).length := by omega
    have eri : (T.set i r)[i] = r := List.getElem_set_self _
    have erk : (T.set i r)[k] = T[k] := List.getElem_set_ne (by omega) _
    have hkr : k < r.length := by omega
    have hki1 : k < (T.set i r)[i].length := by rw [eri]; exact hkr
    have hrk1 : r[k] = by_ := by rw [← getDn hkr]; exact hrk0
    have ekk : (T.set i r)[i][k] = by_ := by simp only [eri]; exact hrk1
    rw [bin_lss]
    refine cnd_dec (fun hlt3 => ?_) (fun hge3 => ?_)
    · have hj : j < n := by omega
      have hjk : j < T[k].length := by omega
      have hjr : j < r.length := by omega
      have hjk1 : j < (T.set i r)[k].length := by rw [erk]; exact hjk
      have hji1 : j < (T.set i r)[i].length := by rw [eri]; exact hjr
      refine hC.tab.rowAt (j := j) hri hi1 hji1 ?_
      refine hC.tab.rowAt (j := k) hri hi1 hki1 ?_
      refine hC.tab.rowAt (j := j) hrk hk1 hjk1 ?_
      refine rbin_float (by simp) fun pr hpr => ?_
      refine rbin_float (by simp) fun df hdf => ?_
      have e1 : (T.set i r)[k][j] = T[k][j] := by simp only [erk]
      have e2 : (T.set i r)[i][j] = r[j] := by simp only [eri]
      rw [ekk, e1] at hpr
      rw [e2] at hdf
      obtain ⟨epr, edf, hcase⟩ := step_sub hfb (all_get hkf hjk) (all_get hrf hjr) hpr hdf
      rw [colsE_step hj, getDn hjr, getDn hjk, ← edf] at hcols
      have hdfl := FR_lt hdf
      refine hC.put (i := i) (j := j) hri hi1 hji1 fun wD hD hbD => ?_
      rw [set_row hik] at hD
      have hbD := hbD (Nat.le_refl _) (Nat.le_trans hB sC) hbC
      have hi4 : i < (T.set i (r.set j df)).length := by rw [List.length_set]; omega
      have eri4 : (T.set i (r.set j df))[i] = r.set j df := List.getElem_set_self _
      have hj4 : j < (T.set i (r.set j df))[i].length := by rw [eri4, List.length_set]; exact hjr
      refine hD.tab.rowAt (j := j) hri hi4 hj4 ?_
      have e3 : (T.set i (r.set j df))[i][j] = df := by simp only [eri4, List.getElem_set_self]
      rw [e3]
      refine c_l01Finite ?_
      rw [una_not]
      refine cnd_split (fun hf6 => ?_) (fun hf6 => ?_)
      · have hf6 : finB df = false := nb1 hf6
        rw [hf6] at hcols
        exact hfail hcols.symm _ _ hbD hD
      · have hf6 : finB df = true := nb0 hf6
        rw [hf6] at hcols
        rw [bin_add, wrap_i64 (by omega) (by omega)]
        refine ⟨g3 - 1, by omega, hbD, j + 1, r.set j df, rfl, by omega, by omega, hD, by rw [List.length_set]; exact hrl, all_set hrf hf6, lt_set hrb hdfl, ?_, hcols⟩
        rw [getDn (by rw [List.length_set]; exact hkr), List.getElem_set_ne (by omega)]
        exact hrk1
    · rw [colsE_end (by omega)] at hcols
      refine hC.tab.rowAt (j := k) hri hi1 hki1 ?_
      rw [ekk]
      refine c_l01Finite ?_
      rw [una_not, hfb]
      exact cnd_no rfl (hdone r wC hcols.symm hbC hC hrl hrf hrb)
  · have hfb : finB by_ = false := by simpa using hfb
    simp only [hfb, Bool.false_eq_true, if_false] at hfail
    have hfail := hfail trivial
    generalize hr0 : T[i].set k by_ = r at h1
    have hrl : r.length = n := by rw [← hr0, List.length_set]; exact hil
    have hkr : k < r.length := by omega
    have hrk1 : r[k] = by_ := by simp only [← hr0, List.getElem_set_self]
    refine ⟨fun g x w' => w' = w1 ∧ x = .int .i64 ((k + 1 : Nat) : Int), ⟨0, rfl, rfl⟩, ?_⟩
    rintro g3 x junk3 wC ⟨rfl, rfl⟩
    have hsl : (T.set i r).length = n := by rw [List.length_set]; exact htA
    have hi1 : i < (T.set i r).length := by omega
    have hk1 : k < (T.set i r).length := by omega
    have eri : (T.set i r)[i] = r := List.getElem_set_self _
    have erk : (T.set i r)[k] = T[k] := List.getElem_set_ne (by omega) _
    have hki1 : k < (T.set i r)[i].length := by rw [eri]; exact hkr
    have ekk : (T.set i r)[i][k] = by_ := by simp only [eri]; exact hrk1
    rw [bin_lss]
    refine cnd_dec (fun hlt3 => ?_) (fun hge3 => by omega)
    have hj : k + 1 < n := by omega
    have hjk : k + 1 < T[k].length := by omega
    have hjr : k + 1 < r.length := by omega
    have hjk1 : k + 1 < (T.set i r)[k].length := by rw [erk]; exact hjk
    have hji1 : k + 1 < (T.set i r)[i].length := by rw [eri]; exact hjr
    refine h1.tab.rowAt (j := k + 1) hri hi1 hji1 ?_
    refine h1.tab.rowAt (j := k) hri hi1 hki1 ?_
    refine h1.tab.rowAt (j := k + 1) hrk hk1 hjk1 ?_
    refine rbin_float (by simp) fun pr hpr => ?_
    refine rbin_float (by simp) fun df hdf => ?_
    have e1 : (T.set i r)[k][k + 1] = T[k][k + 1] := by simp only [erk]
    have hi2 : k + 1 < T[i].length := by omega
    have e2' : r[k + 1] = T[i][k + 1] := by
      simp only [← hr0]
      exact List.getElem_set_ne (h := by omega) _
    have e2 : (T.set i r)[i][k + 1] = T[i][k + 1] := by
      simp only [eri]
      exact e2'
    rw [ekk, e1] at hpr
    rw [e2] at hdf
    have n1 : ¬ Fin Ieee.single pr := mul_bad (k := .f32) (finB_not.1 hfb) (finB_iff.1 (all_get hkf hjk)) hpr
    have n2 : ¬ Fin Ieee.single df := sub_bad (k := .f32) (finB_iff.1 (all_get hif (by omega))) n1 hdf
    refine h1.put (i := i) (j := k + 1) hri hi1 hji1 fun wD hD hbD => ?_
    rw [set_row hik] at hD
    have hbD := hbD (Nat.le_refl _) (Nat.le_trans hB hb1.size) hb1
    have hi4 : i < (T.set i (r.set (k + 1) df)).length := by rw [List.length_set]; omega
    have eri4 : (T.set i (r.set (k + 1) df))[i] = r.set (k + 1) df := List.getElem_set_self _
    have hj4 : k + 1 < (T.set i (r.set (k + 1) df))[i].length := by rw [eri4, List.length_set]; exact hjr
    refine hD.tab.rowAt (j := k + 1) hri hi4 hj4 ?_
    have e3 : (T.set i (r.set (k + 1) df))[i][k + 1] = df := by simp only [eri4, List.getElem_set_self]
    rw [e3]
    refine c_l01Finite ?_
    rw [una_not, finB_not.2 n2]
    exact cnd_yes rfl (hfail _ _ hbD hD)

/-- The rows below a pivot: the reference's loop. -/
theorem spec_rows {B n k : Nat} {w0 w1 : World} {p q ov tv rk : Value} {O : List Nat} {T : List (List Nat)} {V : List Value} {Fail Done : World → Prop} (hn : n ≤ 8) (hG : Good n T) (hk : k < n) (hB : B ≤ w0.heap.size) (hb1 : RowKit.Below B w0 w1)
    (h1 : EL w1 B p q ov tv O T V) (hrk : V[k]? = some rk) (hz : isZ (cell T k k) = false)
    (hfail : rowsE n k (n - (k + 1)) (k + 1) T = none → ∀ w' t', RowKit.Below B w0 w' → EL w' B p q ov tv O t' V → Fail w')
    (hdone : ∀ t' w', rowsE n k (n - (k + 1)) (k + 1) T = some t' → RowKit.Below B w0 w' → EL w' B p q ov tv O t' V → Good n t' → Done w') :
    ∃ I120 : Nat → Value → World → Prop, (∃ m181, I120 m181 (.int .i64 ((k : Int) + 1)) w1) ∧ ∀ (m123 : Nat) (x12_124 : Value) (junk121 : Env) (w122 : World), I120 m123 x12_124 w122 →
      bin P .lss t_int false false x12_124 (.int .i64 n) w122 fun x121_125 =>
      cnd x121_125
        (fda P t_impl_Elimination p 1 w122 fun x124_126 =>
        ld P t_s_s_float32 x124_126 w122 fun x125_127 =>
        ixa P t_s_s_float32 x125_127 x12_124 w122 fun x127_128 =>
        ld P t_s_float32 x127_128 w122 fun x128_129 =>
        ixa P t_s_float32 x128_129 (.int .i64 k) w122 fun x133_130 =>
        ld P t_float32 x133_130 w122 fun x134_131 =>
        ixa P t_s_float32 rk (.int .i64 k) w122 fun x137_132 =>
        ld P t_float32 x137_132 w122 fun x138_133 =>
        rbin P .quo t_float32 false false x134_131 x138_133 w122 fun x139_134 =>
        ixa P t_s_float32 x128_129 (.int .i64 k) w122 fun x140_135 =>
        sto P t_float32 x140_135 x139_134 w122 fun w137 =>
        bin P .add t_int false true (.int .i64 k) (.int .i64 1) w137 fun x142_138 =>
        ∃ I139 : Nat → Value → World → Prop, (∃ m178, I139 m178 x142_138 w137) ∧ ∀ (m142 : Nat) (x14_143 : Value) (junk140 : Env) (w141 : World), I139 m142 x14_143 w141 →
          bin P .lss t_int false false x14_143 (.int .i64 n) w141 fun x145_144 =>
          cnd x145_144
            (ixa P t_s_float32 x128_129 x14_143 w141 fun x152_145 =>
            ld P t_float32 x152_145 w141 fun x153_146 =>
            ixa P t_s_float32 x128_129 (.int .i64 k) w141 fun x156_147 =>
            ld P t_float32 x156_147 w141 fun x157_148 =>
            ixa P t_s_float32 rk x14_143 w141 fun x160_149 =>
            ld P t_float32 x160_149 w141 fun x161_150 =>
            rbin P .mul t_float32 false false x157_148 x161_150 w141 fun x162_151 =>
            rbin P .sub t_float32 false false x153_146 x162_151 w141 fun x163_152 =>
            ixa P t_s_float32 x128_129 x14_143 w141 fun x164_153 =>
            sto P t_float32 x164_153 x163_152 w141 fun w155 =>
            ixa P t_s_float32 x128_129 x14_143 w155 fun x167_156 =>
            ld P t_float32 x167_156 w155 fun x168_157 =>
            call P f_spec_l01Finite [x168_157] w155 fun x169_158 w159 =>
            una P .not x169_158 w159 fun x170_160 =>
            cnd x170_160
              (Fail w159)
              (bin P .add t_int false true x14_143 (.int .i64 1) w159 fun x147_165 =>
              ∃ m166, m166 < m142 ∧ I139 m166 x147_165 w159))
            (ixa P t_s_float32 x128_129 (.int .i64 k) w141 fun x174_167 =>
            ld P t_float32 x174_167 w141 fun x175_168 =>
            call P f_spec_l01Finite [x175_168] w141 fun x176_169 w170 =>
            una P .not x176_169 w170 fun x177_171 =>
            cnd x177_171
              (Fail w170)
              (bin P .add t_int false true x12_124 (.int .i64 1) w170 fun x123_176 =>
              ∃ m177, m177 < m123 ∧ I120 m177 x123_176 w170)))
        (Done w122) := by
  refine ⟨fun g x w' => RowKit.Below B w0 w' ∧ ∃ (i : Nat) (t : List (List Nat)), x = .int .i64 i ∧ g + i = n ∧ k + 1 ≤ i ∧ EL w' B p q ov tv O t V ∧ Good n t ∧ cell t k k = cell T k k ∧ rowsE n k (n - i) i t = rowsE n k (n - (k + 1)) (k + 1) T,
    ⟨n - (k + 1), hb1, k + 1, T, rfl, by omega, Nat.le_refl _, h1, hG, rfl, rfl⟩, ?_⟩
  rintro g2 x junk2 wA ⟨hbA, i, t', rfl, hg2, hki, hA, hGA, hcell, hrows⟩
  have sA := hbA.size
  have htA := hGA.len
  rw [bin_lss]
  refine cnd_dec (fun hlt2 => ?_) (fun hge2 => ?_)
  · have hi : i < n := by omega
    have hi1 : i < t'.length := by omega
    have hk1 : k < t'.length := by omega
    have hik : k < t'[i].length := by rw [hGA.row]; exact hk
    have hkk' : k < t'[k].length := by rw [hGA.row]; exact hk
    refine hA.getT ?_
    refine hA.tab.atI (i := i) hi1 fun ri hri => ?_
    refine hA.tab.rowAt hri hi1 hik ?_
    refine hA.tab.rowAt hrk hk1 hkk' ?_
    refine rbin_float (by simp) fun by_ hby => ?_
    have hfi := all_get (hGA.fin _ (List.getElem_mem hi1)) hik
    have hfk := all_get (hGA.fin _ (List.getElem_mem hk1)) hkk'
    have hzk : isZ t'[k][k] = false := by rw [← cell_get hk1 hkk', hcell]; exact hz
    have eby := quo_ok hfi hfk hzk hby
    have hbl := FR_lt hby
    rw [rowsE_step hi] at hrows
    have erow : rowE n k (t'.getD k []) (t'.getD i []) = if finB by_ then colsE (t'.getD k []) by_ (n - (k + 1)) (k + 1) ((t'.getD i []).set k by_) else none := by
      unfold rowE
      rw [getD_lt hk1, getD_lt hi1, getDn hik, getDn hkk', ← eby]
    refine hA.put hri hi1 hik fun wB hB' hbB => ?_
    have hbB := hbB (Nat.le_refl _) (Nat.le_trans hB sA) hbA
    rw [← getD_lt hi1] at hB'
    rw [bin_add, wrap_i64 (by omega) (by omega)]
    refine spec_cols (Fail := Fail) hn hGA hi (by omega) hB hbB hB' hri hrk hbl (fun he w' t2 hb2 h2 => ?_) (fun r w' he hb2 h2 hrl hrf hrb => ?_)
    · rw [erow, he] at hrows
      exact hfail hrows.symm _ _ hb2 h2
    · rw [erow, he] at hrows
      rw [bin_add, wrap_i64 (by omega) (by omega)]
      refine ⟨g2 - 1, by omega, hb2, i + 1, t'.set i r, rfl, by omega, by omega, h2, hGA.set i hrl hrf hrb, ?_, hrows⟩
      have hk2 : k < (t'.set i r).length := by rw [List.length_set]; exact hk1
      have erk : (t'.set i r)[k] = t'[k] := List.getElem_set_ne (by omega) _
      rw [← hcell, cell_get hk2 (by rw [erk]; exact hkk'), cell_get hk1 hkk']
      simp only [erk]
  · rw [rowsE_end (by omega)] at hrows
    exact hdone t' wA hrows.symm hbA hA hGA

end Go.Proofs.YtabgkpfcpncmhaaGreat

/- The interface for lists of whole numbers and eliminations. -/
set_option linter.unusedVariables false
namespace Go.Proofs.YtabgkpfcpncmhaaGreat
open Go Go.Vc

variable {w : World} {K : Value → World → Prop} {lo hi : Nat} {v : Value}

/-! ### lists of whole numbers -/
abbrev vI (n : Int) : Value := .int .i64 n
def FI (w : World) (v : Value) (l : List Int) : Prop := Row 1 w v l.length (l.map vI)
theorem FI.ext {w' : World} {l : List Int} (h : FI w v l) (he : Ext w w') : FI w' v l := Row.ext h he
abbrev OIR (w : World) (lo hi : Nat) (v : Value) (l : List Int) : Prop := OwnR w lo hi t_int64 1 v l.length (l.map vI)
theorem OIR.FI {l : List Int} (h : OIR w lo hi v l) : FI w v l := owns_Row h.own
def mkI (k : Int) (n : Nat) : List Int := (List.range n).map (fun j => k + (j : Nat))
@[simp] theorem mkI_length (k : Int) (n : Nat) : (mkI k n).length = n := by simp [mkI]
theorem mkI_get (k : Int) (n i : Nat) (h : i < (mkI k n).length) : (mkI k n)[i] = k + (i : Nat) := by simp [mkI]

/-! ### eliminations -/
abbrev DE := List Int × List (List Nat)
def I_Elimination (w : World) (v : Value) (d : DE) : Prop := ∃ ov tv, v = .agg #[ov, tv] ∧ FI w ov d.1 ∧ I_Float32SS w tv d.2
theorem I_Elimination.ext {w' : World} {d : DE} (h : I_Elimination w v d) (he : Ext w w') : I_Elimination w' v d := by
  obtain ⟨ov, tv, h1, h2, h3⟩ := h
  exact ⟨ov, tv, h1, h2.ext he, A_Float32SS.ext h3 he⟩
def O_Elimination (w : World) (lo hi : Nat) (v : Value) (d : DE) : Prop := ∃ ov tv vs, v = .agg #[ov, tv] ∧ OIR w lo hi ov d.1 ∧ OM w lo hi tv d.2 vs ∧ bits d.2
theorem O_Elimination.ext {w' : World} {d : DE} (h : O_Elimination w lo hi v d) (he : Ext w w') : O_Elimination w' lo hi v d := by
  obtain ⟨ov, tv, vs, h1, h2, h3, h4⟩ := h
  exact ⟨ov, tv, vs, h1, h2.ext he, h3.ext he, h4⟩
theorem O_Elimination.chg {w' : World} {d : DE} {lo' hi' : Nat} (h : O_Elimination w lo hi v d) (hc : Chg lo' hi' w w') (hd : hi ≤ lo' ∨ hi' ≤ lo) : O_Elimination w' lo hi v d := by
  obtain ⟨ov, tv, vs, h1, h2, h3, h4⟩ := h
  exact ⟨ov, tv, vs, h1, h2.chg hc hd, h3.chg hc hd, h4⟩
theorem O_Elimination.I {d : DE} (h : O_Elimination w lo hi v d) : I_Elimination w v d := by
  obtain ⟨ov, tv, vs, h1, h2, h3, h4⟩ := h
  exact ⟨ov, tv, h1, OIR.FI h2, h3.FSS h4, h4⟩
def cnt_Elimination (d : DE) : Nat := d.1.length + total d.2
def mk_Elimination (k : Int) (d : DE) : DE := (mkI k d.1.length, mkM (k + d.1.length) d.2)
theorem FI.one {l : List Int} (h : FI w v l) : v.oneCell' = true := by
  obtain ⟨_, _, a, cap, rfl, _⟩ := h
  rfl
theorem FSS.one {m : List (List Nat)} (h : FSS w v m) : v.oneCell' = true := by
  obtain ⟨vs, h, _⟩ := h.ex
  obtain ⟨_, _, a, cap, rfl, _⟩ := h
  rfl
theorem Elimination_agg {d : DE} (h : I_Elimination w v d) : ∃ cs : List Value, v = .agg cs.toArray ∧ cs.length = 2 ∧ ∀ x ∈ cs, x.oneCell' = true := by
  obtain ⟨ov, tv, h1, h2, h3⟩ := h
  exact ⟨[ov, tv], h1, rfl, one2 h2.one h3.1.one⟩
end Go.Proofs.YtabgkpfcpncmhaaGreat

/- Contracts: gaps of matrices. -/
set_option linter.unusedVariables false
namespace Go.Proofs.YtabgkpfcpncmhaaGreat
open Go Go.Vc

variable {w : World} {K : Value → World → Prop}

def en (m : List (List Nat)) (i j : Nat) : Nat := (m.getD i []).getD j 0
theorem en_eq {m : List (List Nat)} {i j : Nat} (hi : i < m.length) (hj : j < m[i].length) : m[i][j] = en m i j := by
  unfold en; simp [hi, hj]
theorem FSS.entry {a : Value} {m : List (List Nat)} (ha : FSS w a m) (hm : matB m = true) {i j : Nat} (hi : i < m.length) (hj : j < m.length) {K : Value → Prop}
    (H : en m i j < 4294967296 → Vc.Fin Ieee.single (en m i j) → K (fl (en m i j))) :
    ixa P t_s_s_float32 a (.int .i64 (i : Int)) w fun x => ld P t_s_float32 x w fun r => ixa P t_s_float32 r (.int .i64 (j : Int)) w fun y => ld P t_float32 y w K := by
  obtain ⟨h1, h2, h3⟩ := matB_parts hm
  refine ha.at hi fun x hx => ?_
  have h4 := h1 m[i] (List.getElem_mem hi)
  have hj' : j < m[i].length := by omega
  refine hx.at hj' ?_
  have h5 := hx.lt m[i][j] (List.getElem_mem hj')
  have h6 := finB_iff.1 (List.all_eq_true.1 h4.2 m[i][j] (List.getElem_mem hj'))
  rw [en_eq hi hj'] at h5 h6 ⊢
  exact H h5 h6

/-! ### the plain law -/
def gK (m b : List (List Nat)) (i j : Nat) : Nat → Rat
  | 0 => if i = j then 1 else 0
  | k + 1 => gK m b i j k - fq (en b i k) * fq (en m k j)
def gJ (m b : List (List Nat)) (n i : Nat) : Nat → Rat
  | 0 => 0
  | j + 1 => gJ m b n i j + absQ (gK m b i j n)
def gI (m b : List (List Nat)) (n : Nat) : Nat → Rat
  | 0 => 0
  | i + 1 => if 0 < cmpQ (gJ m b n i n) (gI m b n i) then gJ m b n i n else gI m b n i
theorem dy_one : dy 1 0 = 1 := by simp [dy]
theorem fq_one : fq 1065353216 = 1 := by
  show dy (fM 1065353216) (fE 1065353216) = 1
  rw [show fM 1065353216 = 1 * 2 ^ 23 from by decide, dy_shift' (m := 1) (e := 0) (by decide)]
  exact dy_one
theorem fin_one : Vc.Fin Ieee.single 1065353216 := by decide

end Go.Proofs.YtabgkpfcpncmhaaGreat

/- Norms of matrices. -/
set_option linter.unusedVariables false
namespace Go.Proofs.YtabgkpfcpncmhaaGreat
open Go Go.Vc

variable {w : World} {K : Value → World → Prop}

theorem c_dq_round {v : Value} {lo hi : Nat} {q : Rat} {md : Int} (h : DQ w v lo hi q) (hl : lo ≤ 1000000000) (hh : hi ≤ 1000000000)
    (H : ∀ w', Ext w w' → K (.tuple #[fl (rndQ md q).1, .int .i64 (rndQ md q).2]) w') : call P f_spec_l03Round [v, .int .i64 md] w K := by
  obtain ⟨m, e, hd, hc⟩ := h
  rw [hc.val, rndQ_dy] at H
  exact c_l03Round hd hc.bd hl hh hc.canon H
theorem c_l06Up {v : Value} {lo hi : Nat} {q : Rat} (h : DQ w v lo hi q) (hl : lo ≤ 1000000000) (hh : hi ≤ 1000000000) (H : ∀ w', Ext w w' → K (fl (rndQ 2 q).1) w') : call P f_spec_l06Up [v] w K := by
  obtain ⟨m, e, ⟨s, l, rfl, h1, wl⟩, hc⟩ := h
  refine I_spec_l06Up ?_
  unfold D_spec_l06Up
  refine bx_Dy fun x1 w1 b1 e1 => ?_
  refine dy_all b1 ?_
  refine c_dq_round (md := 2) ⟨m, e, ⟨s, l, rfl, h1.ext e1, wl⟩, hc⟩ hl hh fun w2 e2 => ?_
  rw [xtr_0, xtr_1]
  exact H _ (e1.trans e2)
theorem fq_abs {a b : Nat} (hf : Vc.Fin Ieee.single a) (ha : a < 4294967296) (hr : Ieee.single.read a = .number false (fM b).natAbs (fE b)) : fq a = absQ (fq b) := by
  have h1 := read_f hf ha
  rw [hr] at h1
  simp only [Ieee.Datum.number.injEq] at h1
  obtain ⟨h2, h3, h4⟩ := h1
  have h5 : ¬ fM a < 0 := by
    intro h
    have h6 := (sgn_f ha).1 h
    have : a / 2147483648 % 2 = 1 := by omega
    rw [this] at h2
    cases h2
  unfold fq
  rw [absQ_dy, h3, h4]
  congr 1
  omega

def nJ (m : List (List Nat)) (i : Nat) : Nat → Rat
  | 0 => 0
  | j + 1 => nJ m i j + absQ (fq (en m i j))
def nI (m : List (List Nat)) (n : Nat) : Nat → Rat
  | 0 => 0
  | i + 1 => if 0 < cmpQ (nJ m i n) (nI m n i) then nJ m i n else nI m n i
noncomputable def normF (m : List (List Nat)) : Nat × Int := if matB m then ((rndQ 2 (nI m m.length m.length)).1, 0) else (0, 1)

end Go.Proofs.YtabgkpfcpncmhaaGreat

/- The contracts of the exported functions, as the laws want them. -/
set_option linter.unusedVariables false
namespace Go.Proofs.YtabgkpfcpncmhaaGreat
open Go Go.Vc

variable {w : World} {K : Value → World → Prop}

theorem total_le {m : List (List Nat)} {k : Nat} (h : ∀ r ∈ m, r.length ≤ k) : total m ≤ m.length * k := by
  unfold total
  induction m with
  | nil => simp
  | cons a m ih =>
    have h1 := h a (by simp)
    have h2 := ih fun r hr => h r (by simp [hr])
    simp only [List.map_cons, List.sum_cons, List.length_cons, Nat.add_mul]
    omega
theorem small_TimesMatrix_0 (m b : List (List Nat)) : cnt_Float32SS (tmF m b).1 ≤ 1099511627776 := by
  obtain ⟨h1, h2⟩ := tmF_small m b
  have := total_le h2
  unfold cnt_Float32SS
  omega
end Go.Proofs.YtabgkpfcpncmhaaGreat

/- The contracts of EliminationOf, as the law wants them. -/
set_option linter.unusedVariables false
namespace Go.Proofs.YtabgkpfcpncmhaaGreat
open Go Go.Vc

variable {w : World} {K : Value → World → Prop}

theorem colsE_good {p : List Nat} {q n : Nat} : ∀ {f j : Nat} {r s : List Nat}, colsE p q f j r = some s → r.length = n → r.all finB = true → (∀ b ∈ r, b < 4294967296) → s.length = n ∧ s.all finB = true ∧ ∀ b ∈ s, b < 4294967296
  | 0, j, r, s, h, h1, h2, h3 => by simp only [colsE, Option.some.injEq] at h; subst h; exact ⟨h1, h2, h3⟩
  | f + 1, j, r, s, h, h1, h2, h3 => by
    rw [colsE] at h
    split at h
    · rename_i hf
      exact colsE_good h (by rw [List.length_set]; exact h1) (all_set h2 hf) (lt_set h3 opF_lt)
    · cases h
theorem rowE_good {n k : Nat} {p r s : List Nat} (h : rowE n k p r = some s) (h1 : r.length = n) (h2 : r.all finB = true) (h3 : ∀ b ∈ r, b < 4294967296) : s.length = n ∧ s.all finB = true ∧ ∀ b ∈ s, b < 4294967296 := by
  unfold rowE at h
  split at h
  · rename_i hf
    exact colsE_good h (by rw [List.length_set]; exact h1) (all_set h2 hf) (lt_set h3 opF_lt)
  · cases h
theorem rowsE_good {n k : Nat} : ∀ {f i : Nat} {m t : List (List Nat)}, rowsE n k f i m = some t → f + i ≤ n → Good n m → Good n t
  | 0, i, m, t, h, _, hG => by simp only [rowsE, Option.some.injEq] at h; subst h; exact hG
  | f + 1, i, m, t, h, hi, hG => by
    rw [rowsE] at h
    have hil : i < m.length := by rw [hG.len]; omega
    cases hr : rowE n k (m.getD k []) (m.getD i []) with
    | none => rw [hr] at h; cases h
    | some r =>
      rw [hr] at h
      rw [getD_lt hil] at hr
      obtain ⟨a1, a2, a3⟩ := rowE_good hr (hG.row hil) (hG.fin _ (List.getElem_mem hil)) (hG.lt _ (List.getElem_mem hil))
      exact rowsE_good h (by omega) (hG.set i a1 a2 a3)
theorem elimE_good {n : Nat} : ∀ {f k : Nat} {o o' : List Nat} {m t : List (List Nat)}, elimE n f k o m = .ok (o', t) → f + k = n → Good n m → o.length = n → Good n t ∧ o'.length = n
  | 0, k, o, o', m, t, h, _, hG, ho => by simp only [elimE, Except.ok.injEq, Prod.mk.injEq] at h; obtain ⟨rfl, rfl⟩ := h; exact ⟨hG, ho⟩
  | f + 1, k, o, o', m, t, h, hk, hG, ho => by
    rw [elimE] at h
    split at h
    · cases h
    · have hb := (bestF_range (m := m) (k := k) (n := n) (f := n - k) (i := k) (b := k) (by omega) (by omega) (Nat.le_refl _) (Nat.le_refl _)).1
      have hG' : Good n (swapL m k (bestF m k (n - k) k k) []) := hG.swap (by rw [hG.len]; omega) (by rw [hG.len]; omega)
      cases hr : rowsE n k (n - (k + 1)) (k + 1) (swapL m k (bestF m k (n - k) k k) []) with
      | none => rw [hr] at h; cases h
      | some t' =>
        rw [hr] at h
        exact elimE_good h (by omega) (rowsE_good hr (by omega) hG') (by rw [swapL_length]; exact ho)
theorem elimF_good {m t : List (List Nat)} {o : List Nat} (h : elimF m = .ok (o, t)) (hm : matB m = true) (hb : bits m) : Good m.length t ∧ o.length = m.length :=
  elimE_good h rfl (Good.of hm hb) (by simp)

def elimR (m : List (List Nat)) : DE × Int :=
  if matB m then (match elimF m with
    | .error e => (([], []), e)
    | .ok (o, t) => ((o.map Int.ofNat, t), 0)) else (([], []), 1)

theorem OI.OIR {w : World} {lo hi : Nat} {v : Value} {o : List Nat} (h : OI w lo v o) (ht : ∀ k, v.ownBlock = some k → k < hi) : OIR w lo hi v (o.map Int.ofNat) := by
  refine ⟨?_, ht⟩
  rw [List.length_map, List.map_map]
  exact h

theorem o_empty (w : World) (lo hi : Nat) : O_Elimination w lo hi (.agg #[nilS, nilS]) ([], []) :=
  ⟨nilS, nilS, [], rfl, ⟨⟨rfl, .inl ⟨rfl, rfl⟩⟩, fun k hk => by cases hk⟩, OM.nil _ _ _, by intro r hr; simp at hr⟩

theorem small_EliminationOf_0 (m : List (List Nat)) : cnt_Elimination (elimR m).1 ≤ 1099511627776 := by
  unfold elimR
  by_cases hm : matB m = true
  · simp only [hm, if_true]
    cases h : elimF m with
    | error e => simp [cnt_Elimination, total]
    | ok x =>
      obtain ⟨o, t⟩ := x
      have h8 := (matB_parts hm).2.2
      have key : ∀ {f k : Nat} {n : Nat} {o o' : List Nat} {m t : List (List Nat)}, elimE n f k o m = .ok (o', t) → f + k = n → square n m → o.length = n → square n t ∧ o'.length = n := by
        intro f
        induction f with
        | zero => intro k n o o' m t h _ hG ho; simp only [elimE, Except.ok.injEq, Prod.mk.injEq] at h; obtain ⟨rfl, rfl⟩ := h; exact ⟨hG, ho⟩
        | succ f ih =>
          intro k n o o' m t h hk hG ho
          rw [elimE] at h
          split at h
          · cases h
          · cases hr : rowsE n k (n - (k + 1)) (k + 1) (swapL m k (bestF m k (n - k) k k) []) with
            | none => rw [hr] at h; cases h
            | some t' =>
              rw [hr] at h
              have hb := (bestF_range (m := m) (k := k) (n := n) (f := n - k) (i := k) (b := k) (by omega) (by omega) (Nat.le_refl _) (Nat.le_refl _)).1
              have hsq : square n (swapL m k (bestF m k (n - k) k k) []) := ⟨by rw [swapL_length]; exact hG.1, fun x hx => hG.2 x (mem_swapL (by rw [hG.1]; omega) (by rw [hG.1]; omega) hx)⟩
              refine ih h (by omega) ?_ (by rw [swapL_length]; exact ho)
              have rows : ∀ {f i : Nat} {m t : List (List Nat)}, rowsE n k f i m = some t → f + i ≤ n → square n m → square n t := by
                intro f
                induction f with
                | zero => intro i m t h _ hG; simp only [rowsE, Option.some.injEq] at h; subst h; exact hG
                | succ f ih =>
                  intro i m t h hi hG
                  rw [rowsE] at h
                  have hil : i < m.length := by rw [hG.1]; omega
                  cases hr : rowE n k (m.getD k []) (m.getD i []) with
                  | none => rw [hr] at h; cases h
                  | some r =>
                    rw [hr] at h
                    have hrl : r.length = n := by
                      rw [getD_lt hil] at hr
                      unfold rowE at hr
                      split at hr
                      · have cl : ∀ {f j : Nat} {r s : List Nat} {p : List Nat} {q : Nat}, colsE p q f j r = some s → s.length = r.length := by
                          intro f
                          induction f with
                          | zero => intro j r s p q h; simp only [colsE, Option.some.injEq] at h; subst h; rfl
                          | succ f ih =>
                            intro j r s p q h
                            rw [colsE] at h
                            split at h
                            · rw [ih h, List.length_set]
                            · cases h
                        rw [cl hr, List.length_set]; exact hG.row hil
                      · cases hr
                    refine ih h (by omega) ⟨by rw [List.length_set]; exact hG.1, fun x hx => ?_⟩
                    rcases List.mem_or_eq_of_mem_set hx with hx | rfl
                    · exact hG.2 x hx
                    · exact hrl
              exact rows hr (by omega) hsq
      obtain ⟨k1, k2⟩ := key h rfl ⟨rfl, fun r hr => ((matB_parts hm).1 r hr).1⟩ (by simp)
      have := total_le (m := t) (k := m.length) fun r hr => Nat.le_of_eq (k1.2 r hr)
      have h3 := k1.1
      unfold cnt_Elimination
      simp only [List.length_map]
      have h64 : t.length * m.length ≤ 8 * 8 := Nat.mul_le_mul (by omega) h8
      omega
  · have hm : matB m = false := by simpa using hm
    simp only [hm, Bool.false_eq_true, if_false]
    simp [cnt_Elimination, total]
end Go.Proofs.YtabgkpfcpncmhaaGreat

/- The solution by an elimination: what is computed; the reference's. -/
set_option linter.unusedVariables false
namespace Go.Proofs.YtabgkpfcpncmhaaGreat
open Go Go.Vc

variable {w : World} {K : Value → World → Prop}

/-- A number less the products of a row's and a list's numbers. -/
def subsF (row x : List Nat) : Nat → Nat → Nat → Option Nat
  | 0, _, s => some s
  | f + 1, j, s => if finB (opF .sub s (opF .mul (row.getD j 0) (x.getD j 0))) then subsF row x f (j + 1) (opF .sub s (opF .mul (row.getD j 0) (x.getD j 0))) else none
def fwdF (t : List (List Nat)) (o b : List Nat) : Nat → Nat → List Nat → Option (List Nat)
  | 0, _, y => some y
  | f + 1, i, y => match subsF (t.getD i []) y i 0 (b.getD (o.getD i 0) 0) with
    | none => none
    | some s => fwdF t o b f (i + 1) (y ++ [s])
def backF (t : List (List Nat)) (n : Nat) : Nat → List Nat → Option (List Nat)
  | 0, y => some y
  | i + 1, y => match subsF (t.getD i []) y (n - (i + 1)) (i + 1) (y.getD i 0) with
    | none => none
    | some s => if isZ (cell t i i) then none else if finB (opF .quo s (cell t i i)) then backF t n i (y.set i (opF .quo s (cell t i i))) else none
def solveF (o : List Nat) (t : List (List Nat)) (b : List Nat) : Option (List Nat) := match fwdF t o b b.length 0 [] with
  | none => none
  | some y => backF t b.length b.length y

theorem subsF_step {row x : List Nat} {n j s : Nat} (h : j < n) : subsF row x (n - j) j s = if finB (opF .sub s (opF .mul (row.getD j 0) (x.getD j 0))) then subsF row x (n - (j + 1)) (j + 1) (opF .sub s (opF .mul (row.getD j 0) (x.getD j 0))) else none := by
  rw [show n - j = (n - (j + 1)) + 1 by omega, subsF]
theorem subsF_end {row x : List Nat} {n j s : Nat} (h : n ≤ j) : subsF row x (n - j) j s = some s := by
  rw [show n - j = 0 by omega, subsF]
theorem fwdF_step {t : List (List Nat)} {o b y : List Nat} {n i : Nat} (h : i < n) : fwdF t o b (n - i) i y = match subsF (t.getD i []) y i 0 (b.getD (o.getD i 0) 0) with
    | none => none
    | some s => fwdF t o b (n - (i + 1)) (i + 1) (y ++ [s]) := by
  rw [show n - i = (n - (i + 1)) + 1 by omega, fwdF]
theorem fwdF_end {t : List (List Nat)} {o b y : List Nat} {n i : Nat} (h : n ≤ i) : fwdF t o b (n - i) i y = some y := by
  rw [show n - i = 0 by omega, fwdF]

theorem quo_zero {a b q : Nat} (ha : finB a = true) (hb : finB b = true) (hz : isZ b = true) (hq : FR .quo .f32 a b q) : finB q = false := by
  rw [finB_iff] at ha hb
  obtain ⟨s, e, h1, _⟩ := read_isZ hb hz
  obtain ⟨m, g, h2⟩ := read_fin ha
  rw [finB_not]
  by_cases hm : m = 0
  · have : floatBits .quo .f32 a b = none := by
      show Ieee.single.div a b = _
      unfold Ieee.Format.div; rw [h1, h2]; simp [Ieee.Datum.quotient, hm]
    exact not_fin_of_nan (FR_nan hq this)
  · have : floatBits .quo .f32 a b = some (Ieee.single.write (.infinity ((a / Ieee.single.signWeight % 2 == 1) ^^ s))) := by
      show Ieee.single.div a b = _
      unfold Ieee.Format.div; rw [h1, h2]; simp [Ieee.Datum.quotient, hm]
    rw [FR_some hq this]
    exact not_fin_of_inf (write_inf _ _)

/-- An elimination that is read. -/
structure ER (w : World) (v ov tv : Value) (o : List Nat) (t : List (List Nat)) (n : Nat) : Prop where
  val : v = .agg #[ov, tv]
  ord : FI w ov (o.map Int.ofNat)
  tab : FSS w tv t
  good : Good n t
  len : o.length = n
  lt : ∀ x ∈ o, x < n
theorem ER.ext {w' : World} {v ov tv : Value} {o : List Nat} {t : List (List Nat)} {n : Nat} (h : ER w v ov tv o t n) (he : Ext w w') : ER w' v ov tv o t n := ⟨h.val, h.ord.ext he, h.tab.ext he, h.good, h.len, h.lt⟩
theorem ER.at {w' : World} {v ov tv : Value} {o : List Nat} {t : List (List Nat)} {n : Nat} (h : ER w v ov tv o t n) (he : Ext w w') {i : Nat} (hi : i < o.length) {K : Value → Prop} (H : K (ivN o[i])) : ixa P t_s_int64 ov (.int .i64 (i : Int)) w' (fun a => ld P t_int64 a w' K) := by
  refine Row.at1 (h.ord.ext he) (i := i) (x := ivN o[i]) ?_ u_s_int64 i_int64 u_int64 rfl H
  simp [hi]

structure FinL (n : Nat) (b : List Nat) : Prop where
  len : b.length = n
  fin : b.all finB = true
  lt : ∀ x ∈ b, x < 4294967296

theorem bslFe {KW : Value → World → Prop} (H : ∀ u w', Ext w w' → OS w' w.heap.size u [] → KW u w') : bsl P t_s_float32 0 [] w KW := bsl_nil u_s_float32 i_float32 (H _ _ (Ext_alloc _ _) (OS_lit0 w))

/-- One subtraction: as both packages do it. -/
theorem sub_case {a b s p q : Nat} (ha : finB a = true) (hb : finB b = true) (hs : finB s = true) (hp : FR .mul .f32 a b p) (hq : FR .sub .f32 s p q) : q = opF .sub s (opF .mul a b) ∧ [p, q].all finB = finB q := by
  obtain ⟨h1, h2, h3⟩ := step_sub ha hb hs hp hq
  refine ⟨h2, ?_⟩
  have eall : [p, q].all finB = (finB p && finB q) := by simp
  rw [eall]
  rcases h3 with h3 | ⟨h3, h4⟩
  · rw [h3, Bool.true_and]
  · rw [h3, h4]; rfl

theorem FinL.get {n : Nat} {b : List Nat} (h : FinL n b) {i : Nat} (hi : i < b.length) : finB b[i] = true := all_get h.fin hi
theorem FinL.set {n : Nat} {b : List Nat} (h : FinL n b) {i x : Nat} (h1 : finB x = true) (h2 : x < 4294967296) : FinL n (b.set i x) := ⟨by rw [List.length_set]; exact h.len, all_set h.fin h1, lt_set h.lt h2⟩

end Go.Proofs.YtabgkpfcpncmhaaGreat

/- The solution by an elimination: the program's, with its closure. -/
set_option linter.unusedVariables false
namespace Go.Proofs.YtabgkpfcpncmhaaGreat
open Go Go.Vc

variable {w : World} {K : Value → World → Prop}

theorem callv_call {f : FuncId} {cap : Array Value} {args : List Value} (H : call P f (args ++ cap.toList) w K) : callv P (.func (.func f) #[] cap) args w K := by
  unfold callv
  have e : (do let d ← Deferred.ofValue (.func (.func f) #[] cap) args.toArray; invoke d.target d.args) = callFunc f (args ++ cap.toList).toArray := by
    show callFunc f ((#[] ++ args.toArray) ++ cap) = _
    congr 1
    simp
  rw [e]; exact H

/-- The variables of 'solve'. -/
structure XS (w : World) (B : Nat) (pe px ov tv xv : Value) (xl : List Nat) : Prop where
  be : Bx w B t_impl_Elimination pe [ov, tv]
  bx : Bx w B t_s_float32 px [xv]
  xs : OS w B xv xl
theorem XS.ext {B : Nat} {pe px ov tv xv : Value} {xl : List Nat} {w' : World} (h : XS w B pe px ov tv xv xl) (he : Ext w w') : XS w' B pe px ov tv xv xl := ⟨h.be.ext he, h.bx.ext he, owns_ext h.xs he⟩
theorem XS.getX {B : Nat} {pe px ov tv xv : Value} {xl : List Nat} (h : XS w B pe px ov tv xv xl) {K : Value → Prop} (H : K xv) : ld P t_s_float32 px w K := h.bx.get1 u_s_float32 rfl H
theorem XS.at {B : Nat} {pe px ov tv xv : Value} {xl : List Nat} (h : XS w B pe px ov tv xv xl) {i : Nat} (hi : i < xl.length) {K : Value → Prop} (H : K (fl xl[i])) : ixa P t_s_float32 xv (.int .i64 (i : Int)) w (fun a => ld P t_float32 a w K) :=
  (owns_Row h.xs).at1 (get_map hi) u_s_float32 i_float32 u_float32 rfl H
theorem XS.put {B i x : Nat} {pe px ov tv xv : Value} {xl : List Nat} {K : World → Prop} (h : XS w B pe px ov tv xv xl) (hi : i < xl.length) (H : ∀ w', XS w' B pe px ov tv xv (xl.set i x) → (∀ {A w0}, A ≤ B → A ≤ w.heap.size → RowKit.Below A w0 w → RowKit.Below A w0 w') → K w') :
    ixa P t_s_float32 xv (.int .i64 (i : Int)) w (fun a => sto P t_float32 a (fl x) w K) := by
  refine owns_set h.xs (x := fl x) hi rfl u_s_float32 i_float32 fun w' ho hg => H w' ⟨keep_box h.be hg (Ty.owns h.xs) (by decide), keep_box h.bx hg (Ty.owns h.xs) (by decide), ?_⟩ fun hA hs hb => hb.grown hg hs fun k hk => Nat.le_trans hA (h.xs.lt k hk).1
  show w'.ownsRow B t_float32 1 xv (xl.set i x).length ((xl.set i x).map fl)
  rw [List.length_set, List.map_set]; exact ho

theorem getD_app {y : List Nat} {c : Nat} {r : List Nat} {i : Nat} (h : y.length = i) : (y ++ c :: r).getD i 0 = c := by
  subst h
  rw [List.getD_eq_getElem?_getD, List.getElem?_append_right (Nat.le_refl _)]; simp
theorem getD_appl {y r : List Nat} {j : Nat} (h : j < y.length) : (y ++ r).getD j 0 = y.getD j 0 := by
  rw [List.getD_eq_getElem?_getD, List.getElem?_append_left h, ← List.getD_eq_getElem?_getD]
theorem set_app {y : List Nat} {c d : Nat} {r : List Nat} {i : Nat} (h : y.length = i) : (y ++ c :: r).set i d = y ++ d :: r := by
  subst h
  rw [List.set_append_right _ _ (Nat.le_refl _)]; simp

end Go.Proofs.YtabgkpfcpncmhaaGreat

/- The contracts of SolveSystem, as the law wants them. -/
set_option linter.unusedVariables false
namespace Go.Proofs.YtabgkpfcpncmhaaGreat
open Go Go.Vc

variable {w : World} {K : Value → World → Prop}

theorem elimE_lt {n : Nat} : ∀ {f k : Nat} {o o' : List Nat} {m t : List (List Nat)}, elimE n f k o m = .ok (o', t) → f + k = n → o.length = n → (∀ x ∈ o, x < n) → ∀ x ∈ o', x < n
  | 0, k, o, o', m, t, h, _, ho, hx => by simp only [elimE, Except.ok.injEq, Prod.mk.injEq] at h; obtain ⟨rfl, rfl⟩ := h; exact hx
  | f + 1, k, o, o', m, t, h, hk, ho, hx => by
    rw [elimE] at h
    split at h
    · cases h
    · have hb := (bestF_range (m := m) (k := k) (n := n) (f := n - k) (i := k) (b := k) (by omega) (by omega) (Nat.le_refl _) (Nat.le_refl _)).1
      cases hr : rowsE n k (n - (k + 1)) (k + 1) (swapL m k (bestF m k (n - k) k k) []) with
      | none => rw [hr] at h; cases h
      | some t' =>
        rw [hr] at h
        exact elimE_lt h (by omega) (by rw [swapL_length]; exact ho) fun x hx' => hx x (mem_swapL (by omega) (by omega) hx')
theorem elimF_lt {m t : List (List Nat)} {o : List Nat} (h : elimF m = .ok (o, t)) : ∀ x ∈ o, x < m.length :=
  elimE_lt h rfl (by simp) (by simp)
theorem elimE_err {n : Nat} : ∀ {f k : Nat} {o : List Nat} {m : List (List Nat)} {e : Int}, elimE n f k o m = .error e → e = 3 ∨ e = 5
  | 0, k, o, m, e, h => by simp [elimE] at h
  | f + 1, k, o, m, e, h => by
    rw [elimE] at h
    split at h
    · simp at h; exact .inr h.symm
    · cases hr : rowsE n k (n - (k + 1)) (k + 1) (swapL m k (bestF m k (n - k) k k) []) with
      | none => rw [hr] at h; simp at h; exact .inl h.symm
      | some t' => rw [hr] at h; exact elimE_err h

def solveR (m : List (List Nat)) (b : List Nat) : List Nat × Int :=
  if codeF m [b] = 0 then (match elimF m with
    | .error e => ([], e)
    | .ok (o, t) => match solveF o t b with
      | none => ([], 3)
      | some q => (q, 0)) else ([], codeF m [b])

theorem FinL.of {m : List (List Nat)} {b : List Nat} {v : Value} (h : codeF m [b] = 0) (hv : FS w v b) : FinL m.length b := by
  obtain ⟨h1, h2, h3⟩ := code_zero h
  have := h2 b (by simp)
  unfold vecB at this
  simp only [Bool.and_eq_true] at this
  exact ⟨h3 b (by simp), this.1, hv.lt⟩
theorem ER_of {lo hi : Nat} {ov tv : Value} {o : List Nat} {m t : List (List Nat)} {vs : List Value} (he : elimF m = .ok (o, t)) (hm : matB m = true) (hb : bits m) (ho : OI w lo ov o) (ht : OM w lo hi tv t vs) : ER w (.agg #[ov, tv]) ov tv o t m.length := by
  obtain ⟨g1, g2⟩ := elimF_good he hm hb
  exact ⟨rfl, OIR.FI (OI.OIR (hi := w.heap.size) ho fun k hk => (ho.lt k hk).2), ht.FSS g1.lt, g1, g2, elimF_lt he⟩
theorem ER_put {lo hi base : Nat} {w2 w3 w4 : World} {p ov tv : Value} {cs : List Value} {o : List Nat} {m t : List (List Nat)} {vs : List Value} (he : elimF m = .ok (o, t)) (hm : matB m = true) (hb : bits m) (ho : OI w2 lo ov o) (ht : OM w2 lo hi tv t vs)
    (e3 : Ext w2 w3) (b3 : Bx w3 base t_impl_Elimination p cs) (g4 : w3.grownBy w4 (blk p)) : ER w4 (.agg #[ov, tv]) ov tv o t m.length := by
  have tb := Ty.box b3
  exact ER_of he hm hb (keep_row (owns_ext ho e3) g4 tb (by decide)) ((ht.ext e3).keep g4 tb (by decide) (by decide))

theorem solve_good {n : Nat} {t : List (List Nat)} {o b : List Nat} : ∀ {f i : Nat} {y q : List Nat}, fwdF t o b f i y = some q → q.length = y.length + f
  | 0, i, y, q, h => by simp only [fwdF, Option.some.injEq] at h; subst h; rfl
  | f + 1, i, y, q, h => by
    rw [fwdF] at h
    split at h
    · cases h
    · have := solve_good (n := n) h
      simp at this; omega
theorem subsF_lt {row x : List Nat} : ∀ {f j s q : Nat}, s < 4294967296 → subsF row x f j s = some q → q < 4294967296
  | 0, j, s, q, hs, h => by simp only [subsF, Option.some.injEq] at h; subst h; exact hs
  | f + 1, j, s, q, hs, h => by
    rw [subsF] at h
    split at h
    · exact subsF_lt opF_lt h
    · cases h
theorem backF_good {t : List (List Nat)} {n : Nat} : ∀ {c : Nat} {y q : List Nat}, backF t n c y = some q → (∀ x ∈ y, x < 4294967296) → q.length = y.length ∧ ∀ x ∈ q, x < 4294967296
  | 0, y, q, h, hy => by simp only [backF, Option.some.injEq] at h; subst h; exact ⟨rfl, hy⟩
  | i + 1, y, q, h, hy => by
    rw [backF] at h
    split at h
    · cases h
    · split at h
      · cases h
      · split at h
        · have := backF_good h (lt_set hy opF_lt)
          rw [List.length_set] at this; exact this
        · cases h
theorem fwdF_lt {t : List (List Nat)} {o b : List Nat} (hb : ∀ x ∈ b, x < 4294967296) : ∀ {f i : Nat} {y q : List Nat}, fwdF t o b f i y = some q → (∀ x ∈ y, x < 4294967296) → ∀ x ∈ q, x < 4294967296
  | 0, i, y, q, h, hy => by simp only [fwdF, Option.some.injEq] at h; subst h; exact hy
  | f + 1, i, y, q, h, hy => by
    rw [fwdF] at h
    split at h
    · cases h
    · rename_i s hs
      refine fwdF_lt hb h fun x hx => ?_
      rcases List.mem_append.1 hx with hx | hx
      · exact hy x hx
      · simp at hx; subst hx
        refine subsF_lt ?_ hs
        rcases Nat.lt_or_ge (o.getD i 0) b.length with hl | hl
        · rw [getDn hl]; exact hb _ (List.getElem_mem hl)
        · rw [List.getD_eq_getElem?_getD, List.getElem?_eq_none hl]; decide
theorem solveF_good {t : List (List Nat)} {o b q : List Nat} (h : solveF o t b = some q) (hb : ∀ x ∈ b, x < 4294967296) : q.length = b.length ∧ ∀ x ∈ q, x < 4294967296 := by
  unfold solveF at h
  split at h
  · cases h
  · rename_i y hy
    have h1 := solve_good (n := 0) hy
    have h2 := fwdF_lt hb hy (by simp)
    obtain ⟨h3, h4⟩ := backF_good h h2
    exact ⟨by simp at h1; omega, h4⟩
theorem solveR_bits {m : List (List Nat)} {x : List Nat} (hx : ∀ b ∈ x, b < 4294967296) : ∀ b ∈ (solveR m x).1, b < 4294967296 := by
  unfold solveR
  split
  · cases h : elimF m with
    | error e => simp
    | ok p =>
      obtain ⟨o, t⟩ := p
      simp only []
      cases h2 : solveF o t x with
      | none => simp
      | some q => exact (solveF_good h2 hx).2
  · simp

theorem fwdF_len {t : List (List Nat)} {o b : List Nat} : ∀ {f i : Nat} {y q : List Nat}, fwdF t o b f i y = some q → q.length = y.length + f := fun h => solve_good (n := 0) h
theorem backF_len {t : List (List Nat)} {n : Nat} : ∀ {c : Nat} {y q : List Nat}, backF t n c y = some q → q.length = y.length
  | 0, y, q, h => by simp only [backF, Option.some.injEq] at h; subst h; rfl
  | i + 1, y, q, h => by
    rw [backF] at h
    split at h
    · cases h
    · split at h
      · cases h
      · split at h
        · have := backF_len h
          rw [List.length_set] at this; exact this
        · cases h
theorem solveF_len {t : List (List Nat)} {o b q : List Nat} (h : solveF o t b = some q) : q.length = b.length := by
  unfold solveF at h
  split at h
  · cases h
  · rename_i y hy
    have h1 := fwdF_len hy
    have h2 := backF_len h
    simp at h1; omega
theorem small_SolveSystem_0 (m : List (List Nat)) (x : List Nat) : cnt_Float32S (solveR m x).1 ≤ 1099511627776 := by
  unfold solveR
  split
  · rename_i hc
    cases h : elimF m with
    | error e => simp [cnt_Float32S]
    | ok p =>
      obtain ⟨o, t⟩ := p
      simp only []
      cases h2 : solveF o t x with
      | none => simp [cnt_Float32S]
      | some q =>
        have h3 := solveF_len h2
        obtain ⟨c1, _, c3⟩ := code_zero hc
        have h8 := (matB_parts c1).2.2
        have := c3 x (by simp)
        show q.length ≤ _
        omega
  · simp [cnt_Float32S]
end Go.Proofs.YtabgkpfcpncmhaaGreat

/- Residuals of systems. -/
set_option linter.unusedVariables false
set_option linter.unusedSimpArgs false
namespace Go.Proofs.YtabgkpfcpncmhaaGreat
open Go Go.Vc

variable {w : World} {K : Value → World → Prop}

theorem rndQ_lt (md : Int) (q : Rat) : (rndQ md q).1 < 4294967296 := by
  have ho : ∀ b, overB md b < 4294967296 := by
    intro b
    unfold overB
    cases b <;> simp <;> split <;> omega
  have hr : ∀ m e, (roundF md m e).1 < 4294967296 := by
    intro m e
    unfold roundF
    split
    · decide
    · simp only
      split
      · exact ho _
      · exact W32_lt _ _ _
  unfold rndQ
  split
  · exact hr _ _
  · decide
theorem FS.entry {v : Value} {n : Nat} {x : List Nat} (h : FS w v x) (hx : FinL n x) {j : Nat} (hj : j < n) {K : Value → Prop} (H : x.getD j 0 < 4294967296 → Vc.Fin Ieee.single (x.getD j 0) → K (fl (x.getD j 0))) :
    ixa P t_s_float32 v (.int .i64 (j : Int)) w fun y => ld P t_float32 y w K := by
  have hj' : j < x.length := by have := hx.len; omega
  refine h.at hj' ?_
  have e : x.getD j 0 = x[j] := by simp [hj']
  rw [e] at H
  exact H (hx.lt _ (List.getElem_mem hj')) (finB_iff.1 (List.all_eq_true.1 hx.fin _ (List.getElem_mem hj')))

/-! ### the plain law -/
def rK (m : List (List Nat)) (x b : List Nat) (i : Nat) : Nat → Rat
  | 0 => fq (b.getD i 0)
  | k + 1 => rK m x b i k - fq (en m i k) * fq (x.getD k 0)
def restQ (m : List (List Nat)) (x b : List Nat) (n : Nat) : List Rat := (List.range n).map fun i => rK m x b i m.length
theorem restQ_succ (m : List (List Nat)) (x b : List Nat) (n : Nat) : restQ m x b (n + 1) = restQ m x b n ++ [rK m x b n m.length] := by
  unfold restQ; rw [List.range_succ, List.map_append]; rfl
theorem restQ_len (m : List (List Nat)) (x b : List Nat) (n : Nat) : (restQ m x b n).length = n := by unfold restQ; simp
noncomputable def rndL (qs : List Rat) : List Nat := qs.map fun q => (rndQ 0 q).1
noncomputable def resL (m : List (List Nat)) (x b : List Nat) : List Nat := rndL (restQ m x b m.length)
theorem resL_len (m : List (List Nat)) (x b : List Nat) : (resL m x b).length = m.length := by unfold resL rndL; simp [restQ_len]
theorem resL_lt (m : List (List Nat)) (x b : List Nat) : ∀ y ∈ resL m x b, y < 4294967296 := by
  intro y hy
  unfold resL rndL at hy
  rw [List.mem_map] at hy
  obtain ⟨q, _, rfl⟩ := hy
  exact rndQ_lt _ _

theorem rndL_take (qs : List Rat) {i : Nat} (hi : i < qs.length) : rndL (qs.take (i + 1)) = rndL (qs.take i) ++ [(rndQ 0 qs[i]).1] := by
  unfold rndL
  rw [List.take_succ_eq_append_getElem hi, List.map_append]; rfl
theorem rndL_lt (qs : List Rat) : ∀ y ∈ rndL qs, y < 4294967296 := by
  intro y hy
  unfold rndL at hy
  rw [List.mem_map] at hy
  obtain ⟨q, _, rfl⟩ := hy
  exact rndQ_lt _ _

end Go.Proofs.YtabgkpfcpncmhaaGreat

/- Intervals: what is one; the ends' kinds. -/
set_option linter.unusedVariables false
set_option linter.unusedSimpArgs false
namespace Go.Proofs.YtabgkpfcpncmhaaGreat
open Go Go.Vc Ieee

variable {w : World} {K : Value → World → Prop}

def nanB (b : Nat) : Bool := decide (2139095040 < b % 2147483648)
theorem nanB_iff {b : Nat} : nanB b = true ↔ Vc.NaN single b := by
  unfold nanB Go.Vc.NaN; rw [s_sw, s_inf]; simp
theorem nanB_no {b : Nat} (h : nanB b = false) : ¬ Vc.NaN single b := fun hn => by rw [nanB_iff.2 hn] at h; cases h
def infB (b : Nat) : Bool := decide (b % 2147483648 = 2139095040)
theorem fin_nan {b : Nat} (h : nanB b = false) : infB b = !finB b := by
  unfold nanB at h
  unfold infB finB
  have h1 : Vc.Fin single b ↔ b % 2147483648 < 2139095040 := by unfold Go.Vc.Fin; rw [s_sw, s_inf]
  simp only [decide_eq_false_iff_not] at h
  by_cases h2 : b % 2147483648 < 2139095040
  · rw [decide_eq_true (h1.2 h2), decide_eq_false (by omega)]; rfl
  · rw [decide_eq_false (fun q => h2 (h1.1 q)), decide_eq_true (by omega)]; rfl
theorem inf_cases {b : Nat} (hb : b < 4294967296) (h : infB b = true) : b = 2139095040 ∨ b = 4286578688 := by
  unfold infB at h
  simp only [decide_eq_true_eq] at h
  omega
theorem isZ_iff {b : Nat} (hb : b < 4294967296) : isZ b = decide (b = 0 ∨ b = 2147483648) := by
  unfold isZ
  rcases fin_inf_nan single b with h | h | h
  · rw [order_zero h hb]
    have h1 : (b = 0 ∨ b = 2147483648) ↔ fM b = 0 := by
      have h2 : Vc.Fin single b ↔ b % 2147483648 < 2139095040 := by unfold Go.Vc.Fin; rw [s_sw, s_inf]
      have h3 := h2.1 h
      unfold fM
      simp only
      constructor
      · rintro (rfl | rfl) <;> decide
      · intro h
        split at h <;> split at h <;> omega
    by_cases h2 : fM b = 0
    · rw [h2, decide_eq_true (h1.2 h2)]; rfl
    · rw [decide_eq_false (fun q => h2 (h1.1 q))]
      rcases Int.lt_trichotomy (fM b) 0 with q | q | q
      · rw [Int.compare_eq_lt.2 q]; rfl
      · exact absurd q h2
      · rw [Int.compare_eq_gt.2 q]; rfl
  · have h1 : infB b = true := by unfold Go.Vc.Inf at h; rw [s_sw, s_inf] at h; unfold infB; simpa using h
    rcases inf_cases hb h1 with rfl | rfl <;> decide
  · rw [order_nan_left hs1 0 h]
    have h1 := nanB_iff.2 h
    unfold nanB at h1
    simp only [decide_eq_true_eq] at h1
    rw [decide_eq_false (by omega)]; rfl
theorem ord_pinf {a : Nat} (h : nanB a = false) (ha : a < 4294967296) : single.order a 2139095040 = some (if a = 2139095040 then .eq else .lt) := by
  rcases fin_inf_nan single a with h1 | h1 | h1
  · have : a ≠ 2139095040 := by rintro rfl; revert h1; decide
    rw [if_neg this]
    obtain ⟨m, e, hr⟩ := read_fin h1
    unfold Format.order
    rw [hr, show single.read 2139095040 = .infinity false from by decide]
    rfl
  · have h2 : infB a = true := by unfold Go.Vc.Inf at h1; rw [s_sw, s_inf] at h1; unfold infB; simpa using h1
    rcases inf_cases ha h2 with rfl | rfl <;> decide
  · exact absurd h1 (nanB_no h)
theorem ord_ninf {a : Nat} (h : nanB a = false) (ha : a < 4294967296) : single.order a 4286578688 = some (if a = 4286578688 then .eq else .gt) := by
  rcases fin_inf_nan single a with h1 | h1 | h1
  · have : a ≠ 4286578688 := by rintro rfl; revert h1; decide
    rw [if_neg this]
    obtain ⟨m, e, hr⟩ := read_fin h1
    unfold Format.order
    rw [hr, show single.read 4286578688 = .infinity true from by decide]
    rfl
  · have h2 : infB a = true := by unfold Go.Vc.Inf at h1; rw [s_sw, s_inf] at h1; unfold infB; simpa using h1
    rcases inf_cases ha h2 with rfl | rfl <;> decide
  · exact absurd h1 (nanB_no h)
theorem ord_some {a b : Nat} (h : nanB a = false) (k : nanB b = false) : ∃ o, single.order a b = some o := by
  unfold Format.order
  have r : ∀ a, nanB a = false → (∃ s m e, single.read a = .number s m e) ∨ ∃ s, single.read a = .infinity s := fun a h => by
    rcases fin_inf_nan single a with h1 | h1 | h1
    · obtain ⟨m, e, hr⟩ := read_fin h1; exact .inl ⟨_, m, e, hr⟩
    · exact .inr ⟨_, read_inf hs1 h1⟩
    · exact absurd h1 (nanB_no h)
  rcases r a h with ⟨s, m, e, h1⟩ | ⟨s, h1⟩ <;> rcases r b k with ⟨t, n, g, h2⟩ | ⟨t, h2⟩ <;> rw [h1, h2] <;> exact ⟨_, rfl⟩

theorem c_isNaN {b : Nat} (H : K (.bool (nanB b)) w) : call P f_impl_isNaN [fl b] w K := by
  refine I_impl_isNaN ?_
  unfold D_impl_isNaN
  rw [bin_fneq]
  have : (FloatKind.f32.format.order b b != some .eq) = nanB b := by
    by_cases h : nanB b = true
    · rw [h, show FloatKind.f32.format.order b b = none from order_nan_left hs1 b (nanB_iff.1 h)]; rfl
    · rw [Bool.not_eq_true] at h
      rw [h, show FloatKind.f32.format.order b b = some .eq from order_self (nanB_no h) hs1]; rfl
  rw [this]; exact H
theorem c_l01NaN {b : Nat} (H : K (.bool (nanB b)) w) : call P f_spec_l01NaN [fl b] w K := by
  refine I_spec_l01NaN ?_
  unfold D_spec_l01NaN
  rw [bin_fneq]
  have : (FloatKind.f32.format.order b b != some .eq) = nanB b := by
    by_cases h : nanB b = true
    · rw [h, show FloatKind.f32.format.order b b = none from order_nan_left hs1 b (nanB_iff.1 h)]; rfl
    · rw [Bool.not_eq_true] at h
      rw [h, show FloatKind.f32.format.order b b = some .eq from order_self (nanB_no h) hs1]; rfl
  rw [this]; exact H
def zF (b : Nat) : Nat := if isZ b then 0 else b
theorem c_plain {b : Nat} (H : K (fl (zF b)) w) : call P f_impl_plain [fl b] w K := by
  refine I_impl_plain ?_
  unfold D_impl_plain
  rw [bin_feql]
  unfold zF at H
  refine cnd_split (fun h => ?_) (fun h => ?_)
  · rw [show isZ b = true from h, if_pos rfl] at H; exact H
  · rw [show isZ b = false from h, if_neg (by decide)] at H; exact H
theorem c_l06Zero {b : Nat} (H : K (fl (zF b)) w) : call P f_spec_l06Zero [fl b] w K := by
  refine I_spec_l06Zero ?_
  unfold D_spec_l06Zero
  rw [bin_feql]
  unfold zF at H
  refine cnd_split (fun h => ?_) (fun h => ?_)
  · rw [show isZ b = true from h, if_pos rfl] at H; exact H
  · rw [show isZ b = false from h, if_neg (by decide)] at H; exact H
theorem c_minus {b : Nat} (hb : b < 4294967296) (H : K (.bool (decide (2147483648 ≤ b))) w) : call P f_impl_minus [fl b] w K := by
  refine I_impl_minus ?_
  unfold D_impl_minus
  refine c_Float32bits ?_
  rw [bin_shr _ _ _ _ _ _ _ _ (by decide)]
  have e1 : Int.fdiv (b : Int) (2 ^ min (Int.toNat 31) IntKind.u32.bits) = ((b / 2147483648 : Nat) : Int) := by
    rw [Int.fdiv_eq_ediv_of_nonneg _ (by simp [IntKind.bits])]
    simp [IntKind.bits]
  rw [e1, bin_neq]
  have e2 : decide (((b / 2147483648 : Nat) : Int) ≠ 0) = decide (2147483648 ≤ b) := by
    rw [decide_eq_decide]; omega
  rw [e2]; exact H
theorem c_l01Minus {b : Nat} (hb : b < 4294967296) (hz : isZ b = true) (H : K (.bool (decide (2147483648 ≤ b))) w) : call P f_spec_l01Minus [fl b] w K := by
  refine I_spec_l01Minus ?_
  unfold D_spec_l01Minus
  rw [isZ_iff hb] at hz
  simp only [decide_eq_true_eq] at hz
  have go : ∀ (o : Bool) (r0 : Nat), (single.order b 0 == some .lt) = false → (single.order b 0 == some .eq) = true → floatBits .quo .f32 1065353216 b = some r0 → (single.order r0 0 == some .lt) = o → o = decide (2147483648 ≤ b) →
      bin P .lss t_float32 false true (fl b) (fl 0) w (fun x4_1 => ∃ J2 : Value → World → Prop, (∀ (x8_3 : Value) (junk5 : Env) (w4 : World), J2 x8_3 w4 →
    ∃ J6 : Value → World → Prop, (∀ (x11_7 : Value) (junk9 : Env) (w8 : World), J6 x11_7 w8 →
    ∃ J10 : Value → World → Prop, (∀ (x12_11 : Value) (junk13 : Env) (w12 : World), J10 x12_11 w12 →
    pick x4_1 (.bool true) x12_11 fun x13_14 =>
        K x13_14 w12) ∧
    grd x4_1 false
      (pick x8_3 x11_7 (.bool false) fun x12_15 =>
          J10 x12_15 w8)
      (J10 undef w8)) ∧
    grd x8_3 true
      (rbin P .quo t_float32 true false (fl 1065353216) (fl b) w4 fun x10_16 =>
        bin P .lss t_float32 false true x10_16 (fl 0) w4 fun x11_17 =>
        J6 x11_17 w4)
      (J6 undef w4)) ∧
    grd x4_1 false
      (bin P .eql t_float32 false true (fl b) (fl 0) w fun x7_18 =>
      J2 x7_18 w)
      (J2 undef w)) := by
    intro o r0 h1 h2 h3 h4 h5
    subst h5
    rw [bin_flss, show (FloatKind.f32.format.order b 0 == some .lt) = false from h1]
    refine ⟨fun x w' => w' = w ∧ x = .bool true, ?_, ?_⟩
    · rintro x junk w' ⟨rfl, rfl⟩
      refine ⟨fun x w2 => w2 = w' ∧ x = .bool (decide (2147483648 ≤ b)), ?_, ?_⟩
      · rintro x junk w2 ⟨rfl, rfl⟩
        exact ⟨fun x w3 => K x w3, fun x _ w3 h => h, by rw [grd_false_false, pick_bool, cond_true]; exact H⟩
      · rw [grd_true_true]
        refine rbin_float (by simp) fun r hr => ?_
        rw [FR_some hr h3, bin_flss, show (FloatKind.f32.format.order r0 0 == some .lt) = _ from h4]
        exact ⟨rfl, rfl⟩
    · rw [grd_false_false, bin_feql, show (FloatKind.f32.format.order b 0 == some .eq) = true from h2]
      exact ⟨rfl, rfl⟩
  rcases hz with rfl | rfl
  · exact go false 2139095040 (by decide) (by decide) (by decide +kernel) (by decide) (by decide)
  · exact go true 4286578688 (by decide) (by decide) (by decide +kernel) (by decide) (by decide)
/-- A float that is neither NaN nor -0. -/
def plainB (b : Nat) : Bool := !nanB b && !(b == 2147483648)
theorem c_l06Plain {b : Nat} (hb : b < 4294967296) (H : K (.bool (plainB b)) w) : call P f_spec_l06Plain [fl b] w K := by
  refine I_spec_l06Plain ?_
  unfold D_spec_l06Plain
  refine c_l01NaN ?_
  rw [una_not]
  unfold plainB at H
  by_cases hn : nanB b = true
  · rw [hn] at H ⊢
    simp only [Bool.not_true, Bool.false_and] at H ⊢
    repeat (first | (refine ⟨_, fun _ _ _ h => h, ?_⟩) | simp only [grd_undef, grd_false_true, pick_bool, cond_false])
    exact H
  · rw [Bool.not_eq_true] at hn
    rw [hn] at H ⊢
    simp only [Bool.not_false, Bool.true_and] at H ⊢
    refine ⟨_, fun _ _ _ h => h, ?_⟩
    rw [grd_true_true, bin_fneq]
    have hz := isZ_iff hb
    by_cases h0 : isZ b = true
    · rw [show (FloatKind.f32.format.order b 0 != some .eq) = false from by rw [bne, show (FloatKind.f32.format.order b 0 == some .eq) = true from h0]; rfl]
      refine ⟨_, fun _ _ _ h => h, ?_⟩
      rw [grd_false_false]
      refine c_l01Minus hb h0 ?_
      rw [una_not]
      refine ⟨_, fun _ _ _ h => h, ?_⟩
      rw [grd_true_true, pick_bool, cond_false, pick_bool, cond_true]
      have : (!decide (2147483648 ≤ b)) = !(b == 2147483648) := by
        rw [hz] at h0
        simp only [decide_eq_true_eq] at h0
        rcases h0 with rfl | rfl <;> rfl
      rw [this]; exact H
    · rw [Bool.not_eq_true] at h0
      rw [show (FloatKind.f32.format.order b 0 != some .eq) = true from by rw [bne, show (FloatKind.f32.format.order b 0 == some .eq) = false from h0]; rfl]
      refine ⟨_, fun _ _ _ h => h, ?_⟩
      rw [grd_true_false]
      refine ⟨_, fun _ _ _ h => h, ?_⟩
      rw [grd_true_true, pick_bool, cond_true, pick_bool, cond_true]
      have : (!(b == 2147483648)) = true := by
        rw [hz] at h0
        simp only [decide_eq_false_iff_not, not_or] at h0
        simpa using h0.2
      rw [this] at H; exact H

def isI (p : IV) : Bool := plainB p.1 && plainB p.2 && (single.order p.1 p.2 == some .lt || single.order p.1 p.2 == some .eq) && !(p.1 == 2139095040) && !(p.2 == 4286578688)
theorem one_inf : fl 2139095040 = .float .f32 2139095040 := rfl
theorem c_l06Is {p : IV} (hp : ivB p) (H : ∀ w', Ext w w' → K (.bool (isI p)) w') : call P f_spec_l06Is [ivv p] w K := by
  refine I_spec_l06Is ?_
  unfold D_spec_l06Is
  refine bx_iv fun x w1 b1 e1 => ?_
  refine iv_lo b1 ?_
  refine c_l06Plain hp.1 ?_
  have hd : ∀ K' : Value → World → Prop, (∀ b, b = isI p → K' (.bool b) w1) → K' (.bool (isI p)) w1 := fun K' h => h _ rfl
  have HH := H w1 e1
  unfold isI at HH
  refine andJ (fun h1 => ?_) (fun h1 => ?_)
  · rw [h1] at HH
    refine iv_hi b1 ?_
    refine c_l06Plain hp.2 ?_
    refine andJ (fun h2 => ?_) (fun h2 => ?_)
    · rw [h2] at HH
      refine iv_lo b1 ?_
      refine iv_hi b1 ?_
      rw [bin_fleq]
      refine andJ (fun h3 => ?_) (fun h3 => ?_)
      · rw [show (single.order p.1 p.2 == some .lt || single.order p.1 p.2 == some .eq) = true from h3] at HH
        refine iv_lo b1 ?_
        refine c_l01Huge ?_
        refine ⟨Ext.refl _, ?_⟩
        have n1 : nanB p.1 = false := by unfold plainB at h1; simp at h1; exact h1.1
        have n2 : nanB p.2 = false := by unfold plainB at h2; simp at h2; exact h2.1
        rw [bin_flss, show FloatKind.f32.format.order p.1 2139095040 = _ from ord_pinf n1 hp.1]
        have q1 : ((some (if p.1 = 2139095040 then Ordering.eq else .lt)) == some Ordering.lt) = !(p.1 == 2139095040) := by
          by_cases h : p.1 = 2139095040
          · rw [if_pos h, h]; rfl
          · rw [if_neg h]; simp [h]
        rw [q1]
        refine andJ (fun h4 => ?_) (fun h4 => ?_)
        · rw [h4] at HH
          refine iv_hi b1 ?_
          refine c_l01Huge ?_
          refine ⟨Ext.refl _, ?_⟩
          rw [una_neg_float, neg32 _ (by decide), if_pos (by decide), bin_fgtr, show FloatKind.f32.format.order p.2 (2139095040 + 2147483648) = _ from ord_ninf n2 hp.2]
          have q2 : ((some (if p.2 = 4286578688 then Ordering.eq else .gt)) == some Ordering.gt) = !(p.2 == 4286578688) := by
            by_cases h : p.2 = 4286578688
            · rw [if_pos h, h]; rfl
            · rw [if_neg h]; simp [h]
          rw [q2]
          simpa using HH
        · rw [h4, Bool.and_false, Bool.false_and] at HH; repeat (first | exact HH | (refine andJ (fun h => by cases h) (fun _ => ?_)))
      · rw [show (single.order p.1 p.2 == some .lt || single.order p.1 p.2 == some .eq) = false from h3] at HH
        repeat (first | exact HH | (refine andJ (fun h => by cases h) (fun _ => ?_)))
    · rw [h2] at HH
      repeat (first | exact HH | (refine andJ (fun h => by cases h) (fun _ => ?_)))
  · rw [h1] at HH
    repeat (first | exact HH | (refine andJ (fun h => by cases h) (fun _ => ?_)))
theorem isI_nan1 {p : IV} (h : nanB p.1 = true) : isI p = false := by simp [isI, plainB, h]
theorem isI_nan2 {p : IV} (h : nanB p.2 = true) : isI p = false := by simp [isI, plainB, h]
theorem c_IsInterval {p : IV} (hp : ivB p) (H : ∀ w', Ext w w' → K (.bool (isI p)) w') : call P f_impl_IsInterval [ivv p] w K := by
  refine I_impl_IsInterval ?_
  unfold D_impl_IsInterval
  refine bx_iv fun x w1 b1 e1 => ?_
  refine iv_lo b1 ?_
  refine c_isNaN ?_
  have HH := H w1 e1
  refine orJ (fun h1 => ?_) (fun n1 => ?_)
  · rw [isI_nan1 h1] at HH
    refine ⟨_, fun _ _ _ h => h, ?_⟩
    rw [grd_true_false, pick_bool, cond_true, cnd_true]; exact HH
  refine iv_hi b1 ?_
  refine c_isNaN ?_
  refine orJ (fun h2 => ?_) (fun n2 => ?_)
  · rw [isI_nan2 h2] at HH
    rw [cnd_true]; exact HH
  refine iv_lo b1 ?_
  refine iv_hi b1 ?_
  rw [bin_fgtr]
  obtain ⟨o, ho⟩ := ord_some n1 n2
  rw [show FloatKind.f32.format.order p.1 p.2 = some o from ho]
  have hle : (single.order p.1 p.2 == some .lt || single.order p.1 p.2 == some .eq) = !((some o : Option Ordering) == some Ordering.gt) := by rw [ho]; cases o <;> rfl
  refine cnd_split (fun h3 => ?_) (fun h3 => ?_)
  · have : isI p = false := by unfold isI; rw [hle, h3]; simp
    rw [this] at HH; exact HH
  refine iv_lo b1 ?_
  refine c_infinite_pos ?_
  refine ⟨Ext.refl _, ?_⟩
  rw [bin_feql, show FloatKind.f32.format.order p.1 2139095040 = _ from ord_pinf n1 hp.1]
  have q1 : ((some (if p.1 = 2139095040 then Ordering.eq else .lt)) == some Ordering.eq) = (p.1 == 2139095040) := by
    by_cases h : p.1 = 2139095040
    · rw [if_pos h, h]; rfl
    · rw [if_neg h]; simp [h]
  rw [q1]
  refine orJ (fun h4 => ?_) (fun h4 => ?_)
  · have : isI p = false := by unfold isI; rw [h4]; simp
    rw [this] at HH; rw [cnd_true]; exact HH
  refine iv_hi b1 ?_
  refine c_infinite_neg ?_
  refine ⟨Ext.refl _, ?_⟩
  rw [bin_feql, show FloatKind.f32.format.order p.2 4286578688 = _ from ord_ninf n2 hp.2]
  have q2 : ((some (if p.2 = 4286578688 then Ordering.eq else .gt)) == some Ordering.eq) = (p.2 == 4286578688) := by
    by_cases h : p.2 = 4286578688
    · rw [if_pos h, h]; rfl
    · rw [if_neg h]; simp [h]
  rw [q2]
  refine cnd_split (fun h5 => ?_) (fun h5 => ?_)
  · have : isI p = false := by unfold isI; rw [h5]; simp
    rw [this] at HH; exact HH
  have hI : isI p = (!(p.1 == 2147483648) && !(p.2 == 2147483648)) := by
    unfold isI plainB; rw [hle, h3, h4, h5, n1, n2]; simp
  rw [hI] at HH
  refine iv_lo b1 ?_
  rw [bin_feql]
  have zz : ∀ b : Nat, b < 4294967296 → isZ b = true → decide (2147483648 ≤ b) = (b == 2147483648) := fun b hb h => by
    rw [isZ_iff hb] at h
    simp only [decide_eq_true_eq] at h
    rcases h with rfl | rfl <;> rfl
  have zn : ∀ b : Nat, b < 4294967296 → isZ b = false → (b == 2147483648) = false := fun b hb h => by
    rw [isZ_iff hb] at h
    simp only [decide_eq_false_iff_not, not_or] at h
    simpa using h.2
  have fin : ∀ w2, w2 = w1 → ∀ a : Bool, a = (p.1 == 2147483648) → ∃ J36 : Value → World → Prop, (∀ (x43_37 : Value) (junk39 : Env) (w38 : World), J36 x43_37 w38 →
              ∃ J40 : Value → World → Prop, (∀ (x46_41 : Value) (junk43 : Env) (w42 : World), J40 x46_41 w42 →
              ∃ J44 : Value → World → Prop, (∀ (x48_45 : Value) (junk47 : Env) (w46 : World), J44 x48_45 w46 →
              pick (.bool (!a)) x48_45 (.bool false) fun x49_48 =>
                    K x49_48 w46) ∧
              grd (.bool (!a)) true
                (pick x43_37 x46_41 (.bool false) fun x47_49 =>
                      una P .not x47_49 w42 fun x48_50 =>
                      J44 x48_50 w42)
                (J44 undef w42)) ∧
              grd x43_37 true
                (fda P t_impl_Interval x 1 w38 fun x44_51 =>
                    ld P t_float32 x44_51 w38 fun x45_52 =>
                    call P f_impl_minus [x45_52] w38 fun x46_53 w54 =>
                    J40 x46_53 w54)
                (J40 undef w38)) ∧
              grd (.bool (!a)) true
                (fda P t_impl_Interval x 1 w2 fun x40_55 =>
                  ld P t_float32 x40_55 w2 fun x41_56 =>
                  bin P .eql t_float32 false true x41_56 (.float .f32 0) w2 fun x42_57 =>
                  J36 x42_57 w2)
                (J36 undef w2) := by
    rintro w2 rfl a ha
    rw [← ha] at HH
    cases a
    · simp only [Bool.not_false, Bool.true_and] at HH ⊢
      refine ⟨_, fun _ _ _ h => h, ?_⟩
      rw [grd_true_true]
      refine iv_hi b1 ?_
      rw [bin_feql]
      refine ⟨_, fun _ _ _ h => h, ?_⟩
      refine grd_split (fun z => ?_) (fun z => ?_)
      · refine iv_hi b1 ?_
        refine c_minus hp.2 ?_
        refine ⟨_, fun _ _ _ h => h, ?_⟩
        rw [z, grd_true_true, pick_bool, cond_true, una_not, pick_bool, cond_true, zz _ hp.2 z]
        exact HH
      · refine ⟨_, fun _ _ _ h => h, ?_⟩
        rw [z, grd_true_true]
        simp only [Bool.not_true, pick_bool, cond_false, una_not, Bool.not_false, cond_true]
        rw [zn _ hp.2 z] at HH
        exact HH
    · simp only [Bool.not_true, Bool.false_and] at HH ⊢
      repeat (first | (refine ⟨_, fun _ _ _ h => h, ?_⟩) | simp only [grd_undef, grd_false_true, pick_bool, cond_false])
      exact HH
  refine andJ (fun z => ?_) (fun z => ?_)
  · refine iv_lo b1 ?_
    refine c_minus hp.1 ?_
    dsimp only
    rw [una_not]
    exact fin _ rfl _ (zz _ hp.1 z)
  · rw [una_not]
    exact fin _ rfl _ (zn _ hp.1 z).symm
end Go.Proofs.YtabgkpfcpncmhaaGreat

/- Intervals: infinite ends; the codes of boxes. -/
set_option linter.unusedVariables false
set_option linter.unusedSimpArgs false
namespace Go.Proofs.YtabgkpfcpncmhaaGreat
open Go Go.Vc Ieee

variable {w : World} {K : Value → World → Prop}

theorem bin_clear' {t : TypeId} {cx cy : Bool} {b : Nat} {K : Value → Prop} (h : b < 2 ^ 64) : bin P .andNot t cx cy (.int .u64 (b : Int)) (.int .u64 9223372036854775808) w K = K (.int .u64 ((b % 2 ^ 63 : Nat) : Int)) := by
  rw [bin_andNot0]
  have e := andNot_nat (b := 9223372036854775808) h (by decide)
  rw [show ((9223372036854775808 : Nat) : Int) = (9223372036854775808 : Int) from rfl] at e
  rw [e, show (2 ^ 64 - 1 - 9223372036854775808 : Nat) = 2 ^ 63 - 1 from by decide, Nat.and_two_pow_sub_one_eq_mod, wrap_u64 (Nat.lt_of_le_of_lt (Nat.mod_le _ _) h)]
theorem W64_mod (s : Bool) (m : Nat) (e : Int) : W double s m e % 2 ^ 63 = W double false m e ∧ W double s m e < 2 ^ 64 := by
  obtain ⟨r, hr⟩ := W_sign double m e
  have h0 : W double false m e < 2 ^ 63 := W64_lt
  cases s
  · exact ⟨Nat.mod_eq_of_lt h0, Nat.lt_trans h0 (by decide)⟩
  · rw [hr false, word_false] at h0
    have e1 : W double true m e = 2 ^ 63 + r := hr true
    rw [e1, hr false, word_false]
    omega
theorem c_Abs64' {b : Nat} (hb : b < 2 ^ 64) (H : K (.float .f64 (b % 2 ^ 63)) w) : call P f_math_Abs [.float .f64 b] w K := by
  refine I_math_Abs ?_
  unfold D_math_Abs
  refine c_Float64bits ?_
  rw [bin_clear' hb]
  exact c_Float64frombits H
theorem wid_fin {b : Nat} (h : Vc.Fin single b) (hb : b < 4294967296) : wid b = W double (b / 2147483648 % 2 == 1) (fM b).natAbs (fE b) := by
  unfold wid
  rw [read_f h hb]; rfl
set_option maxRecDepth 20000 in
theorem c_isInf {b : Nat} (hn : nanB b = false) (hb : b < 4294967296) (H : K (.bool (infB b)) w) : call P f_impl_isInf [fl b] w K := by
  refine I_impl_isInf ?_
  unfold D_impl_isInf
  refine rcnv_widen u_float32 u_float64 fun r hr => ?_
  have hr : r = wid b := by
    rcases hr with ⟨_, h⟩ | ⟨h, _⟩
    · exact h
    · exact absurd h (nanB_no hn)
  subst hr
  refine I_math_IsInf ?_
  unfold D_math_IsInf
  rw [bin_eql]
  refine cnd_yes (by decide) ?_
  rcases fin_inf_nan single b with h | h | h
  · rw [wid_fin h hb]
    refine c_Abs64' (W64_mod _ _ _).2 ?_
    rw [(W64_mod _ _ _).1, bin_fgtr]
    have hx := f_bd h
    have ha := fM_abs b
    obtain ⟨x, y, h1, h2, h3⟩ := order_W false (m := (fM b).natAbs) (e := fE b) (n := 9007199254740991) (g := 971) (Has64 (bl_le.2 (Nat.lt_trans ha (by decide))) (by have := hx.low; omega) (by have := hx.top; have : bl (fM b).natAbs ≤ 24 := bl_le.2 ha; omega)) (Has64 (by decide) (by decide) (by decide))
    rw [← max64] at h1
    rw [show FloatKind.f64.format.order _ _ = _ from h1]
    have hle : dy ((fM b).natAbs : Int) (fE b) ≤ dy (9007199254740991 : Nat) 971 := by
      have ht := hx.top
      rw [← dy_shift' (m := ((9007199254740991 : Nat) : Int)) (e := 971) (e' := fE b) (k := (971 - fE b).toNat) (by omega), dy_le]
      have h4 : ((9007199254740991 : Nat) : Int) ≤ ((9007199254740991 : Nat) : Int) * 2 ^ (971 - fE b).toNat := by
        have h5 := Nat.le_mul_of_pos_right 9007199254740991 (Nat.two_pow_pos (971 - fE b).toNat)
        have e5 : ((9007199254740991 * 2 ^ (971 - fE b).toNat : Nat) : Int) = ((9007199254740991 : Nat) : Int) * 2 ^ (971 - fE b).toNat := by rw [Int.natCast_mul, Int.natCast_pow]; rfl
        rw [← e5]
        exact Int.ofNat_le.2 h5
      omega
    have hc : compare x y ≠ .gt := fun q => by
      have := Int.compare_eq_gt.1 q
      have := h2.2 hle
      omega
    have h5 : infB b = false := by
      have : finB b = true := finB_iff.2 h
      rw [fin_nan hn, this]; rfl
    rw [h5] at H
    have h6 : ((some (compare x y) : Option Ordering) == some .gt) = false := by
      cases hh : compare x y
      · rfl
      · rfl
      · exact absurd hh hc
    rw [h6]; exact H
  · have h2 : infB b = true := by unfold Go.Vc.Inf at h; rw [s_sw, s_inf] at h; unfold infB; simpa using h
    rw [h2] at H
    rcases inf_cases hb h2 with rfl | rfl
    · rw [show wid 2139095040 = 9218868437227405312 from by decide +kernel]
      refine c_Abs64' (by decide) ?_
      rw [bin_fgtr]
      exact H
    · rw [show wid 4286578688 = 18442240474082181120 from by decide +kernel]
      refine c_Abs64' (by decide) ?_
      rw [bin_fgtr]
      exact H
  · exact absurd h (nanB_no hn)

def boB (p : IV) : Bool := finB p.1 && finB p.2
theorem isI_nan {p : IV} (h : isI p = true) : nanB p.1 = false ∧ nanB p.2 = false := by
  unfold isI plainB at h
  simp at h
  exact ⟨h.1.1.1.1.1, h.1.1.1.2.1⟩
theorem c_endless {p : IV} (hp : ivB p) (hi : isI p = true) (H : ∀ w', Ext w w' → K (.bool (!boB p)) w') : call P f_impl_endless [ivv p] w K := by
  refine I_impl_endless ?_
  unfold D_impl_endless
  obtain ⟨n1, n2⟩ := isI_nan hi
  refine bx_iv fun x w1 b1 e1 => ?_
  refine iv_lo b1 ?_
  have HH := H w1 e1
  unfold boB at HH
  refine c_isInf n1 hp.1 ?_
  rw [fin_nan n1]
  refine orJ (fun h => ?_) (fun h => ?_)
  · have h : finB p.1 = false := by simpa using h
    rw [h] at HH; exact HH
  · have h : finB p.1 = true := by simpa using h
    rw [h, Bool.true_and] at HH
    refine iv_hi b1 ?_
    refine c_isInf n2 hp.2 ?_
    rw [fin_nan n2]; exact HH
theorem c_l06Bounded {p : IV} (H : ∀ w', Ext w w' → K (.bool (boB p)) w') : call P f_spec_l06Bounded [ivv p] w K := by
  refine I_spec_l06Bounded ?_
  unfold D_spec_l06Bounded
  refine bx_iv fun x w1 b1 e1 => ?_
  refine iv_lo b1 ?_
  have HH := H w1 e1
  unfold boB at HH
  refine c_l01Finite ?_
  refine andJ (fun h => ?_) (fun h => ?_)
  · refine iv_hi b1 ?_
    refine c_l01Finite ?_
    rw [h, Bool.true_and] at HH; exact HH
  · rw [h, Bool.false_and] at HH; exact HH

theorem new_iv {a b : Nat} {KW : Value → World → Prop} (H : ∀ x w', Bx w' w.heap.size t_impl_Interval x (iv2 a b) → Ext w w' → KW x w') : alc P t_impl_Interval w fun x w1 => sto P t_impl_Interval x (.agg #[fl a, fl b]) w1 fun w2 => KW x w2 :=
  alc_iv fun x w1 ⟨_, _, b1⟩ e1 => iv_put b1 fun w2 b2 g2 => H x w2 b2 (ext_of_grown e1 (fun g hg => (b1.blk_lt hg).1) g2)

theorem all_take_succ {l : List IV} {f : IV → Bool} {i : Nat} (hi : i < l.length) (h : (l.take i).all f = true) : (l.take (i + 1)).all f = f l[i] := by
  rw [List.take_succ_eq_append_getElem hi, List.all_append, h]; simp
theorem all_false {l : List IV} {f : IV → Bool} {i : Nat} (hi : i < l.length) (h : f l[i] = false) : l.all f = false := by
  refine Bool.eq_false_iff.2 fun hall => ?_
  have := List.all_eq_true.1 hall l[i] (List.getElem_mem hi)
  rw [h] at this; cases this
theorem c_areIntervals {v : Value} {l : List IV} (h : I_IntervalS w v l) (H : ∀ w', Ext w w' → K (.bool (l.all isI)) w') : call P f_impl_areIntervals [v] w K := by
  refine I_impl_areIntervals ?_
  unfold D_impl_areIntervals
  have hb := h.bound
  rw [h.len]
  refine ⟨fun m x w' => Ext w w' ∧ ∃ i : Nat, x = .int .i64 i ∧ m + i = l.length ∧ (l.take i).all isI = true, ⟨l.length, Ext.refl _, 0, rfl, by omega, by simp⟩, ?_⟩
  rintro m x junk w1 ⟨e1, i, rfl, hm, hall⟩
  rw [bin_lss]
  refine cnd_dec (fun hlt => ?_) (fun hge => ?_)
  · have hi : i < l.length := by omega
    refine (h.ext e1).at hi fun hbi => ?_
    refine new_iv fun y w2 b2 e2 => ?_
    refine iv_all b2 ?_
    refine c_IsInterval hbi fun w3 e3 => ?_
    have E := e1.trans (e2.trans e3)
    rw [una_not]
    refine cnd_split (fun hf => ?_) (fun hf => ?_)
    · have := H w3 E
      rw [all_false hi (by simpa using hf)] at this; exact this
    · rw [bin_add, wrap_i64 (by omega) (by omega)]
      exact ⟨m - 1, by omega, E, i + 1, rfl, by omega, by rw [all_take_succ hi hall]; simpa using hf⟩
  · have ht : l.take i = l := List.take_of_length_le (by omega)
    rw [ht] at hall
    have := H w1 e1
    rw [hall] at this; exact this

def sidesF (l : List IV) : Int := if l.all isI then (if 1 ≤ l.length ∧ l.length ≤ 3 then (if l.all boB then 0 else 2) else 2) else 1
theorem all_iv {l : List IV} {f : IV → Bool} (h : l.all f = true) {i : Nat} (hi : i < l.length) : f l[i] = true := List.all_eq_true.1 h l[i] (List.getElem_mem hi)
theorem c_sidesCode {v : Value} {l : List IV} (h : I_IntervalS w v l) (H : ∀ w', Ext w w' → K (.int .i64 (sidesF l)) w') : call P f_impl_sidesCode [v] w K := by
  refine I_impl_sidesCode ?_
  unfold D_impl_sidesCode
  have hb := h.bound
  refine c_areIntervals h fun w1 e1 => ?_
  rw [una_not]
  unfold sidesF at H
  by_cases ha : l.all isI = true
  · rw [ha, Bool.not_true, cnd_false, (h.ext e1).len, bin_lss]
    rw [if_pos ha] at H
    refine orJ (fun h1 => ?_) (fun h1 => ?_)
    · rw [if_neg (by simp at h1; omega)] at H
      rw [cnd_true]
      exact H _ e1
    · rw [(h.ext e1).len, bin_gtr]
      refine cnd_dec (fun h2 => ?_) (fun h2 => ?_)
      · rw [if_neg (by simp at h1; omega)] at H
        exact H _ e1
      · rw [if_pos (by simp at h1; omega)] at H
        rw [(h.ext e1).len]
        refine ⟨fun m x w' => Ext w w' ∧ ∃ i : Nat, x = .int .i64 i ∧ m + i = l.length ∧ (l.take i).all boB = true, ⟨l.length, e1, 0, rfl, by omega, by simp⟩, ?_⟩
        rintro m x junk w2 ⟨e2, i, rfl, hm, hall⟩
        rw [bin_lss]
        refine cnd_dec (fun hlt => ?_) (fun hge => ?_)
        · have hi : i < l.length := by omega
          refine (h.ext e2).at hi fun hbi => ?_
          refine new_iv fun y w3 b3 e3 => ?_
          refine iv_all b3 ?_
          refine c_endless hbi (all_iv ha hi) fun w4 e4 => ?_
          have E := e2.trans (e3.trans e4)
          refine cnd_split (fun hf => ?_) (fun hf => ?_)
          · have := H w4 E
            rw [if_neg (by rw [all_false hi (by simpa using hf)]; decide)] at this; exact this
          · rw [bin_add, wrap_i64 (by omega) (by omega)]
            exact ⟨m - 1, by omega, E, i + 1, rfl, by omega, by rw [all_take_succ hi hall]; simpa using hf⟩
        · have ht : l.take i = l := List.take_of_length_le (by omega)
          rw [ht] at hall
          have := H w2 e2
          rw [if_pos hall] at this; exact this
  · rw [Bool.not_eq_true] at ha
    rw [ha, Bool.not_false, cnd_true]
    rw [if_neg (by rw [ha]; decide)] at H
    exact H _ e1
theorem c_l11Box {v : Value} {l : List IV} (h : I_IntervalS w v l) (H : ∀ w', Ext w w' → K (.int .i64 (sidesF l)) w') : call P f_spec_l11Box [v] w K := by
  refine I_spec_l11Box ?_
  unfold D_spec_l11Box
  have hb := h.bound
  unfold sidesF at H
  refine ⟨fun m x w' => Ext w w' ∧ ∃ i : Nat, x = .int .i64 i ∧ m + i = l.length ∧ (l.take i).all isI = true, ⟨l.length, Ext.refl _, 0, rfl, by omega, by simp⟩, ?_⟩
  rintro m x junk w1 ⟨e1, i, rfl, hm, hall⟩
  rw [(h.ext e1).len, bin_lss]
  refine cnd_dec (fun hlt => ?_) (fun hge => ?_)
  · have hi : i < l.length := by omega
    refine (h.ext e1).at hi fun hbi => ?_
    refine c_l06Is hbi fun w2 e2 => ?_
    have E := e1.trans e2
    rw [una_not]
    refine cnd_split (fun hf => ?_) (fun hf => ?_)
    · have := H w2 E
      rw [if_neg (by rw [all_false hi (by simpa using hf)]; decide)] at this; exact this
    · rw [bin_add, wrap_i64 (by omega) (by omega)]
      exact ⟨m - 1, by omega, E, i + 1, rfl, by omega, by rw [all_take_succ hi hall]; simpa using hf⟩
  · have ht : l.take i = l := List.take_of_length_le (by omega)
    rw [ht] at hall
    rw [if_pos hall] at H
    refine ⟨fun m x w' => Ext w w' ∧ ∃ i : Nat, x = .int .i64 i ∧ m + i = l.length ∧ (l.take i).all boB = true, ⟨l.length, e1, 0, rfl, by omega, by simp⟩, ?_⟩
    rintro m x junk w2 ⟨e2, i, rfl, hm, hall⟩
    rw [(h.ext e2).len, bin_lss]
    refine cnd_dec (fun hlt => ?_) (fun hge => ?_)
    · have hi : i < l.length := by omega
      refine (h.ext e2).at hi fun hbi => ?_
      refine c_l06Bounded fun w3 e3 => ?_
      have E := e2.trans e3
      rw [una_not]
      refine cnd_split (fun hf => ?_) (fun hf => ?_)
      · have := H w3 E
        rw [all_false (f := boB) hi (by simpa using hf)] at this
        simp only [Bool.false_eq_true, if_false, ite_self] at this
        exact this
      · rw [bin_add, wrap_i64 (by omega) (by omega)]
        exact ⟨m - 1, by omega, E, i + 1, rfl, by omega, by rw [all_take_succ hi hall]; simpa using hf⟩
    · have ht : l.take i = l := List.take_of_length_le (by omega)
      rw [ht] at hall
      have HH := H w2 e2
      rw [if_pos hall] at HH
      rw [(h.ext e2).len, bin_lss]
      refine orJ (fun h1 => ?_) (fun h1 => ?_)
      · rw [if_neg (by simp at h1; omega)] at HH
        rw [cnd_true]; exact HH
      · rw [(h.ext e2).len, bin_gtr]
        refine cnd_dec (fun h2 => ?_) (fun h2 => ?_)
        · rw [if_neg (by simp at h1; omega)] at HH; exact HH
        · rw [if_pos (by simp at h1; omega)] at HH; exact HH
end Go.Proofs.YtabgkpfcpncmhaaGreat

/- Intervals: sums, opposites, what is rounded outward. -/
set_option linter.unusedVariables false
set_option linter.unusedSimpArgs false
namespace Go.Proofs.YtabgkpfcpncmhaaGreat
open Go Go.Vc Ieee

variable {w : World} {K : Value → World → Prop}

def negN (b : Nat) : Nat := if b < 2147483648 then b + 2147483648 else b - 2147483648
theorem negN_lt {b : Nat} (h : b < 4294967296) : negN b < 4294967296 := by unfold negN; split <;> omega
theorem negN_parts {b : Nat} (h : b < 4294967296) : negN b % 8388608 = b % 8388608 ∧ negN b / 8388608 % 256 = b / 8388608 % 256 ∧ (negN b / 2147483648 % 2 = 1 ↔ ¬ b / 2147483648 % 2 = 1) ∧ negN b % 2147483648 = b % 2147483648 := by
  unfold negN
  split <;> refine ⟨by omega, by omega, by omega, by omega⟩
theorem fq_neg {b : Nat} (h : b < 4294967296) : fq (negN b) = - fq b := by
  obtain ⟨h1, h2, h3, _⟩ := negN_parts h
  have e1 : fM (negN b) = - fM b := by
    unfold fM
    simp only [h1, h2]
    by_cases hs : b / 2147483648 % 2 = 1
    · rw [if_pos hs, if_neg (fun q => (h3.1 q) hs)]; omega
    · rw [if_neg hs, if_pos (h3.2 hs)]
  have e2 : fE (negN b) = fE b := by unfold fE; rw [h2]
  unfold fq
  rw [e1, e2, dy_neg]
theorem fin_neg {b : Nat} (h : b < 4294967296) : finB (negN b) = finB b := by
  obtain ⟨_, _, _, h4⟩ := negN_parts h
  unfold finB
  rw [decide_eq_decide]
  unfold Go.Vc.Fin
  rw [s_sw, h4]
theorem zF_cases {b : Nat} (hb : b < 4294967296) : (zF b = b ∧ b ≠ 2147483648) ∨ (zF b = 0 ∧ b = 2147483648) := by
  unfold zF
  rw [isZ_iff hb]
  by_cases h : b = 0 ∨ b = 2147483648
  · rw [decide_eq_true h, if_pos rfl]
    rcases h with rfl | rfl
    · exact .inl ⟨rfl, by decide⟩
    · exact .inr ⟨rfl, rfl⟩
  · rw [decide_eq_false h, if_neg (by decide)]
    exact .inl ⟨rfl, fun q => h (.inr q)⟩
theorem zF_lt {b : Nat} (hb : b < 4294967296) : zF b < 4294967296 := by rcases zF_cases hb with ⟨h, _⟩ | ⟨h, _⟩ <;> omega
theorem fq_zF {b : Nat} (hb : b < 4294967296) : fq (zF b) = fq b := by
  rcases zF_cases hb with ⟨h, _⟩ | ⟨h, rfl⟩
  · rw [h]
  · rw [h]
    unfold fq
    rw [show fM 0 = 0 from by decide, show fM 2147483648 = 0 from by decide, dy_zero, dy_zero]
theorem fin_zF {b : Nat} (hb : b < 4294967296) (h : finB b = true) : finB (zF b) = true := by
  rcases zF_cases hb with ⟨h1, _⟩ | ⟨h1, rfl⟩
  · rw [h1]; exact h
  · rw [h1]; decide
theorem nan_zF {b : Nat} (hb : b < 4294967296) (h : nanB b = false) : nanB (zF b) = false := by
  rcases zF_cases hb with ⟨h1, _⟩ | ⟨h1, rfl⟩
  · rw [h1]; exact h
  · rw [h1]; decide
theorem zF_id {b : Nat} (hb : b < 4294967296) (h : b ≠ 2147483648) : zF b = b := by
  rcases zF_cases hb with ⟨h1, _⟩ | ⟨_, h1⟩
  · exact h1
  · exact absurd h1 h
theorem zF_zF {b : Nat} (hb : b < 4294967296) : zF (zF b) = zF b := by
  rcases zF_cases hb with ⟨h1, _⟩ | ⟨h1, rfl⟩
  · rw [h1, h1]
  · rw [h1]; decide
theorem fin_of_isZ {b : Nat} (hb : b < 4294967296) (h : isZ b = true) : Vc.Fin single b := by
  rw [isZ_iff hb] at h
  simp only [decide_eq_true_eq] at h
  rcases h with rfl | rfl <;> decide
theorem order_zz {a b : Nat} (ha : a < 4294967296) (hb : b < 4294967296) : single.order (zF a) (zF b) = single.order a b := by
  unfold zF
  by_cases h1 : isZ a = true <;> by_cases h2 : isZ b = true
  · rw [if_pos h1, if_pos h2, order_zl (fin_of_isZ ha h1) h1, order_zr (fin_of_isZ hb h2) h2]
  · rw [if_pos h1, if_neg h2, order_zl (fin_of_isZ ha h1) h1]
  · rw [if_neg h1, if_pos h2, order_zr (fin_of_isZ hb h2) h2]
  · rw [if_neg h1, if_neg h2]
theorem rndQ_zero (md : Int) : rndQ md 0 = (0, 0) := by
  rw [← dy_zero 0, rndQ_dy]; unfold roundF; rw [if_pos rfl]
theorem rndQ_nan (md : Int) (q : Rat) : nanB (rndQ md q).1 = false := by
  have ho : ∀ b, nanB (overB md b) = false := by
    intro b
    unfold overB
    cases b <;> simp <;> split <;> decide
  have hr : ∀ m e, nanB (roundF md m e).1 = false := by
    intro m e
    unfold roundF
    split
    · decide
    · simp only
      split
      · exact ho _
      · refine Bool.eq_false_iff.2 fun h => ?_
        exact write_number_not_nan single _ _ _ (nanB_iff.1 h)
  unfold rndQ
  split
  · exact hr _ _
  · decide
/-- What is rounded, with a plain 0. -/
noncomputable def rd (md : Int) (q : Rat) : Nat := zF (rndQ md q).1
theorem rd_lt (md : Int) (q : Rat) : rd md q < 4294967296 := zF_lt (rndQ_lt md q)
theorem rd_nan (md : Int) (q : Rat) : nanB (rd md q) = false := nan_zF (rndQ_lt md q) (rndQ_nan md q)
theorem rd_zero (md : Int) : rd md 0 = 0 := by unfold rd; rw [rndQ_zero]; decide

theorem c_minusZero (H : K (fl 2147483648) w) : call P f_impl_minusZero [] w K := by
  refine I_impl_minusZero ?_
  unfold D_impl_minusZero
  rw [show (2147483648 : Int) = ((2147483648 : Nat) : Int) from rfl]
  exact c_Float32frombits' H
theorem c_zeroSum {a b : Bool} {md : Int} (H : ∀ r, r < 4294967296 → zF r = 0 → K (fl r) w) : call P f_impl_zeroSum [.bool a, .bool b, .int .i64 md] w K := by
  refine I_impl_zeroSum ?_
  unfold D_impl_zeroSum
  have h0 : K (fl 0) w := H 0 (by decide) (by decide)
  have h1 : call P f_impl_minusZero [] w fun x w20 => K x w20 := c_minusZero (H 2147483648 (by decide) (by decide))
  by_cases hm : md = 1
  · have hd : decide (md = 1) = true := decide_eq_true hm
    cases a <;> cases b <;>
    · repeat (first | (refine ⟨_, fun _ _ _ h => h, ?_⟩) | simp only [grd_undef, grd_false_true, grd_true_true, grd_true_false, grd_false_false, pick_bool, cond_false, cond_true, una_not, Bool.not_true, Bool.not_false, bin_eql, hd, cnd_true, cnd_false])
      first | exact h0 | exact h1
  · have hd : decide (md = 1) = false := decide_eq_false hm
    cases a <;> cases b <;>
    · repeat (first | (refine ⟨_, fun _ _ _ h => h, ?_⟩) | simp only [grd_undef, grd_false_true, grd_true_true, grd_true_false, grd_false_false, pick_bool, cond_false, cond_true, una_not, Bool.not_true, Bool.not_false, bin_eql, hd, cnd_true, cnd_false])
      first | exact h0 | exact h1
theorem c_addIn {x y : Nat} {md : Int} (hx : x < 4294967296) (hy : y < 4294967296) (fx : finB x = true) (fy : finB y = true)
    (H : ∀ r g w', Ext w w' → r < 4294967296 → zF r = rd md (fq x + fq y) → K (.tuple #[fl r, .int .i64 g]) w') : call P f_impl_addIn [fl x, fl y, .int .i64 md] w K := by
  refine I_impl_addIn ?_
  unfold D_impl_addIn
  refine c_numOf hx (finB_iff.1 fx) fun u1 w1 e1 n1 => ?_
  refine c_numOf hy (finB_iff.1 fy) fun u2 w2 e2 n2 => ?_
  refine c_num_add (n1.ext e2) n2 (by decide) (by decide) fun u3 w3 e3 n3 => ?_
  refine alc_NC fun x4 w4 n4 e4 => ?_
  refine n4.put (n3.ext e4) fun w5 v5 g5 _ => ?_
  have e5 : Ext w w5 := ext_gr ((e1.trans (e2.trans e3)).trans e4) (e1.trans (e2.trans e3)).size g5
  refine v5.get fun u5 nu5 => ?_
  refine c_num_sign nu5 fun w6 e6 => ?_
  have E6 := e5.trans e6
  rw [bin_eql]
  refine cnd_dec (fun h0 => ?_) (fun h0 => ?_)
  · have hq : fq x + fq y = 0 := by
      obtain ⟨m, e, _, _, hq⟩ := n3
      rw [hq] at h0 ⊢
      rw [sgQ_dy] at h0
      rw [Int.sign_eq_zero_iff_zero.1 h0, dy_zero]
    rw [hq, rd_zero] at H
    have fin : ∀ (b : Bool) (w7 : World), Ext w w7 → call P f_impl_minus [fl x] w7 fun x31 w27 => call P f_impl_zeroSum [.bool b, x31, .int .i64 md] w27 fun x33 w29 => K (.tuple #[x33, (.int .i64 0)]) w29 := fun b w7 e7 =>
      c_minus hx (c_zeroSum fun r hr hz => H r 0 w7 e7 hr hz)
    rw [bin_feql]
    refine ⟨fun x' w' => Ext w w' ∧ ((FloatKind.f32.format.order x 0 == some .eq) = true → ∃ b, x' = .bool b), ?_, ?_⟩
    · rintro x' junk w7 ⟨e7, hb⟩
      by_cases hz : (FloatKind.f32.format.order x 0 == some .eq) = true
      · obtain ⟨b, rfl⟩ := hb hz
        rw [hz, pick_bool, cond_true]
        refine andJ (fun h1 => ?_) (fun h1 => ?_)
        · refine c_minus hx ?_
          refine c_minus hy ?_
          rw [bin_beql _ _ _ _ _ _ u_bool]
          exact fin _ _ e7
        · exact fin _ _ e7
      · rw [Bool.not_eq_true] at hz
        rw [hz, pick_bool, cond_false]
        refine andJ (fun h1 => by cases h1) (fun h1 => ?_)
        exact fin _ _ e7
    · refine grd_split (fun h1 => ?_) (fun h1 => ?_)
      · rw [bin_feql]
        exact ⟨E6, fun _ => ⟨_, rfl⟩⟩
      · exact ⟨E6, fun q => by rw [q] at h1; cases h1⟩
  · refine (v5.ext e6).get fun u6 nu6 => ?_
    refine c_num_round nu6 (by decide) (by decide) fun w7 e7 => ?_
    rw [xtr_0, xtr_1]
    exact H _ _ _ (E6.trans e7) (rndQ_lt _ _) rfl
noncomputable def addF (p q : IV) : IV := (rd 1 (fq p.1 + fq q.1), rd 2 (fq p.2 + fq q.2))
def negF (p : IV) : IV := (zF (negN p.2), zF (negN p.1))
theorem addF_B (p q : IV) : ivB (addF p q) := ⟨rd_lt _ _, rd_lt _ _⟩
theorem negF_B {p : IV} (hp : ivB p) : ivB (negF p) := ⟨zF_lt (negN_lt hp.2), zF_lt (negN_lt hp.1)⟩
theorem negF_bo {p : IV} (hp : ivB p) (h : boB p = true) : boB (negF p) = true := by
  unfold boB at h ⊢
  rw [Bool.and_eq_true] at h ⊢
  exact ⟨fin_zF (negN_lt hp.2) (by rw [fin_neg hp.2]; exact h.2), fin_zF (negN_lt hp.1) (by rw [fin_neg hp.1]; exact h.1)⟩
noncomputable def subF (p q : IV) : IV := addF p (negF q)
/-- The length of an interval with finite ends. -/
noncomputable def longF (p : IV) : IV := (rd 1 (fq p.2 - fq p.1), rd 2 (fq p.2 - fq p.1))
theorem longF_B (p : IV) : ivB (longF p) := ⟨rd_lt _ _, rd_lt _ _⟩
theorem pointF {x : Nat} (hx : x < 4294967296) (h : finB x = true) : ivB (zF x, zF x) ∧ boB (zF x, zF x) = true := by
  refine ⟨⟨zF_lt hx, zF_lt hx⟩, ?_⟩
  unfold boB
  rw [Bool.and_eq_true]
  exact ⟨fin_zF hx h, fin_zF hx h⟩
theorem subF_long {p : IV} (hp : ivB p) : subF (zF p.2, zF p.2) (zF p.1, zF p.1) = longF p := by
  unfold subF addF negF longF
  simp only
  rw [fq_zF (negN_lt (zF_lt hp.1)), fq_neg (zF_lt hp.1), fq_zF hp.1, fq_zF hp.2, Rat.sub_eq_add_neg]
/-! ### the reference -/
theorem c_l06Make {a b : Nat} (H : ∀ w', Ext w w' → K (ivv (zF a, zF b)) w') : call P f_spec_l06Make [fl a, fl b] w K := by
  refine I_spec_l06Make ?_
  unfold D_spec_l06Make
  refine alc_iv fun z w3 ⟨_, _, b3⟩ e3 => ?_
  refine c_l06Zero ?_
  refine c_l06Zero ?_
  rw [bld_iv]
  refine iv_ret b3 fun w6 g6 => ?_
  exact H _ (ext_of_grown e3 (fun g hg => (b3.blk_lt hg).1) g6)
end Go.Proofs.YtabgkpfcpncmhaaGreat

/- Intervals: halves. -/
set_option linter.unusedVariables false
set_option linter.unusedSimpArgs false
namespace Go.Proofs.YtabgkpfcpncmhaaGreat
open Go Go.Vc Ieee

variable {w : World} {K : Value → World → Prop}

theorem dy_half (m e : Int) : dy m (e - 1) = dy m e * (2 : Rat) ^ (-1 : Int) := by
  unfold dy
  rw [show e - 1 = e + (-1) by omega, zp_add, Rat.mul_assoc]
noncomputable def half (q : Rat) : Rat := q * (2 : Rat) ^ (-1 : Int)
theorem c_scale1 {v : Value} {lo hi : Nat} {q : Rat} (h : NQ w v lo hi q) (hl : lo ≤ 1000000000) (hh : hi ≤ 1000000000) (H : ∀ v' w', Ext w w' → NQ w' v' (lo + 1) hi (half q) → K v' w') : call P f_impl_num_scale [v, .int .i64 (-1)] w K := by
  obtain ⟨m, e, ⟨p, rfl, hp⟩, hb, rfl⟩ := h
  have := hb.low; have := hb.top
  refine I_impl_num_scale ?_
  unfold D_impl_num_scale
  refine bx_num (x := undef) fun x1 w1 b1 e1 => ?_
  refine alc_num fun x3 w3 ⟨cs, hcs, b3⟩ e3 => ?_
  have b1 := b1.ext e3
  refine num_m b1 ?_
  refine num_e b1 ?_
  rw [bin_add, wrap_i64 (by omega) (by omega), bld_num hp.ptr]
  have ip := hp.ext (e1.trans e3)
  refine num_ret b3 hcs ip.one fun w5 g5 => ?_
  have e5 : Ext w w5 := ext_of_grown (e1.trans e3) (fun g hg => Nat.le_trans e1.size (b3.blk_lt hg).1) g5
  refine H _ _ e5 ⟨m, e + -1, ⟨p, rfl, Nm.grown ip b3 g5⟩, ⟨by omega, by omega, fun hm => by have := hb.mag hm; omega⟩, ?_⟩
  rw [show e + -1 = e - 1 by omega, dy_half]; rfl
noncomputable def midF (p : IV) : Nat := rd 0 (half (fq p.1 + fq p.2))
noncomputable def widF (p : IV) : Nat := rd 2 (fq p.2 - fq p.1)
theorem bo_parts {p : IV} (h : boB p = true) : finB p.1 = true ∧ finB p.2 = true := by
  unfold boB at h; rw [Bool.and_eq_true] at h; exact h
theorem c_middle {p : IV} (hp : ivB p) (fp : boB p = true) (H : ∀ w', Ext w w' → K (fl (midF p)) w') : call P f_impl_middle [ivv p] w K := by
  refine I_impl_middle ?_
  unfold D_impl_middle
  obtain ⟨f1, f2⟩ := bo_parts fp
  refine bx_iv fun x w1 b1 e1 => ?_
  refine iv_lo b1 ?_
  refine iv_hi b1 ?_
  refine c_numOf hp.1 (finB_iff.1 f1) fun u1 w2 e2 n1 => ?_
  refine ⟨e2, ?_⟩
  refine c_numOf hp.2 (finB_iff.1 f2) fun u2 w3 e3 n2 => ?_
  refine c_num_add (n1.ext e3) n2 (by decide) (by decide) fun u3 w4 e4 n3 => ?_
  refine c_scale1 n3 (by decide) (by decide) fun u4 w5 e5 n4 => ?_
  refine c_num_round n4 (by decide) (by decide) fun w6 e6 => ?_
  rw [xtr_0, xtr_1]
  refine c_plain ?_
  exact H _ (e1.trans (e2.trans (e3.trans (e4.trans (e5.trans e6)))))
theorem c_width {p : IV} (hp : ivB p) (hi : isI p = true) (fp : boB p = true) (H : ∀ w', Ext w w' → K (fl (widF p)) w') : call P f_impl_width [ivv p] w K := by
  refine I_impl_width ?_
  unfold D_impl_width
  obtain ⟨f1, f2⟩ := bo_parts fp
  refine bx_iv fun x w1 b1 e1 => ?_
  refine iv_all b1 ?_
  refine c_endless hp hi fun w2 e2 => ?_
  rw [fp, Bool.not_true, cnd_false]
  have b1 := b1.ext e2
  refine iv_hi b1 ?_
  refine iv_lo b1 ?_
  rw [una_neg_float, neg32 _ hp.1]
  refine c_addIn (y := negN p.1) hp.2 (negN_lt hp.1) f2 (by rw [fin_neg hp.1]; exact f1) fun r g w3 e3 hr hz => ?_
  rw [xtr_0, xtr_1]
  refine c_plain ?_
  rw [hz, fq_neg hp.1, ← Rat.sub_eq_add_neg]
  exact H _ (e1.trans (e2.trans e3))
noncomputable def halfF (p : IV) : IV × IV × Bool := if (single.order (midF p) p.1 == some .eq) || (single.order (midF p) p.2 == some .eq) then ((0, 0), (0, 0), false) else ((p.1, midF p), (midF p, p.2), true)
theorem iv_fa1 {base a b : Nat} {x : Value} (h : Bx w base t_impl_Interval x (iv2 a b)) :
    ∃ y, (∀ (w : World) (K : Value → Prop), fda P t_impl_Interval x 1 w K = K y) ∧ (∀ {w' : World} {base' a' b' : Nat}, Bx w' base' t_impl_Interval x (iv2 a' b') → ∀ K, ld P t_float32 y w' K = K (fl b')) := by
  obtain ⟨y, h1, h2, _⟩ := Bx_fa (f := 1) (off := 1) (ty := t_float32) h u_impl_Interval rfl i_float32 u_float32 rfl
  exact ⟨y, h1, fun h' => h2 h' rfl⟩
theorem c_halves {p : IV} (hp : ivB p) (hi : isI p = true) (fp : boB p = true) (H : ∀ w', Ext w w' → K (.tuple #[ivv (halfF p).1, ivv (halfF p).2.1, .bool (halfF p).2.2]) w') : call P f_impl_halves [ivv p] w K := by
  refine I_impl_halves ?_
  unfold D_impl_halves
  refine bx_iv fun x w1 b1 e1 => ?_
  refine alc_iv fun y w2 ⟨a2, c2, b2⟩ e2 => ?_
  refine alc_iv fun z w3 ⟨a3, c3, b3⟩ e3 => ?_
  have n12 := blk_apart b1 b2 (Nat.le_refl _)
  have n13 := blk_apart (b1.ext e2) b3 (Nat.le_refl _)
  have n23 := blk_apart b2 b3 (Nat.le_refl _)
  have b1 := (b1.ext e2).ext e3
  have b2 := b2.ext e3
  have E3 := e1.trans (e2.trans e3)
  have s3 : w.heap.size ≤ w2.heap.size := (e1.trans e2).size
  have s2 : w.heap.size ≤ w1.heap.size := e1.size
  refine iv_all b1 ?_
  refine c_endless hp hi fun w4 e4 => ?_
  rw [fp, Bool.not_true, cnd_false]
  have b1 := b1.ext e4
  have b2 := b2.ext e4
  have b3 := b3.ext e4
  refine iv_all b1 ?_
  refine c_middle hp fp fun w5 e5 => ?_
  have b1 := b1.ext e5
  have b2 := b2.ext e5
  have b3 := b3.ext e5
  have E5 := E3.trans (e4.trans e5)
  refine iv_lo b1 ?_
  rw [bin_feql]
  have none : ((single.order (midF p) p.1 == some .eq) || (single.order (midF p) p.2 == some .eq)) = true → bld P t_impl_Interval [] w5 fun x22_29 =>
        bld P t_impl_Interval [] w5 fun x23_30 =>
        sto P t_impl_Interval y x22_29 w5 fun w32 =>
        sto P t_impl_Interval z x23_30 w32 fun w34 =>
        ldc P t_impl_Interval y w34 fun r35 =>
        ldc P t_impl_Interval z w34 fun r36 =>
        K (.tuple #[r35, r36, (.bool false)]) w34 := fun hc => by
    rw [bld_iv0, bld_iv0]
    refine iv_put b2 fun w6 b2' g6 => ?_
    have b3 := b3.kept g6 (.inr (Ne.symm n23))
    refine iv_put b3 fun w7 b3' g7 => ?_
    have b2'' := b2'.kept g7 (.inr n23)
    refine iv_allc b2'' ?_
    refine iv_allc b3' ?_
    have E7 : Ext w w7 := ext_of_grown (ext_of_grown E5 (fun g hg => Nat.le_trans s2 (b2.blk_lt hg).1) g6) (fun g hg => Nat.le_trans s3 (b3.blk_lt hg).1) g7
    have HH := H w7 E7
    unfold halfF at HH
    rw [if_pos hc] at HH
    exact HH
  refine orJ (fun hc => ?_) (fun hc => ?_)
  · rw [cnd_true]
    exact none (by rw [show (single.order (midF p) p.1 == some .eq) = true from hc]; rfl)
  refine iv_hi b1 ?_
  rw [bin_feql]
  refine cnd_split (fun hc2 => ?_) (fun hc2 => ?_)
  · exact none (by rw [show (single.order (midF p) p.2 == some .eq) = true from hc2, Bool.or_true])
  have hcc : ((single.order (midF p) p.1 == some .eq) || (single.order (midF p) p.2 == some .eq)) = false := by
    rw [show (single.order (midF p) p.1 == some .eq) = false from hc, show (single.order (midF p) p.2 == some .eq) = false from hc2]; rfl
  refine iv_lo b1 ?_
  rw [bld_iv]
  obtain ⟨ya, f1, f2⟩ := iv_fa1 b1
  rw [f1, f2 b1, bld_iv]
  refine iv_put b2 fun w6 b2' g6 => ?_
  have b1 := b1.kept g6 (.inr n12)
  refine ⟨by rw [f1], by rw [f2 b1], by rw [bld_iv], ?_⟩
  have b3 := b3.kept g6 (.inr (Ne.symm n23))
  refine iv_put b3 fun w7 b3' g7 => ?_
  have b2'' := b2'.kept g7 (.inr n23)
  refine iv_allc b2'' ?_
  refine iv_allc b3' ?_
  have E7 : Ext w w7 := ext_of_grown (ext_of_grown E5 (fun g hg => Nat.le_trans s2 (b2.blk_lt hg).1) g6) (fun g hg => Nat.le_trans s3 (b3.blk_lt hg).1) g7
  have HH := H w7 E7
  unfold halfF at HH
  rw [if_neg (by rw [hcc]; decide)] at HH
  exact HH

/-! ### the reference -/
theorem sto_dy_e {base : Nat} {x s : Value} {n e e' : Int} {KW : World → Prop} (h : Bx w base t_impl_Dyadic x (dv3 n s e)) (H : ∀ w', Bx w' base t_impl_Dyadic x (dv3 n s e') → w.grownBy w' (blk x) → KW w') :
    fda P t_impl_Dyadic x 1 w (fun a => sto P t_int64 a (.int .i64 e') w KW) :=
  h.fput (off := 2) (show 2 < 3 by decide) u_impl_Dyadic rfl i_int64 rfl H
theorem rd_lt' (md : Int) (q : Rat) : (rndQ md q).1 < 4294967296 := rndQ_lt md q
theorem c_l06Middle {p : IV} (hp : ivB p) (fp : boB p = true) (H : ∀ w', Ext w w' → K (fl (midF p)) w') : call P f_spec_l06Middle [ivv p] w K := by
  refine I_spec_l06Middle ?_
  unfold D_spec_l06Middle
  obtain ⟨f1, f2⟩ := bo_parts fp
  refine bx_iv fun x w1 b1 e1 => ?_
  refine ⟨fun x' w' => Ext w w' ∧ ∃ (m e : Int) (s : Value) (base : Nat), w.heap.size ≤ base ∧ Bx w' base t_impl_Dyadic x' (dv3 m.sign s e) ∧ Dr w' (.agg #[.int .i64 m.sign, s, .int .i64 e]) m e ∧ Cn 149 129 (fq p.1 + fq p.2) m e, ?_, ?_⟩
  · rintro x' junk w5 ⟨e5, m, e, s, base, hbase, b5, hd, hc⟩
    have := hc.bd.low; have := hc.bd.top
    refine dy_e b5 ?_
    rw [bin_sub, wrap_i64 (by omega) (by omega)]
    refine sto_dy_e b5 fun w6 b6 g6 => ?_
    have e6 : Ext w w6 := ext_of_grown e5 (fun g hg => Nat.le_trans hbase (b5.blk_lt hg).1) g6
    refine dy_ws b6 ?_
    rw [bin_eql]
    refine cnd_dec (fun h0 => ?_) (fun h0 => ?_)
    · have hm : m = 0 := Int.sign_eq_zero_iff_zero.1 h0
      have : midF p = 0 := by
        unfold midF half
        rw [hc.val, hm, dy_zero, Rat.zero_mul, rd_zero]
      rw [this] at H
      exact H _ e6
    · have hm : m ≠ 0 := by rintro rfl; exact h0 rfl
      refine dy_all b6 ?_
      have hd6 := hd.kt g6 (Ty.box b5) (by decide)
      have hd7 : Dr w6 (.agg #[.int .i64 m.sign, s, .int .i64 (e - 1)]) m (e - 1) := by
        obtain ⟨s', l, hv, h1, h2⟩ := hd6
        simp only [Value.agg.injEq, Array.mk.injEq, List.cons.injEq, true_and, and_true] at hv
        exact ⟨s', l, by rw [hv], h1, h2⟩
      have hc7 : Cn 150 129 (half (fq p.1 + fq p.2)) m (e - 1) := by
        refine ⟨?_, ⟨by omega, by omega, fun hm => by have := hc.bd.mag hm; omega⟩, ?_⟩
        · rcases hc.canon with ⟨h, _⟩ | h
          · exact absurd h hm
          · exact .inr h
        · unfold half; rw [hc.val, dy_half]
      refine c_dq_round ⟨m, e - 1, hd7, hc7⟩ (by decide) (by decide) fun w7 e7 => ?_
      rw [xtr_0, xtr_1]
      refine c_l06Zero ?_
      exact H _ (e6.trans e7)
  · refine iv_lo b1 ?_
    refine iv_hi b1 ?_
    have fin : ∀ {w6 w7 : World} {u x' : Value} {cs : List Value}, Ext w w6 → DQ w7 u 149 129 (fq p.1 + fq p.2) → Bx w7 w6.heap.size t_impl_Dyadic x' cs → cs.length = 3 → Ext w6 w7 →
        sto P t_impl_Dyadic x' u w7 fun w' => Ext w w' ∧ ∃ (m e : Int) (s : Value) (base : Nat), w.heap.size ≤ base ∧ Bx w' base t_impl_Dyadic x' (dv3 m.sign s e) ∧ Dr w' (.agg #[.int .i64 m.sign, s, .int .i64 e]) m e ∧ Cn 149 129 (fq p.1 + fq p.2) m e := by
      rintro w6 w7 u x' cs e6 ⟨m, e, hd, hc⟩ b7 hcs e7
      refine hd.put b7 hcs fun w8 ⟨s, hv, b8⟩ g8 => ?_
      have hd8 := hd.kt g8 (Ty.box b7) (by decide)
      rw [hv] at hd8
      exact ⟨ext_of_grown (e6.trans e7) (fun g hg => Nat.le_trans e6.size (b7.blk_lt hg).1) g8, m, e, s, _, e6.size, b8, hd8, hc⟩
    constructor
    · refine c_l03Of (finB_iff.1 f1) hp.1 fun u1 w2 e2 n1 => ?_
      refine ⟨e2, ?_⟩
      constructor
      · refine c_l03Of (finB_iff.1 f2) hp.2 fun u2 w3 e3 n2 => ?_
        constructor
        · refine c_l03Add (n1.ext e3) n2 (by decide) (by decide) fun u3 w4 e4 n3 => ?_
          refine alc_Dy fun x' w5 ⟨cs, hcs, b5⟩ e5 => ?_
          exact ⟨e5, fin (e1.trans (e2.trans (e3.trans e4))) (n3.ext e5) b5 hcs e5⟩
        · refine alc_Dy fun x' w5 ⟨cs, hcs, b5⟩ e5 => ?_
          refine ⟨e5, ?_⟩
          refine c_l03Add ((n1.ext e3).ext e5) (n2.ext e5) (by decide) (by decide) fun u3 w4 e4 n3 => ?_
          exact fin (e1.trans (e2.trans e3)) n3 (b5.ext e4) hcs (e5.trans e4)
      · refine alc_Dy fun x' w5 ⟨cs, hcs, b5⟩ e5 => ?_
        refine ⟨e5, ?_⟩
        refine c_l03Of (finB_iff.1 f2) hp.2 fun u2 w3 e3 n2 => ?_
        refine c_l03Add ((n1.ext e5).ext e3) n2 (by decide) (by decide) fun u3 w4 e4 n3 => ?_
        exact fin (e1.trans e2) n3 (b5.ext (e3.trans e4)) hcs (e5.trans (e3.trans e4))
    · refine alc_Dy fun x' w5 ⟨cs, hcs, b5⟩ e5 => ?_
      refine ⟨e5, ?_⟩
      refine c_l03Of (finB_iff.1 f1) hp.1 fun u1 w2 e2 n1 => ?_
      refine ⟨e2, ?_⟩
      refine c_l03Of (finB_iff.1 f2) hp.2 fun u2 w3 e3 n2 => ?_
      refine c_l03Add (n1.ext e3) n2 (by decide) (by decide) fun u3 w4 e4 n3 => ?_
      exact fin e1 n3 (b5.ext (e2.trans (e3.trans e4))) hcs (e5.trans (e2.trans (e3.trans e4)))
theorem c_l06Width {p : IV} (hp : ivB p) (fp : boB p = true) (H : ∀ w', Ext w w' → K (fl (widF p)) w') : call P f_spec_l06Width [ivv p] w K := by
  refine I_spec_l06Width ?_
  unfold D_spec_l06Width
  obtain ⟨f1, f2⟩ := bo_parts fp
  refine bx_iv fun x w1 b1 e1 => ?_
  refine iv_lo b1 ?_
  refine c_l01Finite ?_
  rw [una_not, f1, Bool.not_true]
  refine orJ (fun h => by cases h) (fun _ => ?_)
  refine iv_hi b1 ?_
  refine c_l01Finite ?_
  rw [una_not, f2, Bool.not_true]
  refine cnd_no rfl ?_
  refine iv_hi b1 ?_
  refine iv_lo b1 ?_
  refine c_l03Of (finB_iff.1 f2) hp.2 fun u1 w2 e2 n1 => ?_
  refine ⟨e2, ?_⟩
  refine c_l03Of (finB_iff.1 f1) hp.1 fun u2 w3 e3 n2 => ?_
  refine c_l03Sub (n1.ext e3) n2 (by decide) (by decide) fun u3 w4 e4 n3 => ?_
  refine c_l06Up n3 (by decide) (by decide) fun w5 e5 => ?_
  refine c_l06Zero ?_
  exact H _ (e1.trans (e2.trans (e3.trans (e4.trans e5))))
theorem isI_zz {p : IV} (hi : isI p = true) (hp : ivB p) : zF p.1 = p.1 ∧ zF p.2 = p.2 := by
  unfold isI plainB at hi
  simp at hi
  exact ⟨zF_id hp.1 hi.1.1.1.1.2, zF_id hp.2 hi.1.1.1.2.2⟩
theorem c_HalvesOf {p : IV} (hp : ivB p) (hi : isI p = true) (fp : boB p = true) (H : ∀ w', Ext w w' → K (.tuple #[ivv (halfF p).1, ivv (halfF p).2.1, .int .i64 (if (halfF p).2.2 then 0 else 5)]) w') : call P f_spec_HalvesOf [ivv p] w K := by
  refine I_spec_HalvesOf ?_
  unfold D_spec_HalvesOf
  refine bx_iv fun x w1 b1 e1 => ?_
  refine alc_iv fun y w2 ⟨a2, c2, b2⟩ e2 => ?_
  refine alc_iv fun z w3 ⟨a3, c3, b3⟩ e3 => ?_
  have n23 := blk_apart b2 b3 (Nat.le_refl _)
  have b1 := (b1.ext e2).ext e3
  have b2 := b2.ext e3
  have E3 := e1.trans (e2.trans e3)
  have s3 : w.heap.size ≤ w2.heap.size := (e1.trans e2).size
  have s2 : w.heap.size ≤ w1.heap.size := e1.size
  refine iv_all b1 ?_
  refine c_l06Is hp fun w4 e4 => ?_
  rw [hi, una_not, Bool.not_true, cnd_false]
  have b1 := b1.ext e4
  refine iv_all b1 ?_
  refine c_l06Bounded fun w5 e5 => ?_
  rw [fp, una_not, Bool.not_true, cnd_false]
  have b1 := b1.ext e5
  refine iv_all b1 ?_
  refine c_l06Middle hp fp fun w6 e6 => ?_
  have b1 := b1.ext e6
  have E6 := E3.trans (e4.trans (e5.trans e6))
  have b2 := ((b2.ext e4).ext e5).ext e6
  have b3 := ((b3.ext e4).ext e5).ext e6
  -- the end: two intervals put and given back
  have fin : ∀ {wx : World} {a b c d : Nat} {k : Int}, Ext w6 wx → (∀ w', Ext w w' → K (.tuple #[ivv (a, b), ivv (c, d), .int .i64 k]) w') → sto P t_impl_Interval y (ivv (a, b)) wx fun w32 =>
        sto P t_impl_Interval z (ivv (c, d)) w32 fun w34 =>
        ldc P t_impl_Interval y w34 fun r35 =>
        ldc P t_impl_Interval z w34 fun r36 =>
        K (.tuple #[r35, r36, (.int .i64 k)]) w34 := by
    intro wx a b c d k ex HK
    have b2 := b2.ext ex
    have b3 := b3.ext ex
    refine iv_put b2 fun w7 b2' g6 => ?_
    have b3 := b3.kept g6 (.inr (Ne.symm n23))
    refine iv_put b3 fun w8 b3' g7 => ?_
    have b2'' := b2'.kept g7 (.inr n23)
    refine iv_allc b2'' ?_
    refine iv_allc b3' ?_
    exact HK w8 (ext_of_grown (ext_of_grown (E6.trans ex) (fun g hg => Nat.le_trans s2 (b2.blk_lt hg).1) g6) (fun g hg => Nat.le_trans s3 (b3.blk_lt hg).1) g7)
  have none : ((single.order (midF p) p.1 == some .eq) || (single.order (midF p) p.2 == some .eq)) = true → bld P t_impl_Interval [] w6 fun x22_29 =>
        bld P t_impl_Interval [] w6 fun x23_30 =>
        sto P t_impl_Interval y x22_29 w6 fun w32 =>
        sto P t_impl_Interval z x23_30 w32 fun w34 =>
        ldc P t_impl_Interval y w34 fun r35 =>
        ldc P t_impl_Interval z w34 fun r36 =>
        K (.tuple #[r35, r36, (.int .i64 5)]) w34 := fun hc => by
    rw [bld_iv0, bld_iv0]
    refine fin (Ext.refl _) fun w' he => ?_
    have HH := H w' he
    unfold halfF at HH
    rw [if_pos hc] at HH
    exact HH
  refine iv_lo b1 ?_
  rw [bin_feql]
  refine orJ (fun hc => ?_) (fun hc => ?_)
  · rw [cnd_true]
    exact none (by rw [show (single.order (midF p) p.1 == some .eq) = true from hc]; rfl)
  refine iv_hi b1 ?_
  rw [bin_feql]
  refine cnd_split (fun hc2 => ?_) (fun hc2 => ?_)
  · exact none (by rw [show (single.order (midF p) p.2 == some .eq) = true from hc2, Bool.or_true])
  have hcc : ((single.order (midF p) p.1 == some .eq) || (single.order (midF p) p.2 == some .eq)) = false := by
    rw [show (single.order (midF p) p.1 == some .eq) = false from hc, show (single.order (midF p) p.2 == some .eq) = false from hc2]; rfl
  obtain ⟨z1, z2⟩ := isI_zz hi hp
  have zm : zF (midF p) = midF p := zF_zF (rndQ_lt _ _)
  refine iv_lo b1 ?_
  refine iv_hi b1 ?_
  refine c_l06Make fun w7 e7 => ?_
  refine ⟨e7, ?_⟩
  refine c_l06Make fun w8 e8 => ?_
  rw [z1, z2, zm]
  refine fin (e7.trans e8) fun w' he => ?_
  have HH := H w' he
  unfold halfF at HH
  rw [if_neg (by rw [hcc]; decide)] at HH
  exact HH
end Go.Proofs.YtabgkpfcpncmhaaGreat

/- Halves of boxes. -/
set_option linter.unusedVariables false
set_option linter.unusedSimpArgs false
namespace Go.Proofs.YtabgkpfcpncmhaaGreat
open Go Go.Vc Ieee

variable {w : World} {K : Value → World → Prop}

noncomputable def bestS (l : List IV) : Nat → Int
  | 0 => -1
  | i + 1 => if (halfF (l.getD i (0, 0))).2.2 && (decide (bestS l i < 0) || (single.order (widF (l.getD i (0, 0))) (widF (l.getD (bestS l i).toNat (0, 0))) == some .gt)) then (i : Int) else bestS l i
theorem bestS_lt (l : List IV) : ∀ i, -1 ≤ bestS l i ∧ bestS l i < i
  | 0 => ⟨by unfold bestS; decide, by unfold bestS; decide⟩
  | i + 1 => by
    have := bestS_lt l i
    unfold bestS
    split
    · omega
    · omega
theorem getD_v {l : List IV} {i : Nat} (h : i < l.length) : l.getD i (0, 0) = l[i] := by simp [h]
noncomputable def halvF (l : List IV) : List IV × List IV × Int :=
  if sidesF l = 0 then (if bestS l l.length < 0 then ([], [], 4) else (l.set (bestS l l.length).toNat (halfF (l.getD (bestS l l.length).toNat (0, 0))).1, l.set (bestS l l.length).toNat (halfF (l.getD (bestS l l.length).toNat (0, 0))).2.1, 0)) else ([], [], sidesF l)
theorem sidesZ {l : List IV} (h : sidesF l = 0) : l.all isI = true ∧ 1 ≤ l.length ∧ l.length ≤ 3 ∧ l.all boB = true := by
  unfold sidesF at h
  split at h
  · split at h
    · split at h
      · rename_i h1 h2 h3
        exact ⟨h1, h2.1, h2.2, h3⟩
      · cases h
    · cases h
  · cases h
theorem small_HalvesOfBox_0 (l : List IV) : cnt_IntervalS (halvF l).1 ≤ 45812984491 := by
  unfold halvF cnt_IntervalS
  split
  · rename_i h
    have := (sidesZ h).2.2.1
    split
    · simp
    · simp; omega
  · simp
theorem small_HalvesOfBox_1 (l : List IV) : cnt_IntervalS (halvF l).2.1 ≤ 45812984491 := by
  unfold halvF cnt_IntervalS
  split
  · rename_i h
    have := (sidesZ h).2.2.1
    split
    · simp
    · simp; omega
  · simp
theorem halfF_B {p : IV} (hp : ivB p) : ivB (halfF p).1 ∧ ivB (halfF p).2.1 := by
  unfold halfF
  split
  · exact ⟨⟨by decide, by decide⟩, ⟨by decide, by decide⟩⟩
  · exact ⟨⟨hp.1, rd_lt _ _⟩, ⟨rd_lt _ _, hp.2⟩⟩
theorem set_B {l : List IV} {k : Nat} {p : IV} (h : ∀ q ∈ l, ivB q) (hp : ivB p) : ∀ q ∈ l.set k p, ivB q := by
  intro q hq
  rcases List.mem_or_eq_of_mem_set hq with h1 | h1
  · exact h q h1
  · rw [h1]; exact hp
theorem nil_O (w : World) (lo hi : Nat) : O_IntervalS w lo hi (.slice none 0 0) [] := ⟨⟨⟨rfl, .inl ⟨rfl, rfl⟩⟩, fun k hk => by cases hk⟩, fun p hp => by cases hp⟩

/-- A copy. -/
theorem copy_iv {v : Value} {l : List IV} {KW : Value → World → Prop} {ty : TypeId} (h : I_IntervalS w v l) (h1 : 1 ≤ l.length) (h3 : l.length ≤ 3) (H : ∀ v' w', Ext w w' → w'.ownsRow w.heap.size t_impl_Interval 2 v' l.length (pfs l) → KW v' w') :
    bsl P t_s_impl_Interval 0 [] w fun x w1 => bl2 P .append #[t_s_impl_Interval, t_s_impl_Interval] ty [x, v] w1 KW := by
  refine bsl_nil u_s_impl_Interval i_impl_Interval ?_
  have e1 := Ext_alloc w (.cells #[] t_impl_Interval)
  refine append_fresh (h.ext e1).row (pfs_one l) u_s_impl_Interval i_impl_Interval rfl (by decide) (by omega) (by omega) fun v' w' ho he => ?_
  exact H v' w' (e1.trans he) (owns_base ho e1.size)

theorem c_halvesOf {v : Value} {l : List IV} (h : I_IntervalS w v l) (hz : sidesF l = 0)
    (H0 : bestS l l.length < 0 → ∀ w', Ext w w' → K (.tuple #[.slice none 0 0, .slice none 0 0, .bool false]) w')
    (H1 : 0 ≤ bestS l l.length → ∀ a b w', Ext w w' → ∀ mid, w.heap.size ≤ mid → mid ≤ w'.heap.size → O_IntervalS w' w.heap.size mid a (l.set (bestS l l.length).toNat (halfF (l.getD (bestS l l.length).toNat (0, 0))).1) → O_IntervalS w' mid w'.heap.size b (l.set (bestS l l.length).toNat (halfF (l.getD (bestS l l.length).toNat (0, 0))).2.1) → K (.tuple #[a, b, .bool true]) w') :
    call P f_impl_halvesOf [v] w K := by
  obtain ⟨hI, hl1, hl3, hB⟩ := sidesZ hz
  refine I_impl_halvesOf ?_
  unfold D_impl_halvesOf
  rw [h.len]
  refine ⟨fun m x y w' => ∃ i : Nat, y = .int .i64 i ∧ m + i = l.length ∧ x = .int .i64 (bestS l i) ∧ Ext w w', ⟨l.length, 0, rfl, by omega, rfl, Ext.refl _⟩, ?_⟩
  rintro m x y junk w1 ⟨i, rfl, hm, rfl, e1⟩
  have hbl := bestS_lt l i
  rw [bin_lss]
  refine cnd_dec (fun hlt => ?_) (fun hge => ?_)
  · have hi : i < l.length := by omega
    refine (h.ext e1).at hi fun hbi => ?_
    have hiI : isI l[i] = true := all_iv hI hi
    have hiB : boB l[i] = true := all_iv hB hi
    refine new_iv fun z w2 b2 e2 => ?_
    refine iv_all b2 ?_
    refine c_halves hbi hiI hiB fun w3 e3 => ?_
    rw [xtr_0, xtr_1, xtr_2]
    refine alc_iv fun y1 w4 ⟨a4, c4, b4⟩ e4 => ?_
    refine alc_iv fun y2 w5 ⟨a5, c5, b5⟩ e5 => ?_
    have s4 := (e1.trans (e2.trans e3)).size
    have s5 := (e1.trans (e2.trans (e3.trans e4))).size
    have n23 : blk y2 ≠ blk y1 := blk_apart b4 b5 (Nat.le_refl _)
    have b4 := b4.ext e5
    have E5 := e1.trans (e2.trans (e3.trans (e4.trans e5)))
    refine iv_put b4 fun w6 b4' g6 => ?_
    have b5 := b5.kept g6 (.inr (Ne.symm n23))
    refine iv_put b5 fun w7 b5' g7 => ?_
    have F2 : Ext w2 w7 := ext_of_grown (ext_of_grown (e3.trans (e4.trans e5)) (fun g hg => Nat.le_trans e3.size (b4.blk_lt hg).1) g6) (fun g hg => Nat.le_trans (e3.trans e4).size (b5.blk_lt hg).1) g7
    have E7 : Ext w w7 := e1.trans (e2.trans F2)
    have hnext : bestS l (i + 1) = if (halfF l[i]).2.2 && (decide (bestS l i < 0) || (single.order (widF l[i]) (widF (l.getD (bestS l i).toNat (0, 0))) == some .gt)) then (i : Int) else bestS l i := by
      conv => lhs; unfold bestS
      rw [getD_v hi]
    have stepT : ∀ w', Ext w w' → bestS l (i + 1) = i → bin P .add t_int false true (.int .i64 i) (.int .i64 1) w' fun x42_42 =>
              ∃ m43, m43 < m ∧ ∃ j : Nat, x42_42 = .int .i64 j ∧ m43 + j = l.length ∧ (Value.int .i64 (i : Int)) = .int .i64 (bestS l j) ∧ Ext w w' := fun w' he hb => by
      rw [bin_add, wrap_i64 (by omega) (by omega)]
      exact ⟨m - 1, by omega, i + 1, rfl, by omega, by rw [hb], he⟩
    have stepF : ∀ w', Ext w w' → bestS l (i + 1) = bestS l i → bin P .add t_int false true (.int .i64 i) (.int .i64 1) w' fun x42_42 =>
              ∃ m43, m43 < m ∧ ∃ j : Nat, x42_42 = .int .i64 j ∧ m43 + j = l.length ∧ (Value.int .i64 (bestS l i)) = .int .i64 (bestS l j) ∧ Ext w w' := fun w' he hb => by
      rw [bin_add, wrap_i64 (by omega) (by omega)]
      exact ⟨m - 1, by omega, i + 1, rfl, by omega, by rw [hb], he⟩
    cases hok : (halfF l[i]).2.2
    · rw [hok, Bool.false_and] at hnext
      simp only [Bool.false_eq_true, if_false] at hnext
      repeat (first | (refine ⟨_, fun _ _ _ h => h, ?_⟩) | simp only [grd_undef, grd_false_true, pick_bool, cond_false, cnd_false])
      exact stepF w7 E7 hnext
    · rw [hok, Bool.true_and] at hnext
      refine ⟨_, fun _ _ _ h => h, ?_⟩
      rw [grd_true_true, bin_lss]
      by_cases hneg : bestS l i < 0
      · rw [decide_eq_true hneg, Bool.true_or, if_pos rfl] at hnext
        rw [decide_eq_true hneg]
        repeat (first | (refine ⟨_, fun _ _ _ h => h, ?_⟩) | simp only [grd_undef, grd_true_true, grd_true_false, pick_bool, cond_true, cnd_true])
        exact stepT w7 E7 hnext
      · rw [decide_eq_false hneg, Bool.false_or] at hnext
        rw [decide_eq_false hneg]
        refine ⟨_, fun _ _ _ h => h, ?_⟩
        rw [grd_false_false]
        have hbi2 : (bestS l i).toNat < l.length := by omega
        refine iv_all (b2.ext F2) ?_
        rw [show bestS l i = (((bestS l i).toNat : Nat) : Int) by omega]
        refine (h.ext E7).at hbi2 fun hbk => ?_
        refine c_width hbi hiI hiB fun w8 e8 => ?_
        refine ⟨e8, ?_⟩
        refine c_width hbk (all_iv hI hbi2) (all_iv hB hbi2) fun w9 e9 => ?_
        rw [bin_fgtr]
        rw [getD_v hbi2] at hnext
        have E9 := E7.trans (e8.trans e9)
        refine ⟨_, fun _ _ _ h => h, ?_⟩
        rw [grd_true_true, pick_bool, cond_false, pick_bool, cond_true]
        refine cnd_split (fun hc => ?_) (fun hc => ?_)
        · rw [if_pos (show (single.order (widF l[i]) (widF l[(bestS l i).toNat]) == some .gt) = true from hc)] at hnext
          exact stepT w9 E9 hnext
        · rw [if_neg (by rw [show (single.order (widF l[i]) (widF l[(bestS l i).toNat]) == some .gt) = false from hc]; decide)] at hnext
          rw [show (((bestS l i).toNat : Nat) : Int) = bestS l i by omega]
          exact stepF w9 E9 hnext
  · have hi : i = l.length := by omega
    subst hi
    rw [bin_lss]
    refine cnd_dec (fun hneg => H0 hneg _ e1) (fun hpos => ?_)
    have hk : (bestS l l.length).toNat < l.length := by omega
    have H1 := H1 (by omega)
    rw [show bestS l l.length = (((bestS l l.length).toNat : Nat) : Int) by omega]
    generalize (bestS l l.length).toNat = k at hk H1
    rw [getD_v hk] at H1
    have hbk := h.lt _ (List.getElem_mem hk)
    refine copy_iv (h.ext e1) hl1 hl3 fun a w2 e2 oa => ?_
    have la : ∀ g, a.ownBlock = some g → g < w2.heap.size := fun g hg => (oa.lt g hg).2
    refine copy_iv ((h.ext e1).ext e2) hl1 hl3 fun b w3 e3 ob => ?_
    have oa := owns_ext oa e3
    have E3 := e1.trans (e2.trans e3)
    refine (h.ext E3).at hk fun _ => ?_
    refine c_halves hbk (all_iv hI hk) (all_iv hB hk) fun w4 e4 => ?_
    rw [xtr_0, xtr_1, xtr_2]
    have oa := owns_ext oa e4
    have ob := owns_ext ob e4
    have s12 : w.heap.size ≤ w2.heap.size := (e1.trans e2).size
    refine owns_set2 oa hk rfl rfl u_s_impl_Interval i_impl_Interval fun w5 oa5 g5 => ?_
    have hne : a.ownBlock = none ∨ a.ownBlock ≠ b.ownBlock := by
      cases ha : a.ownBlock with
      | none => exact .inl rfl
      | some g =>
        refine .inr fun hh => ?_
        have h1 := la g ha
        have h2 := (ob.lt g hh.symm).1
        omega
    have ob5 := ob.kept g5 (by
      rcases hne with h | h
      · cases hb : b.ownBlock with
        | none => exact .inl rfl
        | some g => right; rw [h]; simp
      · exact .inr (Ne.symm h))
    refine owns_set2 ob5 hk rfl rfl u_s_impl_Interval i_impl_Interval fun w6 ob6 g6 => ?_
    have oa6 := oa5.kept g6 hne
    have E6 : Ext w w6 := by
      have h1 : Ext w w5 := ext_of_grown (E3.trans e4) (fun g hg => Nat.le_trans e1.size (oa.lt g hg).1) g5
      exact ext_of_grown h1 (fun g hg => Nat.le_trans s12 (ob5.lt g hg).1) g6
    rw [pfs_set hk] at oa6 ob6
    have hBB := halfF_B hbk
    have s26 : w2.heap.size ≤ w6.heap.size := Nat.le_trans (e3.trans e4).size (Nat.le_trans g5.size g6.size)
    refine H1 a b w6 E6 w2.heap.size s12 s26 ⟨⟨?_, la⟩, set_B h.lt hBB.1⟩ ⟨⟨?_, fun g hg => (ob6.lt g hg).2⟩, set_B h.lt hBB.2⟩
    · rw [List.length_set]; exact owns_base oa6 e1.size
    · rw [List.length_set]; exact ob6
theorem p_HalvesOfBox {v : Value} {l : List IV} (h : I_IntervalS w v l)
    (H : ∀ a b w', Ext w w' → ∀ mid, w.heap.size ≤ mid → mid ≤ w'.heap.size → O_IntervalS w' w.heap.size mid a (halvF l).1 → O_IntervalS w' mid w'.heap.size b (halvF l).2.1 → K (.tuple #[a, b, .int .i64 (halvF l).2.2]) w') : call P f_impl_HalvesOfBox [v] w K := by
  refine I_impl_HalvesOfBox ?_
  unfold D_impl_HalvesOfBox
  unfold halvF at H
  refine c_sidesCode h fun w1 e1 => ?_
  rw [bin_neq]
  refine cnd_dec (fun hne => ?_) (fun heq => ?_)
  · rw [if_neg (by omega)] at H
    exact H _ _ w1 e1 w.heap.size (Nat.le_refl _) e1.size (nil_O _ _ _) (nil_O _ _ _)
  · have h0 : sidesF l = 0 := by omega
    rw [if_pos h0] at H
    refine c_halvesOf (h.ext e1) h0 (fun hneg w2 e2 => ?_) (fun hpos a b w2 e2 mid m1 m2 oa ob => ?_)
    · rw [if_pos hneg] at H
      rw [xtr_0, xtr_1, xtr_2, una_not, Bool.not_false, cnd_true]
      exact H _ _ w2 (e1.trans e2) w.heap.size (Nat.le_refl _) (e1.trans e2).size (nil_O _ _ _) (nil_O _ _ _)
    · rw [if_neg (by omega)] at H
      rw [xtr_0, xtr_1, xtr_2, una_not, Bool.not_true, cnd_false]
      exact H _ _ w2 (e1.trans e2) mid (Nat.le_trans e1.size m1) m2 ⟨oa.1.mono e1.size (Nat.le_refl _), oa.2⟩ ob

/-! ### the reference -/
theorem c_l11Side {v : Value} {l : List IV} (h : I_IntervalS w v l) (hz : sidesF l = 0) (H : ∀ w', Ext w w' → K (.int .i64 (bestS l l.length)) w') : call P f_spec_l11Side [v] w K := by
  obtain ⟨hI, hl1, hl3, hB⟩ := sidesZ hz
  refine I_spec_l11Side ?_
  unfold D_spec_l11Side
  refine ⟨fun m x y w' => ∃ i : Nat, y = .int .i64 i ∧ m + i = l.length ∧ x = .int .i64 (bestS l i) ∧ Ext w w', ⟨l.length, 0, rfl, by omega, rfl, Ext.refl _⟩, ?_⟩
  rintro m x y junk w1 ⟨i, rfl, hm, rfl, e1⟩
  have hbl := bestS_lt l i
  rw [(h.ext e1).len, bin_lss]
  refine cnd_dec (fun hlt => ?_) (fun hge => ?_)
  · have hi : i < l.length := by omega
    refine (h.ext e1).at hi fun hbi => ?_
    have hiI : isI l[i] = true := all_iv hI hi
    have hiB : boB l[i] = true := all_iv hB hi
    refine c_HalvesOf hbi hiI hiB fun w3 e3 => ?_
    rw [xtr_0, xtr_1, xtr_2]
    refine alc_iv fun y1 w4 ⟨a4, c4, b4⟩ e4 => ?_
    refine alc_iv fun y2 w5 ⟨a5, c5, b5⟩ e5 => ?_
    have n23 : blk y2 ≠ blk y1 := blk_apart b4 b5 (Nat.le_refl _)
    have b4 := b4.ext e5
    have E5 := e1.trans (e3.trans (e4.trans e5))
    refine iv_put b4 fun w6 b4' g6 => ?_
    have b5 := b5.kept g6 (.inr (Ne.symm n23))
    refine iv_put b5 fun w7 b5' g7 => ?_
    have E7 : Ext w w7 := ext_of_grown (ext_of_grown E5 (fun g hg => Nat.le_trans (e1.trans e3).size (b4.blk_lt hg).1) g6) (fun g hg => Nat.le_trans (e1.trans (e3.trans e4)).size (b5.blk_lt hg).1) g7
    have hnext : bestS l (i + 1) = if (halfF l[i]).2.2 && (decide (bestS l i < 0) || (single.order (widF l[i]) (widF (l.getD (bestS l i).toNat (0, 0))) == some .gt)) then (i : Int) else bestS l i := by
      conv => lhs; unfold bestS
      rw [getD_v hi]
    have stepT : ∀ w', Ext w w' → bestS l (i + 1) = i → bin P .add t_int false true (.int .i64 i) (.int .i64 1) w' fun x42_42 =>
              ∃ m43, m43 < m ∧ ∃ j : Nat, x42_42 = .int .i64 j ∧ m43 + j = l.length ∧ (Value.int .i64 (i : Int)) = .int .i64 (bestS l j) ∧ Ext w w' := fun w' he hb => by
      rw [bin_add, wrap_i64 (by omega) (by omega)]
      exact ⟨m - 1, by omega, i + 1, rfl, by omega, by rw [hb], he⟩
    have stepF : ∀ w', Ext w w' → bestS l (i + 1) = bestS l i → bin P .add t_int false true (.int .i64 i) (.int .i64 1) w' fun x42_42 =>
              ∃ m43, m43 < m ∧ ∃ j : Nat, x42_42 = .int .i64 j ∧ m43 + j = l.length ∧ (Value.int .i64 (bestS l i)) = .int .i64 (bestS l j) ∧ Ext w w' := fun w' he hb => by
      rw [bin_add, wrap_i64 (by omega) (by omega)]
      exact ⟨m - 1, by omega, i + 1, rfl, by omega, by rw [hb], he⟩
    rw [bin_eql]
    cases hok : (halfF l[i]).2.2
    · rw [hok, Bool.false_and] at hnext
      simp only [Bool.false_eq_true, if_false] at hnext
      have hd : decide ((if (false : Bool) = true then (0 : Int) else 5) = 0) = false := by decide
      rw [hd]
      repeat (first | (refine ⟨_, fun _ _ _ h => h, ?_⟩) | simp only [grd_undef, grd_false_true, pick_bool, cond_false, cnd_false])
      exact stepF w7 E7 hnext
    · rw [hok, Bool.true_and] at hnext
      have hd : decide ((if (true : Bool) = true then (0 : Int) else 5) = 0) = true := by decide
      rw [hd]
      refine ⟨_, fun _ _ _ h => h, ?_⟩
      rw [grd_true_true, bin_lss]
      by_cases hneg : bestS l i < 0
      · rw [decide_eq_true hneg, Bool.true_or, if_pos rfl] at hnext
        rw [decide_eq_true hneg]
        repeat (first | (refine ⟨_, fun _ _ _ h => h, ?_⟩) | simp only [grd_undef, grd_true_true, grd_true_false, pick_bool, cond_true, cnd_true])
        exact stepT w7 E7 hnext
      · rw [decide_eq_false hneg, Bool.false_or] at hnext
        rw [decide_eq_false hneg]
        refine ⟨_, fun _ _ _ h => h, ?_⟩
        rw [grd_false_false]
        have hbi2 : (bestS l i).toNat < l.length := by omega
        refine (h.ext E7).at hi fun _ => ?_
        rw [show bestS l i = (((bestS l i).toNat : Nat) : Int) by omega]
        refine (h.ext E7).at hbi2 fun hbk => ?_
        refine c_l06Width hbi hiB fun w8 e8 => ?_
        refine ⟨e8, ?_⟩
        refine c_l06Width hbk (all_iv hB hbi2) fun w9 e9 => ?_
        rw [bin_fgtr]
        rw [getD_v hbi2] at hnext
        have E9 := E7.trans (e8.trans e9)
        refine ⟨_, fun _ _ _ h => h, ?_⟩
        rw [grd_true_true, pick_bool, cond_false, pick_bool, cond_true]
        refine cnd_split (fun hc => ?_) (fun hc => ?_)
        · rw [if_pos (show (single.order (widF l[i]) (widF l[(bestS l i).toNat]) == some .gt) = true from hc)] at hnext
          exact stepT w9 E9 hnext
        · rw [if_neg (by rw [show (single.order (widF l[i]) (widF l[(bestS l i).toNat]) == some .gt) = false from hc]; decide)] at hnext
          rw [show (((bestS l i).toNat : Nat) : Int) = bestS l i by omega]
          exact stepF w9 E9 hnext
  · have hi : i = l.length := by omega
    subst hi
    exact H _ e1

theorem c_l11Halves {v : Value} {l : List IV} {k : Nat} (h : I_IntervalS w v l) (hz : sidesF l = 0) (hk : k < l.length)
    (H : ∀ a b w', Ext w w' → I_IntervalS w' a (l.set k (halfF (l.getD k (0, 0))).1) → I_IntervalS w' b (l.set k (halfF (l.getD k (0, 0))).2.1) → K (.tuple #[a, b]) w') : call P f_spec_l11Halves [v, .int .i64 (k : Int)] w K := by
  obtain ⟨hI, hl1, hl3, hB⟩ := sidesZ hz
  rw [getD_v hk] at H
  refine I_spec_l11Halves ?_
  unfold D_spec_l11Halves
  refine h.at hk fun hbk => ?_
  refine c_HalvesOf hbk (all_iv hI hk) (all_iv hB hk) fun w1 e1 => ?_
  rw [xtr_0, xtr_1, xtr_2]
  refine alc_iv fun y1 w4 ⟨a4, c4, b4⟩ e4 => ?_
  refine alc_iv fun y2 w5 ⟨a5, c5, b5⟩ e5 => ?_
  have n23 : blk y2 ≠ blk y1 := blk_apart b4 b5 (Nat.le_refl _)
  have b4 := b4.ext e5
  have E5 := e1.trans (e4.trans e5)
  refine iv_put b4 fun w6 b4' g6 => ?_
  have b5 := b5.kept g6 (.inr (Ne.symm n23))
  refine iv_put b5 fun w7 b5' g7 => ?_
  have b4'' := b4'.kept g7 (.inr n23)
  have E7 : Ext w w7 := ext_of_grown (ext_of_grown E5 (fun g hg => Nat.le_trans e1.size (b4.blk_lt hg).1) g6) (fun g hg => Nat.le_trans (e1.trans e4).size (b5.blk_lt hg).1) g7
  refine copy_iv (h.ext E7) hl1 hl3 fun a w8 e8 oa => ?_
  have la : ∀ g, a.ownBlock = some g → g < w8.heap.size := fun g hg => (oa.lt g hg).2
  refine copy_iv ((h.ext E7).ext e8) hl1 hl3 fun b w9 e9 ob => ?_
  have oa := owns_ext oa e9
  have E9 := E7.trans (e8.trans e9)
  refine iv_all ((b4''.ext e8).ext e9) ?_
  refine owns_set2 oa hk rfl rfl u_s_impl_Interval i_impl_Interval fun w10 oa10 g10 => ?_
  have hne : a.ownBlock = none ∨ a.ownBlock ≠ b.ownBlock := by
    cases ha : a.ownBlock with
    | none => exact .inl rfl
    | some g =>
      refine .inr fun hh => ?_
      have h1 := la g ha
      have h2 := (ob.lt g hh.symm).1
      omega
  have ob10 := ob.kept g10 (by
    rcases hne with h | h
    · cases hb : b.ownBlock with
      | none => exact .inl rfl
      | some g => right; rw [h]; simp
    · exact .inr (Ne.symm h))
  have b5x : Bx w10 _ t_impl_Interval y2 _ := (((b5'.ext e8).ext e9).kept g10 (by
    cases ha : a.ownBlock with
    | none => exact .inl rfl
    | some g =>
      right
      have h1 := (oa.lt g ha).1
      intro hh
      have h2 := (b5'.blk_lt hh.symm).2
      omega))
  refine iv_all b5x ?_
  refine owns_set2 ob10 hk rfl rfl u_s_impl_Interval i_impl_Interval fun w11 ob11 g11 => ?_
  have oa11 := oa10.kept g11 hne
  have E11 : Ext w w11 := by
    have h1 : Ext w w10 := ext_of_grown E9 (fun g hg => Nat.le_trans E7.size (oa.lt g hg).1) g10
    exact ext_of_grown h1 (fun g hg => Nat.le_trans (E7.trans e8).size (ob10.lt g hg).1) g11
  rw [pfs_set hk] at oa11 ob11
  have hBB := halfF_B hbk
  refine H a b w11 E11 ⟨?_, set_B h.lt hBB.1, owns_cap oa11⟩ ⟨?_, set_B h.lt hBB.2, owns_cap ob11⟩
  · rw [List.length_set]; exact owns_Row oa11
  · rw [List.length_set]; exact owns_Row ob11
theorem s_HalvesOfBox {v : Value} {l : List IV} (h : I_IntervalS w v l)
    (H : ∀ a b w', Ext w w' → I_IntervalS w' a (halvF l).1 → I_IntervalS w' b (halvF l).2.1 → K (.tuple #[a, b, .int .i64 (halvF l).2.2]) w') : call P f_spec_HalvesOfBox [v] w K := by
  refine I_spec_HalvesOfBox ?_
  unfold D_spec_HalvesOfBox
  unfold halvF at H
  refine c_l11Box h fun w1 e1 => ?_
  rw [bin_neq]
  refine cnd_dec (fun hne => ?_) (fun heq => ?_)
  · rw [if_neg (by omega)] at H
    exact H _ _ w1 e1 (nil_O _ 0 0).I (nil_O _ 0 0).I
  · have h0 : sidesF l = 0 := by omega
    rw [if_pos h0] at H
    refine c_l11Side (h.ext e1) h0 fun w2 e2 => ?_
    have hbl := bestS_lt l l.length
    rw [bin_lss]
    refine cnd_dec (fun hneg => ?_) (fun hpos => ?_)
    · rw [if_pos hneg] at H
      exact H _ _ w2 (e1.trans e2) (nil_O _ 0 0).I (nil_O _ 0 0).I
    · rw [if_neg (by omega)] at H
      rw [show bestS l l.length = (((bestS l l.length).toNat : Nat) : Int) by omega]
      refine c_l11Halves ((h.ext e1).ext e2) h0 (by omega) fun a b w3 e3 ha hb => ?_
      rw [xtr_0, xtr_1]
      exact H _ _ w3 (e1.trans (e2.trans e3)) ha hb
end Go.Proofs.YtabgkpfcpncmhaaGreat

/- No function of a list calls itself, if the list has an order. -/
set_option linter.unusedVariables false
namespace Go.Proofs.YtabgkpfcpncmhaaGreat
open Go

theorem closureVia_sub {P : Program} {Q : FuncId → Prop} (hQ : ∀ g, Q g → ∀ h ∈ (P.funcs[g]?).elim [] P.leadsTo, Q h) :
    ∀ (n : Nat) (todo seen : List FuncId), (∀ x ∈ todo, Q x) → (∀ x ∈ seen, Q x) → ∀ x ∈ P.closureVia n todo seen, Q x
  | 0, todo, seen, _, h2, x, hx => h2 x (by simpa [Program.closureVia] using hx)
  | n + 1, [], seen, _, h2, x, hx => h2 x (by simpa [Program.closureVia] using hx)
  | n + 1, f :: todo, seen, h1, h2, x, hx => by
    rw [Program.closureVia] at hx
    split at hx
    · exact closureVia_sub hQ n todo seen (fun y hy => h1 y (List.mem_cons_of_mem _ hy)) h2 x hx
    · refine closureVia_sub hQ n _ _ (fun y hy => ?_) (fun y hy => ?_) x hx
      · rcases List.mem_append.1 hy with hy | hy
        · exact hQ f (h1 f List.mem_cons_self) y hy
        · exact h1 y (List.mem_cons_of_mem _ hy)
      · rcases List.mem_cons.1 hy with rfl | hy
        · exact h1 _ List.mem_cons_self
        · exact h2 y hy

theorem norec_of {P : Program} {S L : List FuncId} (h : (S.all fun g => ((P.funcs[g]?).elim [] P.leadsTo).all fun h => S.contains h && decide (L.idxOf h < L.idxOf g)) = true) :
    S.any (fun g => ((P.funcs[g]?).elim [] P.leadsTo).any fun h => (P.closure h).contains g) = false := by
  simp only [List.all_eq_true, Bool.and_eq_true, decide_eq_true_eq, List.contains_iff_mem] at h
  refine Bool.eq_false_iff.2 fun hc => ?_
  simp only [List.any_eq_true, List.contains_iff_mem] at hc
  obtain ⟨g, hg, x, hx, hm⟩ := hc
  have h0 := h g hg x hx
  have := closureVia_sub (P := P) (Q := fun y => y ∈ S ∧ L.idxOf y < L.idxOf g) (fun a ha b hb => ?_) _ [x] [] (fun y hy => ?_) (fun y hy => by cases hy) g hm
  · exact Nat.lt_irrefl _ this.2
  · have h1 := h a ha.1 b hb
    exact ⟨h1.1, Nat.lt_trans h1.2 ha.2⟩
  · rw [List.mem_singleton] at hy
    rw [hy]; exact h0
end Go.Proofs.YtabgkpfcpncmhaaGreat

/- The closed facts of FnExactHalvesOfBox's row. -/
set_option linter.unusedVariables false
namespace Go.Proofs.YtabgkpfcpncmhaaGreat
open Go Go.Vc
theorem reach_FnExactHalvesOfBox : Tryz.pinned.checked.prog.closure 6 = [6, 32, 34, 114, 33, 111, 198, 264, 294, 295, 218, 199, 131, 112, 200, 265, 97, 177, 98, 209, 164, 242, 284, 163, 240, 271, 241, 96, 176, 175, 246, 247, 248, 118, 206, 167, 207, 208, 272, 210, 266, 217, 201, 165, 211, 273, 100, 113, 35, 115, 202, 267, 228, 187, 255, 286, 296, 229, 203, 268, 289, 307, 292, 116, 204, 269, 103, 181, 182, 250, 251, 285, 102, 178, 191, 180, 188, 256, 179, 249, 259, 260, 287, 305, 288, 306, 258, 297, 106, 184, 253, 185, 186, 254, 183, 252, 189, 257, 190, 192, 193, 195, 263, 194, 261, 262, 290, 291, 293, 233, 205, 270, 298, 308, 36, 43, 25, 37, 38] := by kernel_rfl
theorem joined_FnExactHalvesOfBox : joinedFacts Tryz.pinned.checked.prog 6 Tryz.f6 Rows.fnExactHalvesOfBoxSpec Rows.fnExactHalvesOfBoxRow = true := by
  unfold joinedFacts Program.recurses Program.inPlace Program.varsNamed Program.unfollowed
  rw [reach_FnExactHalvesOfBox]
  kernel_rfl
end Go.Proofs.YtabgkpfcpncmhaaGreat
