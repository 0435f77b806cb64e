/- The solution by an elimination: the program's, with its closure. -/
import Derived.Test.YtliagkijeigcaaaC14
set_option linter.unusedVariables false
namespace Go.Proofs.Ytliagkijeigcaaa
open Go Go.Vc

variable {w : World} {K : Value → World → Prop}

theorem callv_call {f : FuncId} {cap : Array Value} {args : List Value} (H : call P f (args ++ cap.toList) w K) : callv P (.func (.func f) #[] cap) args w K := by
  unfold callv
  have e : (do let d ← Deferred.ofValue (.func (.func f) #[] cap) args.toArray; invoke d.target d.args) = callFunc f (args ++ cap.toList).toArray := by
    show callFunc f ((#[] ++ args.toArray) ++ cap) = _
    congr 1
    simp
  rw [e]; exact H

/-- The variables of 'solve'. -/
structure XS (w : World) (B : Nat) (pe px ov tv xv : Value) (xl : List Nat) : Prop where
  be : Bx w B t_impl_Elimination pe [ov, tv]
  bx : Bx w B t_s_float32 px [xv]
  xs : OS w B xv xl
theorem XS.ext {B : Nat} {pe px ov tv xv : Value} {xl : List Nat} {w' : World} (h : XS w B pe px ov tv xv xl) (he : Ext w w') : XS w' B pe px ov tv xv xl := ⟨h.be.ext he, h.bx.ext he, owns_ext h.xs he⟩
theorem XS.getX {B : Nat} {pe px ov tv xv : Value} {xl : List Nat} (h : XS w B pe px ov tv xv xl) {K : Value → Prop} (H : K xv) : ld P t_s_float32 px w K := h.bx.get1 u_s_float32 rfl H
theorem XS.at {B : Nat} {pe px ov tv xv : Value} {xl : List Nat} (h : XS w B pe px ov tv xv xl) {i : Nat} (hi : i < xl.length) {K : Value → Prop} (H : K (fl xl[i])) : ixa P t_s_float32 xv (.int .i64 (i : Int)) w (fun a => ld P t_float32 a w K) :=
  (owns_Row h.xs).at1 (get_map hi) u_s_float32 i_float32 u_float32 rfl H
theorem XS.put {B i x : Nat} {pe px ov tv xv : Value} {xl : List Nat} {K : World → Prop} (h : XS w B pe px ov tv xv xl) (hi : i < xl.length) (H : ∀ w', XS w' B pe px ov tv xv (xl.set i x) → (∀ {A w0}, A ≤ B → A ≤ w.heap.size → RowKit.Below A w0 w → RowKit.Below A w0 w') → K w') :
    ixa P t_s_float32 xv (.int .i64 (i : Int)) w (fun a => sto P t_float32 a (fl x) w K) := by
  refine owns_set h.xs (x := fl x) hi rfl u_s_float32 i_float32 fun w' ho hg => H w' ⟨keep_box h.be hg (Ty.owns h.xs) (by decide), keep_box h.bx hg (Ty.owns h.xs) (by decide), ?_⟩ fun hA hs hb => hb.grown hg hs fun k hk => Nat.le_trans hA (h.xs.lt k hk).1
  show w'.ownsRow B t_float32 1 xv (xl.set i x).length ((xl.set i x).map fl)
  rw [List.length_set, List.map_set]; exact ho

theorem c_less {B n i j : Nat} {w0 : World} {pe px ov tv xv : Value} {xl : List Nat} {t : List (List Nat)} (h : XS w B pe px ov tv xv xl) (ht : FSS w tv t) (hG : Good n t) (hi : i < n) (hj : j < n) (hxl : xl.length = n) (hxi : finB (xl.getD i 0) = true) (hxj : finB (xl.getD j 0) = true)
    (hA : B ≤ w.heap.size) (hbl : RowKit.Below B w0 w)
    (H : ∀ w', XS w' B pe px ov tv xv (xl.set i (opF .sub (xl.getD i 0) (opF .mul ((t.getD i []).getD j 0) (xl.getD j 0)))) → RowKit.Below B w0 w' → opF .sub (xl.getD i 0) (opF .mul ((t.getD i []).getD j 0) (xl.getD j 0)) < 4294967296 → K (.bool (finB (opF .sub (xl.getD i 0) (opF .mul ((t.getD i []).getD j 0) (xl.getD j 0))))) w') :
    callv P (.func (.func f_impl_solve_1) #[] #[pe, px]) [.int .i64 (i : Int), .int .i64 (j : Int)] w K := by
  refine callv_call ?_
  refine I_impl_solve_1 ?_
  unfold D_impl_solve_1
  have hit : i < t.length := by rw [hG.len]; exact hi
  have hjr : j < t[i].length := by rw [hG.row]; exact hj
  have hix : i < xl.length := by omega
  have hjx : j < xl.length := by omega
  rw [getD_lt hit, getDn hjr, getDn hix, getDn hjx] at H
  rw [getDn hix] at hxi
  rw [getDn hjx] at hxj
  refine Bx.fld h.be (off := 1) rfl u_impl_Elimination rfl i_s_s_float32 u_s_s_float32 rfl ?_
  refine ht.at hit fun r hr => ?_
  refine hr.at hjr ?_
  refine h.getX ?_
  refine h.at hjx ?_
  refine rbin_float (by simp) fun pr hpr => ?_
  refine h.getX ?_
  refine h.getX ?_
  refine h.at hix ?_
  refine rbin_float (by simp) fun df hdf => ?_
  obtain ⟨edf, eall⟩ := sub_case (all_get (hG.fin _ (List.getElem_mem hit)) hjr) hxj hxi hpr hdf
  rw [← edf] at H
  refine h.put hix fun w2 h2 hb2 => ?_
  have hsz := (hb2 (Nat.le_refl _) hA (RowKit.Below.refl B w)).size
  have hb2 := hb2 (Nat.le_refl _) hA hbl
  refine h2.getX ?_
  have hi2 : i < (xl.set i df).length := by rw [List.length_set]; exact hix
  refine h2.at hi2 ?_
  rw [List.getElem_set_self]
  refine bslF2 (FR_lt hpr) (FR_lt hdf) fun v3 w3 e3 hf3 => ?_
  refine c_areFinite hf3 ?_
  rw [eall]
  exact H w3 (h2.ext e3) (hb2.trans (RowKit.Below.mono e3 (Nat.le_trans hA hsz))) (FR_lt hdf)

theorem getD_app {y : List Nat} {c : Nat} {r : List Nat} {i : Nat} (h : y.length = i) : (y ++ c :: r).getD i 0 = c := by
  subst h
  rw [List.getD_eq_getElem?_getD, List.getElem?_append_right (Nat.le_refl _)]; simp
theorem getD_appl {y r : List Nat} {j : Nat} (h : j < y.length) : (y ++ r).getD j 0 = y.getD j 0 := by
  rw [List.getD_eq_getElem?_getD, List.getElem?_append_left h, ← List.getD_eq_getElem?_getD]
theorem set_app {y : List Nat} {c d : Nat} {r : List Nat} {i : Nat} (h : y.length = i) : (y ++ c :: r).set i d = y ++ d :: r := by
  subst h
  rw [List.set_append_right _ _ (Nat.le_refl _)]; simp

set_option maxHeartbeats 1000000 in
theorem c_impl_solve {v bv ov tv : Value} {o b : List Nat} {t : List (List Nat)} {n : Nat} (hn : n ≤ 8) (he : ER w v ov tv o t n) (hb : FS w bv b) (hf : FinL n b)
    (h0 : solveF o t b = none → ∀ w', Ext w w' → K (.tuple #[.slice none 0 0, .bool false]) w')
    (h1 : ∀ q u w', solveF o t b = some q → FinL n q → Ext w w' → OS w' w.heap.size u q → K (.tuple #[u, .bool true]) w') : call P f_impl_solve [v, bv] w K := by
  refine I_impl_solve ?_
  unfold D_impl_solve
  obtain rfl := he.val
  have htl := he.good.len
  have hol := he.len
  have hbl := hf.len
  refine bx_bx fun pe w1 bp e1 _ => ?_
  rw [(hb.ext e1).row.len u_s_float32, hf.len]
  refine mks_intro u_s_float32 i_float32 rfl (by omega) (by simp only [maxLen]; omega) fun w2 xv o2 e2 => ?_
  refine alc_bx i_s_float32 fun px w3 bx3 e3 hpx => ?_
  have s1 := e1.size
  have s2 := e2.size
  refine bx3.put1 i_s_float32 (oneCell_sl o2) fun w4 bx4 g4 => ?_
  have E3 := (e1.trans e2).trans e3
  have hb4 : RowKit.Below w.heap.size w w4 := RowKit.Below.grown E3 g4 E3.size fun k hk => by rw [hpx] at hk; cases hk; omega
  have tb := Ty.box bx3
  have x4 : XS w4 w.heap.size pe px ov tv xv (List.replicate n 0) := ⟨keep_box ((bp.ext e2).ext e3) g4 tb (by decide), bx4.low (by omega), by
    have := keep_row (owns_base (owns_ext o2 e3) s1) g4 tb (by decide)
    show w4.ownsRow w.heap.size t_float32 1 xv (List.replicate n 0).length ((List.replicate n 0).map fl)
    rw [List.length_replicate, List.map_replicate]; exact this⟩
  clear tb bx4 g4 hpx bx3 o2
  refine ⟨fun g x w' => RowKit.Below w.heap.size w w' ∧ ∃ (i : Nat) (yl : List Nat), x = .int .i64 i ∧ g + i = n ∧ XS w' w.heap.size pe px ov tv xv (yl ++ List.replicate (n - i) 0) ∧ FinL i yl ∧ fwdF t o b (n - i) i yl = fwdF t o b n 0 [],
    ⟨n, hb4, 0, [], rfl, by omega, by simpa using x4, ⟨rfl, rfl, by simp⟩, rfl⟩, ?_⟩
  rintro g x junk w5 ⟨hb5, i, yl, rfl, hg, x5, hyf, hfw⟩
  have s5 := hb5.size
  have hyl := hyf.len
  rw [bin_lss]
  refine cnd_dec (fun hlt => ?_) (fun hge => ?_)
  · have hi : i < n := by omega
    have hit : i < t.length := by omega
    have hio : i < o.length := by omega
    have hoi : o[i] < b.length := by rw [hbl]; exact he.lt _ (List.getElem_mem hio)
    rw [fwdF_step hi, getDn hio, getDn hoi] at hfw
    have hrep : List.replicate (n - i) 0 = 0 :: List.replicate (n - (i + 1)) 0 := by rw [show n - i = (n - (i + 1)) + 1 by omega, List.replicate_succ]
    rw [hrep] at x5
    have hx5l : i < (yl ++ 0 :: List.replicate (n - (i + 1)) 0).length := by simp; omega
    refine x5.getX ?_
    refine Bx.fld x5.be (off := 0) rfl u_impl_Elimination rfl i_s_int64 u_s_int64 rfl ?_
    refine he.at hb5 hio ?_
    refine (hb.ext hb5).at hoi ?_
    refine x5.put hx5l fun w6 x6 hb6 => ?_
    have hb6 := hb6 (Nat.le_refl _) s5 hb5
    rw [set_app hyl] at x6
    refine ⟨fun g x w' => RowKit.Below w.heap.size w w' ∧ ∃ j own : Nat, x = .int .i64 j ∧ XS w' w.heap.size pe px ov tv xv (yl ++ own :: List.replicate (n - (i + 1)) 0) ∧ finB own = true ∧ own < 4294967296 ∧ g + j = i ∧ subsF (t.getD i []) yl (i - j) j own = subsF (t.getD i []) yl i 0 b[o[i]],
      ⟨i, hb6, 0, b[o[i]], rfl, x6, hf.get hoi, hf.lt _ (List.getElem_mem hoi), by omega, rfl⟩, ?_⟩
    rintro g2 x junk2 w7 ⟨hb7, j, own, rfl, x7, hown, hownl, hg2, hsub⟩
    have s7 := hb7.size
    rw [bin_lss]
    refine cnd_dec (fun hlt2 => ?_) (fun hge2 => ?_)
    · have hj : j < i := by omega
      have hjy : j < yl.length := by omega
      have g1 := getD_app (y := yl) (c := own) (r := List.replicate (n - (i + 1)) 0) hyl
      have g2' := getD_appl (y := yl) (r := own :: List.replicate (n - (i + 1)) 0) hjy
      rw [subsF_step hj] at hsub
      refine c_less x7 (he.tab.ext hb7) he.good hi (by omega) (by simp [hyl]; omega) (by rw [g1]; exact hown) (by rw [g2', getDn hjy]; exact hyf.get hjy) s7 hb7 fun w8 x8 hb8 hlt8 => ?_
      rw [g1, g2'] at x8 hlt8 ⊢
      rw [set_app hyl] at x8
      generalize opF .sub own (opF .mul ((t.getD i []).getD j 0) (yl.getD j 0)) = df at x8 hlt8 hsub ⊢
      rw [una_not]
      refine cnd_split (fun h => ?_) (fun h => ?_)
      · rw [nb1 h] at hsub
        simp only [Bool.false_eq_true, if_false] at hsub
        rw [← hsub] at hfw
        refine h0 ?_ _ hb8
        unfold solveF
        rw [hbl, ← hfw]
      · have h := nb0 h
        rw [h] at hsub
        simp only [if_true] at hsub
        rw [bin_add, wrap_i64 (by omega) (by omega)]
        exact ⟨g2 - 1, by omega, hb8, j + 1, df, rfl, x8, h, hlt8, by omega, hsub⟩
    · rw [subsF_end (by omega)] at hsub
      rw [← hsub] at hfw
      rw [bin_add, wrap_i64 (by omega) (by omega)]
      refine ⟨g - 1, by omega, hb7, i + 1, yl ++ [own], rfl, by omega, by simpa using x7, ⟨by simp [hyl], by rw [List.all_append, hyf.fin]; simpa using hown, ?_⟩, hfw⟩
      intro c hc
      rcases List.mem_append.1 hc with hc | hc
      · exact hyf.lt c hc
      · simp at hc; subst hc; exact hownl
  · have hi : i = n := by omega
    subst hi
    rw [fwdF_end (Nat.le_refl _)] at hfw
    rw [Nat.sub_self, List.replicate_zero, List.append_nil] at x5
    have hsol : solveF o t b = backF t i i yl := by unfold solveF; rw [hbl, ← hfw]
    rw [hsol] at h0
    simp only [hsol] at h1
    rw [bin_sub, wrap_i64 (by omega) (by omega)]
    refine ⟨fun g x w' => RowKit.Below w.heap.size w w' ∧ ∃ (c : Nat) (zl : List Nat), x = .int .i64 ((c : Int) - 1) ∧ g = c ∧ c ≤ i ∧ XS w' w.heap.size pe px ov tv xv zl ∧ FinL i zl ∧ backF t i c zl = backF t i i yl,
      ⟨i, hb5, i, yl, rfl, rfl, Nat.le_refl _, x5, hyf, rfl⟩, ?_⟩
    rintro g x junk w6 ⟨hb6, c, zl, rfl, rfl, hci, x6, hzf, hbk⟩
    have s6 := hb6.size
    have hzl := hzf.len
    rw [bin_geq]
    refine cnd_dec (fun hpos => ?_) (fun hneg => ?_)
    · obtain ⟨k, rfl⟩ : ∃ k, g = k + 1 := ⟨g - 1, by omega⟩
      rw [show ((k + 1 : Nat) : Int) - 1 = (k : Int) by omega]
      have hkt : k < t.length := by omega
      have hkz : k < zl.length := by omega
      have hrf := he.good.fin _ (List.getElem_mem hkt)
      have hkr : k < t[k].length := by rw [he.good.row hkt]; omega
      have hdk := all_get hrf hkr
      rw [backF, getDn hkz, cell_get hkt hkr] at hbk
      rw [bin_add, wrap_i64 (by omega) (by omega)]
      have eself : zl.set k zl[k] = zl := List.set_getElem_self _
      refine ⟨fun g x w' => RowKit.Below w.heap.size w w' ∧ ∃ j own : Nat, x = .int .i64 j ∧ XS w' w.heap.size pe px ov tv xv (zl.set k own) ∧ finB own = true ∧ g + j = i ∧ k + 1 ≤ j ∧ subsF (t.getD k []) zl (i - j) j own = subsF (t.getD k []) zl (i - (k + 1)) (k + 1) zl[k],
        ⟨i - (k + 1), hb6, k + 1, zl[k], rfl, by rw [eself]; exact x6, hzf.get hkz, by omega, Nat.le_refl _, rfl⟩, ?_⟩
      rintro g2 x junk2 w7 ⟨hb7, j, own, rfl, x7, hown, hg2, hkj, hsub⟩
      have s7 := hb7.size
      have hk7 : k < (zl.set k own).length := by rw [List.length_set]; exact hkz
      have ekk : (zl.set k own)[k] = own := List.getElem_set_self _
      rw [bin_lss]
      refine cnd_dec (fun hlt2 => ?_) (fun hge2 => ?_)
      · have hj : j < i := by omega
        have hjz : j < zl.length := by omega
        have g1 : (zl.set k own).getD k 0 = own := by rw [getDn hk7]; exact ekk
        have g2' : (zl.set k own).getD j 0 = zl.getD j 0 := by
          rw [getDn (by rw [List.length_set]; exact hjz), List.getElem_set_ne (by omega), getDn hjz]
        rw [subsF_step hj] at hsub
        refine c_less x7 (he.tab.ext hb7) he.good (by omega) hj (by rw [List.length_set]; exact hzl) (by rw [g1]; exact hown) (by rw [g2', getDn hjz]; exact hzf.get hjz) s7 hb7 fun w8 x8 hb8 hlt8 => ?_
        rw [g1, g2'] at x8 hlt8 ⊢
        rw [List.set_set] at x8
        generalize opF .sub own (opF .mul ((t.getD k []).getD j 0) (zl.getD j 0)) = df at x8 hlt8 hsub ⊢
        rw [una_not]
        refine cnd_split (fun h => ?_) (fun h => ?_)
        · rw [nb1 h] at hsub
          simp only [Bool.false_eq_true, if_false] at hsub
          rw [← hsub] at hbk
          exact h0 hbk.symm _ hb8
        · have h := nb0 h
          rw [h] at hsub
          simp only [if_true] at hsub
          rw [bin_add, wrap_i64 (by omega) (by omega)]
          exact ⟨g2 - 1, by omega, hb8, j + 1, df, rfl, x8, h, by omega, by omega, hsub⟩
      · rw [subsF_end (by omega)] at hsub
        rw [← hsub] at hbk
        refine x7.getX ?_
        refine x7.getX ?_
        refine x7.at hk7 ?_
        rw [ekk]
        refine Bx.fld x7.be (off := 1) rfl u_impl_Elimination rfl i_s_s_float32 u_s_s_float32 rfl ?_
        refine he.tab.at0 hb7 hkt fun r hr => ?_
        refine (hr.ext hb7).at hkr ?_
        refine rbin_float (by simp) fun q hq => ?_
        have hql := FR_lt hq
        refine x7.put hk7 fun w8 x8 hb8 => ?_
        have hb8 := hb8 (Nat.le_refl _) s7 hb7
        rw [List.set_set] at x8
        have hk8 : k < (zl.set k q).length := by rw [List.length_set]; exact hkz
        refine x8.getX ?_
        refine x8.at hk8 ?_
        rw [List.getElem_set_self]
        refine c_isFinite hql ?_
        rw [una_not]
        by_cases hzero : isZ t[k][k] = true
        · rw [quo_zero hown hdk hzero hq]
          rw [hzero] at hbk
          exact cnd_yes rfl (h0 hbk.symm _ hb8)
        · have hzero : isZ t[k][k] = false := by simpa using hzero
          rw [hzero] at hbk
          simp only [Bool.false_eq_true, if_false] at hbk
          rw [← quo_ok hown hdk hzero hq] at hbk
          refine cnd_split (fun h => ?_) (fun h => ?_)
          · rw [nb1 h] at hbk
            exact h0 hbk.symm _ hb8
          · have h := nb0 h
            rw [h] at hbk
            rw [bin_sub, wrap_i64 (by omega) (by omega)]
            exact ⟨k, by omega, hb8, k, zl.set k q, rfl, rfl, by omega, x8, hzf.set h hql, hbk⟩
    · have : g = 0 := by omega
      subst this
      rw [backF] at hbk
      refine x6.getX ?_
      exact h1 zl xv _ hbk.symm hzf hb6 x6.xs

end Go.Proofs.Ytliagkijeigcaaa
