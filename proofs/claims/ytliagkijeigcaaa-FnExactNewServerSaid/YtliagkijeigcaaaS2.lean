/- The empty server: what is returned, compared, marked. -/
import Derived.Test.YtliagkijeigcaaaT1
set_option linter.unusedVariables false
namespace Go.Proofs.Ytliagkijeigcaaa
open Go Go.Vc

variable {w : World} {K : Value → World → Prop} {lo hi : Nat} {v : Value}

abbrev nils : Value := .slice none 0 0
abbrev srv : Value := .agg #[nils, nils, nils]
def srvF : Unit := ()
abbrev A_Server (w : World) (v : Value) (d : Unit) : Prop := v = srv
abbrev I_Server (w : World) (v : Value) (d : Unit) : Prop := v = srv
def O_Server (w : World) (lo hi : Nat) (v : Value) (d : Unit) : Prop := v = srv
theorem A_Server.ext {d : Unit} {w' : World} (h : A_Server w v d) (he : Ext w w') : A_Server w' v d := h
theorem I_Server.ext {d : Unit} {w' : World} (h : I_Server w v d) (he : Ext w w') : I_Server w' v d := h
theorem O_Server.ext {d : Unit} {w' : World} (h : O_Server w lo hi v d) (he : Ext w w') : O_Server w' lo hi v d := h
theorem O_Server.chg {d : Unit} {w' : World} {lo' hi' : Nat} (h : O_Server w lo hi v d) (hc : Chg lo' hi' w w') (hd : hi ≤ lo' ∨ hi' ≤ lo) : O_Server w' lo hi v d := h
theorem O_Server.I {d : Unit} (h : O_Server w lo hi v d) : I_Server w v d := h
def cnt_Server (d : Unit) : Nat := 0
def mk_Server (k : Int) (d : Unit) : Unit := ()
theorem Server_agg {d : Unit} (h : I_Server w v d) : ∃ cs : List Value, v = .agg cs.toArray ∧ cs.length = 3 ∧ ∀ x ∈ cs, x.oneCell' = true :=
  ⟨[nils, nils, nils], h, rfl, by intro x hx; simp at hx; rcases hx with rfl | rfl | rfl <;> rfl⟩

theorem c_eqStringS0 (H : K (.bool true) w) : call P f_laws_eqStringS [nils, nils] w K := by
  refine I_laws_eqStringS ?_
  unfold D_laws_eqStringS
  rw [l_s_string, l_s_string, bin_neq]
  refine cnd_no (by simp) ?_
  refine ⟨fun m x w' => w' = w ∧ x = .int .i64 0, ⟨0, rfl, rfl⟩, ?_⟩
  rintro m x junk w' ⟨rfl, rfl⟩
  rw [l_s_string, bin_lss]
  exact cnd_no (by simp) H
theorem c_eqProgramS0 (H : K (.bool true) w) : call P f_laws_eqProgramS [nils, nils] w K := by
  refine I_laws_eqProgramS ?_
  unfold D_laws_eqProgramS
  rw [l_s_impl_Program, l_s_impl_Program, bin_neq]
  refine cnd_no (by simp) ?_
  refine ⟨fun m x w' => w' = w ∧ x = .int .i64 0, ⟨0, rfl, rfl⟩, ?_⟩
  rintro m x junk w' ⟨rfl, rfl⟩
  rw [l_s_impl_Program, bin_lss]
  exact cnd_no (by simp) H
theorem c_eqKeptS0 (H : K (.bool true) w) : call P f_laws_eqKeptS [nils, nils] w K := by
  refine I_laws_eqKeptS ?_
  unfold D_laws_eqKeptS
  rw [l_s_impl_Kept, l_s_impl_Kept, bin_neq]
  refine cnd_no (by simp) ?_
  refine ⟨fun m x w' => w' = w ∧ x = .int .i64 0, ⟨0, rfl, rfl⟩, ?_⟩
  rintro m x junk w' ⟨rfl, rfl⟩
  rw [l_s_impl_Kept, bin_lss]
  exact cnd_no (by simp) H
theorem c_markStringS0 {k : Int} (H : K (.int .i64 k) w) : call P f_laws_markStringS [nils, .int .i64 k] w K := by
  refine I_laws_markStringS ?_
  unfold D_laws_markStringS
  refine ⟨fun m y x w' => w' = w ∧ x = .int .i64 0 ∧ y = .int .i64 k, ⟨0, rfl, rfl, rfl⟩, ?_⟩
  rintro m y x junk w' ⟨rfl, rfl, rfl⟩
  rw [l_s_string, bin_lss]
  exact cnd_no (by simp) H
theorem c_markProgramS0 {k : Int} (H : K (.int .i64 k) w) : call P f_laws_markProgramS [nils, .int .i64 k] w K := by
  refine I_laws_markProgramS ?_
  unfold D_laws_markProgramS
  refine ⟨fun m y x w' => w' = w ∧ x = .int .i64 0 ∧ y = .int .i64 k, ⟨0, rfl, rfl, rfl⟩, ?_⟩
  rintro m y x junk w' ⟨rfl, rfl, rfl⟩
  rw [l_s_impl_Program, bin_lss]
  exact cnd_no (by simp) H
theorem c_markKeptS0 {k : Int} (H : K (.int .i64 k) w) : call P f_laws_markKeptS [nils, .int .i64 k] w K := by
  refine I_laws_markKeptS ?_
  unfold D_laws_markKeptS
  refine ⟨fun m y x w' => w' = w ∧ x = .int .i64 0 ∧ y = .int .i64 k, ⟨0, rfl, rfl, rfl⟩, ?_⟩
  rintro m y x junk w' ⟨rfl, rfl, rfl⟩
  rw [l_s_impl_Kept, bin_lss]
  exact cnd_no (by simp) H
theorem c_heldStringS0 {k : Int} (H : K (.int .i64 k) w) : call P f_laws_heldStringS [nils, .int .i64 k] w K := by
  refine I_laws_heldStringS ?_
  unfold D_laws_heldStringS
  refine ⟨fun m y x w' => w' = w ∧ x = .int .i64 0 ∧ y = .int .i64 k, ⟨0, rfl, rfl, rfl⟩, ?_⟩
  rintro m y x junk w' ⟨rfl, rfl, rfl⟩
  rw [l_s_string, bin_lss]
  exact cnd_no (by simp) H
theorem c_heldProgramS0 {k : Int} (H : K (.int .i64 k) w) : call P f_laws_heldProgramS [nils, .int .i64 k] w K := by
  refine I_laws_heldProgramS ?_
  unfold D_laws_heldProgramS
  refine ⟨fun m y x w' => w' = w ∧ x = .int .i64 0 ∧ y = .int .i64 k, ⟨0, rfl, rfl, rfl⟩, ?_⟩
  rintro m y x junk w' ⟨rfl, rfl, rfl⟩
  rw [l_s_impl_Program, bin_lss]
  exact cnd_no (by simp) H
theorem c_heldKeptS0 {k : Int} (H : K (.int .i64 k) w) : call P f_laws_heldKeptS [nils, .int .i64 k] w K := by
  refine I_laws_heldKeptS ?_
  unfold D_laws_heldKeptS
  refine ⟨fun m y x w' => w' = w ∧ x = .int .i64 0 ∧ y = .int .i64 k, ⟨0, rfl, rfl, rfl⟩, ?_⟩
  rintro m y x junk w' ⟨rfl, rfl, rfl⟩
  rw [l_s_impl_Kept, bin_lss]
  exact cnd_no (by simp) H

theorem c_eq_Server {u : Value} {d : Unit} (h1 : I_Server w u d) (h2 : I_Server w v d) (H : ∀ w', Ext w w' → K (.bool true) w') : call P f_laws_eqServer [u, v] w K := by
  obtain rfl : u = srv := h1
  obtain rfl : v = srv := h2
  refine I_laws_eqServer ?_
  unfold D_laws_eqServer
  refine bx_bx fun p w1 b1 e1 _ => ?_
  refine bx_bx fun q w2 b2 e2 _ => ?_
  have b1 := b1.ext e2
  have E := e1.trans e2
  refine Bx.fld b1 (off := 0) rfl u_impl_Server rfl i_s_string u_s_string rfl ?_
  refine Bx.fld b2 (off := 0) rfl u_impl_Server rfl i_s_string u_s_string rfl ?_
  refine c_eqStringS0 ?_
  rw [una_not, Bool.not_true, cnd_false]
  refine Bx.fld b1 (off := 1) rfl u_impl_Server rfl i_s_impl_Program u_s_impl_Program rfl ?_
  refine Bx.fld b2 (off := 1) rfl u_impl_Server rfl i_s_impl_Program u_s_impl_Program rfl ?_
  refine c_eqProgramS0 ?_
  rw [una_not, Bool.not_true, cnd_false]
  refine Bx.fld b1 (off := 2) rfl u_impl_Server rfl i_s_impl_Kept u_s_impl_Kept rfl ?_
  refine Bx.fld b2 (off := 2) rfl u_impl_Server rfl i_s_impl_Kept u_s_impl_Kept rfl ?_
  refine c_eqKeptS0 ?_
  rw [una_not, Bool.not_true, cnd_false]
  exact H _ E
theorem c_mark_Server {d : Unit} {k : Int} (h : O_Server w lo hi v d) (h0 : 0 ≤ k) (h1 : k + cnt_Server d ≤ 4611686018427387904) (H : ∀ w', O_Server w' lo hi v (mk_Server k d) → Chg lo hi w w' → K (.int .i64 (k + cnt_Server d)) w') :
    call P f_laws_markServer [v, .int .i64 k] w K := by
  obtain rfl : v = srv := h
  refine I_laws_markServer ?_
  unfold D_laws_markServer
  refine bx_bx fun p w1 b1 e1 _ => ?_
  refine Bx.fld b1 (off := 0) rfl u_impl_Server rfl i_s_string u_s_string rfl ?_
  refine c_markStringS0 ?_
  refine Bx.fld b1 (off := 1) rfl u_impl_Server rfl i_s_impl_Program u_s_impl_Program rfl ?_
  refine c_markProgramS0 ?_
  refine Bx.fld b1 (off := 2) rfl u_impl_Server rfl i_s_impl_Kept u_s_impl_Kept rfl ?_
  refine c_markKeptS0 ?_
  have := H w1 rfl (Chg.of_ext e1)
  simpa [cnt_Server] using this
theorem c_held_Server {d : Unit} {k : Int} (h : I_Server w v (mk_Server k d)) (h0 : 0 ≤ k) (h1 : k + cnt_Server d ≤ 4611686018427387904) (H : ∀ w', Ext w w' → K (.int .i64 (k + cnt_Server d)) w') : call P f_laws_heldServer [v, .int .i64 k] w K := by
  obtain rfl : v = srv := h
  refine I_laws_heldServer ?_
  unfold D_laws_heldServer
  refine bx_bx fun p w1 b1 e1 _ => ?_
  refine Bx.fld b1 (off := 0) rfl u_impl_Server rfl i_s_string u_s_string rfl ?_
  refine c_heldStringS0 ?_
  refine lss_no (by omega) ?_
  rw [cnd_false]
  refine Bx.fld b1 (off := 1) rfl u_impl_Server rfl i_s_impl_Program u_s_impl_Program rfl ?_
  refine c_heldProgramS0 ?_
  refine lss_no (by omega) ?_
  rw [cnd_false]
  refine Bx.fld b1 (off := 2) rfl u_impl_Server rfl i_s_impl_Kept u_s_impl_Kept rfl ?_
  refine c_heldKeptS0 ?_
  refine lss_no (by omega) ?_
  rw [cnd_false]
  have := H w1 e1
  simpa [cnt_Server] using this

theorem bld_server {K : Value → Prop} : bld P 31 [] w K = K srv := bld_of (by kernel_rfl)
theorem s_NewServer (H : ∀ u w', Ext w w' → I_Server w' u srvF → K u w') : call P f_spec_NewServer [] w K := by
  refine I_spec_NewServer ?_
  unfold D_spec_NewServer
  refine alc_bx i_impl_Server fun p w1 b1 e1 hp => ?_
  rw [bld_server]
  refine b1.put i_impl_Server (ds := [nils, nils, nils]) rfl rfl (by intro x hx; simp at hx; rcases hx with rfl | rfl | rfl <;> rfl) fun w2 b2 g2 => ?_
  refine b2.getc u_impl_Server rfl i_impl_Server rfl ?_
  refine H _ _ ?_ rfl
  exact e1.grown g2 e1.size fun k hk => by rw [hp] at hk; cases hk; exact Nat.le_refl _
theorem p_NewServer (H : ∀ u w', Ext w w' → O_Server w' w.heap.size w'.heap.size u srvF → K u w') : call P f_impl_NewServer [] w K := by
  refine I_impl_NewServer ?_
  unfold D_impl_NewServer
  refine alc_bx i_impl_Server fun p w1 b1 e1 hp => ?_
  rw [bld_server]
  refine b1.put i_impl_Server (ds := [nils, nils, nils]) rfl rfl (by intro x hx; simp at hx; rcases hx with rfl | rfl | rfl <;> rfl) fun w2 b2 g2 => ?_
  refine b2.getc u_impl_Server rfl i_impl_Server rfl ?_
  refine H _ _ ?_ rfl
  exact e1.grown g2 e1.size fun k hk => by rw [hp] at hk; cases hk; exact Nat.le_refl _
theorem small_NewServer_0 : cnt_Server srvF ≤ 1099511627776 := by decide
end Go.Proofs.Ytliagkijeigcaaa
