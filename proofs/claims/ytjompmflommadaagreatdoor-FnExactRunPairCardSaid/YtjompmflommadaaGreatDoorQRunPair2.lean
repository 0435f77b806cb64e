import Derived.Test.YtjompmflommadaaGreatDoorQRunPairVVcK
import Derived.Test.YtjompmflommadaaGreatDoorQRunPairVVcI
import Derived.ProofKit
import Derived.OpenShut
import Derived.ChangeOld
import Derived.Deep.Slices
import Derived.Test.YtjompmflommadaaGreatDoorQRunPairVU1
import Derived.Test.YtjompmflommadaaGreatDoorQRunPairVVcL
import Derived.Test.YtjompmflommadaaGreatDoorQRunPair1
set_option linter.unusedSimpArgs false
set_option linter.unusedVariables false

set_option linter.unusedVariables false
set_option maxRecDepth 20000
namespace Go.Proofs.YtjompmflommadaaGreatDoor
open Go Go.Vc
def D_spec_l02Of (a0 : Value) (w : World) (K : Value → World → Prop) : Prop :=
  alc P 55 w fun b c =>
  bsl P 53 0 [] c fun d e =>
  ∃ g : Value → World → Prop, (∀ (h : Value) (_ : Env) (i : World), g h i →
  ∃ j : Nat → Value → Value → World → Prop, (∃ k, j k a0 d i) ∧ ∀ (l : Nat) (m : Value) (n : Value) (_ : Env) (o : World), j l m n o →
  bin P .neq 2 false true m (.int .i64 0) o fun p =>
  cnd p
  (bin P .rem 2 false true m (.int .i64 16777216) o fun q =>
  ∃ r : Value → World → Prop, (∀ (s : Value) (_ : Env) (t : World), r s t →
  bsl P 53 1 [(0, s)] t fun u v =>
  bl2 P .append #[53, 53] 53 [n, u] v fun x y =>
  bin P .quo 2 false true m (.int .i64 16777216) y fun z =>
  ∃ A, A < l ∧ j A z x y) ∧
  (bin P .lss 2 false true q (.int .i64 0) o fun B =>
  cnd B
  (una P .neg q o fun C =>
  r C o)
  (r q o)))
  (call P f_spec_l02Make [h, n] o fun D E =>
  sto P 55 b D E fun F =>
  ldc P 55 b F fun G =>
  K G F)) ∧
  (bin P .lss 2 false true a0 (.int .i64 0) e fun H =>
  cnd H
  (g (.int .i64 (-1)) e)
  (g (.int .i64 1) e))
def P_spec_l02Of : Plan := (.seq rg51 (.seq rg41 (.cut [3] 392 (.seq rg0 (.cond rg2 .leaf)) (.seq (.blk (.loop [0, 4] 8388145 (.seq (.seq rg0 (.cond .leaf .leaf)) (.blk (.seq rg1 (.cut [5] 122912 (.seq rg0 (.cond rg1 .leaf)) (.seq rg26 rg1))))))) (.seq rg50 .leaf)))))
theorem I_spec_l02Of {a0 : Value} {w : World} {K : Value → World → Prop} (h : D_spec_l02Of a0 w K) : call P f_spec_l02Of [a0] w K :=
  call_of_vc mixed Tryz.func164 (c := codeOf Tryz.f164) (by kernel_rfl) (by kernel_rfl) (p := P_spec_l02Of) (by kernel_rfl) (by rw [Tryz.ntmps164]; simp) (by
    have e : D_spec_l02Of a0 w K = vc P P_spec_l02Of (codeOf Tryz.f164) (env0 [a0]) w (retX P Tryz.f164.results.toList K) := by kernel_rfl
    exact e ▸ h)
def D_spec_l02Abs (a0 : Value) (w : World) (K : Value → World → Prop) : Prop :=
  bx P 55 a0 w fun b c =>
  alc P 55 c fun d e =>
  fda P 55 b 0 e fun g =>
  ld P 2 g e fun h =>
  fda P 55 b 0 e fun i =>
  ld P 2 i e fun j =>
  bin P .mul 2 false false h j e fun k =>
  fda P 55 b 1 e fun l =>
  ld P 53 l e fun m =>
  call P f_spec_l02Make [k, m] e fun n o =>
  sto P 55 d n o fun p =>
  ldc P 55 d p fun q =>
  K q p
def P_spec_l02Abs : Plan := (.seq rg31 (.seq (.reg [.op (0, 0, false), .op (1, 0, false), .op (2, 0, false), .op (3, 0, false), .op (4, 0, false), .op (5, 0, false), .op (6, 0, false), .op (7, 2, false), .op (8, 2, false)]) .leaf))
theorem I_spec_l02Abs {a0 : Value} {w : World} {K : Value → World → Prop} (h : D_spec_l02Abs a0 w K) : call P f_spec_l02Abs [a0] w K :=
  call_of_vc mixed Tryz.func167 (c := codeOf Tryz.f167) (by kernel_rfl) (by kernel_rfl) (p := P_spec_l02Abs) (by kernel_rfl) (by rw [Tryz.ntmps167]; simp) (by
    have e : D_spec_l02Abs a0 w K = vc P P_spec_l02Abs (codeOf Tryz.f167) (env0 [a0]) w (retX P Tryz.f167.results.toList K) := by kernel_rfl
    exact e ▸ h)
def D_spec_l02Is (a0 : Value) (w : World) (K : Value → World → Prop) : Prop :=
  bx P 55 a0 w fun b c =>
  fda P 55 b 1 c fun d =>
  ld P 53 d c fun e =>
  bl0 P .len #[53] 3 [e] c fun g =>
  ∃ h : Nat → Value → World → Prop, (∃ i, h i (.int .i64 0) c) ∧ ∀ (j : Nat) (k : Value) (_ : Env) (l : World), h j k l →
  bin P .lss 3 false false k g l fun m =>
  cnd m
  (fda P 55 b 1 l fun n =>
  ld P 53 n l fun o =>
  ixa P 53 o k l fun p =>
  ld P 2 p l fun q =>
  call P f_spec_l01In [q, (.int .i64 0), (.int .i64 16777215)] l fun r s =>
  una P .not r s fun t =>
  cnd t
  (K (.bool false) s)
  (bin P .add 3 false true k (.int .i64 1) s fun u =>
  ∃ v, v < j ∧ h v u s))
  (bin P .eql 3 false true g (.int .i64 0) l fun x =>
  cnd x
  (fda P 55 b 0 l fun y =>
  ld P 2 y l fun z =>
  bin P .eql 2 false true z (.int .i64 0) l fun A =>
  K A l)
  (bin P .leq 3 false true g (.int .i64 100) l fun B =>
  ∃ C : Value → World → Prop, (∀ (D : Value) (_ : Env) (E : World), C D E →
  pick B D (.bool false) fun F =>
  ∃ G : Value → World → Prop, (∀ (H : Value) (_ : Env) (L : World), G H L →
  ∃ M : Value → World → Prop, (∀ (N : Value) (_ : Env) (O : World), M N O →
  ∃ Q : Value → World → Prop, (∀ (R : Value) (_ : Env) (S : World), Q R S →
  pick F R (.bool false) fun T =>
  K T S) ∧
  grd F true
  (pick H (.bool true) N fun U =>
  Q U O)
  (Q undef O)) ∧
  grd H false
  (fda P 55 b 0 L fun V =>
  ld P 2 V L fun W =>
  bin P .eql 2 false true W (.int .i64 (-1)) L fun X =>
  M X L)
  (M undef L)) ∧
  grd F true
  (fda P 55 b 0 E fun Y =>
  ld P 2 Y E fun Z =>
  bin P .eql 2 false true Z (.int .i64 1) E fun b0 =>
  G b0 E)
  (G undef E)) ∧
  grd B true
  (fda P 55 b 1 l fun c0 =>
  ld P 53 c0 l fun d0 =>
  bin P .sub 3 false true g (.int .i64 1) l fun e0 =>
  ixa P 53 d0 e0 l fun g0 =>
  ld P 2 g0 l fun h0 =>
  bin P .neq 2 false true h0 (.int .i64 0) l fun i0 =>
  C i0 l)
  (C undef l)))
def P_spec_l02Is : Plan := (.seq rg6 (.seq rg5 (.seq (.seq rg2 (.blk (.loop [4] 1048340 (.seq (.seq rg1 (.cond .leaf .leaf)) (.seq (.blk (.seq rg42 (.cond (.seq rg2 .leaf) .leaf))) rg1))))) (.seq (.seq rg0 (.cond (.seq rg5 .leaf) .leaf)) (.seq (.reg [.op (0, 0, false), .op (1, 0, false), .op (2, 0, false), .grp 2 true [(3, 0, false), (4, 0, false), (5, 0, false), (6, 0, false), (7, 0, false), (8, 0, false), (9, 0, false)] [34] 34091302912, .op (10, 0, false), .op (11, 0, false), .grp 11 true [(12, 0, false), (13, 0, false), (14, 0, false), (15, 0, false)] [40] 2061584302080, .grp 15 false [(16, 0, false), (17, 0, false), (18, 0, false)] [43] 15393162788864, .grp 11 true [(19, 0, false)] [44] 17592186044416, .op (20, 0, false), .op (21, 0, false)]) .leaf)))))
theorem I_spec_l02Is {a0 : Value} {w : World} {K : Value → World → Prop} (h : D_spec_l02Is a0 w K) : call P f_spec_l02Is [a0] w K :=
  call_of_vc mixed Tryz.func170 (c := codeOf Tryz.f170) (by kernel_rfl) (by kernel_rfl) (p := P_spec_l02Is) (by kernel_rfl) (by rw [Tryz.ntmps170]; simp) (by
    have e : D_spec_l02Is a0 w K = vc P P_spec_l02Is (codeOf Tryz.f170) (env0 [a0]) w (retX P Tryz.f170.results.toList K) := by kernel_rfl
    exact e ▸ h)
def D_spec_l02Twos (a0 : Value) (w : World) (K : Value → World → Prop) : Prop :=
  bx P 55 a0 w fun b c =>
  ∃ d : Nat → Value → World → Prop, (∃ e, d e (.int .i64 0) c) ∧ ∀ (g : Nat) (h : Value) (_ : Env) (i : World), d g h i →
  ld P 55 b i fun j =>
  call P f_spec_l02Bit [j, h] i fun k l =>
  bin P .eql 2 false true k (.int .i64 0) l fun m =>
  cnd m
  (bin P .add 2 false true h (.int .i64 1) l fun n =>
  ∃ o, o < g ∧ d o n l)
  (K h l)
def P_spec_l02Twos : Plan := (.seq rg6 (.seq rg2 (.seq (.blk (.loop [3] 1016 (.seq (.seq rg7 (.cond .leaf .leaf)) (.blk rg1)))) (.seq rg0 .leaf))))
theorem I_spec_l02Twos {a0 : Value} {w : World} {K : Value → World → Prop} (h : D_spec_l02Twos a0 w K) : call P f_spec_l02Twos [a0] w K :=
  call_of_vc mixed Tryz.func171 (c := codeOf Tryz.f171) (by kernel_rfl) (by kernel_rfl) (p := P_spec_l02Twos) (by kernel_rfl) (by rw [Tryz.ntmps171]; simp) (by
    have e : D_spec_l02Twos a0 w K = vc P P_spec_l02Twos (codeOf Tryz.f171) (env0 [a0]) w (retX P Tryz.f171.results.toList K) := by kernel_rfl
    exact e ▸ h)
def D_spec_l02Cut (a0 a1 : Value) (w : World) (K : Value → World → Prop) : Prop :=
  bx P 55 a0 w fun b c =>
  alc P 55 c fun d e =>
  bsl P 53 0 [] e fun g h =>
  bin P .quo 2 false true a1 (.int .i64 24) h fun i =>
  ∃ j : Nat → Value → Value → World → Prop, (∃ k, j k g i h) ∧ ∀ (l : Nat) (m : Value) (n : Value) (_ : Env) (o : World), j l m n o →
  fda P 55 b 1 o fun p =>
  ld P 53 p o fun q =>
  bl0 P .len #[53] 3 [q] o fun r =>
  bin P .lss 2 false false n r o fun s =>
  cnd s
  (fda P 55 b 1 o fun t =>
  ld P 53 t o fun u =>
  ixa P 53 u n o fun v =>
  ld P 2 v o fun x =>
  bin P .rem 2 false true a1 (.int .i64 24) o fun y =>
  cnv P 2 178 y o fun z =>
  bin P .shr 2 false false x z o fun A =>
  bin P .add 2 false true n (.int .i64 1) o fun B =>
  fda P 55 b 1 o fun C =>
  ld P 53 C o fun D =>
  bl0 P .len #[53] 3 [D] o fun E =>
  bin P .lss 2 false false B E o fun F =>
  cnd F
  (fda P 55 b 1 o fun G =>
  ld P 53 G o fun H =>
  bin P .add 2 false true n (.int .i64 1) o fun L =>
  ixa P 53 H L o fun M =>
  ld P 2 M o fun N =>
  bin P .rem 2 false true a1 (.int .i64 24) o fun O =>
  bin P .sub 2 true false (.int .i64 24) O o fun Q =>
  cnv P 2 178 Q o fun R =>
  bin P .shl 2 false false N R o fun S =>
  bin P .add 2 false false A S o fun T =>
  bin P .rem 2 false true T (.int .i64 16777216) o fun U =>
  bsl P 53 1 [(0, U)] o fun V W =>
  bl2 P .append #[53, 53] 53 [m, V] W fun X Y =>
  bin P .add 2 false true n (.int .i64 1) Y fun Z =>
  ∃ b0, b0 < l ∧ j b0 X Z Y)
  (bsl P 53 1 [(0, A)] o fun c0 d0 =>
  bl2 P .append #[53, 53] 53 [m, c0] d0 fun e0 g0 =>
  bin P .add 2 false true n (.int .i64 1) g0 fun h0 =>
  ∃ i0, i0 < l ∧ j i0 e0 h0 g0))
  (fda P 55 b 0 o fun j0 =>
  ld P 2 j0 o fun k0 =>
  call P f_spec_l02Make [k0, m] o fun l0 m0 =>
  sto P 55 d l0 m0 fun n0 =>
  ldc P 55 d n0 fun o0 =>
  K o0 n0)
def P_spec_l02Cut : Plan := (.seq rg31 (.seq rg6 (.seq (.seq rg1 (.blk (.loop [5, 6] 2251799813683424 (.seq (.seq rg4 (.cond .leaf .leaf)) (.seq (.blk (.seq (.reg [.op (0, 0, false), .op (1, 0, false), .op (2, 0, false), .op (3, 0, false), .op (4, 0, false), .op (5, 0, false), .op (6, 0, false), .op (7, 0, false), .op (8, 0, false), .op (9, 0, false)]) (.seq (.seq rg8 (.cond (.reg [.op (0, 0, false), .op (1, 0, false), .op (2, 0, false), .op (3, 0, false), .op (4, 0, false), .op (5, 0, false), .op (6, 0, false), .op (7, 0, false), .op (8, 0, false), .op (9, 0, false), .op (10, 0, false), .op (11, 0, false), .op (12, 0, false), .op (13, 0, false), .op (14, 0, false)]) .leaf)) rg26))) rg1))))) (.seq (.reg [.op (0, 0, false), .op (1, 0, false), .op (2, 0, false), .op (3, 2, false), .op (4, 2, false)]) .leaf))))
theorem I_spec_l02Cut {a0 a1 : Value} {w : World} {K : Value → World → Prop} (h : D_spec_l02Cut a0 a1 w K) : call P f_spec_l02Cut [a0, a1] w K :=
  call_of_vc mixed Tryz.func172 (c := codeOf Tryz.f172) (by kernel_rfl) (by kernel_rfl) (p := P_spec_l02Cut) (by kernel_rfl) (by rw [Tryz.ntmps172]; simp) (by
    have e : D_spec_l02Cut a0 a1 w K = vc P P_spec_l02Cut (codeOf Tryz.f172) (env0 [a0, a1]) w (retX P Tryz.f172.results.toList K) := by kernel_rfl
    exact e ▸ h)
def D_spec_l02Make (a0 a1 : Value) (w : World) (K : Value → World → Prop) : Prop :=
  alc P 55 w fun b c =>
  bl0 P .len #[53] 3 [a1] c fun d =>
  ∃ e : Nat → Value → World → Prop, (∃ g, e g d c) ∧ ∀ (h : Nat) (i : Value) (_ : Env) (j : World), e h i j →
  bin P .gtr 3 false true i (.int .i64 0) j fun k =>
  ∃ l : Value → World → Prop, (∀ (m : Value) (_ : Env) (n : World), l m n →
  pick k m (.bool false) fun o =>
  cnd o
  (bin P .sub 3 false true i (.int .i64 1) n fun p =>
  ∃ q, q < h ∧ e q p n)
  (bin P .eql 3 false true i (.int .i64 0) n fun r =>
  cnd r
  (bld P 55 [] n fun s =>
  sto P 55 b s n fun t =>
  ldc P 55 b t fun u =>
  K u t)
  (sli P 53 a1 none (some i) none n fun v =>
  call P f_spec_l01Own [v] n fun x y =>
  bld P 55 [(0, a0), (1, x)] y fun z =>
  sto P 55 b z y fun A =>
  ldc P 55 b A fun B =>
  K B A))) ∧
  grd k true
  (bin P .sub 3 false true i (.int .i64 1) j fun C =>
  ixa P 53 a1 C j fun D =>
  ld P 2 D j fun E =>
  bin P .eql 2 false true E (.int .i64 0) j fun F =>
  l F j)
  (l undef j)
def P_spec_l02Make : Plan := (.seq rg51 (.seq rg1 (.seq (.blk (.loop [5] 1048352 (.seq (.seq (.reg [.op (0, 0, false), .op (1, 0, false), .op (2, 0, false), .grp 2 true [(3, 0, false), (4, 0, false), (5, 0, false), (6, 0, false), (7, 0, false), (8, 0, false)] [16] 129024, .op (9, 0, false)]) (.cond .leaf .leaf)) (.blk rg1)))) (.seq (.seq rg0 (.cond (.seq rg48 .leaf) .leaf)) (.seq (.reg [.op (0, 0, false), .op (1, 0, false), .op (2, 0, false), .op (3, 0, false), .op (4, 2, false), .op (5, 0, false), .op (6, 2, false)]) .leaf)))))
theorem I_spec_l02Make {a0 a1 : Value} {w : World} {K : Value → World → Prop} (h : D_spec_l02Make a0 a1 w K) : call P f_spec_l02Make [a0, a1] w K :=
  call_of_vc mixed Tryz.func214 (c := codeOf Tryz.f214) (by kernel_rfl) (by kernel_rfl) (p := P_spec_l02Make) (by kernel_rfl) (by rw [Tryz.ntmps214]; simp) (by
    have e : D_spec_l02Make a0 a1 w K = vc P P_spec_l02Make (codeOf Tryz.f214) (env0 [a0, a1]) w (retX P Tryz.f214.results.toList K) := by kernel_rfl
    exact e ▸ h)
def D_spec_l02Neg (a0 : Value) (w : World) (K : Value → World → Prop) : Prop :=
  bx P 55 a0 w fun b c =>
  alc P 55 c fun d e =>
  fda P 55 b 0 e fun g =>
  ld P 2 g e fun h =>
  una P .neg h e fun i =>
  fda P 55 b 1 e fun j =>
  ld P 53 j e fun k =>
  call P f_spec_l02Make [i, k] e fun l m =>
  sto P 55 d l m fun n =>
  ldc P 55 d n fun o =>
  K o n
def P_spec_l02Neg : Plan := (.seq rg31 (.seq (.reg [.op (0, 0, false), .op (1, 0, false), .op (2, 0, false), .op (3, 0, false), .op (4, 0, false), .op (5, 2, false), .op (6, 2, false)]) .leaf))
theorem I_spec_l02Neg {a0 : Value} {w : World} {K : Value → World → Prop} (h : D_spec_l02Neg a0 w K) : call P f_spec_l02Neg [a0] w K :=
  call_of_vc mixed Tryz.func215 (c := codeOf Tryz.f215) (by kernel_rfl) (by kernel_rfl) (p := P_spec_l02Neg) (by kernel_rfl) (by rw [Tryz.ntmps215]; simp) (by
    have e : D_spec_l02Neg a0 w K = vc P P_spec_l02Neg (codeOf Tryz.f215) (env0 [a0]) w (retX P Tryz.f215.results.toList K) := by kernel_rfl
    exact e ▸ h)
def D_spec_l02Mul (a0 a1 : Value) (w : World) (K : Value → World → Prop) : Prop :=
  bx P 55 a0 w fun b c =>
  bx P 55 a1 c fun d e =>
  alc P 55 e fun g h =>
  fda P 55 b 1 h fun i =>
  ld P 53 i h fun j =>
  bl0 P .len #[53] 3 [j] h fun k =>
  fda P 55 d 1 h fun l =>
  ld P 53 l h fun m =>
  bl0 P .len #[53] 3 [m] h fun n =>
  bin P .add 3 false false k n h fun o =>
  bin P .add 3 false true o (.int .i64 1) h fun p =>
  mks P 53 p p h fun q r =>
  ∃ s : Nat → Value → World → Prop, (∃ t, s t (.int .i64 0) r) ∧ ∀ (u : Nat) (v : Value) (_ : Env) (x : World), s u v x →
  fda P 55 b 1 x fun y =>
  ld P 53 y x fun z =>
  bl0 P .len #[53] 3 [z] x fun A =>
  bin P .lss 3 false false v A x fun B =>
  cnd B
  (∃ C : Nat → Value → Value → World → Prop, (∃ D, C D (.int .i64 0) (.int .i64 0) x) ∧ ∀ (E : Nat) (F : Value) (G : Value) (_ : Env) (H : World), C E F G H →
  fda P 55 d 1 H fun L =>
  ld P 53 L H fun M =>
  bl0 P .len #[53] 3 [M] H fun N =>
  bin P .lss 3 false false G N H fun O =>
  cnd O
  (bin P .add 3 false false v G H fun Q =>
  ixa P 53 q Q H fun R =>
  ld P 2 R H fun S =>
  bin P .add 2 false false F S H fun T =>
  fda P 55 b 1 H fun U =>
  ld P 53 U H fun V =>
  ixa P 53 V v H fun W =>
  ld P 2 W H fun X =>
  fda P 55 d 1 H fun Y =>
  ld P 53 Y H fun Z =>
  ixa P 53 Z G H fun b0 =>
  ld P 2 b0 H fun c0 =>
  bin P .mul 2 false false X c0 H fun d0 =>
  bin P .add 2 false false T d0 H fun e0 =>
  bin P .add 3 false false v G H fun g0 =>
  bin P .rem 2 false true e0 (.int .i64 16777216) H fun h0 =>
  ixa P 53 q g0 H fun i0 =>
  sto P 2 i0 h0 H fun j0 =>
  bin P .quo 2 false true e0 (.int .i64 16777216) j0 fun k0 =>
  bin P .add 3 false true G (.int .i64 1) j0 fun l0 =>
  ∃ m0, m0 < E ∧ C m0 k0 l0 j0)
  (fda P 55 d 1 H fun n0 =>
  ld P 53 n0 H fun o0 =>
  bl0 P .len #[53] 3 [o0] H fun p0 =>
  bin P .add 3 false false v p0 H fun q0 =>
  ixa P 53 q q0 H fun r0 =>
  sto P 2 r0 F H fun s0 =>
  bin P .add 3 false true v (.int .i64 1) s0 fun t0 =>
  ∃ u0, u0 < u ∧ s u0 t0 s0))
  (fda P 55 b 0 x fun v0 =>
  ld P 2 v0 x fun x0 =>
  fda P 55 d 0 x fun y0 =>
  ld P 2 y0 x fun z0 =>
  bin P .mul 2 false false x0 z0 x fun A0 =>
  call P f_spec_l02Make [A0, q] x fun B0 C0 =>
  sto P 55 g B0 C0 fun D0 =>
  ldc P 55 g D0 fun E0 =>
  K E0 D0)
def P_spec_l02Mul : Plan := (.seq rg35 (.seq rg20 (.seq (.seq rg2 (.blk (.loop [6] 590295810358705390016 (.seq (.seq rg4 (.cond .leaf .leaf)) (.seq (.blk (.seq rg2 (.seq (.seq rg2 (.blk (.loop [7, 8] 2305843009180139904 (.seq (.seq rg4 (.cond .leaf .leaf)) (.seq (.blk (.seq (.reg [.op (0, 0, false), .op (1, 0, false), .op (2, 0, false), .op (3, 0, false), .op (4, 0, false), .op (5, 0, false), .op (6, 0, false), .op (7, 0, false), .op (8, 0, false), .op (9, 0, false), .op (10, 0, false), .op (11, 0, false), .op (12, 0, false), .op (13, 0, false), .op (14, 0, false), .op (15, 0, false), .op (16, 0, false), .op (17, 0, false), .op (18, 0, false), .op (19, 0, false), .op (20, 0, false)]) (.seq rg15 rg1))) rg1))))) rg24))) rg1))))) (.seq (.reg [.op (0, 0, false), .op (1, 0, false), .op (2, 0, false), .op (3, 0, false), .op (4, 0, false), .op (5, 0, false), .op (6, 2, false), .op (7, 2, false)]) .leaf))))
theorem I_spec_l02Mul {a0 a1 : Value} {w : World} {K : Value → World → Prop} (h : D_spec_l02Mul a0 a1 w K) : call P f_spec_l02Mul [a0, a1] w K :=
  call_of_vc mixed Tryz.func216 (c := codeOf Tryz.f216) (by kernel_rfl) (by kernel_rfl) (p := P_spec_l02Mul) (by kernel_rfl) (by rw [Tryz.ntmps216]; simp) (by
    have e : D_spec_l02Mul a0 a1 w K = vc P P_spec_l02Mul (codeOf Tryz.f216) (env0 [a0, a1]) w (retX P Tryz.f216.results.toList K) := by kernel_rfl
    exact e ▸ h)
def D_spec_l02Add (a0 a1 : Value) (w : World) (K : Value → World → Prop) : Prop :=
  bx P 55 a0 w fun b c =>
  bx P 55 a1 c fun d e =>
  alc P 55 e fun g h =>
  fda P 55 b 0 h fun i =>
  ld P 2 i h fun j =>
  bin P .eql 2 false true j (.int .i64 0) h fun k =>
  cnd k
  (fda P 55 d 0 h fun l =>
  ld P 2 l h fun m =>
  fda P 55 d 1 h fun n =>
  ld P 53 n h fun o =>
  call P f_spec_l02Make [m, o] h fun p q =>
  sto P 55 g p q fun r =>
  ldc P 55 g r fun s =>
  K s r)
  (fda P 55 d 0 h fun t =>
  ld P 2 t h fun u =>
  bin P .eql 2 false true u (.int .i64 0) h fun v =>
  cnd v
  (fda P 55 b 0 h fun x =>
  ld P 2 x h fun y =>
  fda P 55 b 1 h fun z =>
  ld P 53 z h fun A =>
  call P f_spec_l02Make [y, A] h fun B C =>
  sto P 55 g B C fun D =>
  ldc P 55 g D fun E =>
  K E D)
  (fda P 55 b 0 h fun F =>
  ld P 2 F h fun G =>
  fda P 55 d 0 h fun H =>
  ld P 2 H h fun L =>
  bin P .eql 2 false false G L h fun M =>
  cnd M
  (fda P 55 b 0 h fun N =>
  ld P 2 N h fun O =>
  fda P 55 b 1 h fun Q =>
  ld P 53 Q h fun R =>
  fda P 55 d 1 h fun S =>
  ld P 53 S h fun T =>
  call P f_spec_l02Plus [R, T] h fun U V =>
  Ext h V ∧ call P f_spec_l02Make [O, U] V fun W X =>
  sto P 55 g W X fun Y =>
  ldc P 55 g Y fun Z =>
  K Z Y)
  (fda P 55 b 1 h fun b0 =>
  ld P 53 b0 h fun c0 =>
  fda P 55 d 1 h fun d0 =>
  ld P 53 d0 h fun e0 =>
  call P f_spec_l02CompareLimbs [c0, e0] h fun g0 h0 =>
  bin P .geq 2 false true g0 (.int .i64 0) h0 fun i0 =>
  cnd i0
  (fda P 55 b 0 h0 fun j0 =>
  ld P 2 j0 h0 fun k0 =>
  fda P 55 b 1 h0 fun l0 =>
  ld P 53 l0 h0 fun m0 =>
  fda P 55 d 1 h0 fun n0 =>
  ld P 53 n0 h0 fun o0 =>
  call P f_spec_l02Minus [m0, o0] h0 fun p0 q0 =>
  Ext h0 q0 ∧ call P f_spec_l02Make [k0, p0] q0 fun r0 s0 =>
  sto P 55 g r0 s0 fun t0 =>
  ldc P 55 g t0 fun u0 =>
  K u0 t0)
  (fda P 55 d 0 h0 fun v0 =>
  ld P 2 v0 h0 fun x0 =>
  fda P 55 d 1 h0 fun y0 =>
  ld P 53 y0 h0 fun z0 =>
  fda P 55 b 1 h0 fun A0 =>
  ld P 53 A0 h0 fun B0 =>
  call P f_spec_l02Minus [z0, B0] h0 fun C0 D0 =>
  Ext h0 D0 ∧ call P f_spec_l02Make [x0, C0] D0 fun E0 F0 =>
  sto P 55 g E0 F0 fun G0 =>
  ldc P 55 g G0 fun H0 =>
  K H0 G0))))
def P_spec_l02Add : Plan := (.seq rg35 (.seq (.blk (.seq rg5 (.cond (.seq rg38 .leaf) (.seq rg5 (.cond (.seq rg38 .leaf) (.seq rg8 (.cond (.seq rg33 .leaf) (.seq rg43 (.cond (.seq rg33 .leaf) .leaf))))))))) (.seq rg33 .leaf)))
theorem I_spec_l02Add {a0 a1 : Value} {w : World} {K : Value → World → Prop} (h : D_spec_l02Add a0 a1 w K) : call P f_spec_l02Add [a0, a1] w K :=
  call_of_vc mixed Tryz.func217 (c := codeOf Tryz.f217) (by kernel_rfl) (by kernel_rfl) (p := P_spec_l02Add) (by kernel_rfl) (by rw [Tryz.ntmps217]; simp) (by
    have e : D_spec_l02Add a0 a1 w K = vc P P_spec_l02Add (codeOf Tryz.f217) (env0 [a0, a1]) w (retX P Tryz.f217.results.toList K) := by kernel_rfl
    exact e ▸ h)
def D_spec_l02Left (a0 a1 : Value) (w : World) (K : Value → World → Prop) : Prop :=
  bx P 55 a0 w fun b c =>
  alc P 55 c fun d e =>
  bin P .quo 2 false true a1 (.int .i64 24) e fun g =>
  mks P 53 g g e fun h i =>
  ∃ j : Nat → Value → Value → Value → World → Prop, (∃ k, j k h (.int .i64 0) (.int .i64 0) i) ∧ ∀ (l : Nat) (m : Value) (n : Value) (o : Value) (_ : Env) (p : World), j l m n o p →
  fda P 55 b 1 p fun q =>
  ld P 53 q p fun r =>
  bl0 P .len #[53] 3 [r] p fun s =>
  bin P .lss 3 false false o s p fun t =>
  cnd t
  (fda P 55 b 1 p fun u =>
  ld P 53 u p fun v =>
  ixa P 53 v o p fun x =>
  ld P 2 x p fun y =>
  bin P .rem 2 false true a1 (.int .i64 24) p fun z =>
  cnv P 2 178 z p fun A =>
  bin P .shl 2 false false y A p fun B =>
  bin P .add 2 false false n B p fun C =>
  bin P .rem 2 false true C (.int .i64 16777216) p fun D =>
  bsl P 53 1 [(0, D)] p fun E F =>
  bl2 P .append #[53, 53] 53 [m, E] F fun G H =>
  bin P .quo 2 false true C (.int .i64 16777216) H fun L =>
  bin P .add 3 false true o (.int .i64 1) H fun M =>
  ∃ N, N < l ∧ j N G L M H)
  (fda P 55 b 0 p fun O =>
  ld P 2 O p fun Q =>
  bsl P 53 1 [(0, n)] p fun R S =>
  Ext p S ∧ bl2 P .append #[53, 53] 53 [m, R] S fun T U =>
  (fda P 55 b 0 U fun z => z = O) ∧ (ld P 2 O U fun z => z = Q) ∧ call P f_spec_l02Make [Q, T] U fun V W =>
  sto P 55 d V W fun X =>
  ldc P 55 d X fun Y =>
  K Y X)
def P_spec_l02Left : Plan := (.seq rg31 (.seq rg7 (.seq rg2 (.seq (.seq rg2 (.blk (.loop [5, 6, 7] 68719474912 (.seq (.seq rg4 (.cond .leaf .leaf)) (.seq (.blk (.seq rg13 (.seq rg39 rg1))) rg1))))) (.seq (.reg [.op (0, 0, false), .op (1, 0, false), .op (2, 0, false), .op (3, 0, false), .op (4, 2, true), .op (5, 5, false), .op (6, 2, false), .op (7, 2, false)]) .leaf)))))
theorem I_spec_l02Left {a0 a1 : Value} {w : World} {K : Value → World → Prop} (h : D_spec_l02Left a0 a1 w K) : call P f_spec_l02Left [a0, a1] w K :=
  call_of_vc mixed Tryz.func218 (c := codeOf Tryz.f218) (by kernel_rfl) (by kernel_rfl) (p := P_spec_l02Left) (by kernel_rfl) (by rw [Tryz.ntmps218]; simp) (by
    have e : D_spec_l02Left a0 a1 w K = vc P P_spec_l02Left (codeOf Tryz.f218) (env0 [a0, a1]) w (retX P Tryz.f218.results.toList K) := by kernel_rfl
    exact e ▸ h)
def D_spec_l02Bit (a0 a1 : Value) (w : World) (K : Value → World → Prop) : Prop :=
  bx P 55 a0 w fun b c =>
  bin P .quo 2 false true a1 (.int .i64 24) c fun d =>
  fda P 55 b 1 c fun e =>
  ld P 53 e c fun g =>
  bl0 P .len #[53] 3 [g] c fun h =>
  bin P .geq 2 false false d h c fun i =>
  cnd i
  (K (.int .i64 0) c)
  (fda P 55 b 1 c fun j =>
  ld P 53 j c fun k =>
  bin P .quo 2 false true a1 (.int .i64 24) c fun l =>
  ixa P 53 k l c fun m =>
  ld P 2 m c fun n =>
  bin P .rem 2 false true a1 (.int .i64 24) c fun o =>
  cnv P 2 178 o c fun p =>
  bin P .shr 2 false false n p c fun q =>
  bin P .and 2 false true q (.int .i64 1) c fun r =>
  K r c)
def P_spec_l02Bit : Plan := (.seq rg6 (.seq (.seq rg8 (.cond (.seq rg2 .leaf) .leaf)) (.seq rg13 .leaf)))
theorem I_spec_l02Bit {a0 a1 : Value} {w : World} {K : Value → World → Prop} (h : D_spec_l02Bit a0 a1 w K) : call P f_spec_l02Bit [a0, a1] w K :=
  call_of_vc mixed Tryz.func219 (c := codeOf Tryz.f219) (by kernel_rfl) (by kernel_rfl) (p := P_spec_l02Bit) (by kernel_rfl) (by rw [Tryz.ntmps219]; simp) (by
    have e : D_spec_l02Bit a0 a1 w K = vc P P_spec_l02Bit (codeOf Tryz.f219) (env0 [a0, a1]) w (retX P Tryz.f219.results.toList K) := by kernel_rfl
    exact e ▸ h)
def D_spec_l02Read (a0 : Value) (w : World) (K : Value → World → Prop) : Prop :=
  alc P 55 w fun b c =>
  ∃ d : Value → Value → World → Prop, (∀ (e : Value) (g : Value) (_ : Env) (h : World), d e g h →
  bl0 P .len #[9] 3 [g] h fun i =>
  bin P .eql 3 false true i (.int .i64 0) h fun j =>
  ∃ k : Value → World → Prop, (∀ (l : Value) (_ : Env) (m : World), k l m →
  ∃ n : Value → World → Prop, (∀ (o : Value) (_ : Env) (p : World), n o p →
  ∃ q : Value → World → Prop, (∀ (r : Value) (_ : Env) (s : World), q r s →
  ∃ t : Value → World → Prop, (∀ (u : Value) (_ : Env) (v : World), t u v →
  ∃ x : Value → World → Prop, (∀ (y : Value) (_ : Env) (z : World), x y z →
  pick j (.bool true) y fun A =>
  cnd A
  (bld P 55 [] z fun B =>
  sto P 55 b B z fun C =>
  ldc P 55 b C fun D =>
  K (.tuple #[D, (.bool false)]) C)
  (∃ E : Nat → Value → World → Prop, (∃ F, E F (.int .i64 0) z) ∧ ∀ (G : Nat) (H : Value) (_ : Env) (L : World), E G H L →
  bl0 P .len #[9] 3 [g] L fun M =>
  bin P .lss 3 false false H M L fun N =>
  cnd N
  (idx P 9 g H L fun O =>
  bin P .lss 5 false true O (.int .u8 48) L fun Q =>
  ∃ R : Value → World → Prop, (∀ (S : Value) (_ : Env) (T : World), R S T →
  pick Q (.bool true) S fun U =>
  cnd U
  (bld P 55 [] T fun V =>
  sto P 55 b V T fun W =>
  ldc P 55 b W fun X =>
  K (.tuple #[X, (.bool false)]) W)
  (bin P .add 3 false true H (.int .i64 1) T fun Y =>
  ∃ Z, Z < G ∧ E Z Y T)) ∧
  grd Q false
  (idx P 9 g H L fun b0 =>
  bin P .gtr 5 false true b0 (.int .u8 57) L fun c0 =>
  R c0 L)
  (R undef L))
  (bsl P 53 0 [] L fun d0 e0 =>
  ∃ g0 : Nat → Value → Value → World → Prop, (∃ h0, g0 h0 d0 (.int .i64 0) e0) ∧ ∀ (i0 : Nat) (j0 : Value) (k0 : Value) (_ : Env) (l0 : World), g0 i0 j0 k0 l0 →
  bl0 P .len #[9] 3 [g] l0 fun m0 =>
  bin P .lss 3 false false k0 m0 l0 fun n0 =>
  ∃ o0 : Value → World → Prop, (∀ (p0 : Value) (_ : Env) (q0 : World), o0 p0 q0 →
  pick n0 p0 (.bool false) fun r0 =>
  cnd r0
  (idx P 9 g k0 q0 fun s0 =>
  bin P .sub 5 false true s0 (.int .u8 48) q0 fun t0 =>
  cnv P 5 2 t0 q0 fun u0 =>
  ∃ v0 : Nat → Value → Value → World → Prop, (∃ x0, v0 x0 u0 (.int .i64 0) q0) ∧ ∀ (y0 : Nat) (z0 : Value) (A0 : Value) (_ : Env) (B0 : World), v0 y0 z0 A0 B0 →
  bl0 P .len #[53] 3 [j0] B0 fun C0 =>
  bin P .lss 3 false false A0 C0 B0 fun D0 =>
  cnd D0
  (ixa P 53 j0 A0 B0 fun E0 =>
  ld P 2 E0 B0 fun F0 =>
  bin P .mul 2 true false (.int .i64 10) F0 B0 fun G0 =>
  bin P .add 2 false false z0 G0 B0 fun H0 =>
  bin P .rem 2 false true H0 (.int .i64 16777216) B0 fun L0 =>
  ixa P 53 j0 A0 B0 fun M0 =>
  sto P 2 M0 L0 B0 fun N0 =>
  bin P .quo 2 false true H0 (.int .i64 16777216) N0 fun O0 =>
  bin P .add 3 false true A0 (.int .i64 1) N0 fun Q0 =>
  ∃ R0, R0 < y0 ∧ v0 R0 O0 Q0 N0)
  (bin P .gtr 2 false true z0 (.int .i64 0) B0 fun S0 =>
  cnd S0
  (bsl P 53 1 [(0, z0)] B0 fun T0 U0 =>
  bl2 P .append #[53, 53] 53 [j0, T0] U0 fun V0 W0 =>
  bin P .add 3 false true k0 (.int .i64 1) W0 fun X0 =>
  ∃ Y0, Y0 < i0 ∧ g0 Y0 V0 X0 W0)
  (bin P .add 3 false true k0 (.int .i64 1) B0 fun Z0 =>
  ∃ b1, b1 < i0 ∧ g0 b1 j0 Z0 B0)))
  (call P f_spec_l02Make [e, j0] q0 fun c1 d1 =>
  sto P 55 b c1 d1 fun e1 =>
  ldc P 55 b e1 fun g1 =>
  K (.tuple #[g1, (.bool true)]) e1)) ∧
  grd n0 true
  (bin P .lss 3 false true k0 (.int .i64 1000) l0 fun h1 =>
  o0 h1 l0)
  (o0 undef l0)))) ∧
  grd j false
  (pick l u (.bool false) fun i1 =>
  x i1 v)
  (x undef v)) ∧
  grd l true
  (pick o (.bool true) r fun j1 =>
  t j1 s)
  (t undef s)) ∧
  grd o false
  (bin P .lss 2 false true e (.int .i64 0) p fun k1 =>
  q k1 p)
  (q undef p)) ∧
  grd l true
  (bl0 P .len #[9] 3 [g] m fun l1 =>
  bin P .gtr 3 false true l1 (.int .i64 1) m fun m1 =>
  n m1 m)
  (n undef m)) ∧
  grd j false
  (idx P 9 g (.int .i64 0) h fun n1 =>
  bin P .eql 5 false true n1 (.int .u8 48) h fun o1 =>
  k o1 h)
  (k undef h)) ∧
  (bl0 P .len #[9] 3 [a0] c fun p1 =>
  bin P .gtr 3 false true p1 (.int .i64 0) c fun q1 =>
  ∃ r1 : Value → World → Prop, (∀ (s1 : Value) (_ : Env) (t1 : World), r1 s1 t1 →
  pick q1 s1 (.bool false) fun u1 =>
  cnd u1
  (sli P 9 a0 (some (.int .i64 1)) none none t1 fun v1 =>
  d (.int .i64 (-1)) v1 t1)
  (d (.int .i64 1) a0 t1)) ∧
  grd q1 true
  (idx P 9 a0 (.int .i64 0) c fun x1 =>
  bin P .eql 5 false true x1 (.int .u8 45) c fun y1 =>
  r1 y1 c)
  (r1 undef c))
def P_spec_l02Read : Plan := (.seq rg6 (.seq rg1 (.cut [4, 5] 4190256 (.seq (.reg [.op (0, 0, false), .op (1, 0, false), .op (2, 0, false), .op (3, 0, false), .grp 3 true [(4, 0, false), (5, 0, false), (6, 0, false)] [18] 458752, .op (7, 0, false)]) (.cond (.seq rg2 rg1) .leaf)) (.seq (.seq (.reg [.op (0, 0, false), .op (1, 0, false), .op (2, 0, false), .op (3, 0, false), .grp 3 false [(4, 0, false), (5, 0, false), (6, 0, false), (7, 0, false)] [29] 1006632960, .grp 7 true [(8, 0, false), (9, 0, false), (10, 0, false), (11, 0, false)] [33] 16106127360, .grp 11 false [(12, 0, false), (13, 0, false)] [35] 51539607552, .grp 7 true [(14, 0, false)] [36] 68719476736, .grp 3 false [(15, 0, false)] [37] 137438953472, .op (16, 0, false)]) (.cond (.seq rg3 .leaf) .leaf)) (.seq (.seq rg2 (.blk (.loop [6] 144114088564228168 (.seq (.seq rg5 (.cond .leaf .leaf)) (.seq (.blk (.seq (.reg [.op (0, 0, false), .op (1, 0, false), .op (2, 0, false), .op (3, 0, false), .op (4, 0, false), .grp 4 false [(5, 0, false), (6, 0, false), (7, 0, false), (8, 0, false)] [54] 33776997205278720, .op (9, 0, false)]) (.cond (.seq rg3 .leaf) .leaf))) rg1))))) (.seq rg6 (.seq (.seq rg2 (.blk (.loop [7, 8] 633825300113826470372199892864 (.seq (.seq (.reg [.op (0, 0, false), .op (1, 0, false), .op (2, 0, false), .op (3, 0, false), .op (4, 0, false), .grp 4 true [(5, 0, false), (6, 0, false)] [64] 27670116110564327424, .op (7, 0, false)]) (.cond .leaf .leaf)) (.seq (.blk (.seq rg8 (.seq (.seq rg2 (.blk (.loop [9, 10] 9903510869550076459902567936 (.seq (.seq rg5 (.cond .leaf .leaf)) (.seq (.blk (.seq rg11 (.seq rg37 rg1))) rg1))))) (.seq rg0 (.cond rg26 .leaf))))) rg1))))) (.seq rg26 .leaf))))))))
theorem I_spec_l02Read {a0 : Value} {w : World} {K : Value → World → Prop} (h : D_spec_l02Read a0 w K) : call P f_spec_l02Read [a0] w K :=
  call_of_vc mixed Tryz.func235 (c := codeOf Tryz.f235) (by kernel_rfl) (by kernel_rfl) (p := P_spec_l02Read) (by kernel_rfl) (by rw [Tryz.ntmps235]; simp) (by
    have e : D_spec_l02Read a0 w K = vc P P_spec_l02Read (codeOf Tryz.f235) (env0 [a0]) w (retX P Tryz.f235.results.toList K) := by kernel_rfl
    exact e ▸ h)
def D_spec_l02Length (a0 : Value) (w : World) (K : Value → World → Prop) : Prop :=
  bx P 55 a0 w fun b c =>
  fda P 55 b 1 c fun d =>
  ld P 53 d c fun e =>
  bl0 P .len #[53] 3 [e] c fun g =>
  bin P .eql 2 false true g (.int .i64 0) c fun h =>
  cnd h
  (K (.int .i64 0) c)
  (bin P .sub 2 false true g (.int .i64 1) c fun i =>
  bin P .mul 2 false true i (.int .i64 24) c fun j =>
  fda P 55 b 1 c fun k =>
  ld P 53 k c fun l =>
  bin P .sub 2 false true g (.int .i64 1) c fun m =>
  ixa P 53 l m c fun n =>
  ld P 2 n c fun o =>
  ∃ p : Nat → Value → Value → World → Prop, (∃ q, p q j o c) ∧ ∀ (r : Nat) (s : Value) (t : Value) (_ : Env) (u : World), p r s t u →
  bin P .gtr 2 false true t (.int .i64 0) u fun v =>
  cnd v
  (bin P .add 2 false true s (.int .i64 1) u fun x =>
  bin P .quo 2 false true t (.int .i64 2) u fun y =>
  ∃ z, z < r ∧ p z x y u)
  (K s u))
def P_spec_l02Length : Plan := (.seq rg6 (.seq rg5 (.seq (.seq rg0 (.cond (.seq rg2 .leaf) .leaf)) (.seq rg5 (.seq (.seq rg9 (.blk (.loop [4, 5] 66060336 (.seq (.seq rg0 (.cond .leaf .leaf)) (.seq (.blk rg1) rg1))))) (.seq rg0 .leaf))))))
theorem I_spec_l02Length {a0 : Value} {w : World} {K : Value → World → Prop} (h : D_spec_l02Length a0 w K) : call P f_spec_l02Length [a0] w K :=
  call_of_vc mixed Tryz.func237 (c := codeOf Tryz.f237) (by kernel_rfl) (by kernel_rfl) (p := P_spec_l02Length) (by kernel_rfl) (by rw [Tryz.ntmps237]; simp) (by
    have e : D_spec_l02Length a0 w K = vc P P_spec_l02Length (codeOf Tryz.f237) (env0 [a0]) w (retX P Tryz.f237.results.toList K) := by kernel_rfl
    exact e ▸ h)
def D_spec_l02Plus (a0 a1 : Value) (w : World) (K : Value → World → Prop) : Prop :=
  bsl P 53 0 [] w fun b c =>
  ∃ d : Nat → Value → Value → Value → World → Prop, (∃ e, d e b (.int .i64 0) (.int .i64 0) c) ∧ ∀ (g : Nat) (h : Value) (i : Value) (j : Value) (_ : Env) (k : World), d g h i j k →
  bl0 P .len #[53] 3 [a0] k fun l =>
  bin P .lss 3 false false j l k fun m =>
  ∃ n : Value → World → Prop, (∀ (o : Value) (_ : Env) (p : World), n o p →
  pick m (.bool true) o fun q =>
  ∃ r : Value → World → Prop, (∀ (s : Value) (_ : Env) (t : World), r s t →
  pick q (.bool true) s fun u =>
  cnd u
  (∃ v : Value → World → Prop, (∀ (x : Value) (_ : Env) (y : World), v x y →
  ∃ z : Value → World → Prop, (∀ (A : Value) (_ : Env) (B : World), z A B →
  bin P .rem 2 false true A (.int .i64 16777216) B fun C =>
  bsl P 53 1 [(0, C)] B fun D E =>
  bl2 P .append #[53, 53] 53 [h, D] E fun F G =>
  bin P .quo 2 false true A (.int .i64 16777216) G fun H =>
  bin P .add 3 false true j (.int .i64 1) G fun L =>
  ∃ M, M < g ∧ d M F H L G) ∧
  (bl0 P .len #[53] 3 [a1] y fun N =>
  bin P .lss 3 false false j N y fun O =>
  cnd O
  (ixa P 53 a1 j y fun Q =>
  ld P 2 Q y fun R =>
  bin P .add 2 false false x R y fun S =>
  z S y)
  (z x y))) ∧
  (bl0 P .len #[53] 3 [a0] t fun T =>
  bin P .lss 3 false false j T t fun U =>
  cnd U
  (ixa P 53 a0 j t fun V =>
  ld P 2 V t fun W =>
  bin P .add 2 false false i W t fun X =>
  v X t)
  (v i t)))
  (K h t)) ∧
  grd q false
  (bin P .gtr 2 false true i (.int .i64 0) p fun Y =>
  r Y p)
  (r undef p)) ∧
  grd m false
  (bl0 P .len #[53] 3 [a1] k fun Z =>
  bin P .lss 3 false false j Z k fun b0 =>
  n b0 k)
  (n undef k)
def P_spec_l02Plus : Plan := (.seq rg2 (.seq rg41 (.seq (.seq rg2 (.blk (.loop [5, 6, 7] 4503599627370208 (.seq (.seq (.reg [.op (0, 0, false), .op (1, 0, false), .op (2, 0, false), .op (3, 0, false), .op (4, 0, false), .grp 4 false [(5, 0, false), (6, 0, false), (7, 0, false), (8, 0, false)] [17] 245760, .op (9, 0, false), .op (10, 0, false), .grp 10 false [(11, 0, false), (12, 0, false)] [21] 3145728, .op (13, 0, false)]) (.cond .leaf .leaf)) (.seq (.blk (.cut [6] 34326184000 (.seq rg5 (.cond rg9 .leaf)) (.cut [6] 35150012350528 (.seq rg5 (.cond rg9 .leaf)) (.seq rg39 rg1)))) rg1))))) (.seq rg0 .leaf))))
theorem I_spec_l02Plus {a0 a1 : Value} {w : World} {K : Value → World → Prop} (h : D_spec_l02Plus a0 a1 w K) : call P f_spec_l02Plus [a0, a1] w K :=
  call_of_vc mixed Tryz.func252 (c := codeOf Tryz.f252) (by kernel_rfl) (by kernel_rfl) (p := P_spec_l02Plus) (by kernel_rfl) (by rw [Tryz.ntmps252]; simp) (by
    have e : D_spec_l02Plus a0 a1 w K = vc P P_spec_l02Plus (codeOf Tryz.f252) (env0 [a0, a1]) w (retX P Tryz.f252.results.toList K) := by kernel_rfl
    exact e ▸ h)
def D_spec_l02CompareLimbs (a0 a1 : Value) (w : World) (K : Value → World → Prop) : Prop :=
  bl0 P .len #[53] 3 [a0] w fun b =>
  bl0 P .len #[53] 3 [a1] w fun c =>
  bin P .neq 3 false false b c w fun d =>
  cnd d
  (bl0 P .len #[53] 3 [a0] w fun e =>
  bl0 P .len #[53] 3 [a1] w fun g =>
  bin P .lss 3 false false e g w fun h =>
  cnd h
  (K (.int .i64 (-1)) w)
  (K (.int .i64 1) w))
  (bl0 P .len #[53] 3 [a0] w fun i =>
  bin P .sub 3 false true i (.int .i64 1) w fun j =>
  ∃ k : Nat → Value → World → Prop, (∃ l, k l j w) ∧ ∀ (m : Nat) (n : Value) (_ : Env) (o : World), k m n o →
  bin P .geq 3 false true n (.int .i64 0) o fun p =>
  cnd p
  (ixa P 53 a0 n o fun q =>
  ld P 2 q o fun r =>
  ixa P 53 a1 n o fun s =>
  ld P 2 s o fun t =>
  bin P .neq 2 false false r t o fun u =>
  cnd u
  (ixa P 53 a0 n o fun v =>
  ld P 2 v o fun x =>
  ixa P 53 a1 n o fun y =>
  ld P 2 y o fun z =>
  bin P .lss 2 false false x z o fun A =>
  cnd A
  (K (.int .i64 (-1)) o)
  (K (.int .i64 1) o))
  (bin P .sub 3 false true n (.int .i64 1) o fun B =>
  ∃ C, C < m ∧ k C B o))
  (K (.int .i64 0) o))
def P_spec_l02CompareLimbs : Plan := (.seq rg2 (.seq (.seq rg4 (.cond (.seq (.seq rg4 (.cond (.seq rg2 .leaf) .leaf)) (.seq rg2 .leaf)) .leaf)) (.seq (.seq rg5 (.blk (.loop [5] 2199022731312 (.seq (.seq rg0 (.cond .leaf .leaf)) (.seq (.blk (.seq rg17 (.cond (.seq (.seq rg17 (.cond (.seq rg2 .leaf) .leaf)) (.seq rg2 .leaf)) .leaf))) rg1))))) (.seq rg2 .leaf))))
theorem I_spec_l02CompareLimbs {a0 a1 : Value} {w : World} {K : Value → World → Prop} (h : D_spec_l02CompareLimbs a0 a1 w K) : call P f_spec_l02CompareLimbs [a0, a1] w K :=
  call_of_vc mixed Tryz.func253 (c := codeOf Tryz.f253) (by kernel_rfl) (by kernel_rfl) (p := P_spec_l02CompareLimbs) (by kernel_rfl) (by rw [Tryz.ntmps253]; simp) (by
    have e : D_spec_l02CompareLimbs a0 a1 w K = vc P P_spec_l02CompareLimbs (codeOf Tryz.f253) (env0 [a0, a1]) w (retX P Tryz.f253.results.toList K) := by kernel_rfl
    exact e ▸ h)
def D_spec_l02Minus (a0 a1 : Value) (w : World) (K : Value → World → Prop) : Prop :=
  bsl P 53 0 [] w fun b c =>
  ∃ d : Nat → Value → Value → Value → World → Prop, (∃ e, d e b (.int .i64 0) (.int .i64 0) c) ∧ ∀ (g : Nat) (h : Value) (i : Value) (j : Value) (_ : Env) (k : World), d g h i j k →
  bl0 P .len #[53] 3 [a0] k fun l =>
  bin P .lss 3 false false j l k fun m =>
  cnd m
  (ixa P 53 a0 j k fun n =>
  ld P 2 n k fun o =>
  bin P .sub 2 false false o i k fun p =>
  ∃ q : Value → World → Prop, (∀ (r : Value) (_ : Env) (s : World), q r s →
  bin P .lss 2 false true r (.int .i64 0) s fun t =>
  cnd t
  (bin P .add 2 false true r (.int .i64 16777216) s fun u =>
  bsl P 53 1 [(0, u)] s fun v x =>
  bl2 P .append #[53, 53] 53 [h, v] x fun y z =>
  bin P .add 3 false true j (.int .i64 1) z fun A =>
  ∃ B, B < g ∧ d B y (.int .i64 1) A z)
  (bsl P 53 1 [(0, r)] s fun C D =>
  bl2 P .append #[53, 53] 53 [h, C] D fun E F =>
  bin P .add 3 false true j (.int .i64 1) F fun G =>
  ∃ H, H < g ∧ d H E (.int .i64 0) G F)) ∧
  (bl0 P .len #[53] 3 [a1] k fun L =>
  bin P .lss 3 false false j L k fun M =>
  cnd M
  (ixa P 53 a1 j k fun N =>
  ld P 2 N k fun O =>
  bin P .sub 2 false false p O k fun Q =>
  q Q k)
  (q p k)))
  (K h k)
def P_spec_l02Minus : Plan := (.seq rg2 (.seq rg41 (.seq (.seq rg2 (.blk (.loop [5, 6, 7] 1099511627232 (.seq (.seq rg5 (.cond .leaf .leaf)) (.seq (.blk (.seq rg9 (.cut [8] 4290773248 (.seq rg5 (.cond rg9 .leaf)) (.seq rg2 (.seq (.seq rg0 (.cond (.seq rg1 rg2) .leaf)) rg26))))) rg1))))) (.seq rg0 .leaf))))
theorem I_spec_l02Minus {a0 a1 : Value} {w : World} {K : Value → World → Prop} (h : D_spec_l02Minus a0 a1 w K) : call P f_spec_l02Minus [a0, a1] w K :=
  call_of_vc mixed Tryz.func254 (c := codeOf Tryz.f254) (by kernel_rfl) (by kernel_rfl) (p := P_spec_l02Minus) (by kernel_rfl) (by rw [Tryz.ntmps254]; simp) (by
    have e : D_spec_l02Minus a0 a1 w K = vc P P_spec_l02Minus (codeOf Tryz.f254) (env0 [a0, a1]) w (retX P Tryz.f254.results.toList K) := by kernel_rfl
    exact e ▸ h)
end Go.Proofs.YtjompmflommadaaGreatDoor


set_option linter.unusedVariables false
set_option maxRecDepth 20000
namespace Go.Proofs.YtjompmflommadaaGreatDoor
open Go Go.Vc
def D_spec_l03Of (a0 : Value) (w : World) (K : Value → World → Prop) : Prop :=
  alc P 57 w fun b c =>
  call P f_spec_l01Parts [a0] c fun d e =>
  xtr P d 0 e fun g =>
  xtr P d 1 e fun h =>
  bin P .lss 66 false true a0 (.float .f32 0) e fun i =>
  cnd i
  (una P .neg g e fun j =>
  call P f_spec_l02Of [j] e fun k l =>
  call P f_spec_l03Make [k, h] l fun m n =>
  sto P 57 b m n fun o =>
  ldc P 57 b o fun p =>
  K p o)
  (call P f_spec_l02Of [g] e fun q r =>
  call P f_spec_l03Make [q, h] r fun s t =>
  sto P 57 b s t fun u =>
  ldc P 57 b u fun v =>
  K v u)
def P_spec_l03Of : Plan := (.seq rg51 (.seq rg10 (.seq (.seq rg0 (.cond rg1 .leaf)) (.seq (.reg [.op (0, 0, false), .op (1, 2, false), .op (2, 0, false), .op (3, 2, false), .op (4, 2, false)]) .leaf))))
theorem I_spec_l03Of {a0 : Value} {w : World} {K : Value → World → Prop} (h : D_spec_l03Of a0 w K) : call P f_spec_l03Of [a0] w K :=
  call_of_vc mixed Tryz.func118 (c := codeOf Tryz.f118) (by kernel_rfl) (by kernel_rfl) (p := P_spec_l03Of) (by kernel_rfl) (by rw [Tryz.ntmps118]; simp) (by
    have e : D_spec_l03Of a0 w K = vc P P_spec_l03Of (codeOf Tryz.f118) (env0 [a0]) w (retX P Tryz.f118.results.toList K) := by kernel_rfl
    exact e ▸ h)
def D_spec_l03Is (a0 : Value) (w : World) (K : Value → World → Prop) : Prop :=
  bx P 57 a0 w fun b c =>
  fda P 57 b 0 c fun d =>
  ld P 55 d c fun e =>
  call P f_spec_l02Is [e] c fun g h =>
  una P .not g h fun i =>
  ∃ j : Value → World → Prop, (∀ (k : Value) (_ : Env) (l : World), j k l →
  pick i (.bool true) k fun m =>
  cnd m
  (K (.bool false) l)
  (fda P 57 b 0 l fun n =>
  fda P 55 n 0 l fun o =>
  ld P 2 o l fun p =>
  bin P .eql 2 false true p (.int .i64 0) l fun q =>
  cnd q
  (fda P 57 b 1 l fun r =>
  ld P 2 r l fun s =>
  bin P .eql 2 false true s (.int .i64 0) l fun t =>
  K t l)
  (fda P 57 b 0 l fun u =>
  fda P 55 u 1 l fun v =>
  ld P 53 v l fun x =>
  ixa P 53 x (.int .i64 0) l fun y =>
  ld P 2 y l fun z =>
  bin P .rem 2 false true z (.int .i64 2) l fun A =>
  bin P .eql 2 false true A (.int .i64 1) l fun B =>
  K B l))) ∧
  grd i false
  (fda P 57 b 1 h fun C =>
  ld P 2 C h fun D =>
  call P f_spec_l01In [D, (.int .i64 (-3000)), (.int .i64 3000)] h fun E F =>
  una P .not E F fun G =>
  j G F)
  (j undef h)
def P_spec_l03Is : Plan := (.seq rg6 (.seq (.seq (.reg [.op (0, 0, false), .op (1, 0, false), .op (2, 2, false), .op (3, 0, false), .op (4, 0, false), .grp 4 false [(5, 0, false), (6, 0, false), (7, 2, false), (8, 0, false)] [11] 3840, .op (9, 0, false)]) (.cond (.seq rg2 .leaf) .leaf)) (.seq (.seq rg5 (.cond (.seq rg5 .leaf) .leaf)) (.seq rg11 .leaf))))
theorem I_spec_l03Is {a0 : Value} {w : World} {K : Value → World → Prop} (h : D_spec_l03Is a0 w K) : call P f_spec_l03Is [a0] w K :=
  call_of_vc mixed Tryz.func120 (c := codeOf Tryz.f120) (by kernel_rfl) (by kernel_rfl) (p := P_spec_l03Is) (by kernel_rfl) (by rw [Tryz.ntmps120]; simp) (by
    have e : D_spec_l03Is a0 w K = vc P P_spec_l03Is (codeOf Tryz.f120) (env0 [a0]) w (retX P Tryz.f120.results.toList K) := by kernel_rfl
    exact e ▸ h)
def D_spec_l03Make (a0 a1 : Value) (w : World) (K : Value → World → Prop) : Prop :=
  bx P 55 a0 w fun b c =>
  alc P 57 c fun d e =>
  fda P 55 b 0 e fun g =>
  ld P 2 g e fun h =>
  bin P .eql 2 false true h (.int .i64 0) e fun i =>
  cnd i
  (bld P 57 [] e fun j =>
  sto P 57 d j e fun k =>
  ldc P 57 d k fun l =>
  K l k)
  (ld P 55 b e fun m =>
  call P f_spec_l02Twos [m] e fun n o =>
  ld P 55 b o fun p =>
  call P f_spec_l02Cut [p, n] o fun q r =>
  bin P .add 2 false false a1 n r fun s =>
  bld P 57 [(0, q), (1, s)] r fun t =>
  sto P 57 d t r fun u =>
  ldc P 57 d u fun v =>
  K v u)
def P_spec_l03Make : Plan := (.seq rg31 (.seq (.seq rg1 (.cond (.seq rg48 .leaf) .leaf)) (.seq rg3 (.seq (.reg [.op (0, 0, false), .op (1, 0, false), .op (2, 2, false), .op (3, 0, false), .op (4, 0, false), .op (5, 0, false), .op (6, 0, false), .op (7, 2, false)]) .leaf))))
theorem I_spec_l03Make {a0 a1 : Value} {w : World} {K : Value → World → Prop} (h : D_spec_l03Make a0 a1 w K) : call P f_spec_l03Make [a0, a1] w K :=
  call_of_vc mixed Tryz.func121 (c := codeOf Tryz.f121) (by kernel_rfl) (by kernel_rfl) (p := P_spec_l03Make) (by kernel_rfl) (by rw [Tryz.ntmps121]; simp) (by
    have e : D_spec_l03Make a0 a1 w K = vc P P_spec_l03Make (codeOf Tryz.f121) (env0 [a0, a1]) w (retX P Tryz.f121.results.toList K) := by kernel_rfl
    exact e ▸ h)
def D_spec_l03Compare (a0 a1 : Value) (w : World) (K : Value → World → Prop) : Prop :=
  bx P 57 a0 w fun b c =>
  bx P 57 a1 c fun d e =>
  ld P 57 b e fun g =>
  ld P 57 d e fun h =>
  call P f_spec_l03Sub [g, h] e fun i j =>
  fld P 57 i 0 j fun k =>
  fld P 55 k 0 j fun l =>
  K l j
def P_spec_l03Compare : Plan := (.seq rg30 (.seq (.reg [.op (0, 0, false), .op (1, 0, false), .op (2, 2, false), .op (3, 0, false), .op (4, 0, false), .op (5, 0, false)]) .leaf))
theorem I_spec_l03Compare {a0 a1 : Value} {w : World} {K : Value → World → Prop} (h : D_spec_l03Compare a0 a1 w K) : call P f_spec_l03Compare [a0, a1] w K :=
  call_of_vc mixed Tryz.func147 (c := codeOf Tryz.f147) (by kernel_rfl) (by kernel_rfl) (p := P_spec_l03Compare) (by kernel_rfl) (by rw [Tryz.ntmps147]; simp) (by
    have e : D_spec_l03Compare a0 a1 w K = vc P P_spec_l03Compare (codeOf Tryz.f147) (env0 [a0, a1]) w (retX P Tryz.f147.results.toList K) := by kernel_rfl
    exact e ▸ h)
def D_spec_l03Neg (a0 : Value) (w : World) (K : Value → World → Prop) : Prop :=
  bx P 57 a0 w fun b c =>
  alc P 57 c fun d e =>
  fda P 57 b 0 e fun g =>
  ld P 55 g e fun h =>
  fda P 57 b 1 e fun i =>
  ld P 2 i e fun j =>
  call P f_spec_l02Neg [h] e fun k l =>
  Ext e l ∧ bld P 57 [(0, k), (1, j)] l fun m =>
  sto P 57 d m l fun n =>
  ldc P 57 d n fun o =>
  K o n
def P_spec_l03Neg : Plan := (.seq rg31 (.seq (.reg [.op (0, 0, false), .op (1, 0, false), .op (3, 0, false), .op (4, 0, false), .op (2, 2, true), .op (5, 0, false), .op (6, 2, false)]) .leaf))
theorem I_spec_l03Neg {a0 : Value} {w : World} {K : Value → World → Prop} (h : D_spec_l03Neg a0 w K) : call P f_spec_l03Neg [a0] w K :=
  call_of_vc mixed Tryz.func165 (c := codeOf Tryz.f165) (by kernel_rfl) (by kernel_rfl) (p := P_spec_l03Neg) (by kernel_rfl) (by rw [Tryz.ntmps165]; simp) (by
    have e : D_spec_l03Neg a0 w K = vc P P_spec_l03Neg (codeOf Tryz.f165) (env0 [a0]) w (retX P Tryz.f165.results.toList K) := by kernel_rfl
    exact e ▸ h)
def D_spec_l03Mul (a0 a1 : Value) (w : World) (K : Value → World → Prop) : Prop :=
  bx P 57 a0 w fun b c =>
  bx P 57 a1 c fun d e =>
  alc P 57 e fun g h =>
  fda P 57 b 0 h fun i =>
  ld P 55 i h fun j =>
  fda P 57 d 0 h fun k =>
  ld P 55 k h fun l =>
  fda P 57 b 1 h fun m =>
  ld P 2 m h fun n =>
  fda P 57 d 1 h fun o =>
  ld P 2 o h fun p =>
  bin P .add 2 false false n p h fun q =>
  call P f_spec_l02Mul [j, l] h fun r s =>
  Ext h s ∧ call P f_spec_l03Make [r, q] s fun t u =>
  sto P 57 g t u fun v =>
  ldc P 57 g v fun x =>
  K x v
def P_spec_l03Mul : Plan := (.seq rg35 (.seq (.reg [.op (0, 0, false), .op (1, 0, false), .op (2, 0, false), .op (3, 0, false), .op (5, 0, false), .op (6, 0, false), .op (7, 0, false), .op (8, 0, false), .op (9, 0, false), .op (4, 2, true), .op (10, 2, false), .op (11, 2, false)]) .leaf))
theorem I_spec_l03Mul {a0 a1 : Value} {w : World} {K : Value → World → Prop} (h : D_spec_l03Mul a0 a1 w K) : call P f_spec_l03Mul [a0, a1] w K :=
  call_of_vc mixed Tryz.func166 (c := codeOf Tryz.f166) (by kernel_rfl) (by kernel_rfl) (p := P_spec_l03Mul) (by kernel_rfl) (by rw [Tryz.ntmps166]; simp) (by
    have e : D_spec_l03Mul a0 a1 w K = vc P P_spec_l03Mul (codeOf Tryz.f166) (env0 [a0, a1]) w (retX P Tryz.f166.results.toList K) := by kernel_rfl
    exact e ▸ h)
def D_spec_l03Add (a0 a1 : Value) (w : World) (K : Value → World → Prop) : Prop :=
  bx P 57 a0 w fun b c =>
  bx P 57 a1 c fun d e =>
  alc P 57 e fun g h =>
  fda P 57 b 0 h fun i =>
  fda P 55 i 0 h fun j =>
  ld P 2 j h fun k =>
  bin P .eql 2 false true k (.int .i64 0) h fun l =>
  cnd l
  (fda P 57 d 0 h fun m =>
  ld P 55 m h fun n =>
  fda P 57 d 1 h fun o =>
  ld P 2 o h fun p =>
  call P f_spec_l03Make [n, p] h fun q r =>
  sto P 57 g q r fun s =>
  ldc P 57 g s fun t =>
  K t s)
  (fda P 57 d 0 h fun u =>
  fda P 55 u 0 h fun v =>
  ld P 2 v h fun x =>
  bin P .eql 2 false true x (.int .i64 0) h fun y =>
  cnd y
  (fda P 57 b 0 h fun z =>
  ld P 55 z h fun A =>
  fda P 57 b 1 h fun B =>
  ld P 2 B h fun C =>
  call P f_spec_l03Make [A, C] h fun D E =>
  sto P 57 g D E fun F =>
  ldc P 57 g F fun G =>
  K G F)
  (fda P 57 b 1 h fun H =>
  ld P 2 H h fun L =>
  fda P 57 d 1 h fun M =>
  ld P 2 M h fun N =>
  bl0 P .min #[2, 2] 2 [L, N] h fun O =>
  fda P 57 b 0 h fun Q =>
  ld P 55 Q h fun R =>
  fda P 57 b 1 h fun S =>
  ld P 2 S h fun T =>
  bin P .sub 2 false false T O h fun U =>
  fda P 57 d 0 h fun V =>
  ld P 55 V h fun W =>
  fda P 57 d 1 h fun X =>
  ld P 2 X h fun Y =>
  bin P .sub 2 false false Y O h fun Z =>
  call P f_spec_l02Left [R, U] h fun b0 c0 =>
  Ext h c0 ∧ call P f_spec_l02Left [W, Z] c0 fun d0 e0 =>
  call P f_spec_l02Add [b0, d0] e0 fun g0 h0 =>
  call P f_spec_l03Make [g0, O] h0 fun i0 j0 =>
  sto P 57 g i0 j0 fun k0 =>
  ldc P 57 g k0 fun l0 =>
  K l0 k0))
def P_spec_l03Add : Plan := (.seq rg35 (.seq (.seq rg5 (.cond (.seq rg38 .leaf) .leaf)) (.seq (.seq rg5 (.cond (.seq rg38 .leaf) .leaf)) (.seq rg8 (.seq (.reg [.op (0, 0, false), .op (1, 0, false), .op (2, 0, false), .op (3, 0, false), .op (4, 0, false), .op (5, 0, false), .op (7, 0, false), .op (8, 0, false), .op (9, 0, false), .op (10, 0, false), .op (11, 0, false), .op (12, 0, false), .op (15, 0, false), .op (6, 2, true), .op (13, 2, false), .op (14, 2, false), .op (16, 2, false), .op (17, 2, false)]) .leaf)))))
theorem I_spec_l03Add {a0 a1 : Value} {w : World} {K : Value → World → Prop} (h : D_spec_l03Add a0 a1 w K) : call P f_spec_l03Add [a0, a1] w K :=
  call_of_vc mixed Tryz.func168 (c := codeOf Tryz.f168) (by kernel_rfl) (by kernel_rfl) (p := P_spec_l03Add) (by kernel_rfl) (by rw [Tryz.ntmps168]; simp) (by
    have e : D_spec_l03Add a0 a1 w K = vc P P_spec_l03Add (codeOf Tryz.f168) (env0 [a0, a1]) w (retX P Tryz.f168.results.toList K) := by kernel_rfl
    exact e ▸ h)
def D_spec_l03Sub (a0 a1 : Value) (w : World) (K : Value → World → Prop) : Prop :=
  bx P 57 a0 w fun b c =>
  bx P 57 a1 c fun d e =>
  alc P 57 e fun g h =>
  ld P 57 b h fun i =>
  ld P 57 d h fun j =>
  call P f_spec_l03Neg [j] h fun k l =>
  Ext h l ∧ call P f_spec_l03Add [i, k] l fun m n =>
  sto P 57 g m n fun o =>
  ldc P 57 g o fun p =>
  K p o
def P_spec_l03Sub : Plan := (.seq rg35 (.seq (.reg [.op (0, 0, false), .op (1, 0, false), .op (2, 2, true), .op (3, 2, false), .op (4, 2, false)]) .leaf))
theorem I_spec_l03Sub {a0 a1 : Value} {w : World} {K : Value → World → Prop} (h : D_spec_l03Sub a0 a1 w K) : call P f_spec_l03Sub [a0, a1] w K :=
  call_of_vc mixed Tryz.func169 (c := codeOf Tryz.f169) (by kernel_rfl) (by kernel_rfl) (p := P_spec_l03Sub) (by kernel_rfl) (by rw [Tryz.ntmps169]; simp) (by
    have e : D_spec_l03Sub a0 a1 w K = vc P P_spec_l03Sub (codeOf Tryz.f169) (env0 [a0, a1]) w (retX P Tryz.f169.results.toList K) := by kernel_rfl
    exact e ▸ h)
def D_spec_l03Read (a0 : Value) (w : World) (K : Value → World → Prop) : Prop :=
  alc P 57 w fun b c =>
  ∃ d : Nat → Value → World → Prop, (∃ e, d e (.int .i64 0) c) ∧ ∀ (g : Nat) (h : Value) (_ : Env) (i : World), d g h i →
  bl0 P .len #[9] 3 [a0] i fun j =>
  bin P .lss 3 false false h j i fun k =>
  ∃ l : Value → World → Prop, (∀ (m : Value) (_ : Env) (n : World), l m n →
  pick k m (.bool false) fun o =>
  cnd o
  (bin P .add 3 false true h (.int .i64 1) n fun p =>
  ∃ q, q < g ∧ d q p n)
  (bl0 P .len #[9] 3 [a0] n fun r =>
  bin P .eql 3 false false h r n fun s =>
  cnd s
  (bld P 57 [] n fun t =>
  sto P 57 b t n fun u =>
  ldc P 57 b u fun v =>
  K (.tuple #[v, (.bool false)]) u)
  (sli P 9 a0 none (some h) none n fun x =>
  call P f_spec_l02Read [x] n fun y z =>
  xtr P y 0 z fun A =>
  xtr P y 1 z fun B =>
  alc P 55 z fun C D =>
  sto P 55 C A D fun E =>
  bin P .add 3 false true h (.int .i64 1) E fun F =>
  sli P 9 a0 (some F) none none E fun G =>
  call P f_spec_l02Read [G] E fun H L =>
  xtr P H 0 L fun M =>
  xtr P H 1 L fun N =>
  alc P 55 L fun O Q =>
  sto P 55 O M Q fun R =>
  una P .not B R fun S =>
  ∃ T : Value → World → Prop, (∀ (U : Value) (_ : Env) (V : World), T U V →
  pick S (.bool true) U fun W =>
  ∃ X : Value → World → Prop, (∀ (Y : Value) (_ : Env) (Z : World), X Y Z →
  pick W (.bool true) Y fun b0 =>
  ∃ c0 : Value → World → Prop, (∀ (d0 : Value) (_ : Env) (e0 : World), c0 d0 e0 →
  pick b0 (.bool true) d0 fun g0 =>
  cnd g0
  (bld P 57 [] e0 fun h0 =>
  sto P 57 b h0 e0 fun i0 =>
  ldc P 57 b i0 fun j0 =>
  K (.tuple #[j0, (.bool false)]) i0)
  (ld P 55 C e0 fun k0 =>
  bld P 57 [(0, k0)] e0 fun l0 =>
  alc P 57 e0 fun m0 n0 =>
  sto P 57 m0 l0 n0 fun o0 =>
  fda P 55 O 1 o0 fun p0 =>
  ld P 53 p0 o0 fun q0 =>
  bl0 P .len #[53] 3 [q0] o0 fun r0 =>
  bin P .eql 3 false true r0 (.int .i64 1) o0 fun s0 =>
  cnd s0
  (fda P 55 O 0 o0 fun t0 =>
  ld P 2 t0 o0 fun u0 =>
  fda P 55 O 1 o0 fun v0 =>
  ld P 53 v0 o0 fun x0 =>
  ixa P 53 x0 (.int .i64 0) o0 fun y0 =>
  ld P 2 y0 o0 fun z0 =>
  bin P .mul 2 false false u0 z0 o0 fun A0 =>
  fda P 57 m0 1 o0 fun B0 =>
  sto P 2 B0 A0 o0 fun C0 =>
  ld P 57 m0 C0 fun D0 =>
  ld P 57 m0 C0 fun E0 =>
  call P f_spec_l03Is [E0] C0 fun F0 G0 =>
  Ext C0 G0 ∧ sto P 57 b D0 G0 fun H0 =>
  ldc P 57 b H0 fun L0 =>
  K (.tuple #[L0, F0]) H0)
  (ld P 57 m0 o0 fun M0 =>
  ld P 57 m0 o0 fun N0 =>
  call P f_spec_l03Is [N0] o0 fun O0 Q0 =>
  Ext o0 Q0 ∧ sto P 57 b M0 Q0 fun R0 =>
  ldc P 57 b R0 fun S0 =>
  K (.tuple #[S0, O0]) R0))) ∧
  grd b0 false
  (fda P 55 O 1 Z fun T0 =>
  ld P 53 T0 Z fun U0 =>
  bl0 P .len #[53] 3 [U0] Z fun V0 =>
  bin P .gtr 3 false true V0 (.int .i64 1) Z fun W0 =>
  c0 W0 Z)
  (c0 undef Z)) ∧
  grd W false
  (ld P 55 C V fun X0 =>
  call P f_spec_l02Is [X0] V fun Y0 Z0 =>
  una P .not Y0 Z0 fun b1 =>
  X b1 Z0)
  (X undef V)) ∧
  grd S false
  (una P .not N R fun c1 =>
  T c1 R)
  (T undef R)))) ∧
  grd k true
  (idx P 9 a0 h i fun d1 =>
  bin P .neq 5 false true d1 (.int .u8 112) i fun e1 =>
  l e1 i)
  (l undef i)
def P_spec_l03Read : Plan := (.seq rg6 (.seq rg2 (.seq (.blk (.loop [4] 4193296 (.seq (.seq (.reg [.op (0, 0, false), .op (1, 0, false), .op (2, 0, false), .op (3, 0, false), .op (4, 0, false), .grp 4 true [(5, 0, false), (6, 0, false), (7, 0, false), (8, 0, false)] [18] 491520, .op (9, 0, false)]) (.cond .leaf .leaf)) (.blk rg1)))) (.seq (.seq rg5 (.cond (.seq rg3 .leaf) .leaf)) (.seq rg14 (.seq rg16 (.seq (.seq (.reg [.op (0, 0, false), .op (1, 0, false), .op (2, 0, false), .grp 2 false [(3, 0, false), (4, 0, false)] [46] 105553116266496, .op (5, 0, false), .op (6, 0, false), .grp 6 false [(7, 0, false), (8, 2, false), (9, 0, false)] [51] 3940649673949184, .op (10, 0, false), .op (11, 0, false), .grp 11 false [(12, 0, false), (13, 0, false), (14, 0, false), (15, 0, false)] [57] 270215977642229760, .op (16, 0, false)]) (.cond (.seq rg3 .leaf) .leaf)) (.seq rg50 (.seq (.seq rg5 (.cond rg24 .leaf)) (.seq (.reg [.op (0, 0, false), .op (1, 0, false), .op (2, 2, true), .op (3, 2, false), .op (4, 0, false)]) .leaf))))))))))
theorem I_spec_l03Read {a0 : Value} {w : World} {K : Value → World → Prop} (h : D_spec_l03Read a0 w K) : call P f_spec_l03Read [a0] w K :=
  call_of_vc mixed Tryz.func191 (c := codeOf Tryz.f191) (by kernel_rfl) (by kernel_rfl) (p := P_spec_l03Read) (by kernel_rfl) (by rw [Tryz.ntmps191]; simp) (by
    have e : D_spec_l03Read a0 w K = vc P P_spec_l03Read (codeOf Tryz.f191) (env0 [a0]) w (retX P Tryz.f191.results.toList K) := by kernel_rfl
    exact e ▸ h)
def D_spec_l03Round (a0 a1 : Value) (w : World) (K : Value → World → Prop) : Prop :=
  bx P 57 a0 w fun b c =>
  fda P 57 b 0 c fun d =>
  fda P 55 d 0 c fun e =>
  ld P 2 e c fun g =>
  bin P .eql 2 false true g (.int .i64 0) c fun h =>
  cnd h
  (K (.tuple #[(.float .f32 0), (.int .i64 0)]) c)
  (ld P 57 b c fun i =>
  call P f_spec_l03Multiple [i, a1] c fun j k =>
  xtr P j 0 k fun l =>
  xtr P j 1 k fun m =>
  xtr P j 2 k fun n =>
  alc P 55 k fun o p =>
  sto P 55 o l p fun q =>
  ld P 55 o q fun r =>
  call P f_spec_l02Length [r] q fun s t =>
  bin P .add 2 false false s m t fun u =>
  bin P .gtr 2 false true u (.int .i64 128) t fun v =>
  cnd v
  (fda P 57 b 0 t fun x =>
  fda P 55 x 0 t fun y =>
  ld P 2 y t fun z =>
  call P f_spec_l03Over [z, a1] t fun A B =>
  K (.tuple #[A, (.int .i64 5)]) B)
  (fda P 55 o 1 t fun C =>
  ld P 53 C t fun D =>
  bl0 P .len #[53] 3 [D] t fun E =>
  bin P .sub 3 false true E (.int .i64 1) t fun F =>
  ∃ G : Nat → Value → Value → World → Prop, (∃ H, G H (.float .f64 0) F t) ∧ ∀ (L : Nat) (M : Value) (N : Value) (_ : Env) (O : World), G L M N O →
  bin P .geq 3 false true N (.int .i64 0) O fun Q =>
  cnd Q
  (rbin P .mul 117 false true M (.float .f64 4715268809856909312) O fun R =>
  fda P 55 o 1 O fun S =>
  ld P 53 S O fun T =>
  ixa P 53 T N O fun U =>
  ld P 2 U O fun V =>
  cnv P 2 117 V O fun W =>
  rbin P .add 117 false false R W O fun X =>
  bin P .sub 3 false true N (.int .i64 1) O fun Y =>
  ∃ Z, Z < L ∧ G Z X Y O)
  (call P f_spec_l01Twos [M, m] O fun b0 c0 =>
  rcnv P 117 66 b0 c0 fun d0 =>
  ∃ e0 : Value → World → Prop, (∀ (g0 : Value) (_ : Env) (h0 : World), e0 g0 h0 →
  fda P 57 b 0 h0 fun i0 =>
  fda P 55 i0 0 h0 fun j0 =>
  ld P 2 j0 h0 fun k0 =>
  bin P .lss 2 false true k0 (.int .i64 0) h0 fun l0 =>
  cnd l0
  (call P f_spec_l01Turned [d0] h0 fun m0 n0 =>
  K (.tuple #[m0, g0]) n0)
  (K (.tuple #[d0, g0]) h0)) ∧
  (una P .not n c0 fun o0 =>
  cnd o0
  (fda P 57 b 0 c0 fun p0 =>
  ld P 55 p0 c0 fun q0 =>
  fda P 57 b 1 c0 fun r0 =>
  ld P 2 r0 c0 fun s0 =>
  call P f_spec_l02Length [q0] c0 fun t0 u0 =>
  Ext c0 u0 ∧ bin P .add 2 false false t0 s0 u0 fun v0 =>
  bin P .leq 2 false true v0 (.int .i64 (-126)) u0 fun x0 =>
  cnd x0
  (bin P .add 2 false true (.int .i64 1) (.int .i64 2) u0 fun y0 =>
  e0 y0 u0)
  (e0 (.int .i64 1) u0))
  (e0 (.int .i64 0) c0)))))
def P_spec_l03Round : Plan := (.seq rg41 (.seq (.seq rg5 (.cond (.seq rg0 .leaf) .leaf)) (.seq (.reg [.op (0, 0, false), .op (1, 0, false), .op (2, 2, false), .op (3, 0, false), .op (4, 0, false), .op (5, 0, false), .op (6, 0, false), .op (7, 2, false), .op (8, 2, false), .op (9, 0, false), .op (10, 0, false)]) (.seq (.seq rg34 (.cond (.seq rg43 .leaf) .leaf)) (.seq rg2 (.seq (.seq rg4 (.blk (.loop [9, 10] 2251524935779840 (.seq (.seq rg0 (.cond .leaf .leaf)) (.seq (.blk (.reg [.op (0, 0, false), .op (1, 1, false), .op (2, 0, false), .op (3, 0, false), .op (4, 0, false), .op (5, 0, false), .op (6, 0, false), .op (7, 0, false), .op (8, 1, false), .op (9, 0, false)])) rg1))))) (.seq (.reg [.op (0, 0, false), .op (1, 0, false), .op (2, 2, false), .op (3, 1, false), .op (4, 0, false), .op (5, 0, false)]) (.cut [12] 73750947497819246592 (.seq rg0 (.cond (.seq rg2 (.seq (.reg [.op (0, 0, false), .op (1, 0, false), .op (3, 0, false), .op (4, 0, false), .op (2, 2, true), .op (5, 0, false), .op (6, 0, false)]) (.cond rg1 .leaf))) .leaf)) (.seq (.seq rg5 (.cond rg3 .leaf)) (.seq rg5 .leaf))))))))))
theorem I_spec_l03Round {a0 a1 : Value} {w : World} {K : Value → World → Prop} (h : D_spec_l03Round a0 a1 w K) : call P f_spec_l03Round [a0, a1] w K :=
  call_of_vc mixed Tryz.func192 (c := codeOf Tryz.f192) (by kernel_rfl) (by kernel_rfl) (p := P_spec_l03Round) (by kernel_rfl) (by rw [Tryz.ntmps192]; simp) (by
    have e : D_spec_l03Round a0 a1 w K = vc P P_spec_l03Round (codeOf Tryz.f192) (env0 [a0, a1]) w (retX P Tryz.f192.results.toList K) := by kernel_rfl
    exact e ▸ h)
def D_spec_l03Multiple (a0 a1 : Value) (w : World) (K : Value → World → Prop) : Prop :=
  bx P 57 a0 w fun b c =>
  alc P 55 c fun d e =>
  fda P 57 b 0 e fun g =>
  ld P 55 g e fun h =>
  call P f_spec_l02Abs [h] e fun i j =>
  alc P 55 j fun k l =>
  sto P 55 k i l fun m =>
  ld P 55 k m fun n =>
  fda P 57 b 1 m fun o =>
  ld P 2 o m fun p =>
  call P f_spec_l02Length [n] m fun q r =>
  Ext m r ∧ bin P .add 2 false false q p r fun s =>
  bin P .sub 2 false true s (.int .i64 24) r fun t =>
  bl0 P .max #[2, 2] 2 [t, (.int .i64 (-149))] r fun u =>
  fda P 57 b 1 r fun v =>
  ld P 2 v r fun x =>
  bin P .sub 2 false false u x r fun y =>
  bin P .leq 2 false true y (.int .i64 0) r fun z =>
  cnd z
  (ld P 55 k r fun A =>
  una P .neg y r fun B =>
  call P f_spec_l02Left [A, B] r fun C D =>
  sto P 55 d C D fun E =>
  ldc P 55 d E fun F =>
  K (.tuple #[F, u, (.bool true)]) E)
  (ld P 55 k r fun G =>
  call P f_spec_l02Cut [G, y] r fun H L =>
  alc P 55 L fun M N =>
  sto P 55 M H N fun O =>
  ∃ Q : Value → World → Prop, (∀ (R : Value) (_ : Env) (S : World), Q R S →
  cnd R
  (ld P 55 M S fun T =>
  call P f_spec_l02Of [(.int .i64 1)] S fun U V =>
  Ext S V ∧ call P f_spec_l02Add [T, U] V fun W X =>
  sto P 55 M W X fun Y =>
  ld P 55 M Y fun Z =>
  sto P 55 d Z Y fun b0 =>
  ldc P 55 d b0 fun c0 =>
  K (.tuple #[c0, u, (.bool false)]) b0)
  (ld P 55 M S fun d0 =>
  sto P 55 d d0 S fun e0 =>
  ldc P 55 d e0 fun g0 =>
  K (.tuple #[g0, u, (.bool false)]) e0)) ∧
  (bin P .eql 2 false true a1 (.int .i64 0) O fun h0 =>
  cnd h0
  (ld P 55 k O fun i0 =>
  bin P .sub 2 false true y (.int .i64 1) O fun j0 =>
  call P f_spec_l02Bit [i0, j0] O fun k0 l0 =>
  bin P .eql 2 false true k0 (.int .i64 1) l0 fun m0 =>
  ∃ n0 : Value → World → Prop, (∀ (o0 : Value) (_ : Env) (p0 : World), n0 o0 p0 →
  ∃ q0 : Value → World → Prop, (∀ (r0 : Value) (_ : Env) (s0 : World), q0 r0 s0 →
  ∃ t0 : Value → World → Prop, (∀ (u0 : Value) (_ : Env) (v0 : World), t0 u0 v0 →
  pick m0 u0 (.bool false) fun x0 =>
  Q x0 v0) ∧
  grd m0 true
  (pick o0 (.bool true) r0 fun y0 =>
  t0 y0 s0)
  (t0 undef s0)) ∧
  grd o0 false
  (ld P 55 M p0 fun z0 =>
  call P f_spec_l02Bit [z0, (.int .i64 0)] p0 fun A0 B0 =>
  bin P .eql 2 false true A0 (.int .i64 1) B0 fun C0 =>
  q0 C0 B0)
  (q0 undef p0)) ∧
  grd m0 true
  (bin P .gtr 2 false true y (.int .i64 1) l0 fun D0 =>
  n0 D0 l0)
  (n0 undef l0))
  (bin P .eql 2 false true a1 (.int .i64 1) O fun E0 =>
  cnd E0
  (fda P 57 b 0 O fun F0 =>
  fda P 55 F0 0 O fun G0 =>
  ld P 2 G0 O fun H0 =>
  bin P .lss 2 false true H0 (.int .i64 0) O fun L0 =>
  Q L0 O)
  (bin P .eql 2 false true a1 (.int .i64 2) O fun M0 =>
  cnd M0
  (fda P 57 b 0 O fun N0 =>
  fda P 55 N0 0 O fun O0 =>
  ld P 2 O0 O fun Q0 =>
  bin P .gtr 2 false true Q0 (.int .i64 0) O fun R0 =>
  Q R0 O)
  (bin P .eql 2 false true a1 (.int .i64 4) O fun S0 =>
  cnd S0
  (Q (.bool true) O)
  (Q (.bool false) O))))))
def P_spec_l03Multiple : Plan := (.seq (.reg [.op (0, 2, false), .op (1, 2, false), .op (2, 0, false), .op (3, 0, false)]) (.seq (.reg [.op (0, 0, false), .op (1, 0, false), .op (2, 2, false), .op (3, 2, false), .op (4, 2, false)]) (.seq (.reg [.op (0, 0, false), .op (2, 0, false), .op (3, 0, false), .op (1, 2, true), .op (4, 0, false), .op (5, 0, false), .op (6, 0, false), .op (7, 0, false)]) (.seq rg4 (.seq (.seq rg0 (.cond (.seq (.reg [.op (0, 0, false), .op (1, 0, false), .op (2, 0, false), .op (3, 2, false), .op (4, 0, false), .op (5, 2, false), .op (6, 0, false), .op (7, 0, false)]) .leaf) .leaf)) (.seq (.reg [.op (0, 0, false), .op (1, 0, false), .op (2, 2, false), .op (3, 2, false), .op (4, 2, false), .op (5, 0, false)]) (.cut [11] 147573952520956938240 (.seq rg2 (.blk (.seq rg0 (.cond (.reg [.op (0, 0, false), .op (1, 0, false), .op (2, 0, false), .op (3, 2, false), .op (4, 0, false), .op (5, 0, false), .grp 5 true [(6, 0, false), (7, 0, false), (8, 0, false)] [47] 246290604621824, .grp 8 false [(9, 0, false), (10, 2, false), (11, 0, false)] [50] 1970324836974592, .grp 5 true [(12, 0, false)] [51] 2251799813685248, .op (13, 0, false), .op (14, 0, false)]) (.seq rg0 (.cond rg4 (.seq rg0 (.cond rg4 (.seq rg0 (.cond rg2 .leaf)))))))))) (.seq (.seq rg2 (.cond (.reg [.op (0, 0, false), .op (1, 2, true), .op (2, 2, false), .op (3, 2, false)]) .leaf)) (.seq rg47 .leaf)))))))))
theorem I_spec_l03Multiple {a0 a1 : Value} {w : World} {K : Value → World → Prop} (h : D_spec_l03Multiple a0 a1 w K) : call P f_spec_l03Multiple [a0, a1] w K :=
  call_of_vc mixed Tryz.func236 (c := codeOf Tryz.f236) (by kernel_rfl) (by kernel_rfl) (p := P_spec_l03Multiple) (by kernel_rfl) (by rw [Tryz.ntmps236]; simp) (by
    have e : D_spec_l03Multiple a0 a1 w K = vc P P_spec_l03Multiple (codeOf Tryz.f236) (env0 [a0, a1]) w (retX P Tryz.f236.results.toList K) := by kernel_rfl
    exact e ▸ h)
def D_spec_l03Over (a0 a1 : Value) (w : World) (K : Value → World → Prop) : Prop :=
  call P f_spec_l01Huge [] w fun b c =>
  ∃ d : Value → World → Prop, (∀ (e : Value) (_ : Env) (g : World), d e g →
  bin P .lss 2 false true a0 (.int .i64 0) g fun h =>
  cnd h
  (una P .neg e g fun i =>
  K i g)
  (K e g)) ∧
  (bin P .eql 2 false true a1 (.int .i64 3) c fun j =>
  ∃ k : Value → World → Prop, (∀ (l : Value) (_ : Env) (m : World), k l m →
  ∃ n : Value → World → Prop, (∀ (o : Value) (_ : Env) (p : World), n o p →
  ∃ q : Value → World → Prop, (∀ (r : Value) (_ : Env) (s : World), q r s →
  pick j (.bool true) r fun t =>
  ∃ u : Value → World → Prop, (∀ (v : Value) (_ : Env) (x : World), u v x →
  ∃ y : Value → World → Prop, (∀ (z : Value) (_ : Env) (A : World), y z A →
  ∃ B : Value → World → Prop, (∀ (C : Value) (_ : Env) (D : World), B C D →
  pick t (.bool true) C fun E =>
  cnd E
  (call P f_spec_l01At [(.int .i64 2139095039)] D fun F G =>
  d F G)
  (d b D)) ∧
  grd t false
  (pick v z (.bool false) fun H =>
  B H A)
  (B undef A)) ∧
  grd v true
  (bin P .lss 2 false true a0 (.int .i64 0) x fun L =>
  y L x)
  (y undef x)) ∧
  grd t false
  (bin P .eql 2 false true a1 (.int .i64 2) s fun M =>
  u M s)
  (u undef s)) ∧
  grd j false
  (pick l o (.bool false) fun N =>
  q N p)
  (q undef p)) ∧
  grd l true
  (bin P .gtr 2 false true a0 (.int .i64 0) m fun O =>
  n O m)
  (n undef m)) ∧
  grd j false
  (bin P .eql 2 false true a1 (.int .i64 1) c fun Q =>
  k Q c)
  (k undef c))
def P_spec_l03Over : Plan := (.seq rg2 (.seq rg6 (.cut [5] 67108768 (.seq (.reg [.op (0, 0, false), .op (1, 0, false), .op (2, 0, false), .grp 2 false [(3, 0, false), (4, 0, false), (5, 0, false)] [12] 7168, .grp 5 true [(6, 0, false), (7, 0, false)] [14] 24576, .grp 2 false [(8, 0, false)] [15] 32768, .op (9, 0, false), .op (10, 0, false), .grp 10 false [(11, 0, false), (12, 0, false), (13, 0, false)] [20] 1835008, .grp 13 true [(14, 0, false), (15, 0, false)] [22] 6291456, .grp 10 false [(16, 0, false)] [23] 8388608, .op (17, 0, false)]) (.cond rg6 .leaf)) (.seq (.seq rg0 (.cond (.seq rg1 .leaf) .leaf)) (.seq rg0 .leaf)))))
theorem I_spec_l03Over {a0 a1 : Value} {w : World} {K : Value → World → Prop} (h : D_spec_l03Over a0 a1 w K) : call P f_spec_l03Over [a0, a1] w K :=
  call_of_vc mixed Tryz.func238 (c := codeOf Tryz.f238) (by kernel_rfl) (by kernel_rfl) (p := P_spec_l03Over) (by kernel_rfl) (by rw [Tryz.ntmps238]; simp) (by
    have e : D_spec_l03Over a0 a1 w K = vc P P_spec_l03Over (codeOf Tryz.f238) (env0 [a0, a1]) w (retX P Tryz.f238.results.toList K) := by kernel_rfl
    exact e ▸ h)
end Go.Proofs.YtjompmflommadaaGreatDoor


set_option linter.unusedVariables false
set_option maxRecDepth 20000
namespace Go.Proofs.YtjompmflommadaaGreatDoor
open Go Go.Vc
def D_math_Ldexp (a0 a1 : Value) (w : World) (K : Value → World → Prop) : Prop :=
  cnd (.bool false)
  (call P f_math_archLdexp [a0, a1] w fun b c =>
  K b c)
  (call P f_math_ldexp [a0, a1] w fun d e =>
  K d e)
def P_math_Ldexp : Plan := (.seq rg2 (.seq (.cond (.seq rg7 .leaf) .leaf) (.seq rg7 .leaf)))
theorem I_math_Ldexp {a0 a1 : Value} {w : World} {K : Value → World → Prop} (h : D_math_Ldexp a0 a1 w K) : call P f_math_Ldexp [a0, a1] w K :=
  call_of_vc mixed Tryz.func267 (c := codeOf Tryz.f267) (by kernel_rfl) (by kernel_rfl) (p := P_math_Ldexp) (by kernel_rfl) (by rw [Tryz.ntmps267]; simp) (by
    have e : D_math_Ldexp a0 a1 w K = vc P P_math_Ldexp (codeOf Tryz.f267) (env0 [a0, a1]) w (retX P Tryz.f267.results.toList K) := by kernel_rfl
    exact e ▸ h)
def D_math_Inf (a0 : Value) (w : World) (K : Value → World → Prop) : Prop :=
  bin P .geq 3 false true a0 (.int .i64 0) w fun b =>
  cnd b
  (call P f_math_Float64frombits [(.int .u64 9218868437227405312)] w fun c d =>
  K c d)
  (call P f_math_Float64frombits [(.int .u64 18442240474082181120)] w fun e g =>
  K e g)
def P_math_Inf : Plan := (.seq rg2 (.seq rg2 (.seq (.seq rg0 (.cond rg2 rg2)) (.seq rg3 .leaf))))
theorem I_math_Inf {a0 : Value} {w : World} {K : Value → World → Prop} (h : D_math_Inf a0 w K) : call P f_math_Inf [a0] w K :=
  call_of_vc mixed Tryz.func282 (c := codeOf Tryz.f282) (by kernel_rfl) (by kernel_rfl) (p := P_math_Inf) (by kernel_rfl) (by rw [Tryz.ntmps282]; simp) (by
    have e : D_math_Inf a0 w K = vc P P_math_Inf (codeOf Tryz.f282) (env0 [a0]) w (retX P Tryz.f282.results.toList K) := by kernel_rfl
    exact e ▸ h)
def D_math_ldexp (a0 a1 : Value) (w : World) (K : Value → World → Prop) : Prop :=
  bin P .eql 117 false true a0 (.float .f64 0) w fun b =>
  cnd b
  (K a0 w)
  (call P f_math_IsInf [a0, (.int .i64 0)] w fun c d =>
  ∃ e : Value → World → Prop, (∀ (g : Value) (_ : Env) (h : World), e g h →
  pick c (.bool true) g fun i =>
  cnd i
  (K a0 h)
  (call P f_math_normalize [a0] h fun j k =>
  xtr P j 0 k fun l =>
  xtr P j 1 k fun m =>
  bin P .add 3 false false a1 m k fun n =>
  call P f_math_Float64bits [l] k fun o p =>
  bin P .shr 178 false true o (.int .u64 52) p fun q =>
  cnv P 178 3 q p fun r =>
  bin P .and 3 false true r (.int .i64 2047) p fun s =>
  bin P .sub 3 false true s (.int .i64 1023) p fun t =>
  bin P .add 3 false false n t p fun u =>
  bin P .lss 3 false true u (.int .i64 (-1075)) p fun v =>
  cnd v
  (call P f_math_Copysign [(.float .f64 0), l] p fun x y =>
  K x y)
  (bin P .gtr 3 false true u (.int .i64 1023) p fun z =>
  cnd z
  (bin P .lss 117 false true l (.float .f64 0) p fun A =>
  cnd A
  (call P f_math_Inf [(.int .i64 (-1))] p fun B C =>
  K B C)
  (call P f_math_Inf [(.int .i64 1)] p fun D E =>
  K D E))
  (∃ F : Value → Value → World → Prop, (∀ (G : Value) (H : Value) (_ : Env) (L : World), F G H L →
  bin P .andNot 178 false true o (.int .u64 9218868437227405312) L fun M =>
  bin P .add 3 false true G (.int .i64 1023) L fun N =>
  cnv P 3 178 N L fun O =>
  bin P .shl 178 false true O (.int .u64 52) L fun Q =>
  bin P .or 178 false false M Q L fun R =>
  call P f_math_Float64frombits [R] L fun S T =>
  rbin P .mul 117 false false H S T fun U =>
  K U T) ∧
  (bin P .lss 3 false true u (.int .i64 (-1022)) p fun V =>
  cnd V
  (bin P .add 3 false true u (.int .i64 53) p fun W =>
  F W (.float .f64 4368491638549381120) p)
  (F u (.float .f64 4607182418800017408) p)))))) ∧
  grd c false
  (call P f_math_IsNaN [a0] d fun X Y =>
  e X Y)
  (e undef d))
def P_math_ldexp : Plan := (.seq rg2 (.seq (.blk (.seq rg1 (.cond (.seq rg0 .leaf) (.seq (.reg [.op (0, 0, false), .op (1, 2, false), .op (2, 0, false), .grp 2 false [(3, 0, false), (4, 2, false)] [17] 196608, .op (5, 0, false), .op (6, 0, false)]) (.cond (.seq rg0 .leaf) .leaf))))) (.seq rg10 (.seq rg5 (.seq rg3 (.seq rg11 (.seq (.seq rg0 (.cond (.seq rg3 .leaf) .leaf)) (.seq (.seq rg0 (.cond (.seq (.seq rg0 (.cond (.seq rg6 .leaf) .leaf)) (.seq rg6 .leaf)) .leaf)) (.seq rg2 (.cut [1, 7] 2111062325330050 (.seq rg0 (.cond (.seq rg1 rg2) .leaf)) (.seq rg1 (.seq rg9 (.seq (.reg [.op (0, 0, false), .op (1, 0, false), .op (2, 2, false), .op (3, 1, false), .op (4, 0, false)]) .leaf)))))))))))))
theorem I_math_ldexp {a0 a1 : Value} {w : World} {K : Value → World → Prop} (h : D_math_ldexp a0 a1 w K) : call P f_math_ldexp [a0, a1] w K :=
  call_of_vc mixed Tryz.func284 (c := codeOf Tryz.f284) (by kernel_rfl) (by kernel_rfl) (p := P_math_ldexp) (by kernel_rfl) (by rw [Tryz.ntmps284]; simp) (by
    have e : D_math_ldexp a0 a1 w K = vc P P_math_ldexp (codeOf Tryz.f284) (env0 [a0, a1]) w (retX P Tryz.f284.results.toList K) := by kernel_rfl
    exact e ▸ h)
def D_math_IsInf (a0 a1 : Value) (w : World) (K : Value → World → Prop) : Prop :=
  bin P .eql 3 false true a1 (.int .i64 0) w fun b =>
  cnd b
  (call P f_math_Abs [a0] w fun c d =>
  bin P .gtr 117 false true c (.float .f64 9218868437227405311) d fun e =>
  K e d)
  (bin P .lss 3 false true a1 (.int .i64 0) w fun g =>
  cnd g
  (una P .neg a0 w fun h =>
  bin P .gtr 117 false true h (.float .f64 9218868437227405311) w fun i =>
  K i w)
  (bin P .gtr 117 false true a0 (.float .f64 9218868437227405311) w fun j =>
  K j w))
def P_math_IsInf : Plan := (.seq rg2 (.seq (.seq rg0 (.cond rg3 (.seq rg0 (.cond rg1 .leaf)))) (.seq rg1 .leaf)))
theorem I_math_IsInf {a0 a1 : Value} {w : World} {K : Value → World → Prop} (h : D_math_IsInf a0 a1 w K) : call P f_math_IsInf [a0, a1] w K :=
  call_of_vc mixed Tryz.func293 (c := codeOf Tryz.f293) (by kernel_rfl) (by kernel_rfl) (p := P_math_IsInf) (by kernel_rfl) (by rw [Tryz.ntmps293]; simp) (by
    have e : D_math_IsInf a0 a1 w K = vc P P_math_IsInf (codeOf Tryz.f293) (env0 [a0, a1]) w (retX P Tryz.f293.results.toList K) := by kernel_rfl
    exact e ▸ h)
def D_math_IsNaN (a0 : Value) (w : World) (K : Value → World → Prop) : Prop :=
  bin P .neq 117 false false a0 a0 w fun b =>
  K b w
def P_math_IsNaN : Plan := (.seq rg2 (.seq rg5 .leaf))
theorem I_math_IsNaN {a0 : Value} {w : World} {K : Value → World → Prop} (h : D_math_IsNaN a0 w K) : call P f_math_IsNaN [a0] w K :=
  call_of_vc mixed Tryz.func294 (c := codeOf Tryz.f294) (by kernel_rfl) (by kernel_rfl) (p := P_math_IsNaN) (by kernel_rfl) (by rw [Tryz.ntmps294]; simp) (by
    have e : D_math_IsNaN a0 w K = vc P P_math_IsNaN (codeOf Tryz.f294) (env0 [a0]) w (retX P Tryz.f294.results.toList K) := by kernel_rfl
    exact e ▸ h)
def D_math_normalize (a0 : Value) (w : World) (K : Value → World → Prop) : Prop :=
  call P f_math_Abs [a0] w fun b c =>
  bin P .lss 117 false true b (.float .f64 4503599627370496) c fun d =>
  cnd d
  (rbin P .mul 117 false true a0 (.float .f64 4841369599423283200) c fun e =>
  K (.tuple #[e, (.int .i64 (-52))]) c)
  (K (.tuple #[a0, (.int .i64 0)]) c)
def P_math_normalize : Plan := (.seq rg0 (.seq (.seq rg3 (.cond (.seq (.reg [.op (0, 0, false), .op (1, 1, false), .op (2, 0, false), .op (3, 0, false)]) .leaf) .leaf)) (.seq rg1 .leaf)))
theorem I_math_normalize {a0 : Value} {w : World} {K : Value → World → Prop} (h : D_math_normalize a0 w K) : call P f_math_normalize [a0] w K :=
  call_of_vc mixed Tryz.func295 (c := codeOf Tryz.f295) (by kernel_rfl) (by kernel_rfl) (p := P_math_normalize) (by kernel_rfl) (by rw [Tryz.ntmps295]; simp) (by
    have e : D_math_normalize a0 w K = vc P P_math_normalize (codeOf Tryz.f295) (env0 [a0]) w (retX P Tryz.f295.results.toList K) := by kernel_rfl
    exact e ▸ h)
def D_math_Abs (a0 : Value) (w : World) (K : Value → World → Prop) : Prop :=
  call P f_math_Float64bits [a0] w fun b c =>
  bin P .andNot 178 false true b (.int .u64 9223372036854775808) c fun d =>
  call P f_math_Float64frombits [d] c fun e g =>
  K e g
def P_math_Abs : Plan := (.seq rg2 (.seq (.reg [.op (0, 0, false), .op (1, 2, false), .op (2, 0, false), .op (3, 2, false), .op (4, 0, false)]) .leaf))
theorem I_math_Abs {a0 : Value} {w : World} {K : Value → World → Prop} (h : D_math_Abs a0 w K) : call P f_math_Abs [a0] w K :=
  call_of_vc mixed Tryz.func301 (c := codeOf Tryz.f301) (by kernel_rfl) (by kernel_rfl) (p := P_math_Abs) (by kernel_rfl) (by rw [Tryz.ntmps301]; simp) (by
    have e : D_math_Abs a0 w K = vc P P_math_Abs (codeOf Tryz.f301) (env0 [a0]) w (retX P Tryz.f301.results.toList K) := by kernel_rfl
    exact e ▸ h)
end Go.Proofs.YtjompmflommadaaGreatDoor


set_option linter.unusedVariables false
set_option maxRecDepth 20000
namespace Go.Proofs.YtjompmflommadaaGreatDoor
open Go Go.Vc
def D_spec_l06Float (a0 : Value) (w : World) (K : Value → World → Prop) : Prop :=
  call P f_spec_l03Read [a0] w fun b c =>
  xtr P b 0 c fun d =>
  xtr P b 1 c fun e =>
  alc P 57 c fun g h =>
  sto P 57 g d h fun i =>
  una P .not e i fun j =>
  cnd j
  (K (.tuple #[(.float .f32 0), (.bool false)]) i)
  (ld P 57 g i fun k =>
  call P f_spec_l03Round [k, (.int .i64 0)] i fun l m =>
  xtr P l 0 m fun n =>
  xtr P l 1 m fun o =>
  bin P .eql 2 false true o (.int .i64 0) m fun p =>
  K (.tuple #[n, p]) m)
def P_spec_l06Float : Plan := (.seq rg0 (.seq rg28 (.seq (.seq rg0 (.cond (.seq rg0 .leaf) .leaf)) (.seq rg10 (.seq rg4 .leaf)))))
theorem I_spec_l06Float {a0 : Value} {w : World} {K : Value → World → Prop} (h : D_spec_l06Float a0 w K) : call P f_spec_l06Float [a0] w K :=
  call_of_vc mixed Tryz.func141 (c := codeOf Tryz.f141) (by kernel_rfl) (by kernel_rfl) (p := P_spec_l06Float) (by kernel_rfl) (by rw [Tryz.ntmps141]; simp) (by
    have e : D_spec_l06Float a0 w K = vc P P_spec_l06Float (codeOf Tryz.f141) (env0 [a0]) w (retX P Tryz.f141.results.toList K) := by kernel_rfl
    exact e ▸ h)
end Go.Proofs.YtjompmflommadaaGreatDoor


set_option linter.unusedVariables false
set_option maxRecDepth 20000
namespace Go.Proofs.YtjompmflommadaaGreatDoor
open Go Go.Vc
def D_impl_parseFloat (a0 : Value) (w : World) (K : Value → World → Prop) : Prop :=
  call P f_impl_ParseDyadic [a0] w fun b c =>
  xtr P b 0 c fun d =>
  xtr P b 1 c fun e =>
  alc P 57 c fun g h =>
  sto P 57 g d h fun i =>
  bin P .neq 2 false true e (.int .i64 0) i fun j =>
  cnd j
  (K (.tuple #[(.float .f32 0), (.bool false)]) i)
  (ld P 57 g i fun k =>
  call P f_impl_RoundDyadic [k, (.int .i64 0)] i fun l m =>
  xtr P l 0 m fun n =>
  xtr P l 1 m fun o =>
  xtr P l 2 m fun p =>
  bin P .eql 2 false true o (.int .i64 0) m fun q =>
  K (.tuple #[n, q]) m)
def P_impl_parseFloat : Plan := (.seq rg0 (.seq rg28 (.seq (.seq rg0 (.cond (.seq rg0 .leaf) .leaf)) (.seq (.reg [.op (0, 0, false), .op (1, 2, false), .op (2, 0, false), .op (3, 0, false), .op (4, 0, false), .op (5, 0, false), .op (6, 0, false), .op (7, 0, false), .op (8, 0, false)]) (.seq rg4 .leaf)))))
theorem I_impl_parseFloat {a0 : Value} {w : World} {K : Value → World → Prop} (h : D_impl_parseFloat a0 w K) : call P f_impl_parseFloat [a0] w K :=
  call_of_vc mixed Tryz.func129 (c := codeOf Tryz.f129) (by kernel_rfl) (by kernel_rfl) (p := P_impl_parseFloat) (by kernel_rfl) (by rw [Tryz.ntmps129]; simp) (by
    have e : D_impl_parseFloat a0 w K = vc P P_impl_parseFloat (codeOf Tryz.f129) (env0 [a0]) w (retX P Tryz.f129.results.toList K) := by kernel_rfl
    exact e ▸ h)
end Go.Proofs.YtjompmflommadaaGreatDoor


set_option linter.unusedVariables false
set_option maxRecDepth 20000
namespace Go.Proofs.YtjompmflommadaaGreatDoor
open Go Go.Vc
def D_impl_IsProgram (a0 : Value) (w : World) (K : Value → World → Prop) : Prop :=
  bx P 27 a0 w fun b c =>
  fda P 27 b 0 c fun d =>
  ld P 22 d c fun e =>
  call P f_impl_depthOf [e] c fun g h =>
  xtr P g 0 h fun i =>
  xtr P g 1 h fun j =>
  K j h
def P_impl_IsProgram : Plan := (.seq rg6 (.seq (.reg [.op (0, 0, false), .op (1, 0, false), .op (2, 2, false), .op (3, 0, false), .op (4, 0, false), .op (5, 0, false), .op (6, 0, false), .op (7, 0, false)]) (.seq rg0 .leaf)))
theorem I_impl_IsProgram {a0 : Value} {w : World} {K : Value → World → Prop} (h : D_impl_IsProgram a0 w K) : call P f_impl_IsProgram [a0] w K :=
  call_of_vc mixed Tryz.func15 (c := codeOf Tryz.f15) (by kernel_rfl) (by kernel_rfl) (p := P_impl_IsProgram) (by kernel_rfl) (by rw [Tryz.ntmps15]; simp) (by
    have e : D_impl_IsProgram a0 w K = vc P P_impl_IsProgram (codeOf Tryz.f15) (env0 [a0]) w (retX P Tryz.f15.results.toList K) := by kernel_rfl
    exact e ▸ h)
def D_impl_RunPair (a0 a1 : Value) (w : World) (K : Value → World → Prop) : Prop :=
  bx P 27 a0 w fun b c =>
  alc P 68 c fun d e =>
  ld P 27 b e fun g =>
  bl0 P .len #[52] 3 [a1] e fun h =>
  call P f_impl_areFinite [a1] e fun i j =>
  Ext e j ∧ call P f_impl_asked [g, i, h] j fun k l =>
  bin P .neq 2 false true k (.int .i64 0) l fun m =>
  cnd m
  (bld P 68 [] l fun n =>
  sto P 68 d n l fun o =>
  ldc P 68 d o fun p =>
  K (.tuple #[p, k]) o)
  (bsl P 119 0 [] l fun q r =>
  bl0 P .len #[52] 3 [a1] r fun s =>
  ∃ t : Nat → Value → Value → World → Prop, (∃ u, t u q (.int .i64 0) r) ∧ ∀ (v : Nat) (x : Value) (y : Value) (_ : Env) (z : World), t v x y z →
  bin P .lss 3 false false y s z fun A =>
  cnd A
  (ixa P 52 a1 y z fun B =>
  ld P 66 B z fun C =>
  bld P 68 [(0, C)] z fun D =>
  bsl P 119 1 [(0, D)] z fun E F =>
  bl2 P .append #[119, 119] 119 [x, E] F fun G H =>
  bin P .add 3 false true y (.int .i64 1) H fun L =>
  ∃ M, M < v ∧ t M G L H)
  (ld P 27 b z fun N =>
  bld P 127 [(0, (.func (.func 94) #[] #[])), (1, (.func (.func 95) #[] #[])), (2, (.func (.func 96) #[] #[]))] z fun O =>
  call P f_impl_run_impl_Pair [N, x, O] z fun Q R =>
  xtr P Q 0 R fun S =>
  xtr P Q 1 R fun T =>
  sto P 68 d S R fun U =>
  ldc P 68 d U fun V =>
  K (.tuple #[V, T]) U))
def P_impl_RunPair : Plan := (.seq rg30 (.seq (.seq (.reg [.op (0, 0, false), .op (1, 0, false), .op (3, 0, false), .op (4, 0, false), .op (2, 2, true), .op (5, 2, false), .op (6, 0, false)]) (.seq rg0 (.cond (.seq rg7 .leaf) .leaf))) (.seq rg6 (.seq (.seq rg1 (.blk (.loop [7, 23] 8581546624 (.seq rg2 (.seq (.cond .leaf .leaf) (.seq (.blk (.seq rg1 rg39)) rg0)))))) (.seq (.reg [.op (0, 0, false), .op (1, 0, false), .op (2, 0, false), .op (3, 2, false), .op (4, 0, false), .op (5, 0, false), .op (6, 2, false), .op (7, 0, false)]) .leaf)))))
theorem I_impl_RunPair {a0 a1 : Value} {w : World} {K : Value → World → Prop} (h : D_impl_RunPair a0 a1 w K) : call P f_impl_RunPair [a0, a1] w K :=
  call_of_vc mixed Tryz.func41 (c := codeOf Tryz.f41) (by kernel_rfl) (by kernel_rfl) (p := P_impl_RunPair) (by kernel_rfl) (by rw [Tryz.ntmps41]; simp) (by
    have e : D_impl_RunPair a0 a1 w K = vc P P_impl_RunPair (codeOf Tryz.f41) (env0 [a0, a1]) w (retX P Tryz.f41.results.toList K) := by kernel_rfl
    exact e ▸ h)
def D_impl_depthOf (a0 : Value) (w : World) (K : Value → World → Prop) : Prop :=
  bl0 P .len #[22] 3 [a0] w fun b =>
  bin P .lss 3 false true b (.int .i64 1) w fun c =>
  ∃ d : Value → World → Prop, (∀ (e : Value) (_ : Env) (g : World), d e g →
  pick c (.bool true) e fun h =>
  cnd h
  (K (.tuple #[(.int .i64 0), (.bool false)]) g)
  (bl0 P .len #[22] 3 [a0] g fun i =>
  ∃ j : Nat → Value → Value → Value → World → Prop, (∃ k, j k (.int .i64 0) (.int .i64 0) (.int .i64 0) g) ∧ ∀ (l : Nat) (m : Value) (n : Value) (o : Value) (_ : Env) (p : World), j l m n o p →
  bin P .lss 3 false false o i p fun q =>
  cnd q
  (ixa P 22 a0 o p fun r =>
  ld P 9 r p fun s =>
  call P f_impl_form [s] p fun t u =>
  bin P .lss 3 false true t (.int .i64 0) u fun v =>
  ∃ x : Value → World → Prop, (∀ (y : Value) (_ : Env) (z : World), x y z →
  pick v (.bool true) y fun A =>
  cnd A
  (K (.tuple #[(.int .i64 0), (.bool false)]) z)
  (bin P .sub 3 true false (.int .i64 1) t z fun B =>
  bin P .add 3 false false m B z fun C =>
  bl0 P .max #[3, 3] 3 [n, C] z fun D =>
  bin P .add 3 false true o (.int .i64 1) z fun E =>
  ∃ F, F < l ∧ j F C D E z)) ∧
  grd v false
  (bin P .lss 3 false false m t u fun G =>
  x G u)
  (x undef u))
  (bin P .eql 3 false true m (.int .i64 1) p fun H =>
  ∃ L : Value → World → Prop, (∀ (M : Value) (_ : Env) (N : World), L M N →
  pick H M (.bool false) fun O =>
  K (.tuple #[n, O]) N) ∧
  grd H true
  (bin P .leq 3 false true n (.int .i64 16) p fun Q =>
  L Q p)
  (L undef p)))) ∧
  grd c false
  (bl0 P .len #[22] 3 [a0] w fun R =>
  bin P .gtr 3 false true R (.int .i64 60) w fun S =>
  d S w)
  (d undef w)
def P_impl_depthOf : Plan := (.seq rg0 (.seq (.seq (.reg [.op (0, 0, false), .op (1, 0, false), .op (2, 0, false), .op (3, 0, false), .grp 3 false [(4, 0, false), (5, 0, false), (6, 0, false)] [15] 57344, .op (7, 0, false)]) (.cond (.seq rg0 .leaf) .leaf)) (.seq rg0 (.seq (.seq rg1 (.blk (.loop [4, 5, 19] 1099511103932 (.seq rg2 (.seq (.cond .leaf .leaf) (.seq (.blk (.seq rg1 (.seq rg3 (.seq (.seq (.reg [.op (0, 0, false), .op (1, 0, false), .op (2, 0, false), .grp 2 false [(3, 0, false), (4, 0, false), (5, 0, false)] [30] 1879048192, .op (6, 0, false)]) (.cond (.seq rg0 .leaf) .leaf)) (.seq rg4 rg5))))) rg0)))))) (.seq (.reg [.op (0, 0, false), .op (1, 0, false), .op (2, 0, false), .op (3, 0, false), .grp 3 true [(4, 0, false), (5, 0, false)] [45] 52776558133248, .op (6, 0, false), .op (7, 0, false), .op (8, 0, false)]) .leaf)))))
theorem I_impl_depthOf {a0 : Value} {w : World} {K : Value → World → Prop} (h : D_impl_depthOf a0 w K) : call P f_impl_depthOf [a0] w K :=
  call_of_vc mixed Tryz.func54 (c := codeOf Tryz.f54) (by kernel_rfl) (by kernel_rfl) (p := P_impl_depthOf) (by kernel_rfl) (by rw [Tryz.ntmps54]; simp) (by
    have e : D_impl_depthOf a0 w K = vc P P_impl_depthOf (codeOf Tryz.f54) (env0 [a0]) w (retX P Tryz.f54.results.toList K) := by kernel_rfl
    exact e ▸ h)
def D_impl_needs (a0 : Value) (w : World) (K : Value → World → Prop) : Prop :=
  bx P 27 a0 w fun b c =>
  fda P 27 b 0 c fun d =>
  ld P 22 d c fun e =>
  bl0 P .len #[22] 3 [e] c fun g =>
  ∃ h : Nat → Value → Value → World → Prop, (∃ i, h i (.int .i64 0) (.int .i64 0) c) ∧ ∀ (j : Nat) (k : Value) (l : Value) (_ : Env) (m : World), h j k l m →
  bin P .lss 3 false false l g m fun n =>
  cnd n
  (ixa P 22 e l m fun o =>
  ld P 9 o m fun p =>
  call P f_impl_variable [p] m fun q r =>
  bin P .add 3 false true q (.int .i64 1) r fun s =>
  bl0 P .max #[3, 3] 3 [k, s] r fun t =>
  bin P .add 3 false true l (.int .i64 1) r fun u =>
  ∃ v, v < j ∧ h v t u r)
  (K k m)
def P_impl_needs : Plan := (.seq rg6 (.seq rg2 (.seq (.seq rg5 (.blk (.loop [3, 9] 523816 (.seq rg2 (.seq (.cond .leaf .leaf) (.seq (.blk (.seq rg1 (.reg [.op (0, 0, false), .op (1, 0, false), .op (2, 2, false), .op (3, 0, false), .op (4, 0, false), .op (5, 0, false)]))) rg0)))))) (.seq rg0 .leaf))))
theorem I_impl_needs {a0 : Value} {w : World} {K : Value → World → Prop} (h : D_impl_needs a0 w K) : call P f_impl_needs [a0] w K :=
  call_of_vc mixed Tryz.func58 (c := codeOf Tryz.f58) (by kernel_rfl) (by kernel_rfl) (p := P_impl_needs) (by kernel_rfl) (by rw [Tryz.ntmps58]; simp) (by
    have e : D_impl_needs a0 w K = vc P P_impl_needs (codeOf Tryz.f58) (env0 [a0]) w (retX P Tryz.f58.results.toList K) := by kernel_rfl
    exact e ▸ h)
def D_impl_asked (a0 a1 a2 : Value) (w : World) (K : Value → World → Prop) : Prop :=
  bx P 27 a0 w fun b c =>
  ld P 27 b c fun d =>
  call P f_impl_IsProgram [d] c fun e g =>
  una P .not e g fun h =>
  ∃ i : Value → World → Prop, (∀ (j : Value) (_ : Env) (k : World), i j k →
  pick h (.bool true) j fun l =>
  cnd l
  (K (.int .i64 1) k)
  (ld P 27 b k fun m =>
  call P f_impl_needs [m] k fun n o =>
  bin P .lss 3 false false a2 n o fun p =>
  ∃ q : Value → World → Prop, (∀ (r : Value) (_ : Env) (s : World), q r s →
  pick p (.bool true) r fun t =>
  cnd t
  (K (.int .i64 2) s)
  (K (.int .i64 0) s)) ∧
  grd p false
  (bin P .gtr 3 false true a2 (.int .i64 3) o fun u =>
  q u o)
  (q undef o))) ∧
  grd h false
  (una P .not a1 g fun v =>
  i v g)
  (i undef g)
def P_impl_asked : Plan := (.seq rg6 (.seq (.blk (.seq (.reg [.op (0, 0, false), .op (1, 2, false), .op (2, 0, false), .op (3, 0, false), .grp 3 false [(4, 0, false), (5, 0, false)] [13] 12288, .op (6, 0, false), .op (7, 0, false)]) (.cond (.seq rg2 .leaf) (.seq (.reg [.op (0, 0, false), .op (1, 0, false), .op (2, 2, false), .op (3, 0, false), .op (4, 0, false), .grp 4 false [(5, 0, false), (6, 0, false)] [22] 6291456, .op (7, 0, false), .op (8, 0, false)]) (.cond (.seq rg2 .leaf) .leaf))))) (.seq rg2 .leaf)))
theorem I_impl_asked {a0 a1 a2 : Value} {w : World} {K : Value → World → Prop} (h : D_impl_asked a0 a1 a2 w K) : call P f_impl_asked [a0, a1, a2] w K :=
  call_of_vc mixed Tryz.func76 (c := codeOf Tryz.f76) (by kernel_rfl) (by kernel_rfl) (p := P_impl_asked) (by kernel_rfl) (by rw [Tryz.ntmps76]; simp) (by
    have e : D_impl_asked a0 a1 a2 w K = vc P P_impl_asked (codeOf Tryz.f76) (env0 [a0, a1, a2]) w (retX P Tryz.f76.results.toList K) := by kernel_rfl
    exact e ▸ h)
def D_impl_run_impl_Pair (a0 a1 a2 : Value) (w : World) (K : Value → World → Prop) : Prop :=
  bx P 27 a0 w fun b c =>
  bx P 127 a2 c fun d e =>
  alc P 68 e fun g h =>
  alc P 68 h fun i j =>
  nch i fun k =>
  ld P 68 k j fun l =>
  alc P 68 j fun m n =>
  sto P 68 m l n fun o =>
  bsl P 119 0 [] o fun p q =>
  fda P 27 b 0 q fun r =>
  ld P 22 r q fun s =>
  bl0 P .len #[22] 3 [s] q fun t =>
  ∃ u : Nat → Value → Value → World → Prop, (∃ v, u v p (.int .i64 0) q) ∧ ∀ (x : Nat) (y : Value) (z : Value) (_ : Env) (A : World), u x y z A →
  bin P .lss 3 false false z t A fun B =>
  cnd B
  (ixa P 22 s z A fun C =>
  ld P 9 C A fun D =>
  call P f_impl_variable [D] A fun E F =>
  bin P .geq 3 false true E (.int .i64 0) F fun G =>
  cnd G
  (ixa P 119 a1 E F fun H =>
  ld P 68 H F fun L =>
  bsl P 119 1 [(0, L)] F fun M N =>
  bl2 P .append #[119, 119] 119 [y, M] N fun O Q =>
  bin P .add 3 false true z (.int .i64 1) Q fun R =>
  ∃ S, S < x ∧ u S O R Q)
  (call P f_impl_form [D] F fun T U =>
  bin P .eql 3 false true T (.int .i64 0) U fun V =>
  cnd V
  (call P f_impl_parseFloat [D] U fun W X =>
  xtr P W 0 X fun Y =>
  xtr P W 1 X fun Z =>
  fda P 127 d 0 X fun b0 =>
  ld P 125 b0 X fun c0 =>
  callv P c0 [Y] X fun d0 e0 =>
  bsl P 119 1 [(0, d0)] e0 fun g0 h0 =>
  bl2 P .append #[119, 119] 119 [y, g0] h0 fun i0 j0 =>
  bin P .add 3 false true z (.int .i64 1) j0 fun k0 =>
  ∃ l0, l0 < x ∧ u l0 i0 k0 j0)
  (bl0 P .len #[119] 3 [y] U fun m0 =>
  bin P .sub 3 false true m0 (.int .i64 1) U fun n0 =>
  ixa P 119 y n0 U fun o0 =>
  ld P 68 o0 U fun p0 =>
  alc P 68 U fun q0 r0 =>
  sto P 68 q0 p0 r0 fun s0 =>
  ld P 68 m s0 fun t0 =>
  alc P 68 s0 fun u0 v0 =>
  sto P 68 u0 t0 v0 fun x0 =>
  ∃ y0 : Value → World → Prop, (∀ (z0 : Value) (_ : Env) (A0 : World), y0 z0 A0 →
  bin P .neq 2 false true z0 (.int .i64 0) A0 fun B0 =>
  cnd B0
  (ld P 68 m A0 fun C0 =>
  sto P 68 g C0 A0 fun D0 =>
  ldc P 68 g D0 fun E0 =>
  K (.tuple #[E0, z0]) D0)
  (bl0 P .len #[119] 3 [y] A0 fun F0 =>
  bin P .sub 3 false false F0 T A0 fun G0 =>
  sli P 119 y none (some G0) none A0 fun H0 =>
  ld P 68 u0 A0 fun L0 =>
  bsl P 119 1 [(0, L0)] A0 fun M0 N0 =>
  Ext A0 N0 ∧ bl2 P .append #[119, 119] 119 [H0, M0] N0 fun O0 Q0 =>
  bin P .add 3 false true z (.int .i64 1) Q0 fun R0 =>
  ∃ S0, S0 < x ∧ u S0 O0 R0 Q0)) ∧
  (bin P .eql 3 false true T (.int .i64 1) x0 fun T0 =>
  cnd T0
  (fda P 127 d 1 x0 fun U0 =>
  ld P 122 U0 x0 fun V0 =>
  ld P 68 q0 x0 fun W0 =>
  callv P V0 [D, W0] x0 fun X0 Y0 =>
  xtr P X0 0 Y0 fun Z0 =>
  xtr P X0 1 Y0 fun b1 =>
  sto P 68 u0 Z0 Y0 fun c1 =>
  y0 b1 c1)
  (fda P 127 d 2 x0 fun d1 =>
  ld P 123 d1 x0 fun e1 =>
  bl0 P .len #[119] 3 [y] x0 fun g1 =>
  bin P .sub 3 false true g1 (.int .i64 2) x0 fun h1 =>
  ixa P 119 y h1 x0 fun i1 =>
  ld P 68 i1 x0 fun j1 =>
  ld P 68 q0 x0 fun k1 =>
  callv P e1 [D, j1, k1] x0 fun l1 m1 =>
  xtr P l1 0 m1 fun n1 =>
  xtr P l1 1 m1 fun o1 =>
  sto P 68 u0 n1 m1 fun p1 =>
  (xtr P l1 1 p1 fun z => z = o1) ∧ y0 o1 p1)))))
  (ixa P 119 y (.int .i64 0) A fun q1 =>
  ld P 68 q1 A fun r1 =>
  sto P 68 g r1 A fun s1 =>
  ldc P 68 g s1 fun t1 =>
  K (.tuple #[t1, (.int .i64 0)]) s1)
def P_impl_run_impl_Pair : Plan := (.seq rg23 (.seq (.reg [.op (0, 2, false), .op (1, 0, false), .op (2, 0, false), .op (3, 2, false), .op (4, 2, false)]) (.seq rg6 (.seq (.seq rg5 (.blk (.loop [9, 26] 5070602400912917605986746235520 (.seq rg2 (.seq (.cond .leaf .leaf) (.seq (.blk (.seq rg1 (.seq (.seq rg3 (.seq rg0 (.cond (.seq (.reg [.op (0, 0, false), .op (1, 0, false), .op (2, 0, false), .op (3, 0, false), .op (4, 0, false), .op (5, 2, false), .op (6, 2, false), .op (7, 0, false)]) .leaf) .leaf))) (.seq rg3 (.seq (.seq rg0 (.cond (.seq rg10 (.seq (.reg [.op (0, 0, false), .op (1, 0, false), .op (2, 0, false), .op (3, 0, false), .op (4, 2, false), .op (5, 2, false), .op (6, 2, false), .op (7, 0, false)]) .leaf)) .leaf)) (.seq (.reg [.op (0, 0, false), .op (1, 0, false), .op (2, 0, false), .op (3, 0, false), .op (4, 0, false), .op (5, 0, false), .op (6, 2, false), .op (7, 2, false)]) (.seq rg29 (.cut [18] 309484991374600995015491584 (.seq rg0 (.cond (.reg [.op (0, 0, false), .op (1, 0, false), .op (2, 0, false), .op (3, 0, false), .op (4, 2, false), .op (5, 0, false), .op (6, 0, false), .op (7, 0, false), .op (8, 2, false), .op (9, 0, false)]) (.reg [.op (0, 0, false), .op (1, 0, false), .op (2, 0, false), .op (3, 0, false), .op (4, 0, false), .op (5, 0, false), .op (6, 0, false), .op (7, 0, false), .op (8, 0, false), .op (9, 0, false), .op (10, 2, false), .op (11, 0, false), .op (12, 0, false), .op (13, 0, false), .op (14, 8194, false), .op (15, 0, false)]))) (.seq (.seq rg0 (.cond (.seq rg7 .leaf) .leaf)) (.reg [.op (0, 0, false), .op (1, 0, false), .op (2, 0, false), .op (3, 0, false), .op (4, 0, false), .op (5, 0, false), .op (6, 0, false), .op (7, 2, true), .op (8, 2, false), .op (9, 0, false)])))))))))) rg0)))))) (.seq rg25 .leaf)))))
theorem I_impl_run_impl_Pair {a0 a1 a2 : Value} {w : World} {K : Value → World → Prop} (h : D_impl_run_impl_Pair a0 a1 a2 w K) : call P f_impl_run_impl_Pair [a0, a1, a2] w K :=
  call_of_vc mixed Tryz.func93 (c := codeOf Tryz.f93) (by kernel_rfl) (by kernel_rfl) (p := P_impl_run_impl_Pair) (by kernel_rfl) (by rw [Tryz.ntmps93]; simp) (by
    have e : D_impl_run_impl_Pair a0 a1 a2 w K = vc P P_impl_run_impl_Pair (codeOf Tryz.f93) (env0 [a0, a1, a2]) w (retX P Tryz.f93.results.toList K) := by kernel_rfl
    exact e ▸ h)
def D_impl_RunPair_1 (a0 : Value) (w : World) (K : Value → World → Prop) : Prop :=
  alc P 68 w fun b c =>
  bld P 68 [(0, a0)] c fun d =>
  sto P 68 b d c fun e =>
  ldc P 68 b e fun g =>
  K g e
def P_impl_RunPair_1 : Plan := (.seq rg51 (.seq rg49 .leaf))
theorem I_impl_RunPair_1 {a0 : Value} {w : World} {K : Value → World → Prop} (h : D_impl_RunPair_1 a0 w K) : call P f_impl_RunPair_1 [a0] w K :=
  call_of_vc mixed Tryz.func94 (c := codeOf Tryz.f94) (by kernel_rfl) (by kernel_rfl) (p := P_impl_RunPair_1) (by kernel_rfl) (by rw [Tryz.ntmps94]; simp) (by
    have e : D_impl_RunPair_1 a0 w K = vc P P_impl_RunPair_1 (codeOf Tryz.f94) (env0 [a0]) w (retX P Tryz.f94.results.toList K) := by kernel_rfl
    exact e ▸ h)
def D_impl_pairOne (a0 a1 : Value) (w : World) (K : Value → World → Prop) : Prop :=
  bx P 68 a1 w fun b c =>
  alc P 68 c fun d e =>
  bin P .eql 9 false true a0 (.string ⟨#[110, 101, 103]⟩) e fun g =>
  cnd g
  (ld P 68 b e fun h =>
  call P f_impl_opposite [h] e fun i j =>
  sto P 68 d i j fun k =>
  ldc P 68 d k fun l =>
  K (.tuple #[l, (.int .i64 0)]) k)
  (bin P .eql 9 false true a0 (.string ⟨#[115, 113, 114]⟩) e fun m =>
  cnd m
  (ld P 68 b e fun n =>
  ld P 68 b e fun o =>
  call P f_impl_mulPairs [n, o] e fun p q =>
  xtr P p 0 q fun r =>
  xtr P p 1 q fun s =>
  call P f_impl_limited [r, s] q fun t u =>
  xtr P t 0 u fun v =>
  xtr P t 1 u fun x =>
  sto P 68 d v u fun y =>
  ldc P 68 d y fun z =>
  K (.tuple #[z, x]) y)
  (bin P .eql 9 false true a0 (.string ⟨#[97, 98, 115]⟩) e fun A =>
  cnd A
  (ld P 68 b e fun B =>
  call P f_impl_pairValue [B] e fun C D =>
  call P f_impl_num_sign [C] D fun E F =>
  bin P .lss 3 false true E (.int .i64 0) F fun G =>
  cnd G
  (ld P 68 b F fun H =>
  call P f_impl_opposite [H] F fun L M =>
  sto P 68 d L M fun N =>
  ldc P 68 d N fun O =>
  K (.tuple #[O, (.int .i64 0)]) N)
  (ld P 68 b F fun Q =>
  sto P 68 d Q F fun R =>
  ldc P 68 d R fun S =>
  K (.tuple #[S, (.int .i64 0)]) R))
  (bld P 68 [] e fun T =>
  sto P 68 d T e fun U =>
  ldc P 68 d U fun V =>
  K (.tuple #[V, (.int .i64 5)]) U)))
def P_impl_pairOne : Plan := (.seq rg30 (.seq (.seq rg2 (.blk (.seq rg0 (.cond (.seq rg29 .leaf) (.seq rg0 (.cond (.seq rg21 .leaf) (.seq rg0 (.cond (.seq (.seq rg29 (.cond (.seq rg29 .leaf) .leaf)) (.seq rg3 .leaf)) .leaf)))))))) (.seq rg3 .leaf)))
theorem I_impl_pairOne {a0 a1 : Value} {w : World} {K : Value → World → Prop} (h : D_impl_pairOne a0 a1 w K) : call P f_impl_pairOne [a0, a1] w K :=
  call_of_vc mixed Tryz.func95 (c := codeOf Tryz.f95) (by kernel_rfl) (by kernel_rfl) (p := P_impl_pairOne) (by kernel_rfl) (by rw [Tryz.ntmps95]; simp) (by
    have e : D_impl_pairOne a0 a1 w K = vc P P_impl_pairOne (codeOf Tryz.f95) (env0 [a0, a1]) w (retX P Tryz.f95.results.toList K) := by kernel_rfl
    exact e ▸ h)
def D_impl_pairTwo (a0 a1 a2 : Value) (w : World) (K : Value → World → Prop) : Prop :=
  bx P 68 a1 w fun b c =>
  bx P 68 a2 c fun d e =>
  alc P 68 e fun g h =>
  bin P .eql 9 false true a0 (.string ⟨#[43]⟩) h fun i =>
  cnd i
  (ld P 68 b h fun j =>
  ld P 68 d h fun k =>
  call P f_impl_addPairs [j, k] h fun l m =>
  xtr P l 0 m fun n =>
  xtr P l 1 m fun o =>
  call P f_impl_limited [n, o] m fun p q =>
  xtr P p 0 q fun r =>
  xtr P p 1 q fun s =>
  sto P 68 g r q fun t =>
  ldc P 68 g t fun u =>
  K (.tuple #[u, s]) t)
  (bin P .eql 9 false true a0 (.string ⟨#[45]⟩) h fun v =>
  cnd v
  (ld P 68 b h fun x =>
  ld P 68 d h fun y =>
  call P f_impl_opposite [y] h fun z A =>
  Ext h A ∧ call P f_impl_addPairs [x, z] A fun B C =>
  xtr P B 0 C fun D =>
  xtr P B 1 C fun E =>
  call P f_impl_limited [D, E] C fun F G =>
  xtr P F 0 G fun H =>
  xtr P F 1 G fun L =>
  sto P 68 g H G fun M =>
  ldc P 68 g M fun N =>
  K (.tuple #[N, L]) M)
  (bin P .eql 9 false true a0 (.string ⟨#[42]⟩) h fun O =>
  cnd O
  (ld P 68 b h fun Q =>
  ld P 68 d h fun R =>
  call P f_impl_mulPairs [Q, R] h fun S T =>
  xtr P S 0 T fun U =>
  xtr P S 1 T fun V =>
  call P f_impl_limited [U, V] T fun W X =>
  xtr P W 0 X fun Y =>
  xtr P W 1 X fun Z =>
  sto P 68 g Y X fun b0 =>
  ldc P 68 g b0 fun c0 =>
  K (.tuple #[c0, Z]) b0)
  (bin P .eql 9 false true a0 (.string ⟨#[47]⟩) h fun d0 =>
  cnd d0
  (fda P 68 d 0 h fun e0 =>
  ld P 66 e0 h fun g0 =>
  bin P .eql 66 false true g0 (.float .f32 0) h fun h0 =>
  cnd h0
  (bld P 68 [] h fun i0 =>
  sto P 68 g i0 h fun j0 =>
  ldc P 68 g j0 fun k0 =>
  K (.tuple #[k0, (.int .i64 5)]) j0)
  (ld P 68 b h fun l0 =>
  ld P 68 d h fun m0 =>
  call P f_impl_divPairs [l0, m0] h fun n0 o0 =>
  xtr P n0 0 o0 fun p0 =>
  xtr P n0 1 o0 fun q0 =>
  call P f_impl_limited [p0, q0] o0 fun r0 s0 =>
  xtr P r0 0 s0 fun t0 =>
  xtr P r0 1 s0 fun u0 =>
  sto P 68 g t0 s0 fun v0 =>
  ldc P 68 g v0 fun x0 =>
  K (.tuple #[x0, u0]) v0))
  (ld P 68 b h fun y0 =>
  ld P 68 d h fun z0 =>
  call P f_impl_pairValue [y0] h fun A0 B0 =>
  Ext h B0 ∧ call P f_impl_pairValue [z0] B0 fun C0 D0 =>
  call P f_impl_num_cmp [A0, C0] D0 fun E0 F0 =>
  bin P .gtr 3 false true E0 (.int .i64 0) F0 fun G0 =>
  ∃ H0 : Value → World → Prop, (∀ (L0 : Value) (_ : Env) (M0 : World), H0 L0 M0 →
  pick G0 L0 (.bool false) fun N0 =>
  ∃ O0 : Value → World → Prop, (∀ (Q0 : Value) (_ : Env) (R0 : World), O0 Q0 R0 →
  ∃ S0 : Value → World → Prop, (∀ (T0 : Value) (_ : Env) (U0 : World), S0 T0 U0 →
  ∃ V0 : Value → World → Prop, (∀ (W0 : Value) (_ : Env) (X0 : World), V0 W0 X0 →
  pick N0 (.bool true) W0 fun Y0 =>
  cnd Y0
  (ld P 68 d X0 fun Z0 =>
  sto P 68 g Z0 X0 fun b1 =>
  ldc P 68 g b1 fun c1 =>
  K (.tuple #[c1, (.int .i64 0)]) b1)
  (ld P 68 b X0 fun d1 =>
  sto P 68 g d1 X0 fun e1 =>
  ldc P 68 g e1 fun g1 =>
  K (.tuple #[g1, (.int .i64 0)]) e1)) ∧
  grd N0 false
  (pick Q0 T0 (.bool false) fun h1 =>
  V0 h1 U0)
  (V0 undef U0)) ∧
  grd Q0 true
  (bin P .eql 9 false true a0 (.string ⟨#[109, 97, 120]⟩) R0 fun i1 =>
  S0 i1 R0)
  (S0 undef R0)) ∧
  grd N0 false
  (bin P .lss 3 false true E0 (.int .i64 0) M0 fun j1 =>
  O0 j1 M0)
  (O0 undef M0)) ∧
  grd G0 true
  (bin P .eql 9 false true a0 (.string ⟨#[109, 105, 110]⟩) F0 fun k1 =>
  H0 k1 F0)
  (H0 undef F0)))))
def P_impl_pairTwo : Plan := (.seq rg23 (.seq (.seq rg2 (.blk (.seq rg0 (.cond (.seq rg21 .leaf) (.seq rg0 (.cond (.seq (.reg [.op (0, 0, false), .op (1, 0, false), .op (2, 2, true), .op (3, 2, false), .op (4, 0, false), .op (5, 0, false), .op (6, 2, false), .op (7, 0, false), .op (8, 0, false), .op (9, 2, false), .op (10, 0, false)]) .leaf) (.seq rg0 (.cond (.seq rg21 .leaf) (.seq rg0 (.cond (.seq (.seq rg1 (.cond (.seq rg3 .leaf) .leaf)) (.seq rg21 .leaf)) .leaf)))))))))) (.seq (.reg [.op (0, 0, false), .op (2, 0, false), .op (1, 2, true), .op (3, 2, false), .op (4, 2, false), .op (5, 0, false)]) (.seq (.seq (.reg [.op (0, 0, false), .op (1, 0, false), .op (2, 0, false), .grp 2 true [(3, 0, false), (4, 0, false)] [64] 27670116110564327424, .op (5, 0, false), .op (6, 0, false), .grp 6 false [(7, 0, false), (8, 0, false), (9, 0, false)] [69] 1033017668127734890496, .grp 9 true [(10, 0, false), (11, 0, false)] [71] 3541774862152233910272, .grp 6 false [(12, 0, false)] [72] 4722366482869645213696, .op (13, 0, false)]) (.cond (.seq rg3 .leaf) .leaf)) (.seq rg3 .leaf)))))
theorem I_impl_pairTwo {a0 a1 a2 : Value} {w : World} {K : Value → World → Prop} (h : D_impl_pairTwo a0 a1 a2 w K) : call P f_impl_pairTwo [a0, a1, a2] w K :=
  call_of_vc mixed Tryz.func96 (c := codeOf Tryz.f96) (by kernel_rfl) (by kernel_rfl) (p := P_impl_pairTwo) (by kernel_rfl) (by rw [Tryz.ntmps96]; simp) (by
    have e : D_impl_pairTwo a0 a1 a2 w K = vc P P_impl_pairTwo (codeOf Tryz.f96) (env0 [a0, a1, a2]) w (retX P Tryz.f96.results.toList K) := by kernel_rfl
    exact e ▸ h)
def D_impl_form (a0 : Value) (w : World) (K : Value → World → Prop) : Prop :=
  ∃ b : World → Prop, (∀ (_ : Env) (c : World), b c →
  call P f_impl_parseFloat [a0] c fun d e =>
  xtr P d 0 e fun g =>
  xtr P d 1 e fun h =>
  cnd h
  (K (.int .i64 0) e)
  (K (.int .i64 (-1)) e)) ∧
  (∃ i : Value → World → Prop, (∀ (j : Value) (_ : Env) (k : World), i j k →
  cnd j
  (K (.int .i64 0) k)
  (∃ l : Value → World → Prop, (∀ (m : Value) (_ : Env) (n : World), l m n →
  cnd m
  (K (.int .i64 1) n)
  (bin P .eql 9 false true a0 (.string ⟨#[43]⟩) n fun o =>
  cnd o
  (cnd o
  (K (.int .i64 2) n)
  (b n))
  (bin P .eql 9 false true a0 (.string ⟨#[45]⟩) n fun p =>
  cnd p
  (cnd p
  (K (.int .i64 2) n)
  (b n))
  (bin P .eql 9 false true a0 (.string ⟨#[42]⟩) n fun q =>
  cnd q
  (cnd q
  (K (.int .i64 2) n)
  (b n))
  (bin P .eql 9 false true a0 (.string ⟨#[47]⟩) n fun r =>
  cnd r
  (cnd r
  (K (.int .i64 2) n)
  (b n))
  (bin P .eql 9 false true a0 (.string ⟨#[109, 105, 110]⟩) n fun s =>
  cnd s
  (cnd s
  (K (.int .i64 2) n)
  (b n))
  (bin P .eql 9 false true a0 (.string ⟨#[109, 97, 120]⟩) n fun t =>
  cnd t
  (K (.int .i64 2) n)
  (b n)))))))) ∧
  (bin P .eql 9 false true a0 (.string ⟨#[110, 101, 103]⟩) k fun u =>
  cnd u
  (l u k)
  (bin P .eql 9 false true a0 (.string ⟨#[115, 113, 114]⟩) k fun v =>
  cnd v
  (l v k)
  (bin P .eql 9 false true a0 (.string ⟨#[97, 98, 115]⟩) k fun x =>
  cnd x
  (l x k)
  (bin P .eql 9 false true a0 (.string ⟨#[114, 111, 111, 116]⟩) k fun y =>
  cnd y
  (l y k)
  (bin P .eql 9 false true a0 (.string ⟨#[101, 120, 112]⟩) k fun z =>
  cnd z
  (l z k)
  (bin P .eql 9 false true a0 (.string ⟨#[108, 111, 103]⟩) k fun A =>
  cnd A
  (l A k)
  (bin P .eql 9 false true a0 (.string ⟨#[97, 116, 97, 110]⟩) k fun B =>
  cnd B
  (l B k)
  (bin P .eql 9 false true a0 (.string ⟨#[115, 105, 110]⟩) k fun C =>
  l C k)))))))))) ∧
  (bin P .eql 9 false true a0 (.string ⟨#[120]⟩) w fun D =>
  cnd D
  (i D w)
  (bin P .eql 9 false true a0 (.string ⟨#[121]⟩) w fun E =>
  cnd E
  (i E w)
  (bin P .eql 9 false true a0 (.string ⟨#[122]⟩) w fun F =>
  i F w))))
def P_impl_form : Plan := (.seq rg2 (.cut [] 67108836 (.seq rg2 (.blk (.cut [6] 960 (.seq rg0 (.cond .leaf (.seq rg0 (.cond .leaf rg0)))) (.cond (.seq rg2 .leaf) (.cut [10] 523264 (.seq rg0 (.cond .leaf (.seq rg0 (.cond .leaf (.seq rg0 (.cond .leaf (.seq rg0 (.cond .leaf (.seq rg0 (.cond .leaf (.seq rg0 (.cond .leaf (.seq rg0 (.cond .leaf rg0)))))))))))))) (.cond (.seq rg2 .leaf) (.seq (.seq rg0 (.cond .leaf (.seq rg0 (.cond .leaf (.seq rg0 (.cond .leaf (.seq rg0 (.cond .leaf (.seq rg0 (.cond .leaf rg0)))))))))) (.cond (.seq rg2 .leaf) .leaf)))))))) (.seq (.seq rg10 (.seq rg2 (.cond (.seq rg2 .leaf) .leaf))) (.seq rg2 .leaf))))
theorem I_impl_form {a0 : Value} {w : World} {K : Value → World → Prop} (h : D_impl_form a0 w K) : call P f_impl_form [a0] w K :=
  call_of_vc mixed Tryz.func103 (c := codeOf Tryz.f103) (by kernel_rfl) (by kernel_rfl) (p := P_impl_form) (by kernel_rfl) (by rw [Tryz.ntmps103]; simp) (by
    have e : D_impl_form a0 w K = vc P P_impl_form (codeOf Tryz.f103) (env0 [a0]) w (retX P Tryz.f103.results.toList K) := by kernel_rfl
    exact e ▸ h)
def D_impl_variable (a0 : Value) (w : World) (K : Value → World → Prop) : Prop :=
  bin P .eql 9 false true a0 (.string ⟨#[120]⟩) w fun b =>
  cnd b
  (K (.int .i64 0) w)
  (bin P .eql 9 false true a0 (.string ⟨#[121]⟩) w fun c =>
  cnd c
  (K (.int .i64 1) w)
  (bin P .eql 9 false true a0 (.string ⟨#[122]⟩) w fun d =>
  cnd d
  (K (.int .i64 2) w)
  (K (.int .i64 (-1)) w)))
def P_impl_variable : Plan := (.seq rg2 (.seq (.seq rg2 (.blk (.seq rg0 (.cond (.seq rg2 .leaf) (.seq rg0 (.cond (.seq rg2 .leaf) (.seq rg0 (.cond (.seq rg2 .leaf) .leaf)))))))) (.seq rg2 .leaf)))
theorem I_impl_variable {a0 : Value} {w : World} {K : Value → World → Prop} (h : D_impl_variable a0 w K) : call P f_impl_variable [a0] w K :=
  call_of_vc mixed Tryz.func105 (c := codeOf Tryz.f105) (by kernel_rfl) (by kernel_rfl) (p := P_impl_variable) (by kernel_rfl) (by rw [Tryz.ntmps105]; simp) (by
    have e : D_impl_variable a0 w K = vc P P_impl_variable (codeOf Tryz.f105) (env0 [a0]) w (retX P Tryz.f105.results.toList K) := by kernel_rfl
    exact e ▸ h)
end Go.Proofs.YtjompmflommadaaGreatDoor


set_option linter.unusedVariables false
set_option maxRecDepth 20000
namespace Go.Proofs.YtjompmflommadaaGreatDoor
open Go Go.Vc
def D_spec_RunPair (a0 a1 : Value) (w : World) (K : Value → World → Prop) : Prop :=
  bx P 27 a0 w fun b c =>
  alc P 68 c fun d e =>
  ld P 27 b e fun g =>
  call P f_spec_l08Code [g, a1] e fun h i =>
  bin P .neq 2 false true h (.int .i64 0) i fun j =>
  cnd j
  (bld P 68 [] i fun k =>
  sto P 68 d k i fun l =>
  ldc P 68 d l fun m =>
  K (.tuple #[m, h]) l)
  (bsl P 119 0 [] i fun n o =>
  ∃ p : Nat → Value → Value → World → Prop, (∃ q, p q n (.int .i64 0) o) ∧ ∀ (r : Nat) (s : Value) (t : Value) (_ : Env) (u : World), p r s t u →
  fda P 27 b 0 u fun v =>
  ld P 22 v u fun x =>
  bl0 P .len #[22] 3 [x] u fun y =>
  bin P .lss 3 false false t y u fun z =>
  cnd z
  (fda P 27 b 0 u fun A =>
  ld P 22 A u fun B =>
  ixa P 22 B t u fun C =>
  ld P 9 C u fun D =>
  bl0 P .len #[119] 3 [s] u fun E =>
  call P f_spec_l08Needs [D] u fun F G =>
  bin P .eql 2 false true F (.int .i64 0) G fun H =>
  cnd H
  (call P f_spec_l08Leaf [D, a1] G fun L M =>
  bld P 68 [(0, L)] M fun N =>
  bsl P 119 1 [(0, N)] M fun O Q =>
  bl2 P .append #[119, 119] 119 [s, O] Q fun R S =>
  bin P .add 3 false true t (.int .i64 1) S fun T =>
  ∃ U, U < r ∧ p U R T S)
  (bin P .eql 2 false true F (.int .i64 1) G fun V =>
  cnd V
  (bin P .sub 3 false true E (.int .i64 1) G fun W =>
  ixa P 119 s W G fun X =>
  ld P 68 X G fun Y =>
  call P f_spec_l08PairOne [D, Y] G fun Z b0 =>
  xtr P Z 0 b0 fun c0 =>
  xtr P Z 1 b0 fun d0 =>
  alc P 68 b0 fun e0 g0 =>
  sto P 68 e0 c0 g0 fun h0 =>
  bin P .neq 2 false true d0 (.int .i64 0) h0 fun i0 =>
  cnd i0
  (bld P 68 [] h0 fun j0 =>
  sto P 68 d j0 h0 fun k0 =>
  ldc P 68 d k0 fun l0 =>
  K (.tuple #[l0, d0]) k0)
  (bin P .sub 3 false true E (.int .i64 1) h0 fun m0 =>
  sli P 119 s none (some m0) none h0 fun n0 =>
  ld P 68 e0 h0 fun o0 =>
  bsl P 119 1 [(0, o0)] h0 fun p0 q0 =>
  Ext h0 q0 ∧ bl2 P .append #[119, 119] 119 [n0, p0] q0 fun r0 s0 =>
  bin P .add 3 false true t (.int .i64 1) s0 fun t0 =>
  ∃ u0, u0 < r ∧ p u0 r0 t0 s0))
  (∃ v0 : Value → Value → World → Prop, (∀ (x0 : Value) (y0 : Value) (_ : Env) (z0 : World), v0 x0 y0 z0 →
  bin P .neq 2 false true y0 (.int .i64 0) z0 fun A0 =>
  cnd A0
  (bld P 68 [] z0 fun B0 =>
  sto P 68 d B0 z0 fun C0 =>
  ldc P 68 d C0 fun D0 =>
  K (.tuple #[D0, y0]) C0)
  (bin P .sub 3 false true E (.int .i64 2) z0 fun E0 =>
  sli P 119 s none (some E0) none z0 fun F0 =>
  ld P 68 x0 z0 fun G0 =>
  bsl P 119 1 [(0, G0)] z0 fun H0 L0 =>
  Ext z0 L0 ∧ bl2 P .append #[119, 119] 119 [F0, H0] L0 fun M0 N0 =>
  bin P .add 3 false true t (.int .i64 1) N0 fun O0 =>
  ∃ Q0, Q0 < r ∧ p Q0 M0 O0 N0)) ∧
  (bin P .sub 3 false true E (.int .i64 2) G fun R0 =>
  ixa P 119 s R0 G fun S0 =>
  ld P 68 S0 G fun T0 =>
  bin P .sub 3 false true E (.int .i64 1) G fun U0 =>
  ixa P 119 s U0 G fun V0 =>
  ld P 68 V0 G fun W0 =>
  (call P f_spec_l08PairTwo [D, T0, W0] G fun X0 Y0 =>
  xtr P X0 0 Y0 fun Z0 =>
  xtr P X0 1 Y0 fun b1 =>
  alc P 68 Y0 fun c1 d1 =>
  Ext Y0 d1 ∧ sto P 68 c1 Z0 d1 fun e1 =>
  (xtr P X0 1 e1 fun z => z = b1) ∧ v0 c1 b1 e1) ∧
  (alc P 68 G fun g1 h1 =>
  Ext G h1 ∧ call P f_spec_l08PairTwo [D, T0, W0] h1 fun i1 j1 =>
  xtr P i1 0 j1 fun k1 =>
  xtr P i1 1 j1 fun l1 =>
  sto P 68 g1 k1 j1 fun m1 =>
  (xtr P i1 1 m1 fun z => z = l1) ∧ v0 g1 l1 m1)))))
  (ixa P 119 s (.int .i64 0) u fun n1 =>
  ld P 68 n1 u fun o1 =>
  sto P 68 d o1 u fun p1 =>
  ldc P 68 d p1 fun q1 =>
  K (.tuple #[q1, (.int .i64 0)]) p1))
def P_spec_RunPair : Plan := (.seq rg30 (.seq (.seq rg7 (.seq rg0 (.cond (.seq rg7 .leaf) .leaf))) (.seq rg6 (.seq (.seq rg2 (.blk (.loop [7, 8] 158456325028528675187079544736 (.seq (.seq rg4 (.cond .leaf .leaf)) (.seq (.blk (.seq rg17 (.seq rg48 (.blk (.seq rg0 (.cond (.reg [.op (0, 0, false), .op (1, 0, false), .op (2, 0, false), .op (3, 2, false), .op (4, 0, false), .op (5, 2, false), .op (6, 2, false), .op (7, 0, false)]) (.seq rg0 (.cond (.seq (.reg [.op (0, 0, false), .op (1, 0, false), .op (2, 0, false), .op (3, 0, false), .op (4, 0, false), .op (5, 0, false), .op (6, 2, false), .op (7, 0, false), .op (8, 0, false), .op (9, 0, false), .op (10, 2, false), .op (11, 2, false), .op (12, 0, false)]) (.seq (.seq rg0 (.cond (.seq rg7 .leaf) .leaf)) (.reg [.op (0, 0, false), .op (1, 0, false), .op (2, 0, false), .op (3, 0, false), .op (4, 0, false), .op (5, 2, true), .op (6, 2, false), .op (7, 0, false)]))) (.seq (.tree [13, 14] 18013848753692672 (.op (0, 0, false) (.op (1, 0, false) (.op (2, 0, false) (.op (3, 0, false) (.op (4, 0, false) (.op (5, 0, false) (.op (6, 0, false) (.op (7, 0, false) (.op (8, 0, false) (.op (9, 0, false) (.op (10, 0, false) (.fork (11, 2, false) (.op (12, 0, false) (.op (13, 0, false) (.op (14, 0, false) (.fork (15, 2, true) (.fork (16, 16386, false) (.op (17, 0, false) .done) .stop) .stop)))) (.fork (15, 2, true) (.fork (11, 2, false) (.op (12, 0, false) (.op (13, 0, false) (.op (14, 0, false) (.fork (16, 16386, false) (.op (17, 0, false) .done) .stop)))) .stop) .stop)))))))))))))) (.seq (.seq rg0 (.cond (.seq rg7 .leaf) .leaf)) (.reg [.op (0, 0, false), .op (1, 0, false), .op (2, 0, false), .op (3, 0, false), .op (4, 0, false), .op (5, 2, true), .op (6, 2, false), .op (7, 0, false)]))))))))))) rg1))))) (.seq rg25 .leaf)))))
theorem I_spec_RunPair {a0 a1 : Value} {w : World} {K : Value → World → Prop} (h : D_spec_RunPair a0 a1 w K) : call P f_spec_RunPair [a0, a1] w K :=
  call_of_vc mixed Tryz.func40 (c := codeOf Tryz.f40) (by kernel_rfl) (by kernel_rfl) (p := P_spec_RunPair) (by kernel_rfl) (by rw [Tryz.ntmps40]; simp) (by
    have e : D_spec_RunPair a0 a1 w K = vc P P_spec_RunPair (codeOf Tryz.f40) (env0 [a0, a1]) w (retX P Tryz.f40.results.toList K) := by kernel_rfl
    exact e ▸ h)
def D_spec_l08Is (a0 : Value) (w : World) (K : Value → World → Prop) : Prop :=
  bx P 27 a0 w fun b c =>
  ld P 27 b c fun d =>
  call P f_spec_l08Depth [d] c fun e g =>
  bin P .gtr 2 false true e (.int .i64 0) g fun h =>
  K h g
def P_spec_l08Is : Plan := (.seq rg6 (.seq rg27 .leaf))
theorem I_spec_l08Is {a0 : Value} {w : World} {K : Value → World → Prop} (h : D_spec_l08Is a0 w K) : call P f_spec_l08Is [a0] w K :=
  call_of_vc mixed Tryz.func52 (c := codeOf Tryz.f52) (by kernel_rfl) (by kernel_rfl) (p := P_spec_l08Is) (by kernel_rfl) (by rw [Tryz.ntmps52]; simp) (by
    have e : D_spec_l08Is a0 w K = vc P P_spec_l08Is (codeOf Tryz.f52) (env0 [a0]) w (retX P Tryz.f52.results.toList K) := by kernel_rfl
    exact e ▸ h)
def D_spec_l08Depth (a0 : Value) (w : World) (K : Value → World → Prop) : Prop :=
  bx P 27 a0 w fun b c =>
  fda P 27 b 0 c fun d =>
  ld P 22 d c fun e =>
  bl0 P .len #[22] 3 [e] c fun g =>
  bin P .lss 3 false true g (.int .i64 1) c fun h =>
  ∃ i : Value → World → Prop, (∀ (j : Value) (_ : Env) (k : World), i j k →
  pick h (.bool true) j fun l =>
  cnd l
  (K (.int .i64 0) k)
  (∃ m : Nat → Value → Value → Value → World → Prop, (∃ n, m n (.int .i64 0) (.int .i64 0) (.int .i64 0) k) ∧ ∀ (o : Nat) (p : Value) (q : Value) (r : Value) (_ : Env) (s : World), m o p q r s →
  fda P 27 b 0 s fun t =>
  ld P 22 t s fun u =>
  bl0 P .len #[22] 3 [u] s fun v =>
  bin P .lss 3 false false r v s fun x =>
  cnd x
  (fda P 27 b 0 s fun y =>
  ld P 22 y s fun z =>
  ixa P 22 z r s fun A =>
  ld P 9 A s fun B =>
  call P f_spec_l08Needs [B] s fun C D =>
  bin P .lss 2 false true C (.int .i64 0) D fun E =>
  ∃ F : Value → World → Prop, (∀ (G : Value) (_ : Env) (H : World), F G H →
  pick E (.bool true) G fun L =>
  cnd L
  (K (.int .i64 0) H)
  (bin P .sub 2 false false p C H fun M =>
  bin P .add 2 false true M (.int .i64 1) H fun N =>
  bl0 P .max #[2, 2] 2 [q, N] H fun O =>
  bin P .add 3 false true r (.int .i64 1) H fun Q =>
  ∃ R, R < o ∧ m R N O Q H)) ∧
  grd E false
  (bin P .lss 2 false false p C D fun S =>
  F S D)
  (F undef D))
  (bin P .neq 2 false true p (.int .i64 1) s fun T =>
  ∃ U : Value → World → Prop, (∀ (V : Value) (_ : Env) (W : World), U V W →
  pick T (.bool true) V fun X =>
  cnd X
  (K (.int .i64 0) W)
  (K q W)) ∧
  grd T false
  (bin P .gtr 2 false true q (.int .i64 16) s fun Y =>
  U Y s)
  (U undef s)))) ∧
  grd h false
  (fda P 27 b 0 c fun Z =>
  ld P 22 Z c fun b0 =>
  bl0 P .len #[22] 3 [b0] c fun c0 =>
  bin P .gtr 3 false true c0 (.int .i64 60) c fun d0 =>
  i d0 c)
  (i undef c)
def P_spec_l08Depth : Plan := (.seq rg6 (.seq (.seq (.reg [.op (0, 0, false), .op (1, 0, false), .op (2, 0, false), .op (3, 0, false), .op (4, 0, false), .grp 4 false [(5, 0, false), (6, 0, false), (7, 0, false), (8, 0, false)] [15] 61440, .op (9, 0, false)]) (.cond (.seq rg2 .leaf) .leaf)) (.seq rg0 (.seq (.seq rg2 (.blk (.loop [3, 4, 5] 17592185913468 (.seq (.seq rg4 (.cond .leaf .leaf)) (.seq (.blk (.seq rg42 (.seq (.seq (.reg [.op (0, 0, false), .op (1, 0, false), .op (2, 0, false), .grp 2 false [(3, 0, false), (4, 0, false), (5, 0, false)] [35] 60129542144, .op (6, 0, false)]) (.cond (.seq rg2 .leaf) .leaf)) (.seq rg4 rg5)))) rg1))))) (.seq (.seq (.reg [.op (0, 0, false), .op (1, 0, false), .op (2, 0, false), .grp 2 false [(3, 0, false), (4, 0, false)] [48] 422212465065984, .op (5, 0, false)]) (.cond (.seq rg2 .leaf) .leaf)) (.seq rg0 .leaf))))))
theorem I_spec_l08Depth {a0 : Value} {w : World} {K : Value → World → Prop} (h : D_spec_l08Depth a0 w K) : call P f_spec_l08Depth [a0] w K :=
  call_of_vc mixed Tryz.func56 (c := codeOf Tryz.f56) (by kernel_rfl) (by kernel_rfl) (p := P_spec_l08Depth) (by kernel_rfl) (by rw [Tryz.ntmps56]; simp) (by
    have e : D_spec_l08Depth a0 w K = vc P P_spec_l08Depth (codeOf Tryz.f56) (env0 [a0]) w (retX P Tryz.f56.results.toList K) := by kernel_rfl
    exact e ▸ h)
def D_spec_l08Variables (a0 : Value) (w : World) (K : Value → World → Prop) : Prop :=
  bx P 27 a0 w fun b c =>
  ∃ d : Nat → Value → Value → World → Prop, (∃ e, d e (.int .i64 0) (.int .i64 0) c) ∧ ∀ (g : Nat) (h : Value) (i : Value) (_ : Env) (j : World), d g h i j →
  fda P 27 b 0 j fun k =>
  ld P 22 k j fun l =>
  bl0 P .len #[22] 3 [l] j fun m =>
  bin P .lss 3 false false i m j fun n =>
  cnd n
  (fda P 27 b 0 j fun o =>
  ld P 22 o j fun p =>
  ixa P 22 p i j fun q =>
  ld P 9 q j fun r =>
  call P f_spec_l08Variable [r] j fun s t =>
  bin P .add 2 false true s (.int .i64 1) t fun u =>
  bl0 P .max #[2, 2] 2 [h, u] t fun v =>
  bin P .add 3 false true i (.int .i64 1) t fun x =>
  ∃ y, y < g ∧ d y v x t)
  (K h j)
def P_spec_l08Variables : Plan := (.seq rg6 (.seq rg2 (.seq (.seq rg2 (.blk (.loop [3, 4] 2097144 (.seq (.seq rg4 (.cond .leaf .leaf)) (.seq (.blk (.reg [.op (0, 0, false), .op (1, 0, false), .op (2, 0, false), .op (3, 0, false), .op (4, 0, false), .op (5, 0, false), .op (6, 2, false), .op (7, 0, false), .op (8, 0, false), .op (9, 0, false)])) rg1))))) (.seq rg0 .leaf))))
theorem I_spec_l08Variables {a0 : Value} {w : World} {K : Value → World → Prop} (h : D_spec_l08Variables a0 w K) : call P f_spec_l08Variables [a0] w K :=
  call_of_vc mixed Tryz.func57 (c := codeOf Tryz.f57) (by kernel_rfl) (by kernel_rfl) (p := P_spec_l08Variables) (by kernel_rfl) (by rw [Tryz.ntmps57]; simp) (by
    have e : D_spec_l08Variables a0 w K = vc P P_spec_l08Variables (codeOf Tryz.f57) (env0 [a0]) w (retX P Tryz.f57.results.toList K) := by kernel_rfl
    exact e ▸ h)
def D_spec_l08Code (a0 a1 : Value) (w : World) (K : Value → World → Prop) : Prop :=
  bx P 27 a0 w fun b c =>
  ld P 27 b c fun d =>
  call P f_spec_l08Is [d] c fun e g =>
  una P .not e g fun h =>
  cnd h
  (K (.int .i64 1) g)
  (∃ i : Nat → Value → World → Prop, (∃ j, i j (.int .i64 0) g) ∧ ∀ (k : Nat) (l : Value) (_ : Env) (m : World), i k l m →
  bl0 P .len #[52] 3 [a1] m fun n =>
  bin P .lss 3 false false l n m fun o =>
  cnd o
  (ixa P 52 a1 l m fun p =>
  ld P 66 p m fun q =>
  call P f_spec_l01Finite [q] m fun r s =>
  una P .not r s fun t =>
  cnd t
  (K (.int .i64 1) s)
  (bin P .add 3 false true l (.int .i64 1) s fun u =>
  ∃ v, v < k ∧ i v u s))
  (bl0 P .len #[52] 3 [a1] m fun x =>
  ld P 27 b m fun y =>
  call P f_spec_l08Variables [y] m fun z A =>
  call P f_spec_l01In [x, z, (.int .i64 3)] A fun B C =>
  una P .not B C fun D =>
  cnd D
  (K (.int .i64 2) C)
  (K (.int .i64 0) C)))
def P_spec_l08Code : Plan := (.seq rg6 (.seq (.seq rg3 (.cond (.seq rg2 .leaf) .leaf)) (.seq (.seq rg2 (.blk (.loop [5] 2096688 (.seq (.seq rg5 (.cond .leaf .leaf)) (.seq (.blk (.seq rg19 (.cond (.seq rg2 .leaf) .leaf))) rg1))))) (.seq (.seq rg39 (.cond (.seq rg2 .leaf) .leaf)) (.seq rg2 .leaf)))))
theorem I_spec_l08Code {a0 a1 : Value} {w : World} {K : Value → World → Prop} (h : D_spec_l08Code a0 a1 w K) : call P f_spec_l08Code [a0, a1] w K :=
  call_of_vc mixed Tryz.func74 (c := codeOf Tryz.f74) (by kernel_rfl) (by kernel_rfl) (p := P_spec_l08Code) (by kernel_rfl) (by rw [Tryz.ntmps74]; simp) (by
    have e : D_spec_l08Code a0 a1 w K = vc P P_spec_l08Code (codeOf Tryz.f74) (env0 [a0, a1]) w (retX P Tryz.f74.results.toList K) := by kernel_rfl
    exact e ▸ h)
def D_spec_l08Needs (a0 : Value) (w : World) (K : Value → World → Prop) : Prop :=
  ∃ b : World → Prop, (∀ (_ : Env) (c : World), b c →
  call P f_spec_l06Float [a0] c fun d e =>
  xtr P d 0 e fun g =>
  xtr P d 1 e fun h =>
  cnd h
  (K (.int .i64 0) e)
  (K (.int .i64 (-1)) e)) ∧
  (∃ i : Value → World → Prop, (∀ (j : Value) (_ : Env) (k : World), i j k →
  cnd j
  (K (.int .i64 0) k)
  (∃ l : Value → World → Prop, (∀ (m : Value) (_ : Env) (n : World), l m n →
  cnd m
  (K (.int .i64 1) n)
  (bin P .eql 9 false true a0 (.string ⟨#[43]⟩) n fun o =>
  cnd o
  (cnd o
  (K (.int .i64 2) n)
  (b n))
  (bin P .eql 9 false true a0 (.string ⟨#[45]⟩) n fun p =>
  cnd p
  (cnd p
  (K (.int .i64 2) n)
  (b n))
  (bin P .eql 9 false true a0 (.string ⟨#[42]⟩) n fun q =>
  cnd q
  (cnd q
  (K (.int .i64 2) n)
  (b n))
  (bin P .eql 9 false true a0 (.string ⟨#[47]⟩) n fun r =>
  cnd r
  (cnd r
  (K (.int .i64 2) n)
  (b n))
  (bin P .eql 9 false true a0 (.string ⟨#[109, 105, 110]⟩) n fun s =>
  cnd s
  (cnd s
  (K (.int .i64 2) n)
  (b n))
  (bin P .eql 9 false true a0 (.string ⟨#[109, 97, 120]⟩) n fun t =>
  cnd t
  (K (.int .i64 2) n)
  (b n)))))))) ∧
  (bin P .eql 9 false true a0 (.string ⟨#[110, 101, 103]⟩) k fun u =>
  cnd u
  (l u k)
  (bin P .eql 9 false true a0 (.string ⟨#[115, 113, 114]⟩) k fun v =>
  cnd v
  (l v k)
  (bin P .eql 9 false true a0 (.string ⟨#[97, 98, 115]⟩) k fun x =>
  cnd x
  (l x k)
  (bin P .eql 9 false true a0 (.string ⟨#[114, 111, 111, 116]⟩) k fun y =>
  cnd y
  (l y k)
  (bin P .eql 9 false true a0 (.string ⟨#[101, 120, 112]⟩) k fun z =>
  cnd z
  (l z k)
  (bin P .eql 9 false true a0 (.string ⟨#[108, 111, 103]⟩) k fun A =>
  cnd A
  (l A k)
  (bin P .eql 9 false true a0 (.string ⟨#[97, 116, 97, 110]⟩) k fun B =>
  cnd B
  (l B k)
  (bin P .eql 9 false true a0 (.string ⟨#[115, 105, 110]⟩) k fun C =>
  l C k)))))))))) ∧
  (bin P .eql 9 false true a0 (.string ⟨#[120]⟩) w fun D =>
  cnd D
  (i D w)
  (bin P .eql 9 false true a0 (.string ⟨#[121]⟩) w fun E =>
  cnd E
  (i E w)
  (bin P .eql 9 false true a0 (.string ⟨#[122]⟩) w fun F =>
  i F w))))
def P_spec_l08Needs : Plan := (.seq rg2 (.cut [] 67108836 (.seq rg2 (.blk (.cut [6] 960 (.seq rg0 (.cond .leaf (.seq rg0 (.cond .leaf rg0)))) (.cond (.seq rg2 .leaf) (.cut [10] 523264 (.seq rg0 (.cond .leaf (.seq rg0 (.cond .leaf (.seq rg0 (.cond .leaf (.seq rg0 (.cond .leaf (.seq rg0 (.cond .leaf (.seq rg0 (.cond .leaf (.seq rg0 (.cond .leaf rg0)))))))))))))) (.cond (.seq rg2 .leaf) (.seq (.seq rg0 (.cond .leaf (.seq rg0 (.cond .leaf (.seq rg0 (.cond .leaf (.seq rg0 (.cond .leaf (.seq rg0 (.cond .leaf rg0)))))))))) (.cond (.seq rg2 .leaf) .leaf)))))))) (.seq (.seq rg10 (.seq rg2 (.cond (.seq rg2 .leaf) .leaf))) (.seq rg2 .leaf))))
theorem I_spec_l08Needs {a0 : Value} {w : World} {K : Value → World → Prop} (h : D_spec_l08Needs a0 w K) : call P f_spec_l08Needs [a0] w K :=
  call_of_vc mixed Tryz.func89 (c := codeOf Tryz.f89) (by kernel_rfl) (by kernel_rfl) (p := P_spec_l08Needs) (by kernel_rfl) (by rw [Tryz.ntmps89]; simp) (by
    have e : D_spec_l08Needs a0 w K = vc P P_spec_l08Needs (codeOf Tryz.f89) (env0 [a0]) w (retX P Tryz.f89.results.toList K) := by kernel_rfl
    exact e ▸ h)
def D_spec_l08Leaf (a0 a1 : Value) (w : World) (K : Value → World → Prop) : Prop :=
  call P f_spec_l08Variable [a0] w fun b c =>
  bin P .geq 2 false true b (.int .i64 0) c fun d =>
  cnd d
  (ixa P 52 a1 b c fun e =>
  ld P 66 e c fun g =>
  K g c)
  (call P f_spec_l06Float [a0] c fun h i =>
  xtr P h 0 i fun j =>
  xtr P h 1 i fun k =>
  K j i)
def P_spec_l08Leaf : Plan := (.seq rg2 (.seq (.seq rg3 (.seq rg0 (.cond (.seq rg4 .leaf) .leaf))) (.seq rg10 (.seq rg0 .leaf))))
theorem I_spec_l08Leaf {a0 a1 : Value} {w : World} {K : Value → World → Prop} (h : D_spec_l08Leaf a0 a1 w K) : call P f_spec_l08Leaf [a0, a1] w K :=
  call_of_vc mixed Tryz.func90 (c := codeOf Tryz.f90) (by kernel_rfl) (by kernel_rfl) (p := P_spec_l08Leaf) (by kernel_rfl) (by rw [Tryz.ntmps90]; simp) (by
    have e : D_spec_l08Leaf a0 a1 w K = vc P P_spec_l08Leaf (codeOf Tryz.f90) (env0 [a0, a1]) w (retX P Tryz.f90.results.toList K) := by kernel_rfl
    exact e ▸ h)
def D_spec_l08PairOne (a0 a1 : Value) (w : World) (K : Value → World → Prop) : Prop :=
  bx P 68 a1 w fun b c =>
  alc P 68 c fun d e =>
  bin P .eql 9 false true a0 (.string ⟨#[110, 101, 103]⟩) e fun g =>
  cnd g
  (ld P 68 b e fun h =>
  call P f_spec_l08Turn [h] e fun i j =>
  sto P 68 d i j fun k =>
  ldc P 68 d k fun l =>
  K (.tuple #[l, (.int .i64 0)]) k)
  (bin P .eql 9 false true a0 (.string ⟨#[97, 98, 115]⟩) e fun m =>
  cnd m
  (ld P 68 b e fun n =>
  call P f_spec_l05Value [n] e fun o p =>
  fld P 57 o 0 p fun q =>
  fld P 55 q 0 p fun r =>
  bin P .lss 2 false true r (.int .i64 0) p fun s =>
  cnd s
  (ld P 68 b p fun t =>
  call P f_spec_l08Turn [t] p fun u v =>
  sto P 68 d u v fun x =>
  ldc P 68 d x fun y =>
  K (.tuple #[y, (.int .i64 0)]) x)
  (ld P 68 b p fun z =>
  sto P 68 d z p fun A =>
  ldc P 68 d A fun B =>
  K (.tuple #[B, (.int .i64 0)]) A))
  (bin P .eql 9 false true a0 (.string ⟨#[115, 113, 114]⟩) e fun C =>
  cnd C
  (ld P 68 b e fun D =>
  ld P 68 b e fun E =>
  call P f_spec_l05Times [D, E] e fun F G =>
  xtr P F 0 G fun H =>
  xtr P F 1 G fun L =>
  alc P 68 G fun M N =>
  sto P 68 M H N fun O =>
  una P .not L O fun Q =>
  cnd Q
  (bld P 68 [] O fun R =>
  sto P 68 d R O fun S =>
  ldc P 68 d S fun T =>
  K (.tuple #[T, (.int .i64 3)]) S)
  (ld P 68 M O fun U =>
  sto P 68 d U O fun V =>
  ldc P 68 d V fun W =>
  K (.tuple #[W, (.int .i64 0)]) V))
  (bld P 68 [] e fun X =>
  sto P 68 d X e fun Y =>
  ldc P 68 d Y fun Z =>
  K (.tuple #[Z, (.int .i64 5)]) Y)))
def P_spec_l08PairOne : Plan := (.seq rg30 (.seq (.seq rg2 (.blk (.seq rg0 (.cond (.seq rg29 .leaf) (.seq rg0 (.cond (.seq (.seq rg34 (.cond (.seq rg29 .leaf) .leaf)) (.seq rg3 .leaf)) (.seq rg0 (.cond (.seq rg32 (.seq (.seq rg0 (.cond (.seq rg3 .leaf) .leaf)) (.seq rg3 .leaf))) .leaf)))))))) (.seq rg3 .leaf)))
theorem I_spec_l08PairOne {a0 a1 : Value} {w : World} {K : Value → World → Prop} (h : D_spec_l08PairOne a0 a1 w K) : call P f_spec_l08PairOne [a0, a1] w K :=
  call_of_vc mixed Tryz.func91 (c := codeOf Tryz.f91) (by kernel_rfl) (by kernel_rfl) (p := P_spec_l08PairOne) (by kernel_rfl) (by rw [Tryz.ntmps91]; simp) (by
    have e : D_spec_l08PairOne a0 a1 w K = vc P P_spec_l08PairOne (codeOf Tryz.f91) (env0 [a0, a1]) w (retX P Tryz.f91.results.toList K) := by kernel_rfl
    exact e ▸ h)
def D_spec_l08PairTwo (a0 a1 a2 : Value) (w : World) (K : Value → World → Prop) : Prop :=
  bx P 68 a1 w fun b c =>
  bx P 68 a2 c fun d e =>
  alc P 68 e fun g h =>
  bld P 68 [] h fun i =>
  alc P 68 h fun j k =>
  sto P 68 j i k fun l =>
  ∃ m : Value → World → Prop, (∀ (n : Value) (_ : Env) (o : World), m n o →
  una P .not n o fun p =>
  cnd p
  (bld P 68 [] o fun q =>
  sto P 68 g q o fun r =>
  ldc P 68 g r fun s =>
  K (.tuple #[s, (.int .i64 3)]) r)
  (ld P 68 j o fun t =>
  sto P 68 g t o fun u =>
  ldc P 68 g u fun v =>
  K (.tuple #[v, (.int .i64 0)]) u)) ∧
  (bin P .eql 9 false true a0 (.string ⟨#[43]⟩) l fun x =>
  cnd x
  (ld P 68 b l fun y =>
  ld P 68 d l fun z =>
  call P f_spec_l05Add [y, z] l fun A B =>
  xtr P A 0 B fun C =>
  xtr P A 1 B fun D =>
  sto P 68 j C B fun E =>
  m D E)
  (bin P .eql 9 false true a0 (.string ⟨#[45]⟩) l fun F =>
  cnd F
  (ld P 68 b l fun G =>
  ld P 68 d l fun H =>
  call P f_spec_l08Turn [H] l fun L M =>
  Ext l M ∧ call P f_spec_l05Add [G, L] M fun N O =>
  xtr P N 0 O fun Q =>
  xtr P N 1 O fun R =>
  sto P 68 j Q O fun S =>
  (xtr P N 1 S fun z => z = R) ∧ m R S)
  (bin P .eql 9 false true a0 (.string ⟨#[42]⟩) l fun T =>
  cnd T
  (ld P 68 b l fun U =>
  ld P 68 d l fun V =>
  call P f_spec_l05Times [U, V] l fun W X =>
  xtr P W 0 X fun Y =>
  xtr P W 1 X fun Z =>
  sto P 68 j Y X fun b0 =>
  m Z b0)
  (bin P .eql 9 false true a0 (.string ⟨#[47]⟩) l fun c0 =>
  cnd c0
  (fda P 68 d 0 l fun d0 =>
  ld P 66 d0 l fun e0 =>
  bin P .eql 66 false true e0 (.float .f32 0) l fun g0 =>
  cnd g0
  (bld P 68 [] l fun h0 =>
  sto P 68 g h0 l fun i0 =>
  ldc P 68 g i0 fun j0 =>
  K (.tuple #[j0, (.int .i64 5)]) i0)
  (ld P 68 b l fun k0 =>
  ld P 68 d l fun l0 =>
  call P f_spec_l05Over [k0, l0] l fun m0 n0 =>
  xtr P m0 0 n0 fun o0 =>
  xtr P m0 1 n0 fun p0 =>
  sto P 68 j o0 n0 fun q0 =>
  m p0 q0))
  (ld P 68 b l fun r0 =>
  ld P 68 d l fun s0 =>
  call P f_spec_l05Value [r0] l fun t0 u0 =>
  Ext l u0 ∧ call P f_spec_l05Value [s0] u0 fun v0 x0 =>
  call P f_spec_l03Compare [t0, v0] x0 fun y0 z0 =>
  bin P .eql 9 false true a0 (.string ⟨#[109, 105, 110]⟩) z0 fun A0 =>
  ∃ B0 : Value → World → Prop, (∀ (C0 : Value) (_ : Env) (D0 : World), B0 C0 D0 →
  pick A0 C0 (.bool false) fun E0 =>
  ∃ F0 : Value → World → Prop, (∀ (G0 : Value) (_ : Env) (H0 : World), F0 G0 H0 →
  ∃ L0 : Value → World → Prop, (∀ (M0 : Value) (_ : Env) (N0 : World), L0 M0 N0 →
  ∃ O0 : Value → World → Prop, (∀ (Q0 : Value) (_ : Env) (R0 : World), O0 Q0 R0 →
  pick E0 (.bool true) Q0 fun S0 =>
  cnd S0
  (ld P 68 d R0 fun T0 =>
  sto P 68 g T0 R0 fun U0 =>
  ldc P 68 g U0 fun V0 =>
  K (.tuple #[V0, (.int .i64 0)]) U0)
  (ld P 68 b R0 fun W0 =>
  sto P 68 g W0 R0 fun X0 =>
  ldc P 68 g X0 fun Y0 =>
  K (.tuple #[Y0, (.int .i64 0)]) X0)) ∧
  grd E0 false
  (pick G0 M0 (.bool false) fun Z0 =>
  O0 Z0 N0)
  (O0 undef N0)) ∧
  grd G0 true
  (bin P .lss 2 false true y0 (.int .i64 0) H0 fun b1 =>
  L0 b1 H0)
  (L0 undef H0)) ∧
  grd E0 false
  (bin P .eql 9 false true a0 (.string ⟨#[109, 97, 120]⟩) D0 fun c1 =>
  F0 c1 D0)
  (F0 undef D0)) ∧
  grd A0 true
  (bin P .gtr 2 false true y0 (.int .i64 0) z0 fun d1 =>
  B0 d1 z0)
  (B0 undef z0))))))
def P_spec_l08PairTwo : Plan := (.seq rg23 (.seq rg29 (.cut [9] 2361183241434822604416 (.seq rg2 (.blk (.seq rg0 (.cond rg40 (.seq rg0 (.cond (.reg [.op (0, 0, false), .op (1, 0, false), .op (2, 2, true), .op (3, 2, false), .op (4, 0, false), .op (5, 0, false), .op (6, 0, false), .op (7, 66, false), .op (8, 0, false)]) (.seq rg0 (.cond rg40 (.seq rg0 (.cond (.seq (.seq rg1 (.cond (.seq rg3 .leaf) .leaf)) rg40) (.seq (.reg [.op (0, 0, false), .op (2, 0, false), .op (1, 2, true), .op (3, 2, false), .op (4, 2, false), .op (5, 0, false)]) (.seq (.seq (.reg [.op (0, 0, false), .op (1, 0, false), .op (2, 0, false), .grp 2 true [(3, 0, false), (4, 0, false)] [22] 6291456, .op (5, 0, false), .op (6, 0, false), .grp 6 false [(7, 0, false), (8, 0, false), (9, 0, false)] [27] 234881024, .grp 9 true [(10, 0, false), (11, 0, false)] [29] 805306368, .grp 6 false [(12, 0, false)] [30] 1073741824, .op (13, 0, false)]) (.cond (.seq rg3 .leaf) .leaf)) (.seq rg3 .leaf))))))))))))) (.seq (.seq rg0 (.cond (.seq rg3 .leaf) .leaf)) (.seq rg3 .leaf)))))
theorem I_spec_l08PairTwo {a0 a1 a2 : Value} {w : World} {K : Value → World → Prop} (h : D_spec_l08PairTwo a0 a1 a2 w K) : call P f_spec_l08PairTwo [a0, a1, a2] w K :=
  call_of_vc mixed Tryz.func92 (c := codeOf Tryz.f92) (by kernel_rfl) (by kernel_rfl) (p := P_spec_l08PairTwo) (by kernel_rfl) (by rw [Tryz.ntmps92]; simp) (by
    have e : D_spec_l08PairTwo a0 a1 a2 w K = vc P P_spec_l08PairTwo (codeOf Tryz.f92) (env0 [a0, a1, a2]) w (retX P Tryz.f92.results.toList K) := by kernel_rfl
    exact e ▸ h)
def D_spec_l08Variable (a0 : Value) (w : World) (K : Value → World → Prop) : Prop :=
  bin P .eql 9 false true a0 (.string ⟨#[120]⟩) w fun b =>
  cnd b
  (K (.int .i64 0) w)
  (bin P .eql 9 false true a0 (.string ⟨#[121]⟩) w fun c =>
  cnd c
  (K (.int .i64 1) w)
  (bin P .eql 9 false true a0 (.string ⟨#[122]⟩) w fun d =>
  cnd d
  (K (.int .i64 2) w)
  (K (.int .i64 (-1)) w)))
def P_spec_l08Variable : Plan := (.seq rg2 (.seq (.seq rg2 (.blk (.seq rg0 (.cond (.seq rg2 .leaf) (.seq rg0 (.cond (.seq rg2 .leaf) (.seq rg0 (.cond (.seq rg2 .leaf) .leaf)))))))) (.seq rg2 .leaf)))
theorem I_spec_l08Variable {a0 : Value} {w : World} {K : Value → World → Prop} (h : D_spec_l08Variable a0 w K) : call P f_spec_l08Variable [a0] w K :=
  call_of_vc mixed Tryz.func104 (c := codeOf Tryz.f104) (by kernel_rfl) (by kernel_rfl) (p := P_spec_l08Variable) (by kernel_rfl) (by rw [Tryz.ntmps104]; simp) (by
    have e : D_spec_l08Variable a0 w K = vc P P_spec_l08Variable (codeOf Tryz.f104) (env0 [a0]) w (retX P Tryz.f104.results.toList K) := by kernel_rfl
    exact e ▸ h)
def D_spec_l08Turn (a0 : Value) (w : World) (K : Value → World → Prop) : Prop :=
  bx P 68 a0 w fun b c =>
  alc P 68 c fun d e =>
  fda P 68 b 0 e fun g =>
  ld P 66 g e fun h =>
  fda P 68 b 1 e fun i =>
  ld P 66 i e fun j =>
  call P f_spec_l01Turned [h] e fun k l =>
  Ext e l ∧ call P f_spec_l01Turned [j] l fun m n =>
  bld P 68 [(0, k), (1, m)] n fun o =>
  sto P 68 d o n fun p =>
  ldc P 68 d p fun q =>
  K q p
def P_spec_l08Turn : Plan := (.seq rg31 (.seq (.reg [.op (0, 0, false), .op (1, 0, false), .op (3, 0, false), .op (4, 0, false), .op (2, 2, true), .op (5, 2, false), .op (6, 0, false), .op (7, 2, false)]) .leaf))
theorem I_spec_l08Turn {a0 : Value} {w : World} {K : Value → World → Prop} (h : D_spec_l08Turn a0 w K) : call P f_spec_l08Turn [a0] w K :=
  call_of_vc mixed Tryz.func142 (c := codeOf Tryz.f142) (by kernel_rfl) (by kernel_rfl) (p := P_spec_l08Turn) (by kernel_rfl) (by rw [Tryz.ntmps142]; simp) (by
    have e : D_spec_l08Turn a0 w K = vc P P_spec_l08Turn (codeOf Tryz.f142) (env0 [a0]) w (retX P Tryz.f142.results.toList K) := by kernel_rfl
    exact e ▸ h)
end Go.Proofs.YtjompmflommadaaGreatDoor


set_option linter.unusedVariables false
set_option maxRecDepth 20000
namespace Go.Proofs.YtjompmflommadaaGreatDoor
open Go Go.Vc
def D_impl_IsPair (a0 : Value) (w : World) (K : Value → World → Prop) : Prop :=
  bx P 68 a0 w fun b c =>
  fda P 68 b 0 c fun d =>
  ld P 66 d c fun e =>
  fda P 68 b 1 c fun g =>
  ld P 66 g c fun h =>
  bsl P 52 2 [(0, e), (1, h)] c fun i j =>
  call P f_impl_areFinite [i] j fun k l =>
  ∃ m : Value → World → Prop, (∀ (n : Value) (_ : Env) (o : World), m n o →
  pick k n (.bool false) fun p =>
  K p o) ∧
  grd k true
  (fda P 68 b 0 l fun q =>
  ld P 66 q l fun r =>
  fda P 68 b 1 l fun s =>
  ld P 66 s l fun t =>
  rbin P .add 66 false false r t l fun u =>
  fda P 68 b 0 l fun v =>
  ld P 66 v l fun x =>
  bin P .eql 66 false false u x l fun y =>
  m y l)
  (m undef l)
def P_impl_IsPair : Plan := (.seq rg6 (.seq (.reg [.op (0, 0, false), .op (1, 0, false), .op (2, 0, false), .op (3, 0, false), .op (4, 2, false), .op (5, 2, false), .op (6, 0, false), .grp 6 true [(7, 0, false), (8, 0, false), (9, 0, false), (10, 0, false), (11, 1, false), (12, 0, false), (13, 0, false), (14, 0, false)] [17] 261120, .op (15, 0, false), .op (16, 0, false)]) .leaf))
theorem I_impl_IsPair {a0 : Value} {w : World} {K : Value → World → Prop} (h : D_impl_IsPair a0 w K) : call P f_impl_IsPair [a0] w K :=
  call_of_vc mixed Tryz.func50 (c := codeOf Tryz.f50) (by kernel_rfl) (by kernel_rfl) (p := P_impl_IsPair) (by kernel_rfl) (by rw [Tryz.ntmps50]; simp) (by
    have e : D_impl_IsPair a0 w K = vc P P_impl_IsPair (codeOf Tryz.f50) (env0 [a0]) w (retX P Tryz.f50.results.toList K) := by kernel_rfl
    exact e ▸ h)
def D_impl_opposite (a0 : Value) (w : World) (K : Value → World → Prop) : Prop :=
  bx P 68 a0 w fun b c =>
  alc P 68 c fun d e =>
  fda P 68 b 0 e fun g =>
  ld P 66 g e fun h =>
  una P .neg h e fun i =>
  fda P 68 b 1 e fun j =>
  ld P 66 j e fun k =>
  una P .neg k e fun l =>
  bld P 68 [(0, i), (1, l)] e fun m =>
  sto P 68 d m e fun n =>
  ldc P 68 d n fun o =>
  K o n
def P_impl_opposite : Plan := (.seq rg31 (.seq rg15 .leaf))
theorem I_impl_opposite {a0 : Value} {w : World} {K : Value → World → Prop} (h : D_impl_opposite a0 w K) : call P f_impl_opposite [a0] w K :=
  call_of_vc mixed Tryz.func148 (c := codeOf Tryz.f148) (by kernel_rfl) (by kernel_rfl) (p := P_impl_opposite) (by kernel_rfl) (by rw [Tryz.ntmps148]; simp) (by
    have e : D_impl_opposite a0 w K = vc P P_impl_opposite (codeOf Tryz.f148) (env0 [a0]) w (retX P Tryz.f148.results.toList K) := by kernel_rfl
    exact e ▸ h)
def D_impl_limited (a0 a1 : Value) (w : World) (K : Value → World → Prop) : Prop :=
  bx P 68 a0 w fun b c =>
  alc P 68 c fun d e =>
  una P .not a1 e fun g =>
  cnd g
  (bld P 68 [] e fun h =>
  sto P 68 d h e fun i =>
  ldc P 68 d i fun j =>
  K (.tuple #[j, (.int .i64 3)]) i)
  (ld P 68 b e fun k =>
  sto P 68 d k e fun l =>
  ldc P 68 d l fun m =>
  K (.tuple #[m, (.int .i64 0)]) l)
def P_impl_limited : Plan := (.seq rg30 (.seq (.seq rg0 (.cond (.seq rg3 .leaf) .leaf)) (.seq rg3 .leaf)))
theorem I_impl_limited {a0 a1 : Value} {w : World} {K : Value → World → Prop} (h : D_impl_limited a0 a1 w K) : call P f_impl_limited [a0, a1] w K :=
  call_of_vc mixed Tryz.func149 (c := codeOf Tryz.f149) (by kernel_rfl) (by kernel_rfl) (p := P_impl_limited) (by kernel_rfl) (by rw [Tryz.ntmps149]; simp) (by
    have e : D_impl_limited a0 a1 w K = vc P P_impl_limited (codeOf Tryz.f149) (env0 [a0, a1]) w (retX P Tryz.f149.results.toList K) := by kernel_rfl
    exact e ▸ h)
def D_impl_mulPairs (a0 a1 : Value) (w : World) (K : Value → World → Prop) : Prop :=
  bx P 68 a0 w fun b c =>
  bx P 68 a1 c fun d e =>
  alc P 68 e fun g h =>
  fda P 68 b 0 h fun i =>
  ld P 66 i h fun j =>
  fda P 68 d 0 h fun k =>
  ld P 66 k h fun l =>
  call P f_impl_shortProduct [j, l] h fun m n =>
  xtr P m 0 n fun o =>
  xtr P m 1 n fun p =>
  xtr P m 2 n fun q =>
  alc P 68 n fun r s =>
  sto P 68 r o s fun t =>
  una P .not p t fun u =>
  cnd u
  (bld P 68 [] t fun v =>
  sto P 68 g v t fun x =>
  ldc P 68 g x fun y =>
  K (.tuple #[y, (.bool false)]) x)
  (fda P 68 b 0 t fun z =>
  ld P 66 z t fun A =>
  fda P 68 d 1 t fun B =>
  ld P 66 B t fun C =>
  rbin P .mul 66 false false A C t fun D =>
  fda P 68 b 1 t fun E =>
  ld P 66 E t fun F =>
  fda P 68 d 0 t fun G =>
  ld P 66 G t fun H =>
  rbin P .mul 66 false false F H t fun L =>
  rbin P .add 66 false false D L t fun M =>
  fda P 68 r 1 t fun N =>
  ld P 66 N t fun O =>
  rbin P .add 66 false false O M t fun Q =>
  fda P 68 r 0 t fun R =>
  ld P 66 R t fun S =>
  call P f_impl_quick [S, Q] t fun T U =>
  xtr P T 0 U fun V =>
  xtr P T 1 U fun W =>
  alc P 68 U fun X Y =>
  sto P 68 X V Y fun Z =>
  bsl P 52 4 [(0, D), (1, L), (2, M), (3, Q)] Z fun b0 c0 =>
  call P f_impl_areFinite [b0] c0 fun d0 e0 =>
  una P .not d0 e0 fun g0 =>
  ∃ h0 : Value → World → Prop, (∀ (i0 : Value) (_ : Env) (j0 : World), h0 i0 j0 →
  pick g0 (.bool true) i0 fun k0 =>
  ∃ l0 : Value → World → Prop, (∀ (m0 : Value) (_ : Env) (n0 : World), l0 m0 n0 →
  pick k0 (.bool true) m0 fun o0 =>
  cnd o0
  (bld P 68 [] n0 fun p0 =>
  sto P 68 g p0 n0 fun q0 =>
  ldc P 68 g q0 fun r0 =>
  K (.tuple #[r0, (.bool false)]) q0)
  (ld P 68 X n0 fun s0 =>
  sto P 68 g s0 n0 fun t0 =>
  ldc P 68 g t0 fun u0 =>
  K (.tuple #[u0, (.bool true)]) t0)) ∧
  grd k0 false
  (ld P 68 X j0 fun v0 =>
  call P f_impl_IsPair [v0] j0 fun x0 y0 =>
  una P .not x0 y0 fun z0 =>
  l0 z0 y0)
  (l0 undef j0)) ∧
  grd g0 false
  (una P .not W e0 fun A0 =>
  h0 A0 e0)
  (h0 undef e0))
def P_impl_mulPairs : Plan := (.seq rg23 (.seq (.reg [.op (0, 0, false), .op (1, 0, false), .op (2, 0, false), .op (3, 0, false), .op (4, 2, false), .op (5, 0, false), .op (6, 0, false), .op (7, 0, false), .op (8, 0, false), .op (9, 2, false), .op (10, 2, false), .op (11, 0, false), .op (12, 0, false)]) (.seq (.seq rg0 (.cond (.seq rg3 .leaf) .leaf)) (.seq rg12 (.seq rg12 (.seq rg18 (.seq (.reg [.op (0, 0, false), .op (1, 0, false), .op (2, 0, false), .op (3, 1, false), .op (4, 0, false)]) (.seq rg14 (.seq (.seq (.reg [.op (0, 0, false), .op (1, 0, false), .op (2, 0, false), .op (3, 0, false), .op (4, 2, false), .op (5, 2, false), .op (6, 0, false), .op (7, 0, false), .grp 7 false [(8, 0, false), (9, 0, false)] [60] 1729382256910270464, .op (10, 0, false), .op (11, 0, false), .grp 11 false [(12, 0, false), (13, 2, false), (14, 0, false)] [65] 64563604257983430656, .op (15, 0, false)]) (.cond (.seq rg3 .leaf) .leaf)) (.seq rg3 .leaf))))))))))
theorem I_impl_mulPairs {a0 a1 : Value} {w : World} {K : Value → World → Prop} (h : D_impl_mulPairs a0 a1 w K) : call P f_impl_mulPairs [a0, a1] w K :=
  call_of_vc mixed Tryz.func150 (c := codeOf Tryz.f150) (by kernel_rfl) (by kernel_rfl) (p := P_impl_mulPairs) (by kernel_rfl) (by rw [Tryz.ntmps150]; simp) (by
    have e : D_impl_mulPairs a0 a1 w K = vc P P_impl_mulPairs (codeOf Tryz.f150) (env0 [a0, a1]) w (retX P Tryz.f150.results.toList K) := by kernel_rfl
    exact e ▸ h)
def D_impl_pairValue (a0 : Value) (w : World) (K : Value → World → Prop) : Prop :=
  bx P 68 a0 w fun b c =>
  alc P 105 c fun d e =>
  fda P 68 b 0 e fun g =>
  ld P 66 g e fun h =>
  fda P 68 b 1 e fun i =>
  ld P 66 i e fun j =>
  call P f_impl_numOf [h] e fun k l =>
  Ext e l ∧ call P f_impl_numOf [j] l fun m n =>
  call P f_impl_num_add [k, m] n fun o p =>
  sto P 105 d o p fun q =>
  ldc P 105 d q fun r =>
  K r q
def P_impl_pairValue : Plan := (.seq rg31 (.seq (.reg [.op (0, 0, false), .op (1, 0, false), .op (3, 0, false), .op (4, 0, false), .op (2, 2, true), .op (5, 2, false), .op (6, 2, false), .op (7, 2, false)]) .leaf))
theorem I_impl_pairValue {a0 : Value} {w : World} {K : Value → World → Prop} (h : D_impl_pairValue a0 w K) : call P f_impl_pairValue [a0] w K :=
  call_of_vc mixed Tryz.func151 (c := codeOf Tryz.f151) (by kernel_rfl) (by kernel_rfl) (p := P_impl_pairValue) (by kernel_rfl) (by rw [Tryz.ntmps151]; simp) (by
    have e : D_impl_pairValue a0 w K = vc P P_impl_pairValue (codeOf Tryz.f151) (env0 [a0]) w (retX P Tryz.f151.results.toList K) := by kernel_rfl
    exact e ▸ h)
def D_impl_addPairs (a0 a1 : Value) (w : World) (K : Value → World → Prop) : Prop :=
  bx P 68 a0 w fun b c =>
  bx P 68 a1 c fun d e =>
  alc P 68 e fun g h =>
  fda P 68 b 0 h fun i =>
  ld P 66 i h fun j =>
  fda P 68 d 0 h fun k =>
  ld P 66 k h fun l =>
  call P f_impl_exactSum [j, l] h fun m n =>
  xtr P m 0 n fun o =>
  xtr P m 1 n fun p =>
  alc P 68 n fun q r =>
  sto P 68 q o r fun s =>
  fda P 68 b 1 s fun t =>
  ld P 66 t s fun u =>
  fda P 68 d 1 s fun v =>
  ld P 66 v s fun x =>
  call P f_impl_exactSum [u, x] s fun y z =>
  xtr P y 0 z fun A =>
  xtr P y 1 z fun B =>
  alc P 68 z fun C D =>
  sto P 68 C A D fun E =>
  una P .not p E fun F =>
  ∃ G : Value → World → Prop, (∀ (H : Value) (_ : Env) (L : World), G H L →
  pick F (.bool true) H fun M =>
  cnd M
  (bld P 68 [] L fun N =>
  sto P 68 g N L fun O =>
  ldc P 68 g O fun Q =>
  K (.tuple #[Q, (.bool false)]) O)
  (fda P 68 q 1 L fun R =>
  ld P 66 R L fun S =>
  fda P 68 C 0 L fun T =>
  ld P 66 T L fun U =>
  rbin P .add 66 false false S U L fun V =>
  fda P 68 q 0 L fun W =>
  ld P 66 W L fun X =>
  call P f_impl_quick [X, V] L fun Y Z =>
  xtr P Y 0 Z fun b0 =>
  xtr P Y 1 Z fun c0 =>
  alc P 68 Z fun d0 e0 =>
  sto P 68 d0 b0 e0 fun g0 =>
  fda P 68 C 1 g0 fun h0 =>
  ld P 66 h0 g0 fun i0 =>
  fda P 68 d0 1 g0 fun j0 =>
  ld P 66 j0 g0 fun k0 =>
  rbin P .add 66 false false i0 k0 g0 fun l0 =>
  fda P 68 d0 0 g0 fun m0 =>
  ld P 66 m0 g0 fun n0 =>
  call P f_impl_quick [n0, l0] g0 fun o0 p0 =>
  xtr P o0 0 p0 fun q0 =>
  xtr P o0 1 p0 fun r0 =>
  alc P 68 p0 fun s0 t0 =>
  sto P 68 s0 q0 t0 fun u0 =>
  bsl P 52 2 [(0, V), (1, l0)] u0 fun v0 x0 =>
  call P f_impl_areFinite [v0] x0 fun y0 z0 =>
  una P .not y0 z0 fun A0 =>
  ∃ B0 : Value → World → Prop, (∀ (C0 : Value) (_ : Env) (D0 : World), B0 C0 D0 →
  pick A0 (.bool true) C0 fun E0 =>
  ∃ F0 : Value → World → Prop, (∀ (G0 : Value) (_ : Env) (H0 : World), F0 G0 H0 →
  pick E0 (.bool true) G0 fun L0 =>
  ∃ M0 : Value → World → Prop, (∀ (N0 : Value) (_ : Env) (O0 : World), M0 N0 O0 →
  pick L0 (.bool true) N0 fun Q0 =>
  cnd Q0
  (bld P 68 [] O0 fun R0 =>
  sto P 68 g R0 O0 fun S0 =>
  ldc P 68 g S0 fun T0 =>
  K (.tuple #[T0, (.bool false)]) S0)
  (ld P 68 s0 O0 fun U0 =>
  sto P 68 g U0 O0 fun V0 =>
  ldc P 68 g V0 fun W0 =>
  K (.tuple #[W0, (.bool true)]) V0)) ∧
  grd L0 false
  (ld P 68 s0 H0 fun X0 =>
  call P f_impl_IsPair [X0] H0 fun Y0 Z0 =>
  una P .not Y0 Z0 fun b1 =>
  M0 b1 Z0)
  (M0 undef H0)) ∧
  grd E0 false
  (una P .not r0 D0 fun c1 =>
  F0 c1 D0)
  (F0 undef D0)) ∧
  grd A0 false
  (una P .not c0 z0 fun d1 =>
  B0 d1 z0)
  (B0 undef z0))) ∧
  grd F false
  (una P .not B E fun e1 =>
  G e1 E)
  (G undef E)
def P_impl_addPairs : Plan := (.seq rg23 (.seq rg16 (.seq rg16 (.seq (.seq (.reg [.op (0, 0, false), .op (1, 0, false), .op (2, 0, false), .grp 2 false [(3, 0, false), (4, 0, false)] [36] 103079215104, .op (5, 0, false)]) (.cond (.seq rg3 .leaf) .leaf)) (.seq rg12 (.seq rg14 (.seq rg12 (.seq rg14 (.seq (.seq (.reg [.op (0, 0, false), .op (1, 0, false), .op (2, 2, false), .op (3, 2, false), .op (4, 0, false), .op (5, 0, false), .grp 5 false [(6, 0, false), (7, 0, false)] [70] 1770887431076116955136, .op (8, 0, false), .op (9, 0, false), .grp 9 false [(10, 0, false), (11, 0, false)] [74] 28334198897217871282176, .op (12, 0, false), .op (13, 0, false), .grp 13 false [(14, 0, false), (15, 2, false), (16, 0, false)] [79] 1057810092162800527867904, .op (17, 0, false)]) (.cond (.seq rg3 .leaf) .leaf)) (.seq rg3 .leaf))))))))))
theorem I_impl_addPairs {a0 a1 : Value} {w : World} {K : Value → World → Prop} (h : D_impl_addPairs a0 a1 w K) : call P f_impl_addPairs [a0, a1] w K :=
  call_of_vc mixed Tryz.func152 (c := codeOf Tryz.f152) (by kernel_rfl) (by kernel_rfl) (p := P_impl_addPairs) (by kernel_rfl) (by rw [Tryz.ntmps152]; simp) (by
    have e : D_impl_addPairs a0 a1 w K = vc P P_impl_addPairs (codeOf Tryz.f152) (env0 [a0, a1]) w (retX P Tryz.f152.results.toList K) := by kernel_rfl
    exact e ▸ h)
def D_impl_divPairs (a0 a1 : Value) (w : World) (K : Value → World → Prop) : Prop :=
  bx P 68 a0 w fun b c =>
  bx P 68 a1 c fun d e =>
  alc P 68 e fun g h =>
  fda P 68 b 0 h fun i =>
  ld P 66 i h fun j =>
  fda P 68 d 0 h fun k =>
  ld P 66 k h fun l =>
  rbin P .quo 66 false false j l h fun m =>
  call P f_impl_isFinite [m] h fun n o =>
  una P .not n o fun p =>
  cnd p
  (bld P 68 [] o fun q =>
  sto P 68 g q o fun r =>
  ldc P 68 g r fun s =>
  K (.tuple #[s, (.bool false)]) r)
  (ld P 68 d o fun t =>
  bld P 68 [(0, m)] o fun u =>
  call P f_impl_mulPairs [t, u] o fun v x =>
  xtr P v 0 x fun y =>
  xtr P v 1 x fun z =>
  alc P 68 x fun A B =>
  sto P 68 A y B fun C =>
  una P .not z C fun D =>
  cnd D
  (bld P 68 [] C fun E =>
  sto P 68 g E C fun F =>
  ldc P 68 g F fun G =>
  K (.tuple #[G, (.bool false)]) F)
  (∃ H : Value → Value → World → Prop, (∀ (L : Value) (M : Value) (_ : Env) (N : World), H L M N →
  una P .not M N fun O =>
  cnd O
  (bld P 68 [] N fun Q =>
  sto P 68 g Q N fun R =>
  ldc P 68 g R fun S =>
  K (.tuple #[S, (.bool false)]) R)
  (fda P 68 L 0 N fun T =>
  ld P 66 T N fun U =>
  fda P 68 d 0 N fun V =>
  ld P 66 V N fun W =>
  rbin P .quo 66 false false U W N fun X =>
  call P f_impl_isFinite [X] N fun Y Z =>
  una P .not Y Z fun b0 =>
  cnd b0
  (bld P 68 [] Z fun c0 =>
  sto P 68 g c0 Z fun d0 =>
  ldc P 68 g d0 fun e0 =>
  K (.tuple #[e0, (.bool false)]) d0)
  (call P f_impl_quick [m, X] Z fun g0 h0 =>
  xtr P g0 0 h0 fun i0 =>
  xtr P g0 1 h0 fun j0 =>
  alc P 68 h0 fun k0 l0 =>
  sto P 68 k0 i0 l0 fun m0 =>
  una P .not j0 m0 fun n0 =>
  ∃ o0 : Value → World → Prop, (∀ (p0 : Value) (_ : Env) (q0 : World), o0 p0 q0 →
  pick n0 (.bool true) p0 fun r0 =>
  cnd r0
  (bld P 68 [] q0 fun s0 =>
  sto P 68 g s0 q0 fun t0 =>
  ldc P 68 g t0 fun u0 =>
  K (.tuple #[u0, (.bool false)]) t0)
  (ld P 68 k0 q0 fun v0 =>
  sto P 68 g v0 q0 fun x0 =>
  ldc P 68 g x0 fun y0 =>
  K (.tuple #[y0, (.bool true)]) x0)) ∧
  grd n0 false
  (ld P 68 k0 m0 fun z0 =>
  call P f_impl_IsPair [z0] m0 fun A0 B0 =>
  una P .not A0 B0 fun C0 =>
  o0 C0 B0)
  (o0 undef m0)))) ∧
  (ld P 68 b C fun D0 =>
  ld P 68 A C fun E0 =>
  (call P f_impl_opposite [E0] C fun F0 G0 =>
  Ext C G0 ∧ (call P f_impl_addPairs [D0, F0] G0 fun H0 L0 =>
  xtr P H0 0 L0 fun M0 =>
  xtr P H0 1 L0 fun N0 =>
  alc P 68 L0 fun O0 Q0 =>
  Ext L0 Q0 ∧ sto P 68 O0 M0 Q0 fun R0 =>
  (xtr P H0 1 R0 fun z => z = N0) ∧ H O0 N0 R0) ∧
  (alc P 68 G0 fun S0 T0 =>
  Ext G0 T0 ∧ call P f_impl_addPairs [D0, F0] T0 fun U0 V0 =>
  xtr P U0 0 V0 fun W0 =>
  xtr P U0 1 V0 fun X0 =>
  sto P 68 S0 W0 V0 fun Y0 =>
  (xtr P U0 1 Y0 fun z => z = X0) ∧ H S0 X0 Y0)) ∧
  (alc P 68 C fun Z0 b1 =>
  Ext C b1 ∧ call P f_impl_opposite [E0] b1 fun c1 d1 =>
  Ext b1 d1 ∧ call P f_impl_addPairs [D0, c1] d1 fun e1 g1 =>
  xtr P e1 0 g1 fun h1 =>
  xtr P e1 1 g1 fun i1 =>
  sto P 68 Z0 h1 g1 fun j1 =>
  (xtr P e1 1 j1 fun z => z = i1) ∧ H Z0 i1 j1))))
def P_impl_divPairs : Plan := (.seq rg23 (.seq rg12 (.seq (.seq rg3 (.cond (.seq rg3 .leaf) .leaf)) (.seq rg14 (.seq (.seq rg0 (.cond (.seq rg3 .leaf) .leaf)) (.seq (.tree [9, 10] 1090921694720 (.op (0, 0, false) (.op (1, 0, false) (.fork (2, 2, true) (.fork (3, 2, false) (.op (4, 0, false) (.op (5, 0, false) (.op (6, 0, false) (.fork (7, 2, true) (.fork (8, 66, false) (.op (9, 0, false) .done) .stop) .stop)))) (.fork (7, 2, true) (.fork (3, 2, false) (.op (4, 0, false) (.op (5, 0, false) (.op (6, 0, false) (.fork (8, 66, false) (.op (9, 0, false) .done) .stop)))) .stop) .stop)) (.fork (7, 2, true) (.fork (2, 2, true) (.fork (3, 2, false) (.op (4, 0, false) (.op (5, 0, false) (.op (6, 0, false) (.fork (8, 66, false) (.op (9, 0, false) .done) .stop)))) .stop) .stop) .stop))))) (.seq (.seq rg0 (.cond (.seq rg3 .leaf) .leaf)) (.seq rg12 (.seq (.seq rg3 (.cond (.seq rg3 .leaf) .leaf)) (.seq rg32 (.seq (.seq (.reg [.op (0, 0, false), .op (1, 0, false), .op (2, 0, false), .grp 2 false [(3, 0, false), (4, 2, false), (5, 0, false)] [63] 16140901064495857664, .op (6, 0, false)]) (.cond (.seq rg3 .leaf) .leaf)) (.seq rg3 .leaf))))))))))))
theorem I_impl_divPairs {a0 a1 : Value} {w : World} {K : Value → World → Prop} (h : D_impl_divPairs a0 a1 w K) : call P f_impl_divPairs [a0, a1] w K :=
  call_of_vc mixed Tryz.func153 (c := codeOf Tryz.f153) (by kernel_rfl) (by kernel_rfl) (p := P_impl_divPairs) (by kernel_rfl) (by rw [Tryz.ntmps153]; simp) (by
    have e : D_impl_divPairs a0 a1 w K = vc P P_impl_divPairs (codeOf Tryz.f153) (env0 [a0, a1]) w (retX P Tryz.f153.results.toList K) := by kernel_rfl
    exact e ▸ h)
def D_impl_shortProduct (a0 a1 : Value) (w : World) (K : Value → World → Prop) : Prop :=
  alc P 68 w fun b c =>
  rbin P .mul 66 false false a0 a1 c fun d =>
  call P f_impl_isFinite [d] c fun e g =>
  una P .not e g fun h =>
  cnd h
  (bld P 68 [] g fun i =>
  sto P 68 b i g fun j =>
  ldc P 68 b j fun k =>
  K (.tuple #[k, (.bool false), (.bool false)]) j)
  (call P f_impl_numOf [a0] g fun l m =>
  call P f_impl_numOf [a1] m fun n o =>
  call P f_impl_num_mul [l, n] o fun p q =>
  call P f_impl_rest [p, d] q fun r s =>
  xtr P r 0 s fun t =>
  xtr P r 1 s fun u =>
  bld P 68 [(0, d), (1, t)] s fun v =>
  sto P 68 b v s fun x =>
  ldc P 68 b x fun y =>
  K (.tuple #[y, (.bool true), u]) x)
def P_impl_shortProduct : Plan := (.seq rg41 (.seq rg18 (.seq (.seq rg3 (.cond (.seq rg27 .leaf) .leaf)) (.seq (.reg [.op (0, 0, false), .op (1, 2, false), .op (2, 0, false), .op (3, 2, false), .op (4, 2, false), .op (5, 0, false), .op (6, 2, false), .op (7, 0, false), .op (8, 0, false), .op (9, 0, false), .op (10, 0, false), .op (11, 0, false)]) (.seq rg43 .leaf)))))
theorem I_impl_shortProduct {a0 a1 : Value} {w : World} {K : Value → World → Prop} (h : D_impl_shortProduct a0 a1 w K) : call P f_impl_shortProduct [a0, a1] w K :=
  call_of_vc mixed Tryz.func198 (c := codeOf Tryz.f198) (by kernel_rfl) (by kernel_rfl) (p := P_impl_shortProduct) (by kernel_rfl) (by rw [Tryz.ntmps198]; simp) (by
    have e : D_impl_shortProduct a0 a1 w K = vc P P_impl_shortProduct (codeOf Tryz.f198) (env0 [a0, a1]) w (retX P Tryz.f198.results.toList K) := by kernel_rfl
    exact e ▸ h)
def D_impl_quick (a0 a1 : Value) (w : World) (K : Value → World → Prop) : Prop :=
  alc P 68 w fun b c =>
  rbin P .add 66 false false a0 a1 c fun d =>
  rbin P .sub 66 false false d a0 c fun e =>
  rbin P .sub 66 false false a1 e c fun g =>
  bld P 68 [(0, d), (1, g)] c fun h =>
  bsl P 52 3 [(0, d), (1, e), (2, g)] c fun i j =>
  call P f_impl_areFinite [i] j fun k l =>
  sto P 68 b h l fun m =>
  ldc P 68 b m fun n =>
  K (.tuple #[n, k]) m
def P_impl_quick : Plan := (.seq rg6 (.seq rg18 (.seq rg18 (.seq rg18 (.seq (.reg [.op (0, 0, false), .op (1, 0, false), .op (2, 0, false), .op (3, 0, false), .op (4, 0, false), .op (5, 0, false), .op (6, 2, false), .op (7, 2, false), .op (8, 2, false), .op (9, 0, false)]) .leaf)))))
theorem I_impl_quick {a0 a1 : Value} {w : World} {K : Value → World → Prop} (h : D_impl_quick a0 a1 w K) : call P f_impl_quick [a0, a1] w K :=
  call_of_vc mixed Tryz.func199 (c := codeOf Tryz.f199) (by kernel_rfl) (by kernel_rfl) (p := P_impl_quick) (by kernel_rfl) (by rw [Tryz.ntmps199]; simp) (by
    have e : D_impl_quick a0 a1 w K = vc P P_impl_quick (codeOf Tryz.f199) (env0 [a0, a1]) w (retX P Tryz.f199.results.toList K) := by kernel_rfl
    exact e ▸ h)
def D_impl_exactSum (a0 a1 : Value) (w : World) (K : Value → World → Prop) : Prop :=
  alc P 68 w fun b c =>
  rbin P .add 66 false false a0 a1 c fun d =>
  call P f_impl_isFinite [d] c fun e g =>
  una P .not e g fun h =>
  cnd h
  (bld P 68 [] g fun i =>
  sto P 68 b i g fun j =>
  ldc P 68 b j fun k =>
  K (.tuple #[k, (.bool false)]) j)
  (call P f_impl_numOf [a0] g fun l m =>
  call P f_impl_numOf [a1] m fun n o =>
  call P f_impl_num_add [l, n] o fun p q =>
  call P f_impl_rest [p, d] q fun r s =>
  xtr P r 0 s fun t =>
  xtr P r 1 s fun u =>
  bld P 68 [(0, d), (1, t)] s fun v =>
  sto P 68 b v s fun x =>
  ldc P 68 b x fun y =>
  K (.tuple #[y, (.bool true)]) x)
def P_impl_exactSum : Plan := (.seq rg6 (.seq rg18 (.seq (.seq rg3 (.cond (.seq rg3 .leaf) .leaf)) (.seq (.reg [.op (0, 0, false), .op (1, 2, false), .op (2, 0, false), .op (3, 2, false), .op (4, 2, false), .op (5, 0, false), .op (6, 2, false), .op (7, 0, false), .op (8, 0, false), .op (9, 0, false), .op (10, 0, false), .op (11, 0, false)]) (.seq rg25 .leaf)))))
theorem I_impl_exactSum {a0 a1 : Value} {w : World} {K : Value → World → Prop} (h : D_impl_exactSum a0 a1 w K) : call P f_impl_exactSum [a0, a1] w K :=
  call_of_vc mixed Tryz.func200 (c := codeOf Tryz.f200) (by kernel_rfl) (by kernel_rfl) (p := P_impl_exactSum) (by kernel_rfl) (by rw [Tryz.ntmps200]; simp) (by
    have e : D_impl_exactSum a0 a1 w K = vc P P_impl_exactSum (codeOf Tryz.f200) (env0 [a0, a1]) w (retX P Tryz.f200.results.toList K) := by kernel_rfl
    exact e ▸ h)
def D_impl_rest (a0 a1 : Value) (w : World) (K : Value → World → Prop) : Prop :=
  bx P 105 a0 w fun b c =>
  ld P 105 b c fun d =>
  call P f_impl_numOf [a1] c fun e g =>
  Ext c g ∧ call P f_impl_num_sub [d, e] g fun h i =>
  call P f_impl_num_round [h, (.int .i64 0)] i fun j k =>
  xtr P j 0 k fun l =>
  xtr P j 1 k fun m =>
  call P f_impl_plain [l] k fun n o =>
  bin P .eql 2 false true m (.int .i64 0) o fun p =>
  K (.tuple #[n, p]) o
def P_impl_rest : Plan := (.seq rg41 (.seq (.reg [.op (0, 0, false), .op (1, 0, false), .op (2, 2, true), .op (3, 2, false), .op (4, 2, false), .op (5, 0, false), .op (6, 0, false), .op (7, 0, false), .op (8, 0, false), .op (9, 0, false)]) (.seq rg36 .leaf)))
theorem I_impl_rest {a0 a1 : Value} {w : World} {K : Value → World → Prop} (h : D_impl_rest a0 a1 w K) : call P f_impl_rest [a0, a1] w K :=
  call_of_vc mixed Tryz.func240 (c := codeOf Tryz.f240) (by kernel_rfl) (by kernel_rfl) (p := P_impl_rest) (by kernel_rfl) (by rw [Tryz.ntmps240]; simp) (by
    have e : D_impl_rest a0 a1 w K = vc P P_impl_rest (codeOf Tryz.f240) (env0 [a0, a1]) w (retX P Tryz.f240.results.toList K) := by kernel_rfl
    exact e ▸ h)
end Go.Proofs.YtjompmflommadaaGreatDoor


set_option linter.unusedVariables false
set_option maxRecDepth 20000
namespace Go.Proofs.YtjompmflommadaaGreatDoor
open Go Go.Vc
def D_spec_l05Value (a0 : Value) (w : World) (K : Value → World → Prop) : Prop :=
  bx P 68 a0 w fun b c =>
  alc P 57 c fun d e =>
  fda P 68 b 0 e fun g =>
  ld P 66 g e fun h =>
  fda P 68 b 1 e fun i =>
  ld P 66 i e fun j =>
  call P f_spec_l03Of [h] e fun k l =>
  Ext e l ∧ call P f_spec_l03Of [j] l fun m n =>
  call P f_spec_l03Add [k, m] n fun o p =>
  sto P 57 d o p fun q =>
  ldc P 57 d q fun r =>
  K r q
def P_spec_l05Value : Plan := (.seq rg31 (.seq (.reg [.op (0, 0, false), .op (1, 0, false), .op (3, 0, false), .op (4, 0, false), .op (2, 2, true), .op (5, 2, false), .op (6, 2, false), .op (7, 2, false)]) .leaf))
theorem I_spec_l05Value {a0 : Value} {w : World} {K : Value → World → Prop} (h : D_spec_l05Value a0 w K) : call P f_spec_l05Value [a0] w K :=
  call_of_vc mixed Tryz.func143 (c := codeOf Tryz.f143) (by kernel_rfl) (by kernel_rfl) (p := P_spec_l05Value) (by kernel_rfl) (by rw [Tryz.ntmps143]; simp) (by
    have e : D_spec_l05Value a0 w K = vc P P_spec_l05Value (codeOf Tryz.f143) (env0 [a0]) w (retX P Tryz.f143.results.toList K) := by kernel_rfl
    exact e ▸ h)
def D_spec_l05Times (a0 a1 : Value) (w : World) (K : Value → World → Prop) : Prop :=
  bx P 68 a0 w fun b c =>
  bx P 68 a1 c fun d e =>
  alc P 68 e fun g h =>
  fda P 68 b 0 h fun i =>
  ld P 66 i h fun j =>
  fda P 68 d 0 h fun k =>
  ld P 66 k h fun l =>
  call P f_spec_l05Product [j, l] h fun m n =>
  xtr P m 0 n fun o =>
  xtr P m 1 n fun p =>
  xtr P m 2 n fun q =>
  alc P 68 n fun r s =>
  sto P 68 r o s fun t =>
  una P .not q t fun u =>
  cnd u
  (bld P 68 [] t fun v =>
  sto P 68 g v t fun x =>
  ldc P 68 g x fun y =>
  K (.tuple #[y, (.bool false)]) x)
  (fda P 68 b 0 t fun z =>
  ld P 66 z t fun A =>
  fda P 68 d 1 t fun B =>
  ld P 66 B t fun C =>
  fda P 68 b 1 t fun D =>
  ld P 66 D t fun E =>
  fda P 68 d 0 t fun F =>
  ld P 66 F t fun G =>
  rbin P .mul 66 false false A C t fun H =>
  rbin P .mul 66 false false E G t fun L =>
  rbin P .add 66 false false H L t fun M =>
  fda P 68 r 1 t fun N =>
  ld P 66 N t fun O =>
  rbin P .add 66 false false O M t fun Q =>
  fda P 68 r 0 t fun R =>
  ld P 66 R t fun S =>
  call P f_spec_l05Quick [S, Q] t fun T U =>
  alc P 68 U fun V W =>
  sto P 68 V T W fun X =>
  ld P 68 V X fun Y =>
  call P f_spec_l01Finite [H] X fun Z b0 =>
  Ext X b0 ∧ ∃ c0 : Value → World → Prop, (∀ (d0 : Value) (_ : Env) (e0 : World), c0 d0 e0 →
  pick Z d0 (.bool false) fun g0 =>
  ∃ h0 : Value → World → Prop, (∀ (i0 : Value) (_ : Env) (j0 : World), h0 i0 j0 →
  pick g0 i0 (.bool false) fun k0 =>
  ∃ l0 : Value → World → Prop, (∀ (m0 : Value) (_ : Env) (n0 : World), l0 m0 n0 →
  pick k0 m0 (.bool false) fun o0 =>
  ∃ p0 : Value → World → Prop, (∀ (q0 : Value) (_ : Env) (r0 : World), p0 q0 r0 →
  pick o0 q0 (.bool false) fun s0 =>
  sto P 68 g Y r0 fun t0 =>
  (pick o0 q0 (.bool false) fun z => z = s0) ∧ ldc P 68 g t0 fun u0 =>
  K (.tuple #[u0, s0]) t0) ∧
  grd o0 true
  (ld P 68 V n0 fun v0 =>
  call P f_spec_l05Is [v0] n0 fun x0 y0 =>
  Ext n0 y0 ∧ p0 x0 y0)
  (p0 undef n0)) ∧
  grd k0 true
  (call P f_spec_l01Finite [Q] j0 fun z0 A0 =>
  Ext j0 A0 ∧ l0 z0 A0)
  (l0 undef j0)) ∧
  grd g0 true
  (call P f_spec_l01Finite [M] e0 fun B0 C0 =>
  Ext e0 C0 ∧ h0 B0 C0)
  (h0 undef e0)) ∧
  grd Z true
  (call P f_spec_l01Finite [L] b0 fun D0 E0 =>
  Ext b0 E0 ∧ c0 D0 E0)
  (c0 undef b0))
def P_spec_l05Times : Plan := (.seq rg23 (.seq (.reg [.op (0, 0, false), .op (1, 0, false), .op (2, 0, false), .op (3, 0, false), .op (4, 2, false), .op (5, 0, false), .op (6, 0, false), .op (7, 0, false), .op (8, 0, false), .op (9, 2, false), .op (10, 2, false), .op (11, 0, false), .op (12, 0, false)]) (.seq (.seq rg0 (.cond (.seq rg3 .leaf) .leaf)) (.seq (.reg [.op (0, 0, false), .op (1, 0, false), .op (2, 0, false), .op (3, 0, false), .op (5, 0, false), .op (6, 0, false), .op (7, 0, false), .op (8, 0, false), .op (4, 1, false), .op (10, 0, false), .op (9, 1, false), .op (11, 0, false)]) (.seq rg18 (.seq (.reg [.op (0, 0, false), .op (1, 0, false), .op (2, 0, false), .op (3, 1, false), .op (4, 0, false)]) (.seq rg44 (.seq (.reg [.op (0, 0, false), .op (1, 0, false), .op (2, 2, true), .op (3, 0, false), .grp 3 true [(4, 0, false), (5, 2, true)] [52] 6755399441055744, .op (6, 0, false), .op (7, 0, false), .grp 7 true [(8, 0, false), (9, 2, true)] [56] 108086391056891904, .op (10, 0, false), .op (11, 0, false), .grp 11 true [(12, 0, false), (13, 2, true)] [60] 1729382256910270464, .op (14, 0, false), .op (15, 0, false), .grp 15 true [(16, 0, false), (17, 2, true)] [64] 27670116110564327424, .op (18, 0, false), .op (19, 262146, false), .op (20, 0, false)]) .leaf))))))))
theorem I_spec_l05Times {a0 a1 : Value} {w : World} {K : Value → World → Prop} (h : D_spec_l05Times a0 a1 w K) : call P f_spec_l05Times [a0, a1] w K :=
  call_of_vc mixed Tryz.func144 (c := codeOf Tryz.f144) (by kernel_rfl) (by kernel_rfl) (p := P_spec_l05Times) (by kernel_rfl) (by rw [Tryz.ntmps144]; simp) (by
    have e : D_spec_l05Times a0 a1 w K = vc P P_spec_l05Times (codeOf Tryz.f144) (env0 [a0, a1]) w (retX P Tryz.f144.results.toList K) := by kernel_rfl
    exact e ▸ h)
def D_spec_l05Add (a0 a1 : Value) (w : World) (K : Value → World → Prop) : Prop :=
  bx P 68 a0 w fun b c =>
  bx P 68 a1 c fun d e =>
  alc P 68 e fun g h =>
  fda P 68 b 0 h fun i =>
  ld P 66 i h fun j =>
  fda P 68 d 0 h fun k =>
  ld P 66 k h fun l =>
  call P f_spec_l05Sum [j, l] h fun m n =>
  xtr P m 0 n fun o =>
  xtr P m 1 n fun p =>
  alc P 68 n fun q r =>
  sto P 68 q o r fun s =>
  fda P 68 b 1 s fun t =>
  ld P 66 t s fun u =>
  fda P 68 d 1 s fun v =>
  ld P 66 v s fun x =>
  call P f_spec_l05Sum [u, x] s fun y z =>
  xtr P y 0 z fun A =>
  xtr P y 1 z fun B =>
  alc P 68 z fun C D =>
  sto P 68 C A D fun E =>
  una P .not p E fun F =>
  ∃ G : Value → World → Prop, (∀ (H : Value) (_ : Env) (L : World), G H L →
  pick F (.bool true) H fun M =>
  cnd M
  (bld P 68 [] L fun N =>
  sto P 68 g N L fun O =>
  ldc P 68 g O fun Q =>
  K (.tuple #[Q, (.bool false)]) O)
  (fda P 68 q 1 L fun R =>
  ld P 66 R L fun S =>
  fda P 68 C 0 L fun T =>
  ld P 66 T L fun U =>
  rbin P .add 66 false false S U L fun V =>
  fda P 68 q 0 L fun W =>
  ld P 66 W L fun X =>
  call P f_spec_l05Quick [X, V] L fun Y Z =>
  alc P 68 Z fun b0 c0 =>
  sto P 68 b0 Y c0 fun d0 =>
  fda P 68 C 1 d0 fun e0 =>
  ld P 66 e0 d0 fun g0 =>
  fda P 68 b0 1 d0 fun h0 =>
  ld P 66 h0 d0 fun i0 =>
  rbin P .add 66 false false g0 i0 d0 fun j0 =>
  fda P 68 b0 0 d0 fun k0 =>
  ld P 66 k0 d0 fun l0 =>
  call P f_spec_l05Quick [l0, j0] d0 fun m0 n0 =>
  alc P 68 n0 fun o0 p0 =>
  sto P 68 o0 m0 p0 fun q0 =>
  ld P 68 o0 q0 fun r0 =>
  call P f_spec_l01Finite [V] q0 fun s0 t0 =>
  Ext q0 t0 ∧ ∃ u0 : Value → World → Prop, (∀ (v0 : Value) (_ : Env) (x0 : World), u0 v0 x0 →
  pick s0 v0 (.bool false) fun y0 =>
  ∃ z0 : Value → World → Prop, (∀ (A0 : Value) (_ : Env) (B0 : World), z0 A0 B0 →
  pick y0 A0 (.bool false) fun C0 =>
  ∃ D0 : Value → World → Prop, (∀ (E0 : Value) (_ : Env) (F0 : World), D0 E0 F0 →
  pick C0 E0 (.bool false) fun G0 =>
  ∃ H0 : Value → World → Prop, (∀ (L0 : Value) (_ : Env) (M0 : World), H0 L0 M0 →
  pick G0 L0 (.bool false) fun N0 =>
  sto P 68 g r0 M0 fun O0 =>
  (pick G0 L0 (.bool false) fun z => z = N0) ∧ ldc P 68 g O0 fun Q0 =>
  K (.tuple #[Q0, N0]) O0) ∧
  grd G0 true
  (ld P 68 o0 F0 fun R0 =>
  call P f_spec_l05Is [R0] F0 fun S0 T0 =>
  Ext F0 T0 ∧ H0 S0 T0)
  (H0 undef F0)) ∧
  grd C0 true
  (call P f_spec_l01Finite [j0] B0 fun U0 V0 =>
  Ext B0 V0 ∧ D0 U0 V0)
  (D0 undef B0)) ∧
  grd y0 true
  (fda P 68 b0 1 x0 fun W0 =>
  ld P 66 W0 x0 fun X0 =>
  call P f_spec_l01Finite [X0] x0 fun Y0 Z0 =>
  Ext x0 Z0 ∧ z0 Y0 Z0)
  (z0 undef x0)) ∧
  grd s0 true
  (fda P 68 b0 0 t0 fun b1 =>
  ld P 66 b1 t0 fun c1 =>
  call P f_spec_l01Finite [c1] t0 fun d1 e1 =>
  Ext t0 e1 ∧ u0 d1 e1)
  (u0 undef t0))) ∧
  grd F false
  (una P .not B E fun g1 =>
  G g1 E)
  (G undef E)
def P_spec_l05Add : Plan := (.seq rg23 (.seq rg16 (.seq rg16 (.seq (.seq (.reg [.op (0, 0, false), .op (1, 0, false), .op (2, 0, false), .grp 2 false [(3, 0, false), (4, 0, false)] [34] 25769803776, .op (5, 0, false)]) (.cond (.seq rg3 .leaf) .leaf)) (.seq rg12 (.seq rg44 (.seq rg12 (.seq rg44 (.seq (.reg [.op (0, 0, false), .op (1, 0, false), .op (2, 2, true), .op (3, 0, false), .grp 3 true [(4, 0, false), (5, 0, false), (6, 2, true)] [61] 4035225266123964416, .op (7, 0, false), .op (8, 0, false), .grp 8 true [(9, 0, false), (10, 0, false), (11, 2, true)] [66] 129127208515966861312, .op (12, 0, false), .op (13, 0, false), .grp 13 true [(14, 0, false), (15, 2, true)] [70] 1770887431076116955136, .op (16, 0, false), .op (17, 0, false), .grp 17 true [(18, 0, false), (19, 2, true)] [74] 28334198897217871282176, .op (20, 0, false), .op (21, 1048578, false), .op (22, 0, false)]) .leaf)))))))))
theorem I_spec_l05Add {a0 a1 : Value} {w : World} {K : Value → World → Prop} (h : D_spec_l05Add a0 a1 w K) : call P f_spec_l05Add [a0, a1] w K :=
  call_of_vc mixed Tryz.func145 (c := codeOf Tryz.f145) (by kernel_rfl) (by kernel_rfl) (p := P_spec_l05Add) (by kernel_rfl) (by rw [Tryz.ntmps145]; simp) (by
    have e : D_spec_l05Add a0 a1 w K = vc P P_spec_l05Add (codeOf Tryz.f145) (env0 [a0, a1]) w (retX P Tryz.f145.results.toList K) := by kernel_rfl
    exact e ▸ h)
def D_spec_l05Over (a0 a1 : Value) (w : World) (K : Value → World → Prop) : Prop :=
  bx P 68 a0 w fun b c =>
  bx P 68 a1 c fun d e =>
  alc P 68 e fun g h =>
  fda P 68 b 0 h fun i =>
  ld P 66 i h fun j =>
  fda P 68 d 0 h fun k =>
  ld P 66 k h fun l =>
  rbin P .quo 66 false false j l h fun m =>
  call P f_spec_l01Finite [m] h fun n o =>
  una P .not n o fun p =>
  cnd p
  (bld P 68 [] o fun q =>
  sto P 68 g q o fun r =>
  ldc P 68 g r fun s =>
  K (.tuple #[s, (.bool false)]) r)
  (ld P 68 d o fun t =>
  bld P 68 [(0, m)] o fun u =>
  call P f_spec_l05Times [t, u] o fun v x =>
  xtr P v 0 x fun y =>
  xtr P v 1 x fun z =>
  alc P 68 x fun A B =>
  sto P 68 A y B fun C =>
  una P .not z C fun D =>
  cnd D
  (bld P 68 [] C fun E =>
  sto P 68 g E C fun F =>
  ldc P 68 g F fun G =>
  K (.tuple #[G, (.bool false)]) F)
  (∃ H : Value → Value → World → Prop, (∀ (L : Value) (M : Value) (_ : Env) (N : World), H L M N →
  una P .not M N fun O =>
  cnd O
  (bld P 68 [] N fun Q =>
  sto P 68 g Q N fun R =>
  ldc P 68 g R fun S =>
  K (.tuple #[S, (.bool false)]) R)
  (fda P 68 L 0 N fun T =>
  ld P 66 T N fun U =>
  fda P 68 d 0 N fun V =>
  ld P 66 V N fun W =>
  rbin P .quo 66 false false U W N fun X =>
  call P f_spec_l05Quick [m, X] N fun Y Z =>
  alc P 68 Z fun b0 c0 =>
  sto P 68 b0 Y c0 fun d0 =>
  ld P 68 b0 d0 fun e0 =>
  call P f_spec_l01Finite [X] d0 fun g0 h0 =>
  Ext d0 h0 ∧ ∃ i0 : Value → World → Prop, (∀ (j0 : Value) (_ : Env) (k0 : World), i0 j0 k0 →
  pick g0 j0 (.bool false) fun l0 =>
  sto P 68 g e0 k0 fun m0 =>
  (pick g0 j0 (.bool false) fun z => z = l0) ∧ ldc P 68 g m0 fun n0 =>
  K (.tuple #[n0, l0]) m0) ∧
  grd g0 true
  (ld P 68 b0 h0 fun o0 =>
  call P f_spec_l05Is [o0] h0 fun p0 q0 =>
  Ext h0 q0 ∧ i0 p0 q0)
  (i0 undef h0))) ∧
  (ld P 68 b C fun r0 =>
  fda P 68 A 0 C fun s0 =>
  ld P 66 s0 C fun t0 =>
  fda P 68 A 1 C fun u0 =>
  ld P 66 u0 C fun v0 =>
  (call P f_spec_l01Turned [t0] C fun x0 y0 =>
  Ext C y0 ∧ (call P f_spec_l01Turned [v0] y0 fun z0 A0 =>
  Ext y0 A0 ∧ bld P 68 [(0, x0), (1, z0)] A0 fun B0 =>
  (call P f_spec_l05Add [r0, B0] A0 fun C0 D0 =>
  xtr P C0 0 D0 fun E0 =>
  xtr P C0 1 D0 fun F0 =>
  alc P 68 D0 fun G0 H0 =>
  Ext D0 H0 ∧ sto P 68 G0 E0 H0 fun L0 =>
  (xtr P C0 1 L0 fun z => z = F0) ∧ H G0 F0 L0) ∧
  (alc P 68 A0 fun M0 N0 =>
  Ext A0 N0 ∧ call P f_spec_l05Add [r0, B0] N0 fun O0 Q0 =>
  xtr P O0 0 Q0 fun R0 =>
  xtr P O0 1 Q0 fun S0 =>
  sto P 68 M0 R0 Q0 fun T0 =>
  (xtr P O0 1 T0 fun z => z = S0) ∧ H M0 S0 T0)) ∧
  (alc P 68 y0 fun U0 V0 =>
  Ext y0 V0 ∧ call P f_spec_l01Turned [v0] V0 fun W0 X0 =>
  Ext V0 X0 ∧ bld P 68 [(0, x0), (1, W0)] X0 fun Y0 =>
  call P f_spec_l05Add [r0, Y0] X0 fun Z0 b1 =>
  xtr P Z0 0 b1 fun c1 =>
  xtr P Z0 1 b1 fun d1 =>
  sto P 68 U0 c1 b1 fun e1 =>
  (xtr P Z0 1 e1 fun z => z = d1) ∧ H U0 d1 e1)) ∧
  (alc P 68 C fun g1 h1 =>
  Ext C h1 ∧ call P f_spec_l01Turned [t0] h1 fun i1 j1 =>
  Ext h1 j1 ∧ call P f_spec_l01Turned [v0] j1 fun k1 l1 =>
  Ext j1 l1 ∧ bld P 68 [(0, i1), (1, k1)] l1 fun m1 =>
  call P f_spec_l05Add [r0, m1] l1 fun n1 o1 =>
  xtr P n1 0 o1 fun p1 =>
  xtr P n1 1 o1 fun q1 =>
  sto P 68 g1 p1 o1 fun r1 =>
  (xtr P n1 1 r1 fun z => z = q1) ∧ H g1 q1 r1))))
def P_spec_l05Over : Plan := (.seq rg23 (.seq rg12 (.seq (.seq rg3 (.cond (.seq rg3 .leaf) .leaf)) (.seq rg14 (.seq (.seq rg0 (.cond (.seq rg3 .leaf) .leaf)) (.seq (.tree [9, 10] 17587891078656 (.op (0, 0, false) (.op (1, 0, false) (.op (2, 0, false) (.op (4, 0, false) (.op (5, 0, false) (.fork (3, 2, true) (.fork (6, 2, true) (.op (7, 0, false) (.fork (8, 2, false) (.op (9, 0, false) (.op (10, 0, false) (.op (11, 0, false) (.fork (12, 2, true) (.fork (13, 2050, false) (.op (14, 0, false) .done) .stop) .stop)))) (.fork (12, 2, true) (.fork (8, 2, false) (.op (9, 0, false) (.op (10, 0, false) (.op (11, 0, false) (.fork (13, 2050, false) (.op (14, 0, false) .done) .stop)))) .stop) .stop))) (.fork (12, 2, true) (.fork (6, 2, true) (.op (7, 0, false) (.fork (8, 2, false) (.op (9, 0, false) (.op (10, 0, false) (.op (11, 0, false) (.fork (13, 2050, false) (.op (14, 0, false) .done) .stop)))) .stop)) .stop) .stop)) (.fork (12, 2, true) (.fork (3, 2, true) (.fork (6, 2, true) (.op (7, 0, false) (.fork (8, 2, false) (.op (9, 0, false) (.op (10, 0, false) (.op (11, 0, false) (.fork (13, 2050, false) (.op (14, 0, false) .done) .stop)))) .stop)) .stop) .stop) .stop)))))))) (.seq (.seq rg0 (.cond (.seq rg3 .leaf) .leaf)) (.seq rg12 (.seq (.reg [.op (0, 0, false), .op (1, 0, false), .op (2, 2, false), .op (3, 2, false), .op (4, 2, false)]) (.seq (.reg [.op (0, 0, false), .op (1, 0, false), .op (2, 2, true), .op (3, 0, false), .grp 3 true [(4, 0, false), (5, 2, true)] [60] 1729382256910270464, .op (6, 0, false), .op (7, 66, false), .op (8, 0, false)]) .leaf))))))))))
theorem I_spec_l05Over {a0 a1 : Value} {w : World} {K : Value → World → Prop} (h : D_spec_l05Over a0 a1 w K) : call P f_spec_l05Over [a0, a1] w K :=
  call_of_vc mixed Tryz.func146 (c := codeOf Tryz.f146) (by kernel_rfl) (by kernel_rfl) (p := P_spec_l05Over) (by kernel_rfl) (by rw [Tryz.ntmps146]; simp) (by
    have e : D_spec_l05Over a0 a1 w K = vc P P_spec_l05Over (codeOf Tryz.f146) (env0 [a0, a1]) w (retX P Tryz.f146.results.toList K) := by kernel_rfl
    exact e ▸ h)
def D_spec_l05Product (a0 a1 : Value) (w : World) (K : Value → World → Prop) : Prop :=
  alc P 68 w fun b c =>
  rbin P .mul 66 false false a0 a1 c fun d =>
  call P f_spec_l01Finite [d] c fun e g =>
  una P .not e g fun h =>
  cnd h
  (bld P 68 [] g fun i =>
  sto P 68 b i g fun j =>
  ldc P 68 b j fun k =>
  K (.tuple #[k, (.bool false), (.bool false)]) j)
  (call P f_spec_l03Of [a0] g fun l m =>
  call P f_spec_l03Of [a1] m fun n o =>
  call P f_spec_l03Mul [l, n] o fun p q =>
  call P f_spec_l03Of [d] q fun r s =>
  call P f_spec_l03Sub [p, r] s fun t u =>
  alc P 57 u fun v x =>
  sto P 57 v t x fun y =>
  ld P 57 v y fun z =>
  call P f_spec_l05Near [z] y fun A B =>
  bld P 68 [(0, d), (1, A)] B fun C =>
  ld P 57 v B fun D =>
  call P f_spec_l03Of [A] B fun E F =>
  Ext B F ∧ call P f_spec_l03Compare [E, D] F fun G H =>
  Ext F H ∧ bin P .eql 2 false true G (.int .i64 0) H fun L =>
  sto P 68 b C H fun M =>
  (bin P .eql 2 false true G (.int .i64 0) M fun z => z = L) ∧ ldc P 68 b M fun N =>
  K (.tuple #[N, L, (.bool true)]) M)
def P_spec_l05Product : Plan := (.seq rg41 (.seq rg18 (.seq (.seq rg3 (.cond (.seq rg27 .leaf) .leaf)) (.seq (.reg [.op (0, 0, false), .op (1, 2, false), .op (2, 0, false), .op (3, 2, false), .op (4, 2, false), .op (5, 0, false), .op (6, 2, false), .op (7, 2, false), .op (8, 2, false), .op (9, 2, false)]) (.seq rg3 (.seq (.reg [.op (0, 0, false), .op (1, 0, false), .op (2, 0, false), .op (3, 0, false), .op (5, 0, false), .op (4, 2, true), .op (6, 2, true), .op (7, 0, false), .op (8, 130, false), .op (9, 0, false), .op (10, 0, false)]) .leaf))))))
theorem I_spec_l05Product {a0 a1 : Value} {w : World} {K : Value → World → Prop} (h : D_spec_l05Product a0 a1 w K) : call P f_spec_l05Product [a0, a1] w K :=
  call_of_vc mixed Tryz.func194 (c := codeOf Tryz.f194) (by kernel_rfl) (by kernel_rfl) (p := P_spec_l05Product) (by kernel_rfl) (by rw [Tryz.ntmps194]; simp) (by
    have e : D_spec_l05Product a0 a1 w K = vc P P_spec_l05Product (codeOf Tryz.f194) (env0 [a0, a1]) w (retX P Tryz.f194.results.toList K) := by kernel_rfl
    exact e ▸ h)
def D_spec_l05Quick (a0 a1 : Value) (w : World) (K : Value → World → Prop) : Prop :=
  alc P 68 w fun b c =>
  rbin P .add 66 false false a0 a1 c fun d =>
  rbin P .sub 66 false false d a0 c fun e =>
  rbin P .sub 66 false false a1 e c fun g =>
  bld P 68 [(0, d), (1, g)] c fun h =>
  sto P 68 b h c fun i =>
  ldc P 68 b i fun j =>
  K j i
def P_spec_l05Quick : Plan := (.seq rg51 (.seq rg18 (.seq rg18 (.seq (.reg [.op (0, 0, false), .op (1, 0, false), .op (2, 0, false), .op (3, 1, false), .op (4, 0, false), .op (5, 2, false)]) .leaf))))
theorem I_spec_l05Quick {a0 a1 : Value} {w : World} {K : Value → World → Prop} (h : D_spec_l05Quick a0 a1 w K) : call P f_spec_l05Quick [a0, a1] w K :=
  call_of_vc mixed Tryz.func195 (c := codeOf Tryz.f195) (by kernel_rfl) (by kernel_rfl) (p := P_spec_l05Quick) (by kernel_rfl) (by rw [Tryz.ntmps195]; simp) (by
    have e : D_spec_l05Quick a0 a1 w K = vc P P_spec_l05Quick (codeOf Tryz.f195) (env0 [a0, a1]) w (retX P Tryz.f195.results.toList K) := by kernel_rfl
    exact e ▸ h)
def D_spec_l05Is (a0 : Value) (w : World) (K : Value → World → Prop) : Prop :=
  bx P 68 a0 w fun b c =>
  fda P 68 b 0 c fun d =>
  ld P 66 d c fun e =>
  call P f_spec_l01Finite [e] c fun g h =>
  ∃ i : Value → World → Prop, (∀ (j : Value) (_ : Env) (k : World), i j k →
  pick g j (.bool false) fun l =>
  ∃ m : Value → World → Prop, (∀ (n : Value) (_ : Env) (o : World), m n o →
  pick l n (.bool false) fun p =>
  K p o) ∧
  grd l true
  (fda P 68 b 0 k fun q =>
  ld P 66 q k fun r =>
  fda P 68 b 1 k fun s =>
  ld P 66 s k fun t =>
  rbin P .add 66 false false r t k fun u =>
  fda P 68 b 0 k fun v =>
  ld P 66 v k fun x =>
  bin P .eql 66 false false u x k fun y =>
  m y k)
  (m undef k)) ∧
  grd g true
  (fda P 68 b 1 h fun z =>
  ld P 66 z h fun A =>
  call P f_spec_l01Finite [A] h fun B C =>
  i B C)
  (i undef h)
def P_spec_l05Is : Plan := (.seq rg6 (.seq (.reg [.op (0, 0, false), .op (1, 0, false), .op (2, 2, false), .op (3, 0, false), .grp 3 true [(4, 0, false), (5, 0, false), (6, 2, false)] [9] 896, .op (7, 0, false), .op (8, 0, false), .grp 8 true [(9, 0, false), (10, 0, false), (11, 0, false), (12, 0, false), (13, 1, false), (14, 0, false), (15, 0, false), (16, 0, false)] [19] 1044480, .op (17, 0, false), .op (18, 0, false)]) .leaf))
theorem I_spec_l05Is {a0 : Value} {w : World} {K : Value → World → Prop} (h : D_spec_l05Is a0 w K) : call P f_spec_l05Is [a0] w K :=
  call_of_vc mixed Tryz.func196 (c := codeOf Tryz.f196) (by kernel_rfl) (by kernel_rfl) (p := P_spec_l05Is) (by kernel_rfl) (by rw [Tryz.ntmps196]; simp) (by
    have e : D_spec_l05Is a0 w K = vc P P_spec_l05Is (codeOf Tryz.f196) (env0 [a0]) w (retX P Tryz.f196.results.toList K) := by kernel_rfl
    exact e ▸ h)
def D_spec_l05Sum (a0 a1 : Value) (w : World) (K : Value → World → Prop) : Prop :=
  alc P 68 w fun b c =>
  rbin P .add 66 false false a0 a1 c fun d =>
  call P f_spec_l01Finite [d] c fun e g =>
  una P .not e g fun h =>
  cnd h
  (bld P 68 [] g fun i =>
  sto P 68 b i g fun j =>
  ldc P 68 b j fun k =>
  K (.tuple #[k, (.bool false)]) j)
  (call P f_spec_l03Of [a0] g fun l m =>
  call P f_spec_l03Of [a1] m fun n o =>
  call P f_spec_l03Add [l, n] o fun p q =>
  call P f_spec_l03Of [d] q fun r s =>
  call P f_spec_l03Sub [p, r] s fun t u =>
  call P f_spec_l05Near [t] u fun v x =>
  bld P 68 [(0, d), (1, v)] x fun y =>
  sto P 68 b y x fun z =>
  ldc P 68 b z fun A =>
  K (.tuple #[A, (.bool true)]) z)
def P_spec_l05Sum : Plan := (.seq rg6 (.seq rg18 (.seq (.seq rg3 (.cond (.seq rg3 .leaf) .leaf)) (.seq (.reg [.op (0, 0, false), .op (1, 2, false), .op (2, 0, false), .op (3, 2, false), .op (4, 2, false), .op (5, 0, false), .op (6, 2, false), .op (7, 2, false), .op (8, 2, false), .op (9, 0, false)]) (.seq rg25 .leaf)))))
theorem I_spec_l05Sum {a0 a1 : Value} {w : World} {K : Value → World → Prop} (h : D_spec_l05Sum a0 a1 w K) : call P f_spec_l05Sum [a0, a1] w K :=
  call_of_vc mixed Tryz.func197 (c := codeOf Tryz.f197) (by kernel_rfl) (by kernel_rfl) (p := P_spec_l05Sum) (by kernel_rfl) (by rw [Tryz.ntmps197]; simp) (by
    have e : D_spec_l05Sum a0 a1 w K = vc P P_spec_l05Sum (codeOf Tryz.f197) (env0 [a0, a1]) w (retX P Tryz.f197.results.toList K) := by kernel_rfl
    exact e ▸ h)
def D_spec_l05Near (a0 : Value) (w : World) (K : Value → World → Prop) : Prop :=
  bx P 57 a0 w fun b c =>
  ld P 57 b c fun d =>
  call P f_spec_l03Round [d, (.int .i64 0)] c fun e g =>
  xtr P e 0 g fun h =>
  xtr P e 1 g fun i =>
  bin P .eql 66 false true h (.float .f32 0) g fun j =>
  cnd j
  (K (.float .f32 0) g)
  (K h g)
def P_spec_l05Near : Plan := (.seq rg6 (.seq rg10 (.seq (.seq rg0 (.cond (.seq rg2 .leaf) .leaf)) (.seq rg0 .leaf))))
theorem I_spec_l05Near {a0 : Value} {w : World} {K : Value → World → Prop} (h : D_spec_l05Near a0 w K) : call P f_spec_l05Near [a0] w K :=
  call_of_vc mixed Tryz.func239 (c := codeOf Tryz.f239) (by kernel_rfl) (by kernel_rfl) (p := P_spec_l05Near) (by kernel_rfl) (by rw [Tryz.ntmps239]; simp) (by
    have e : D_spec_l05Near a0 w K = vc P P_spec_l05Near (codeOf Tryz.f239) (env0 [a0]) w (retX P Tryz.f239.results.toList K) := by kernel_rfl
    exact e ▸ h)
end Go.Proofs.YtjompmflommadaaGreatDoor


set_option linter.unusedVariables false
set_option maxRecDepth 20000
namespace Go.Proofs.YtjompmflommadaaGreatDoor
open Go Go.Vc
def D_laws_FnExactRunPair (a0 a1 : Value) (w : World) (K : Value → World → Prop) : Prop :=
  bx P 24 a0 w fun b c =>
  bl0 P .len #[52] 3 [a1] c fun d =>
  bin P .gtr 3 false true d (.int .i64 1048576) c fun e =>
  cnd e
  (K (.bool true) c)
  (ld P 24 b c fun g =>
  call P f_laws_szProgram [g, (.int .i64 1048576)] c fun h i =>
  bin P .lss 3 false true h (.int .i64 0) i fun j =>
  cnd j
  (K (.bool true) i)
  (ld P 24 b i fun k =>
  call P f_laws_toProgram [k] i fun l m =>
  call P f_laws_toFloat32S [a1] m fun n o =>
  call P f_spec_RunPair [l, n] o fun p q =>
  xtr P p 0 q fun r =>
  xtr P p 1 q fun s =>
  alc P 68 q fun t u =>
  sto P 68 t r u fun v =>
  ld P 24 b v fun x =>
  call P f_laws_toProgram [x] v fun y z =>
  alc P 27 z fun A B =>
  sto P 27 A y B fun C =>
  call P f_laws_toFloat32S [a1] C fun D E =>
  ld P 27 A E fun F =>
  call P f_impl_RunPair [F, D] E fun G H =>
  xtr P G 0 H fun L =>
  xtr P G 1 H fun M =>
  alc P 68 H fun N O =>
  sto P 68 N L O fun Q =>
  ld P 68 N Q fun R =>
  ld P 68 t Q fun S =>
  call P f_laws_eqPair [R, S] Q fun T U =>
  una P .not T U fun V =>
  ∃ W : Value → World → Prop, (∀ (X : Value) (_ : Env) (Y : World), W X Y →
  pick V (.bool true) X fun Z =>
  cnd Z
  (K (.bool false) Y)
  (ld P 27 A Y fun b0 =>
  ld P 24 b Y fun c0 =>
  call P f_laws_toProgram [c0] Y fun d0 e0 =>
  Ext Y e0 ∧ call P f_laws_eqProgram [b0, d0] e0 fun g0 h0 =>
  una P .not g0 h0 fun i0 =>
  cnd i0
  (K (.bool false) h0)
  (call P f_laws_toFloat32S [a1] h0 fun j0 k0 =>
  call P f_laws_eqFloat32S [D, j0] k0 fun l0 m0 =>
  una P .not l0 m0 fun n0 =>
  cnd n0
  (K (.bool false) m0)
  (K (.bool true) m0)))) ∧
  grd V false
  (bin P .neq 2 false false M s U fun o0 =>
  W o0 U)
  (W undef U)))
def P_laws_FnExactRunPair : Plan := (.seq rg6 (.seq (.seq rg1 (.cond (.seq rg2 .leaf) .leaf)) (.seq rg2 (.seq rg7 (.seq (.seq rg0 (.cond (.seq rg2 .leaf) .leaf)) (.seq (.reg [.op (0, 0, false), .op (1, 2, false), .op (2, 0, false), .op (3, 2, false), .op (4, 2, false), .op (5, 0, false), .op (6, 0, false), .op (7, 0, false), .op (8, 2, false), .op (9, 2, false), .op (10, 0, false)]) (.seq (.reg [.op (0, 0, false), .op (1, 2, false), .op (2, 2, false), .op (3, 2, false)]) (.seq rg3 (.seq rg32 (.seq (.seq (.reg [.op (0, 0, false), .op (1, 0, false), .op (2, 2, false), .op (3, 0, false), .op (4, 0, false), .grp 4 false [(5, 0, false), (6, 0, false), (7, 0, false)] [45] 61572651155456, .op (8, 0, false)]) (.cond (.seq rg2 .leaf) .leaf)) (.seq (.seq (.reg [.op (0, 0, false), .op (1, 0, false), .op (2, 2, true), .op (3, 2, false), .op (4, 0, false)]) (.cond (.seq rg2 .leaf) .leaf)) (.seq (.seq rg26 (.cond (.seq rg2 .leaf) .leaf)) (.seq rg2 .leaf)))))))))))))
theorem I_laws_FnExactRunPair {a0 a1 : Value} {w : World} {K : Value → World → Prop} (h : D_laws_FnExactRunPair a0 a1 w K) : call P f_laws_FnExactRunPair [a0, a1] w K :=
  call_of_vc mixed Tryz.func10 (c := codeOf Tryz.f10) (by kernel_rfl) (by kernel_rfl) (p := P_laws_FnExactRunPair) (by kernel_rfl) (by rw [Tryz.ntmps10]; simp) (by
    have e : D_laws_FnExactRunPair a0 a1 w K = vc P P_laws_FnExactRunPair (codeOf Tryz.f10) (env0 [a0, a1]) w (retX P Tryz.f10.results.toList K) := by kernel_rfl
    exact e ▸ h)
end Go.Proofs.YtjompmflommadaaGreatDoor


set_option linter.unusedVariables false
namespace Go.Proofs.YtjompmflommadaaGreatDoor
open Go Go.Vc
abbrev fl (b : Nat) : Value := .float .f32 b
def finB (b : Nat) : Bool := decide (Fin Ieee.single b)
structure FS (w : World) (v : Value) (l : List Nat) : Prop where
  row : Row 1 w v l.length (l.map fl)
  lt : ∀ b ∈ l, b < 4294967296
theorem FS.ext {w w' : World} {v : Value} {l : List Nat} (h : FS w v l) (he : Ext w w') : FS w' v l := ⟨h.row.ext he, h.lt⟩
theorem FS.bound {w : World} {v : Value} {l : List Nat} (h : FS w v l) : l.length ≤ 9223372036854775807 := by have := h.row.bound; simp only [maxLen] at this; omega
variable {w : World} {K : Value → World → Prop}
theorem call_extern {g : FuncId} {fn : Func} {e : Array Value → Sem Value} (hf : P.funcs[g]? = some fn) (hn : (fn.name == "runtime.NumGoroutine") = false) (hb : fn.body = none) (h1 : Extern.findNext fn = none) (h2 : Extern.find fn = some e)
    {args : List Value} (H : SemA P (e args.toArray) w K) : call P g args w K := by
  intro c hc
  obtain ⟨v, c', hr, hk⟩ := H c hc
  refine ⟨.value v, c', ?_, hk⟩
  have hn' : ¬ fn.name = "runtime.NumGoroutine" := by simpa using hn
  simp [callFunc, program, Sem.run, hf, hn', hb, h1, h2, mark, hr]
theorem c_Float32bits {b : Nat} (H : K (.int .u32 b) w) : call P f_math_Float32bits [fl b] w K :=
  call_extern fun_math_Float32bits (by kernel_rfl) rfl (by kernel_rfl) (e := Extern.MathFloatBits.float32bits) (by kernel_rfl) (SemA_pure H)
theorem c_isFinite {b : Nat} (hb : b < 4294967296) (H : K (.bool (finB b)) w) : call P f_impl_isFinite [fl b] w K := by
  refine I_impl_isFinite ?_
  unfold D_impl_isFinite
  refine c_Float32bits ?_
  rw [bin_shr _ _ _ _ _ _ _ _ (by decide)]
  have e1 : Int.fdiv (b : Int) (2 ^ min (Int.toNat 23) IntKind.u32.bits) = ((b / 8388608 : Nat) : Int) := by
    rw [Int.fdiv_eq_ediv_of_nonneg _ (by simp [IntKind.bits])]
    simp [IntKind.bits]
  rw [e1, bin_and]
  have e2 : IntKind.u32.wrap ((BitVec.ofInt IntKind.u32.bits ((b / 8388608 : Nat) : Int) &&& BitVec.ofInt IntKind.u32.bits 255).toNat) = ((b / 8388608 % 256 : Nat) : Int) := by
    have h1 : (BitVec.ofInt IntKind.u32.bits ((b / 8388608 : Nat) : Int) &&& BitVec.ofInt IntKind.u32.bits 255).toNat = b / 8388608 % 256 := by
      rw [BitVec.toNat_and]
      have a1 : (BitVec.ofInt IntKind.u32.bits ((b / 8388608 : Nat) : Int)).toNat = b / 8388608 := by
        simp [IntKind.bits]; omega
      have a2 : (BitVec.ofInt IntKind.u32.bits 255).toNat = 2 ^ 8 - 1 := rfl
      rw [a1, a2, Nat.and_two_pow_sub_one_eq_mod]
    rw [h1]
    exact wrap_of (by simp [IntKind.min, IntKind.signed]; omega) (by simp [IntKind.max, IntKind.signed, IntKind.bits]; omega)
  rw [e2]
  simp only [bin_neq]
  have e3 : decide (((b / 8388608 % 256 : Nat) : Int) ≠ 255) = finB b := by
    unfold finB
    rw [decide_eq_decide, fin_iff_bits]; omega
  rw [e3]
  exact H
theorem c_l01Finite {b : Nat} (H : K (.bool (finB b)) w) : call P f_spec_l01Finite [fl b] w K := by
  refine I_spec_l01Finite ?_
  unfold D_spec_l01Finite
  refine rbin_float (by simp) fun r hr => ?_
  simp only [bin_feql]
  have e : (FloatKind.f32.format.order r 0 == some .eq) = finB b := by
    unfold finB
    by_cases hf : Fin Ieee.single b
    · rw [decide_eq_true hf]
      have := FR_some hr (show floatBits .sub .f32 b b = some 0 from sub_self hf)
      subst this; rfl
    · rw [decide_eq_false hf]
      rcases hr with hr | hr
      · rw [show floatBits .sub .f32 b b = none from sub_self_none hs1 hf] at hr; cases hr
      · rw [show FloatKind.f32.format.order r 0 = none from order_nan_left hs1 0 hr.2.1]; rfl
  rw [e]; exact H
theorem get_map {α β : Type} {f : α → β} {l : List α} {i : Nat} (hi : i < l.length) : (l.map f)[i]? = some (f l[i]) := by simp [hi]
theorem c_areFinite {v : Value} {l : List Nat} (h : FS w v l) (H : K (.bool (l.all finB)) w) : call P f_impl_areFinite [v] w K := by
  refine I_impl_areFinite ?_
  unfold D_impl_areFinite
  rw [h.row.len u_s_float32]
  have hb := h.bound
  refine ⟨fun m x w' => w' = w ∧ ∃ i : Nat, x = .int .i64 i ∧ m + i = l.length ∧ (l.take i).all finB = true, ⟨l.length, rfl, 0, rfl, by omega, by simp⟩, ?_⟩
  rintro m x junk w' ⟨rfl, i, rfl, hm, hall⟩
  rw [bin_lss]
  refine cnd_dec (fun hlt => ?_) (fun hge => ?_)
  · have hi : i < l.length := by omega
    refine h.row.at1 (get_map hi) u_s_float32 i_float32 u_float32 rfl ?_
    refine c_isFinite (h.lt _ (List.getElem_mem hi)) ?_
    rw [una_not]
    refine cnd_split (fun hf => ?_) (fun hf => ?_)
    · have : l.all finB = false := by
        refine Bool.eq_false_iff.2 fun hall' => ?_
        have := List.all_eq_true.1 hall' l[i] (List.getElem_mem hi)
        rw [this] at hf; cases hf
      rw [this] at H; exact H
    · rw [bin_add]
      refine ⟨m - 1, by omega, rfl, i + 1, ?_, by omega, ?_⟩
      · rw [wrap_i64 (by omega) (by omega)]; rfl
      · rw [List.take_succ_eq_append_getElem hi, List.all_append, hall]
        simpa using hf
  · have : l.take i = l := List.take_of_length_le (by omega)
    rw [this] at hall
    rw [hall] at H; exact H
end Go.Proofs.YtjompmflommadaaGreatDoor


set_option linter.unusedVariables false
namespace Go.Proofs.YtjompmflommadaaGreatDoor
open Go Go.Vc
variable {w : World} {K : Value → World → Prop}
def vecB (l : List Nat) : Bool := l.all finB && decide (1 ≤ l.length ∧ l.length ≤ 8)
structure FSS (w : World) (v : Value) (m : List (List Nat)) : Prop where
  ex : ∃ vs : List Value, Row 1 w v m.length vs ∧ ∀ i (hi : i < m.length), ∃ x, vs[i]? = some x ∧ FS w x m[i]
theorem FSS.ext {w w' : World} {v : Value} {m : List (List Nat)} (h : FSS w v m) (he : Ext w w') : FSS w' v m := by
  obtain ⟨vs, h1, h2⟩ := h.ex
  exact ⟨vs, h1.ext he, fun i hi => let ⟨x, hx, hf⟩ := h2 i hi; ⟨x, hx, hf.ext he⟩⟩
theorem FSS.bound {w : World} {v : Value} {m : List (List Nat)} (h : FSS w v m) : m.length ≤ 9223372036854775807 := by
  obtain ⟨vs, h1, _⟩ := h.ex
  have := h1.bound; simp only [maxLen] at this; omega
def matB (m : List (List Nat)) : Bool := m.all (fun r => decide (r.length = m.length) && r.all finB) && decide (1 ≤ m.length ∧ m.length ≤ 8)
def total (m : List (List Nat)) : Nat := (m.map List.length).sum
end Go.Proofs.YtjompmflommadaaGreatDoor


set_option linter.unusedVariables false
namespace Go.Proofs.YtjompmflommadaaGreatDoor
open Go Go.Vc
variable {w : World} {K : Value → World → Prop}
theorem div_one_some {a : Nat} (h : ¬ NaN Ieee.double a) : ∃ r, floatBits .quo .f64 4607182418800017408 a = some r := by
  show ∃ r, Ieee.double.div 4607182418800017408 a = some r
  have h1 : Ieee.double.read 4607182418800017408 = .number false 4503599627370496 (-52) := by decide +kernel
  unfold Ieee.Format.div
  rw [h1]
  rcases fin_inf_nan Ieee.double a with h2 | h2 | h2
  · obtain ⟨m, e, hr⟩ := read_fin h2
    rw [hr]
    simp only [Ieee.Datum.quotient]
    by_cases hm : m = 0
    · rw [if_pos hm, if_neg (by decide)]; exact ⟨_, rfl⟩
    · rw [if_neg hm]; exact ⟨_, rfl⟩
  · rw [read_inf hd1 h2]; exact ⟨_, rfl⟩
  · exact absurd h2 h
def Deq (a b : Nat) : Prop := (a = b ∧ ¬ NaN Ieee.double a) ∨ (NaN Ieee.double a ∧ NaN Ieee.double b)
theorem neq_self_nan {a : Nat} (h : NaN Ieee.double a) : (FloatKind.f64.format.order a a != some .eq) = true := by
  rw [show FloatKind.f64.format.order a a = none from order_nan_left hd1 a h]; rfl
theorem neq_self_not {a : Nat} (h : ¬ NaN Ieee.double a) : (FloatKind.f64.format.order a a != some .eq) = false := by
  rw [show FloatKind.f64.format.order a a = some .eq from order_self h hd1]; rfl
theorem c_sameFloat {a b : Nat} (h : Deq a b) (H : K (.bool true) w) : call P f_laws_sameFloat [.float .f64 a, .float .f64 b] w K := by
  refine I_laws_sameFloat ?_
  unfold D_laws_sameFloat
  rw [bin_fneq]
  rcases h with ⟨rfl, ha⟩ | ⟨ha, hb⟩
  · rw [neq_self_not ha]
    refine ⟨_, fun _ _ _ h => h, ?_⟩
    rw [grd_false_false, bin_fneq, neq_self_not ha, pick_bool, cond_false, cnd_false, bin_feql]
    refine ⟨_, fun _ _ _ h => h, ?_⟩
    refine grd_split (fun h1 => ?_) (fun h1 => ?_)
    · rw [bin_feql, pick_bool, h1, cond_true, cnd_true]
      obtain ⟨r, hr⟩ := div_one_some ha
      refine rbin_float (by simp) fun r1 h2 => ?_
      rw [bin_fgtr]
      refine rbin_float (by simp) fun r2 h3 => ?_
      rw [bin_fgtr, bin_beql _ _ _ _ _ _ u_bool, FR_some h2 hr, FR_some h3 hr]
      simpa using H
    · rw [h1, pick_bool]
      simp only [Bool.not_true, cond_false, cnd_false]
      rw [bin_feql, show FloatKind.f64.format.order a a = some .eq from order_self ha hd1]
      exact H
  · rw [neq_self_nan ha]
    refine ⟨_, fun _ _ _ h => h, ?_⟩
    rw [grd_true_false, pick_bool, cond_true, cnd_true, bin_fneq, neq_self_nan ha]
    refine ⟨_, fun _ _ _ h => h, ?_⟩
    rw [grd_true_true, bin_fneq, neq_self_nan hb, pick_bool, cond_true]
    exact H
theorem wid_deq {a b r q : Nat} (h : Feq a b) (h1 : Wid a r) (h2 : Wid b q) : Deq r q := by
  rcases h with rfl | ⟨ha, hb⟩
  · rcases h1 with ⟨n1, rfl⟩ | ⟨n1, m1⟩
    · rcases h2 with ⟨n2, rfl⟩ | ⟨n2, m2⟩
      · exact .inl ⟨rfl, wid_not_nan n1⟩
      · exact absurd n2 n1
    · rcases h2 with ⟨n2, rfl⟩ | ⟨n2, m2⟩
      · exact absurd n1 n2
      · exact .inr ⟨m1, m2⟩
  · rcases h1 with ⟨n1, rfl⟩ | ⟨n1, m1⟩
    · exact absurd ha n1
    · rcases h2 with ⟨n2, rfl⟩ | ⟨n2, m2⟩
      · exact absurd hb n2
      · exact .inr ⟨m1, m2⟩
def Leq (a b : List Nat) : Prop := a.length = b.length ∧ ∀ i (h1 : i < a.length) (h2 : i < b.length), Feq a[i] b[i]
theorem Leq.refl (a : List Nat) : Leq a a := ⟨rfl, fun i h1 h2 => .inl rfl⟩
set_option maxRecDepth 20000 in
theorem c_eqFloat32S {u v : Value} {a b : List Nat} (hu : FS w u a) (hv : FS w v b) (h : Leq a b) (H : K (.bool true) w) : call P f_laws_eqFloat32S [u, v] w K := by
  refine I_laws_eqFloat32S ?_
  unfold D_laws_eqFloat32S
  have hb := hu.bound
  have hlen := h.1
  rw [hu.row.len u_s_float32, hv.row.len u_s_float32, bin_neq]
  refine cnd_dec (fun h1 => by omega) (fun h1 => ?_)
  refine ⟨fun m x w' => w' = w ∧ ∃ i : Nat, x = .int .i64 i ∧ m + i = a.length, ⟨a.length, rfl, 0, rfl, by omega⟩, ?_⟩
  rintro m x junk w' ⟨rfl, i, rfl, hm⟩
  rw [hu.row.len u_s_float32, bin_lss]
  refine cnd_dec (fun hlt => ?_) (fun hge => H)
  have hi : i < a.length := by omega
  have hi' : i < b.length := by omega
  refine hu.row.at1 (get_map hi) u_s_float32 i_float32 u_float32 rfl ?_
  refine hv.row.at1 (get_map hi') u_s_float32 i_float32 u_float32 rfl ?_
  refine rcnv_widen u_float32 u_float64 fun r hr => ?_
  refine rcnv_widen u_float32 u_float64 fun q hq => ?_
  refine c_sameFloat (wid_deq (h.2 i hi hi') hr hq) ?_
  rw [una_not, Bool.not_true, cnd_false, bin_add]
  refine ⟨m - 1, by omega, rfl, i + 1, ?_, by omega⟩
  rw [wrap_i64 (by omega) (by omega)]; rfl
def LLeq (a b : List (List Nat)) : Prop := a.length = b.length ∧ ∀ i (h1 : i < a.length) (h2 : i < b.length), Leq a[i] b[i]
theorem LLeq.refl (a : List (List Nat)) : LLeq a a := ⟨rfl, fun i h1 h2 => Leq.refl _⟩
abbrev OS (w : World) (base : Nat) (v : Value) (l : List Nat) : Prop := w.ownsRow base t_float32 1 v l.length (l.map fl)
theorem OS.FS {base : Nat} {v : Value} {l : List Nat} (h : OS w base v l) (hb : ∀ b ∈ l, b < 4294967296) : FS w v l := ⟨owns_Row h, hb⟩
theorem replicate_set_take {α : Type} (l : List α) (z : α) (i : Nat) (hi : i < l.length) : (l.take i ++ List.replicate (l.length - i) z).set i l[i] = l.take (i + 1) ++ List.replicate (l.length - (i + 1)) z := by
  apply List.ext_getElem?
  intro j
  rw [List.getElem?_set]
  simp only [List.getElem?_append, List.length_take, List.getElem?_take, List.getElem?_replicate, List.length_append, List.length_replicate]
  by_cases h1 : i = j
  · subst h1
    simp [Nat.min_eq_left (Nat.le_of_lt hi), hi, show min (i + 1) l.length = i + 1 by omega]
    omega
  · rw [if_neg h1]
    by_cases h2 : j < i
    · simp [show j < min i l.length by omega, show j < min (i + 1) l.length by omega, h2, show j < i + 1 by omega]
    · simp [show ¬ j < min i l.length by omega, show ¬ j < min (i + 1) l.length by omega, show min i l.length = i by omega, show min (i + 1) l.length = i + 1 by omega]
      by_cases h3 : j - i < l.length - i
      · simp [h2, h3, show ¬ j < i + 1 by omega, show j - (i + 1) < l.length - (i + 1) by omega]
      · simp [h2, h3, show ¬ j < i + 1 by omega, show ¬ j - (i + 1) < l.length - (i + 1) by omega]
theorem oneCell_fl (b : Nat) : (fl b).oneCell' = true := rfl
theorem c_toFloat32S {v : Value} {l : List Nat} (h : FS w v l) (hl : l.length ≤ 1048576) (H : ∀ v' w', Ext w w' → OS w' w.heap.size v' l → K v' w') : call P f_laws_toFloat32S [v] w K := by
  refine I_laws_toFloat32S ?_
  unfold D_laws_toFloat32S
  rw [h.row.len u_s_float32]
  refine mks_intro u_s_float32 i_float32 rfl (by omega) (by simp only [maxLen]; omega) fun w1 v1 ho he => ?_
  refine ⟨fun m x w' => RowKit.Below w.heap.size w w' ∧ ∃ i : Nat, x = .int .i64 i ∧ m + i = l.length ∧ w'.ownsRow w.heap.size t_float32 1 v1 l.length (l.map fl |>.take i |> (· ++ List.replicate (l.length - i) (fl 0))),
    ⟨l.length, he, 0, rfl, by omega, by simpa using ho⟩, ?_⟩
  rintro m x junk w2 ⟨hbel, i, rfl, hm, ho2⟩
  have h2 : FS w2 v l := h.ext hbel
  rw [h2.row.len u_s_float32, bin_lss]
  refine cnd_dec (fun hlt => ?_) (fun hge => ?_)
  · have hi : i < l.length := by omega
    refine h2.row.at1 (get_map hi) u_s_float32 i_float32 u_float32 rfl ?_
    refine owns_set ho2 hi (oneCell_fl _) u_s_float32 i_float32 fun w3 ho3 hg => ?_
    rw [bin_add]
    refine ⟨m - 1, by omega, ?_, i + 1, ?_, by omega, ?_⟩
    · exact hbel.grown hg hbel.size fun k hk => (ho2.lt k hk).1
    · rw [wrap_i64 (by omega) (by omega)]; rfl
    · have := replicate_set_take (l.map fl) (fl 0) i (by simpa using hi)
      simp only [List.length_map, List.getElem_map] at this
      rw [this] at ho3; exact ho3
  · have e : (l.map fl).take i = l.map fl := List.take_of_length_le (by simp; omega)
    have e2 : l.length - i = 0 := by omega
    simp only [e, e2, List.replicate_zero, List.append_nil] at ho2
    exact H _ _ hbel ho2
end Go.Proofs.YtjompmflommadaaGreatDoor


set_option linter.unusedVariables false
namespace Go.Proofs.YtjompmflommadaaGreatDoor
open Go Go.Vc
variable {w : World} {K : Value → World → Prop}
theorem owns_ne {b1 b2 : Nat} {e1 e2 : TypeId} {s1 s2 n1 n2 : Nat} {v1 v2 : Value} {xs ys : List Value} (h1 : w.ownsRow b1 e1 s1 v1 n1 xs) (h2 : w.ownsRow b2 e2 s2 v2 n2 ys) (he : e1 ≠ e2) : v1.ownBlock = none ∨ v1.ownBlock ≠ v2.ownBlock := by
  rcases h1.2 with ⟨rfl, _⟩ | ⟨g, cap, cur, rfl, _, hg, _⟩
  · exact .inl rfl
  · rcases h2.2 with ⟨rfl, _⟩ | ⟨g', cap', cur', rfl, _, hg', _⟩
    · exact .inr (by simp [Value.ownBlock])
    · refine .inr ?_
      simp only [Value.ownBlock, ne_eq, Option.some.injEq]
      rintro rfl
      rw [hg] at hg'
      simp only [Option.some.injEq, Obj.cells.injEq] at hg'
      exact he hg'.2.1
structure OM (w : World) (lo hi : Nat) (v : Value) (m : List (List Nat)) (vs : List Value) : Prop where
  outer : w.ownsRow lo t_s_float32 1 v m.length vs
  rows : ∀ (i : Nat) (hl : i < m.length), ∃ x : Value, vs[i]? = some x ∧ OS w lo x m[i] ∧ ∀ k, x.ownBlock = some k → k < hi
  apart : ∀ (i j : Nat) (x y : Value), i < j → vs[i]? = some x → vs[j]? = some y → x.ownBlock = none ∨ x.ownBlock ≠ y.ownBlock
  top : ∀ k, v.ownBlock = some k → k < hi
def bits (m : List (List Nat)) : Prop := ∀ r ∈ m, ∀ b ∈ r, b < 4294967296
theorem OM.FSS {lo hi : Nat} {v : Value} {m : List (List Nat)} {vs : List Value} (h : OM w lo hi v m vs) (hb : bits m) : FSS w v m :=
  ⟨vs, owns_Row h.outer, fun i hi => let ⟨x, hx, ho, _⟩ := h.rows i hi; ⟨x, hx, ho.FS (hb _ (List.getElem_mem hi))⟩⟩
theorem OM.ext {lo hi : Nat} {v : Value} {m : List (List Nat)} {vs : List Value} {w' : World} (h : OM w lo hi v m vs) (he : Ext w w') : OM w' lo hi v m vs :=
  ⟨owns_ext h.outer he, fun i hi => let ⟨x, hx, ho, hk⟩ := h.rows i hi; ⟨x, hx, owns_ext ho he, hk⟩, h.apart, h.top⟩
theorem OM.chg {lo hi lo' hi' : Nat} {v : Value} {m : List (List Nat)} {vs : List Value} {w' : World} (h : OM w lo hi v m vs) (hc : Chg lo' hi' w w') (hb : hi ≤ lo' ∨ hi' ≤ lo) : OM w' lo hi v m vs :=
  ⟨(OwnR.chg ⟨h.outer, h.top⟩ hc hb).own, fun i hi => let ⟨x, hx, ho, hk⟩ := h.rows i hi; ⟨x, hx, (OwnR.chg ⟨ho, hk⟩ hc hb).own, hk⟩, h.apart, h.top⟩
def mk (k : Int) (n : Nat) : List Nat := (List.range n).map (fun j => floatOfInt .f32 (k + (j : Nat)))
@[simp] theorem mk_length (k : Int) (n : Nat) : (mk k n).length = n := by simp [mk]
def mkM (k : Int) (m : List (List Nat)) : List (List Nat) := (List.range m.length).map (fun i => mk (k + total (m.take i)) (m.getD i []).length)
@[simp] theorem mkM_length (k : Int) (m : List (List Nat)) : (mkM k m).length = m.length := by simp [mkM]
end Go.Proofs.YtjompmflommadaaGreatDoor


set_option linter.unusedVariables false
namespace Go.Proofs.YtjompmflommadaaGreatDoor
open Go Go.Vc
variable {w : World} {K : Value → World → Prop}
def mid (k : Int) (m : List (List Nat)) (i : Nat) : List (List Nat) := (List.range m.length).map (fun j => if j < i then mk (k + total (m.take j)) (m.getD j []).length else m.getD j [])
@[simp] theorem mid_length (k : Int) (m : List (List Nat)) (i : Nat) : (mid k m i).length = m.length := by simp [mid]
end Go.Proofs.YtjompmflommadaaGreatDoor


set_option linter.unusedVariables false
namespace Go.Proofs.YtjompmflommadaaGreatDoor
open Go Go.Vc
variable {w : World} {K : Value → World → Prop}
theorem finB_iff {b : Nat} : finB b = true ↔ Fin Ieee.single b := by unfold finB; exact decide_eq_true_iff
theorem finB_not {b : Nat} : finB b = false ↔ ¬ Fin Ieee.single b := by unfold finB; exact decide_eq_false_iff_not
theorem FS.at {v : Value} {l : List Nat} (h : FS w v l) {i : Nat} (hi : i < l.length) {K : Value → Prop} (H : K (fl l[i])) : ixa P t_s_float32 v (.int .i64 (i : Int)) w (fun a => ld P t_float32 a w K) :=
  h.row.at1 (get_map hi) u_s_float32 i_float32 u_float32 rfl H
theorem OS.below {B base : Nat} {v : Value} {l : List Nat} {w0 w' : World} (h : OS w base v l) (hb : RowKit.Below B w0 w) (hg : w.grownBy w' v.ownBlock) (hB : B ≤ w0.heap.size) (hbase : B ≤ base) : RowKit.Below B w0 w' :=
  hb.grown hg (Nat.le_trans hB hb.size) fun k hk => Nat.le_trans hbase (h.lt k hk).1
theorem OS.nil (w : World) (base : Nat) : OS w base (.slice none 0 0) [] := ⟨rfl, .inl ⟨rfl, rfl⟩⟩
structure MV (w : World) (a v : Value) (m : List (List Nat)) (x : List Nat) : Prop where
  fa : FSS w a m
  fv : FS w v x
  len : ∀ r ∈ m, r.length = x.length
  fm : ∀ r ∈ m, r.all finB = true
  fx : x.all finB = true
  small : m.length ≤ 8
theorem MV.ext {w' : World} {a v : Value} {m : List (List Nat)} {x : List Nat} (h : MV w a v m x) (he : Ext w w') : MV w' a v m x := ⟨h.fa.ext he, h.fv.ext he, h.len, h.fm, h.fx, h.small⟩
theorem all_get {l : List Nat} (h : l.all finB = true) {i : Nat} (hi : i < l.length) : finB l[i] = true := List.all_eq_true.1 h _ (List.getElem_mem hi)
theorem FS_two {b1 b2 : Nat} (h1 : b1 < 4294967296) (h2 : b2 < 4294967296) (w : World) : FS (w.alloc (.cells #[fl b1, fl b2] t_float32)) (.slice (some ⟨w.heap.size, 0, none⟩) 2 2) [b1, b2] :=
  ⟨owns_Row (owns_lit w [fl b1, fl b2] t_float32 (by simp [maxLen])), by intro b hb; simp at hb; rcases hb with rfl | rfl <;> assumption⟩
theorem bslF2 {b1 b2 : Nat} {KW : Value → World → Prop} (h1 : b1 < 4294967296) (h2 : b2 < 4294967296) (H : ∀ v w', Ext w w' → FS w' v [b1, b2] → KW v w') : bsl P t_s_float32 2 [(0, fl b1), (1, fl b2)] w KW :=
  bsl_two u_s_float32 i_float32 rfl rfl rfl (H _ _ (Ext_alloc _ _) (FS_two h1 h2 w))
end Go.Proofs.YtjompmflommadaaGreatDoor


set_option linter.unusedVariables false
namespace Go.Proofs.YtjompmflommadaaGreatDoor
open Go Go.Vc
variable {w : World} {K : Value → World → Prop}
def codeF (m : List (List Nat)) (L : List (List Nat)) : Int := if matB m && L.all vecB then (if L.all (fun l => decide (l.length = m.length)) then 0 else 2) else 1
theorem FS.one {v : Value} {l : List Nat} (h : FS w v l) : v.oneCell' = true := by
  obtain ⟨_, _, a, cap, rfl, _⟩ := h.row
  rfl
theorem code_zero {m : List (List Nat)} {L : List (List Nat)} (h : codeF m L = 0) : matB m = true ∧ (∀ l ∈ L, vecB l = true) ∧ ∀ l ∈ L, l.length = m.length := by
  unfold codeF at h
  split at h
  · rename_i h1
    split at h
    · rename_i h2
      simp only [Bool.and_eq_true] at h1
      refine ⟨h1.1, fun l hl => List.all_eq_true.1 h1.2 l hl, fun l hl => ?_⟩
      have := List.all_eq_true.1 h2 l hl
      simpa using this
    · omega
  · omega
theorem matB_parts {m : List (List Nat)} (h : matB m = true) : (∀ r ∈ m, r.length = m.length ∧ r.all finB = true) ∧ 1 ≤ m.length ∧ m.length ≤ 8 := by
  unfold matB at h
  simp only [Bool.and_eq_true, decide_eq_true_eq] at h
  refine ⟨fun r hr => ?_, h.2.1, h.2.2⟩
  have := List.all_eq_true.1 h.1 r hr
  simpa using this
end Go.Proofs.YtjompmflommadaaGreatDoor


set_option linter.unusedVariables false
namespace Go.Proofs.YtjompmflommadaaGreatDoor
open Go Go.Vc
variable {w : World} {K : Value → World → Prop}
section
variable {lo hi : Nat} {v : Value} {m : List (List Nat)} {vs : List Value}
theorem OM.vlen (h : OM w lo hi v m vs) : vs.length = m.length := by have := h.outer.1; omega
theorem OM.row {w' : World} {i : Nat} {r : Value} {l : List Nat} (h : OM w lo hi v m vs) (hr : vs[i]? = some r) (hg : w.grownBy w' r.ownBlock) (ho : OS w' lo r l) : OM w' lo hi v (m.set i l) vs ∧ Chg lo hi w w' := by
  have hi' : i < m.length := by
    have := (List.getElem?_eq_some_iff.1 hr).1
    have := h.vlen; omega
  obtain ⟨x, hx, hox, hk⟩ := h.rows i hi'
  rw [hr] at hx; cases hx
  refine ⟨⟨?_, fun j hj => ?_, h.apart, h.top⟩, Chg.grown hg fun k hk' => ⟨(hox.lt k hk').1, hk k hk'⟩⟩
  · rw [List.length_set]
    exact h.outer.kept hg (owns_ne h.outer hox (by decide))
  · have hj' : j < m.length := by simpa using hj
    by_cases hji : j = i
    · subst hji
      refine ⟨r, hr, ?_, hk⟩
      rw [List.getElem_set_self]; exact ho
    · obtain ⟨r', hr', hor', hrk'⟩ := h.rows j hj'
      refine ⟨r', hr', ?_, hrk'⟩
      have hne : r'.ownBlock = none ∨ r'.ownBlock ≠ r.ownBlock := by
        rcases Nat.lt_or_ge j i with hlt | hge
        · exact h.apart j i r' r hlt hr' hr
        · rcases h.apart i j r r' (by omega) hr hr' with h | h
          · cases hb : r'.ownBlock with
            | none => exact .inl rfl
            | some q => exact .inr (by rw [h]; simp)
          · exact .inr fun e => h e.symm
      rw [List.getElem_set_ne (by omega)]
      exact hor'.kept hg hne
theorem OM.put {i j : Nat} {r : Value} {x : Nat} {K : World → Prop} (h : OM w lo hi v m vs) (hr : vs[i]? = some r) (hi' : i < m.length) (hj : j < m[i].length) (H : ∀ w', OM w' lo hi v (m.set i (m[i].set j x)) vs → Chg lo hi w w' → K w') :
    ixa P t_s_float32 r (.int .i64 (j : Int)) w (fun a => sto P t_float32 a (fl x) w K) := by
  obtain ⟨r', hr', ho, hk⟩ := h.rows i hi'
  rw [hr] at hr'; cases hr'
  refine owns_set ho hj (oneCell_fl _) u_s_float32 i_float32 fun w' ho' hg => ?_
  have e : OS w' lo r (m[i].set j x) := by
    show w'.ownsRow lo t_float32 1 r (m[i].set j x).length ((m[i].set j x).map fl)
    rw [List.length_set, List.map_set]; exact ho'
  obtain ⟨q1, q2⟩ := h.row hr hg e
  exact H w' q1 q2
theorem OM.nil (w : World) (lo hi : Nat) : OM w lo hi (.slice none 0 0) [] [] := ⟨⟨rfl, .inl ⟨rfl, rfl⟩⟩, fun i hi => by simp at hi, fun i j x y _ hx => by simp at hx, fun k hk => by cases hk⟩
theorem OM.mono {lo' hi' : Nat} (h : OM w lo hi v m vs) (h1 : lo' ≤ lo) (h2 : hi ≤ hi') : OM w lo' hi' v m vs :=
  ⟨owns_base h.outer h1, fun i hi => let ⟨x, hx, ho, hk⟩ := h.rows i hi; ⟨x, hx, owns_base ho h1, fun k hkk => Nat.lt_of_lt_of_le (hk k hkk) h2⟩, h.apart, fun k hk => Nat.lt_of_lt_of_le (h.top k hk) h2⟩
end
def tab (n : Nat) (f : Nat → Nat → Nat) : List (List Nat) := (List.range n).map fun i => (List.range n).map fun j => f i j
@[simp] theorem tab_length (n : Nat) (f : Nat → Nat → Nat) : (tab n f).length = n := by simp [tab]
def upd (f : Nat → Nat → Nat) (i j x : Nat) : Nat → Nat → Nat := fun p q => if p = i ∧ q = j then x else f p q
def cell (m : List (List Nat)) (i j : Nat) : Nat := (m.getD i []).getD j 0
def square (n : Nat) (m : List (List Nat)) : Prop := m.length = n ∧ ∀ r ∈ m, r.length = n
theorem square.row {n : Nat} {m : List (List Nat)} (h : square n m) {i : Nat} (hi : i < m.length) : m[i].length = n := h.2 _ (List.getElem_mem hi)
end Go.Proofs.YtjompmflommadaaGreatDoor


set_option linter.unusedVariables false
namespace Go.Proofs.YtjompmflommadaaGreatDoor
open Go Go.Vc
variable {w : World} {K : Value → World → Prop}
end Go.Proofs.YtjompmflommadaaGreatDoor


set_option linter.unusedVariables false
namespace Go.Proofs.YtjompmflommadaaGreatDoor
open Go Go.Vc
variable {w : World} {K : Value → World → Prop} {lo hi : Nat} {v : Value}
structure BxR (w : World) (lo hi : Nat) (t : TypeId) (p : Value) (cs : List Value) : Prop where
  own : Bx w lo t p cs
  top : ∀ k, blk p = some k → k < hi
theorem BxR.ext {w' : World} {t : TypeId} {p : Value} {cs : List Value} (h : BxR w lo hi t p cs) (he : Ext w w') : BxR w' lo hi t p cs := ⟨h.own.ext he, h.top⟩
theorem BxR.chg {w' : World} {lo' hi' : Nat} {t : TypeId} {p : Value} {cs : List Value} (h : BxR w lo hi t p cs) (hc : Chg lo' hi' w w') (hd : hi ≤ lo' ∨ hi' ≤ lo) : BxR w' lo hi t p cs := by
  obtain ⟨⟨g, h1, h2, h3⟩, ht⟩ := h
  have ht' := ht
  subst h1
  have := ht g rfl
  exact ⟨⟨g, rfl, h2, by rw [hc.block g (heap_lt h3) (by omega)]; exact h3⟩, ht⟩
theorem BxR.of {t : TypeId} {p : Value} {cs : List Value} (h : Bx w lo t p cs) : BxR w lo w.heap.size t p cs := ⟨h, fun k hk => (h.blk_lt hk).2⟩
theorem BxR.grown {w' : World} {t : TypeId} {p : Value} {cs : List Value} (h : BxR w lo hi t p cs) (hg : w.grownBy w' (blk p)) : Chg lo hi w w' := Chg.grown hg fun k hk => ⟨(h.own.blk_lt hk).1, h.top k hk⟩
abbrev A_Float32S := FS
abbrev I_Float32S := FS
def O_Float32S (w : World) (lo hi : Nat) (v : Value) (l : List Nat) : Prop := OwnR w lo hi t_float32 1 v l.length (l.map fl) ∧ ∀ b ∈ l, b < 4294967296
theorem O_Float32S.ext {l : List Nat} {w' : World} (h : O_Float32S w lo hi v l) (he : Ext w w') : O_Float32S w' lo hi v l := ⟨h.1.ext he, h.2⟩
theorem O_Float32S.chg {l : List Nat} {w' : World} {lo' hi' : Nat} (h : O_Float32S w lo hi v l) (hc : Chg lo' hi' w w') (hd : hi ≤ lo' ∨ hi' ≤ lo) : O_Float32S w' lo hi v l := ⟨h.1.chg hc hd, h.2⟩
theorem O_Float32S.I {l : List Nat} (h : O_Float32S w lo hi v l) : I_Float32S w v l := OS.FS h.1.own h.2
def sz_Float32S (l : List Nat) : Nat := l.length
def cnt_Float32S (l : List Nat) : Nat := l.length
theorem cnt_sz_Float32S (l : List Nat) : cnt_Float32S l ≤ sz_Float32S l := Nat.le_refl _
theorem len_Float32S {l : List Nat} (h : A_Float32S w v l) {ty : TypeId} {K : Value → Prop} : bl0 P .len #[t_s_float32] ty [v] w K = K (.int .i64 (sz_Float32S l)) := h.row.len u_s_float32
theorem c_to_Float32S {l : List Nat} (h : A_Float32S w v l) (hs : sz_Float32S l ≤ 1048576) (H : ∀ v' w', Ext w w' → O_Float32S w' w.heap.size w'.heap.size v' l → K v' w') : call P f_laws_toFloat32S [v] w K :=
  c_toFloat32S h hs fun v' w' he ho => H v' w' he ⟨OwnR.of ho, h.lt⟩
theorem c_eq_Float32S {u : Value} {l : List Nat} (h1 : I_Float32S w u l) (h2 : I_Float32S w v l) (H : ∀ w', Ext w w' → K (.bool true) w') : call P f_laws_eqFloat32S [u, v] w K :=
  c_eqFloat32S h1 h2 (Leq.refl _) (H _ (Ext.refl _))
def A_Float32SS (w : World) (v : Value) (m : List (List Nat)) : Prop := FSS w v m ∧ bits m
abbrev I_Float32SS := A_Float32SS
theorem A_Float32SS.ext {m : List (List Nat)} {w' : World} (h : A_Float32SS w v m) (he : Ext w w') : A_Float32SS w' v m := ⟨h.1.ext he, h.2⟩
def O_Float32SS (w : World) (lo hi : Nat) (v : Value) (m : List (List Nat)) : Prop := (∃ vs, OM w lo hi v m vs) ∧ bits m
theorem O_Float32SS.ext {m : List (List Nat)} {w' : World} (h : O_Float32SS w lo hi v m) (he : Ext w w') : O_Float32SS w' lo hi v m := ⟨let ⟨vs, h⟩ := h.1; ⟨vs, h.ext he⟩, h.2⟩
theorem O_Float32SS.chg {m : List (List Nat)} {w' : World} {lo' hi' : Nat} (h : O_Float32SS w lo hi v m) (hc : Chg lo' hi' w w') (hd : hi ≤ lo' ∨ hi' ≤ lo) : O_Float32SS w' lo hi v m := ⟨let ⟨vs, h⟩ := h.1; ⟨vs, h.chg hc hd⟩, h.2⟩
theorem O_Float32SS.I {m : List (List Nat)} (h : O_Float32SS w lo hi v m) : I_Float32SS w v m := ⟨let ⟨_, h1⟩ := h.1; h1.FSS h.2, h.2⟩
end Go.Proofs.YtjompmflommadaaGreatDoor


set_option linter.unusedVariables false
namespace Go.Proofs.YtjompmflommadaaGreatDoor
open Go Go.Vc
open Go.ChangeShapes Go.WideShapes Go.ChangeAt
section
variable {H : Type} {enc : TypeId × Value → H} {w : World} {base : Nat} {spare : Nat → Bool} {held : Bool} {fuel : Nat}
theorem trod_float {t : TypeId} {k : FloatKind} {cs : List Value} {x : DataW H × List MemPlace} (ht : P.underlying t = some (.float k)) (h : DataW.trod enc P w base spare held fuel t cs = some x) : ∃ b, cs = [.float k b] ∧ (Lit.float k b).wf = true := by
  cases fuel with
  | zero => simp [DataW.trod] at h
  | succ n =>
    unfold DataW.trod at h
    rw [ht] at h
    split at h <;> simp_all
theorem open_row {t e : TypeId} {v : Value} {x : DataW H × List MemPlace} (hu : P.underlying t = some (.slice e)) (hc : P.cellsOf e = 1) (h : DataW.trod enc P w base (fun _ => true) held fuel t [v] = some x) :
    ∃ (n : Nat) (vs : List Value), Row 1 w v n vs ∧ ∀ (i : Nat) (u : Value), vs[i]? = some u → ∃ m y, DataW.trod enc P w base (fun _ => true) held m e [u] = some y := by
  rcases Deep.open_slice1 hu hc h with ⟨hcs, _⟩ | ⟨a, len, cap, m, k, V, D, Pl, hcs, hb, hl, hm, hmm, _, hx⟩
  · obtain rfl : v = .slice none 0 0 := by simpa using hcs
    exact ⟨0, [], Row.nil 1 w, fun i u hu => by simp at hu⟩
  · obtain rfl : v = .slice (some a) len cap := by simpa using hcs
    simp only [if_true] at hmm
    subst hmm
    refine ⟨len, (List.range len).map V, ⟨by simp, by omega, some a, _, rfl, fun hn => ?_⟩, fun i u hu => ?_⟩
    · have h0 := (hx 0 (by omega)).1
      obtain ⟨b, o, sp⟩ := a
      have hsp : sp = none := by
        have := World.cell?_spot h0
        simpa [Addr.add] using this
      subst hsp
      refine ⟨b, o, rfl, fun j u hu => ?_⟩
      have hj : j < len := by
        have := (List.getElem?_eq_some_iff.1 hu).1
        simpa using this
      have := (hx j (by omega)).1
      rw [Addr.add_lit] at this
      rw [this]
      simp [hj] at hu
      rw [hu]
    · have hj : i < len := by
        have := (List.getElem?_eq_some_iff.1 hu).1
        simpa using this
      simp [hj] at hu
      subst hu
      exact ⟨k, _, (hx i (by omega)).2⟩
theorem cells_float32 : P.cellsOf t_float32 = 1 := by kernel_rfl
theorem list_of {α β : Type} {p : α → β → Prop} : ∀ {l : List α}, (∀ (i : Nat) (u : α), l[i]? = some u → ∃ b, p u b) → ∃ bs : List β, bs.length = l.length ∧ ∀ (i : Nat) (u : α), l[i]? = some u → ∃ b, bs[i]? = some b ∧ p u b
  | [], _ => ⟨[], rfl, fun i u h => by simp at h⟩
  | a :: l, h => by
    obtain ⟨b, hb⟩ := h 0 a rfl
    obtain ⟨bs, h1, h2⟩ := list_of (l := l) (fun i u hu => h (i + 1) u (by simpa using hu))
    refine ⟨b :: bs, by simp [h1], fun i u hu => ?_⟩
    cases i with
    | zero => simp at hu; subst hu; exact ⟨b, rfl, hb⟩
    | succ i => obtain ⟨c, hc1, hc2⟩ := h2 i u (by simpa using hu); exact ⟨c, by simpa using hc1, hc2⟩
theorem open_FS {v : Value} {x : DataW H × List MemPlace} (h : DataW.trod enc P w base (fun _ => true) held fuel t_s_float32 [v] = some x) : ∃ l, FS w v l := by
  obtain ⟨n, vs, hrow, hel⟩ := open_row u_s_float32 cells_float32 h
  obtain ⟨bs, h1, h2⟩ := list_of (p := fun u b => u = fl b ∧ b < 4294967296) (l := vs) (fun i u hu => by
    obtain ⟨m, y, hy⟩ := hel i u hu
    obtain ⟨b, hb, hw⟩ := trod_float u_float32 hy
    refine ⟨b, by simpa using hb, ?_⟩
    simpa [Lit.wf] using hw)
  have hn : bs.length = n := by have := hrow.1; omega
  have hmap : vs = bs.map fl := by
    apply List.ext_getElem?
    intro i
    cases hi : vs[i]? with
    | none =>
      rw [List.getElem?_eq_none_iff] at hi
      exact (List.getElem?_eq_none_iff.2 (by simp; omega)).symm
    | some u =>
      obtain ⟨b, hb, rfl, _⟩ := h2 i u hi
      simp [hb]
  refine ⟨bs, ?_, fun b hb => ?_⟩
  · rw [hn, ← hmap]; exact hrow
  · obtain ⟨i, hi, rfl⟩ := List.getElem_of_mem hb
    have hi' : i < vs.length := by omega
    obtain ⟨b', hb', _, hlt⟩ := h2 i vs[i] (by simp [hi'])
    rw [List.getElem?_eq_getElem hi] at hb'
    cases hb'; exact hlt
end
theorem FS.N {w : World} {v : Value} {l : List Nat} (h : FS w v l) : FS (N w) v l := ⟨h.row, h.lt⟩
theorem FSS.N {w : World} {v : Value} {m : List (List Nat)} (h : FSS w v m) : FSS (Vc.N w) v m := by
  obtain ⟨vs, h1, h2⟩ := h.ex
  exact ⟨vs, h1, fun i hi => let ⟨x, hx, hf⟩ := h2 i hi; ⟨x, hx, hf.N⟩⟩
theorem open_Float32S {H : Type} {enc : TypeId × Value → H} {w : World} {base : Nat} {held : Bool} {fuel : Nat} {v : Value} {x : DataW H × List MemPlace} (h : DataW.trod enc P w base (fun _ => true) held fuel t_s_float32 [v] = some x) : ∃ l, A_Float32S w v l := open_FS h
theorem A_Float32SS.N {w : World} {v : Value} {m : List (List Nat)} (h : A_Float32SS w v m) : A_Float32SS (Vc.N w) v m := ⟨h.1.N, h.2⟩
theorem below_N {w c : World} (h : Ext (Vc.N w) (Vc.N c)) : RowKit.Below w.heap.size w c := by
  have h1 := RowKit.Below.os h
  have h2 := RowKit.Below.tape h
  have h3 := RowKit.Below.output h
  have h4 := Ext.size h
  have h5 := Ext.block h
  exact ⟨h1, h2, h3, h4, h5⟩
theorem own : ownKnob P.godebug = none := by kernel_rfl
theorem laidOut : laidOutB P = true := by kernel_rfl
theorem calls_of {f : FuncId} {fn : Func} {args : List Value} {w : World} {K : Value → World → Prop} (hf : P.funcs[f]? = some fn) (hn : (fn.name == "runtime.NumGoroutine") = false) (hb : fn.body.isSome = true) (h : call P f args (N w) K) :
    Calls P f args.toArray w (fun e w' => ∃ v, e = .returned v ∧ K v (N w')) := by
  obtain ⟨n, c', hr, hk⟩ := h w rfl
  have hn' : ¬ fn.name = "runtime.NumGoroutine" := by simpa using hn
  cases hbb : fn.body with
  | none => rw [hbb] at hb; cases hb
  | some c =>
    have : (callFunc f args.toArray).run P w = .ok (.enter f args.toArray) w := by simp [callFunc, program, Sem.run, hf, hn', hbb]
    rw [this] at hr
    cases hr
    exact hk w rfl
end Go.Proofs.YtjompmflommadaaGreatDoor


set_option linter.unusedVariables false
namespace Go.Proofs.YtjompmflommadaaGreatDoor
open Go Go.Vc
variable {w : World} {K : Value → World → Prop}
def Mg (w : World) (v : Value) (n : Nat) : Prop := ∃ l, IR .u32 w v l ∧ Norm 4294967296 l ∧ val 4294967296 l = n ∧ Ty w v.ownBlock t_uint32
def MgO (w : World) (base : Nat) (v : Value) (n : Nat) : Prop := ∃ l, OD .u32 t_uint32 w base v l ∧ Norm 4294967296 l ∧ val 4294967296 l = n
theorem Ty_ext {w w' : World} {k : Option Nat} {e : TypeId} (h : Ty w k e) (he : Ext w w') : Ty w' k e := fun b hb => let ⟨c, f, hc⟩ := h b hb; ⟨c, f, by rw [he.block b (heap_lt hc)]; exact hc⟩
theorem Ty_none (w : World) (e : TypeId) : Ty w none e := fun b hb => by cases hb
theorem MgO.Mg {base n : Nat} {v : Value} (h : MgO w base v n) : Mg w v n := let ⟨l, h1, h2, h3⟩ := h; ⟨l, h1.IR, h2, h3, Ty.owns h1⟩
theorem Mg.ext {w' : World} {n : Nat} {v : Value} (h : Mg w v n) (he : Ext w w') : Mg w' v n := let ⟨l, h1, h2, h3, h4⟩ := h; ⟨l, h1.ext he, h2, h3, Ty_ext h4 he⟩
theorem Mg.nil (w : World) : Mg w (.slice none 0 0) 0 := ⟨[], IR.nil _ _, Norm.nil _, rfl, Ty_none _ _⟩
theorem MgO.nil (w : World) (base : Nat) : MgO w base (.slice none 0 0) 0 := ⟨[], OD.nil _ _ _ _, Norm.nil _, rfl⟩
theorem MgO.ext {w' : World} {base n : Nat} {v : Value} (h : MgO w base v n) (he : Ext w w') : MgO w' base v n := let ⟨l, h1, h2, h3⟩ := h; ⟨l, owns_ext h1 he, h2, h3⟩
theorem MgO.low {base base' n : Nat} {v : Value} (h : MgO w base v n) (hb : base' ≤ base) : MgO w base' v n := let ⟨l, h1, h2, h3⟩ := h; ⟨l, owns_base h1 hb, h2, h3⟩
theorem dig_len {l : List Nat} (h : Norm 4294967296 l) (hb : bl (val 4294967296 l) ≤ 1099511627776) : l.length ≤ 34359738369 := by
  have := (Norm.len_le (s := 32) (by decide) h).1
  have e : val (2 ^ 32) l = val 4294967296 l := rfl
  rw [e] at this
  omega
theorem w_u32 (x : Nat) : IntKind.u32.wrap (x : Int) = ((x % 4294967296 : Nat) : Int) := by simp [IntKind.wrap, IntKind.bits, IntKind.signed]
theorem w_u64 (x : Nat) : IntKind.u64.wrap (x : Int) = ((x % 18446744073709551616 : Nat) : Int) := by simp [IntKind.wrap, IntKind.bits, IntKind.signed]
theorem w_u64' {x : Nat} (h : x < 18446744073709551616) : IntKind.u64.wrap (x : Int) = (x : Int) := by rw [w_u64, Nat.mod_eq_of_lt h]
section
variable {t : TypeId} {cx cy : Bool} {k yk : IntKind} {a b s : Nat} {c : Int} {K : Value → Prop}
theorem bin_shrN (hs : s ≤ k.bits) (hc : c = (s : Int) := by rfl) : bin P .shr t cx cy (.int k (a : Int)) (.int yk c) w K = K (.int k ((a / 2 ^ s : Nat) : Int)) := by
  subst hc
  rw [bin_shr _ _ _ _ _ _ _ _ (by omega)]
  congr 2
  have e : min ((s : Int).toNat) k.bits = s := by rw [Int.toNat_natCast]; omega
  rw [e, Int.fdiv_eq_ediv_of_nonneg _ (Int.pow_nonneg (by decide))]
  simp
theorem bin_addN (h : a + b < 18446744073709551616) : bin P .add t cx cy (.int .u64 (a : Int)) (.int .u64 (b : Int)) w K = K (.int .u64 ((a + b : Nat) : Int)) := by
  rw [bin_add, show (a : Int) + b = ((a + b : Nat) : Int) by omega, w_u64' h]
theorem bin_mulN (h : a * b < 18446744073709551616) : bin P .mul t cx cy (.int .u64 (a : Int)) (.int .u64 (b : Int)) w K = K (.int .u64 ((a * b : Nat) : Int)) := by
  rw [bin_mul, show (a : Int) * b = ((a * b : Nat) : Int) by simp, w_u64' h]
theorem bin_addI (h : a + b ≤ 9223372036854775807) : bin P .add t cx cy (.int .i64 (a : Int)) (.int .i64 (b : Int)) w K = K (.int .i64 ((a + b : Nat) : Int)) := by
  rw [bin_add, show (a : Int) + b = ((a + b : Nat) : Int) by omega, wrap_i64 (by omega) (by omega)]
theorem bin_addI1 (h : a + b ≤ 9223372036854775807) (hc : c = (b : Int) := by rfl) : bin P .add t cx cy (.int .i64 (a : Int)) (.int .i64 c) w K = K (.int .i64 ((a + b : Nat) : Int)) := by
  subst hc; exact bin_addI h
theorem bin_subI1 (h : b ≤ a) (ha : a ≤ 9223372036854775807) (hc : c = (b : Int) := by rfl) : bin P .sub t cx cy (.int .i64 (a : Int)) (.int .i64 c) w K = K (.int .i64 ((a - b : Nat) : Int)) := by
  subst hc
  rw [bin_sub, show (a : Int) - b = ((a - b : Nat) : Int) by omega, wrap_i64 (by omega) (by omega)]
theorem cnv_32_64 : cnv P t_uint32 t_uint64 (.int .u32 (a : Int)) w K = K (.int .u64 ((a % 18446744073709551616 : Nat) : Int)) := by
  rw [cnv_int_int u_uint32 u_uint64, w_u64]
theorem cnv_32_64' (h : a < 4294967296) : cnv P t_uint32 t_uint64 (.int .u32 (a : Int)) w K = K (.int .u64 (a : Int)) := by
  rw [cnv_32_64, Nat.mod_eq_of_lt (by omega)]
theorem cnv_64_32 : cnv P t_uint64 t_uint32 (.int .u64 (a : Int)) w K = K (.int .u32 ((a % 4294967296 : Nat) : Int)) := by
  rw [cnv_int_int u_uint64 u_uint32, w_u32]
end
theorem trim_snoc_zero : ∀ l : List Nat, trim (l ++ [0]) = trim l
  | [] => by simp [trim]
  | d :: l => by rw [List.cons_append, trim, trim, trim_snoc_zero l]
theorem trim_last {l : List Nat} (h : l.getLast? ≠ some 0) : trim l = l := by
  induction l with
  | nil => rfl
  | cons d l ih =>
    rw [trim]
    cases l with
    | nil =>
      have : d ≠ 0 := by simpa using h
      rw [if_neg (fun q => this q.1)]; rfl
    | cons e l =>
      have h' : (e :: l).getLast? ≠ some 0 := by simpa using h
      rw [ih h', if_neg (fun q => by simp at q)]
theorem c_magTrim {v : Value} {l : List Nat} (h : IR .u32 w v l)
    (H : ∀ v', IR .u32 w v' (trim l) → (∀ base, OD .u32 t_uint32 w base v l → OD .u32 t_uint32 w base v' (trim l)) → (v'.ownBlock = none ∨ v'.ownBlock = v.ownBlock) → K v' w) : call P f_impl_magTrim [v] w K := by
  refine I_impl_magTrim ?_
  unfold D_impl_magTrim
  have hb := h.bound
  refine ⟨fun m x w' => w' = w ∧ m ≤ l.length ∧ IR .u32 w x (l.take m) ∧ (∀ base, OD .u32 t_uint32 w base v l → OD .u32 t_uint32 w base x (l.take m)) ∧ trim (l.take m) = trim l ∧ (x.ownBlock = none ∨ x.ownBlock = v.ownBlock),
    ⟨l.length, rfl, Nat.le_refl _, by rw [List.take_length]; exact h, fun base ho => by rw [List.take_length]; exact ho, by rw [List.take_length], .inr rfl⟩, ?_⟩
  rintro m x junk w' ⟨rfl, hm, hx, ho, ht, hbk⟩
  have hl : (l.take m).length = m := by rw [List.length_take]; omega
  rw [hx.row.len u_s_uint32, bin_gtr, hl]
  refine ⟨_, fun _ _ _ h => h, ?_⟩
  have fin : (l.take m).getLast? ≠ some 0 → K x w' := fun hz => by
    rw [trim_last hz] at ht
    exact H x (by rw [← ht]; exact hx) (fun base hq => by rw [← ht]; exact ho base hq) hbk
  refine grd_split (fun h1 => ?_) (fun h1 => ?_)
  · simp only [decide_eq_true_eq] at h1
    have hm0 : 0 < m := by omega
    rw [hx.row.len u_s_uint32, hl, bin_subI1 (b := 1) (by omega) (by omega)]
    have hi : m - 1 < (l.take m).length := by omega
    refine hx.at hi u_s_uint32 i_uint32 u_uint32 ?_
    rw [bin_eql, pick_bool]
    have hlast : (l.take m).getLast? = some (l.take m)[m - 1] := by
      rw [List.getLast?_eq_getElem?, hl]; exact List.getElem?_eq_getElem hi
    have htk : l.take m = l.take (m - 1) ++ [(l.take m)[m - 1]] := by
      have := List.take_succ_eq_append_getElem (l := l) (i := m - 1) (by omega)
      rw [show m - 1 + 1 = m by omega] at this
      rw [List.getElem_take]; exact this
    rw [decide_eq_true h1, cond_true]
    refine cnd_dec (fun hz => ?_) (fun hz => ?_)
    · have hz' : (l.take m)[m - 1] = 0 := by simpa using hz
      rw [hz'] at htk
      rw [hx.row.len u_s_uint32, hl, bin_subI1 (b := 1) (by omega) (by omega)]
      refine Row.sli_h hx.row hx.cap u_s_uint32 i_uint32 (by omega) fun v' r1 r2 r3 r4 => ?_
      have htt : (l.take m).take (m - 1) = l.take (m - 1) := by rw [List.take_take]; congr 1; omega
      have hl' : (l.take (m - 1)).length = m - 1 := by rw [List.length_take]; omega
      rw [← List.map_take, htt] at r1 r3
      refine ⟨m - 1, by omega, rfl, by omega, ⟨by rw [hl']; exact r1, r2⟩, fun base hq => ?_, ?_, ?_⟩
      · have := r3 base (ho base hq)
        unfold OD; rw [hl']; exact this
      · rw [← ht, htk, trim_snoc_zero]
      · rcases r4 with rfl | r4
        · exact .inl rfl
        · rw [r4]; exact hbk
    · exact fin (by rw [hlast]; simpa using hz)
  · rw [h1, Bool.not_true, pick_bool]
    simp only [Bool.not_true, decide_eq_false_iff_not] at h1
    have hm0 : m = 0 := by omega
    subst hm0
    exact fin (by simp)
theorem c_trimO {base : Nat} {v : Value} {l : List Nat} (h : OD .u32 t_uint32 w base v l) (hd : Dig 4294967296 l) (H : ∀ v', MgO w base v' (val 4294967296 l) → K v' w) : call P f_impl_magTrim [v] w K :=
  c_magTrim h.IR fun v' h1 h2 _ => H v' ⟨trim l, h2 base h, Norm.trim hd, val_trim _ _⟩
def cmpN (a b : Nat) : Int := if a < b then -1 else if b < a then 1 else 0
theorem c_isNaN_int {v : Value} {a : Int} (H : K (.bool false) w) : call P f_cmp_isNaN_int [.int .i64 a] w K := by
  refine I_cmp_isNaN_int ?_
  unfold D_cmp_isNaN_int
  rw [bin_neq]; simpa using H
theorem c_isNaN_u32 {v : Value} {a : Int} (H : K (.bool false) w) : call P f_cmp_isNaN_uint32 [.int .u32 a] w K := by
  refine I_cmp_isNaN_uint32 ?_
  unfold D_cmp_isNaN_uint32
  rw [bin_neq]; simpa using H
theorem c_Compare_int {a b : Nat} (H : K (.int .i64 (cmpN a b)) w) : call P f_cmp_Compare_int [.int .i64 (a : Int), .int .i64 (b : Int)] w K := by
  refine I_cmp_Compare_int ?_
  unfold D_cmp_Compare_int
  refine c_isNaN_int (v := undef) (c_isNaN_int (v := undef) ?_)
  rw [cnd_false, cnd_false, bin_lss]
  unfold cmpN at H
  refine cnd_dec (fun h => ?_) (fun h => ?_)
  · rw [if_pos (by omega)] at H; exact H
  · rw [if_neg (by omega)] at H
    rw [bin_gtr]
    refine cnd_dec (fun h => ?_) (fun h => ?_)
    · rw [if_pos (by omega)] at H; exact H
    · rw [if_neg (by omega)] at H; exact H
theorem c_Compare_u32 {a b : Nat} (H : K (.int .i64 (cmpN a b)) w) : call P f_cmp_Compare_uint32 [.int .u32 (a : Int), .int .u32 (b : Int)] w K := by
  refine I_cmp_Compare_uint32 ?_
  unfold D_cmp_Compare_uint32
  refine c_isNaN_u32 (v := undef) (c_isNaN_u32 (v := undef) ?_)
  rw [cnd_false, cnd_false, bin_lss]
  unfold cmpN at H
  refine cnd_dec (fun h => ?_) (fun h => ?_)
  · rw [if_pos (by omega)] at H; exact H
  · rw [if_neg (by omega)] at H
    rw [bin_gtr]
    refine cnd_dec (fun h => ?_) (fun h => ?_)
    · rw [if_pos (by omega)] at H; exact H
    · rw [if_neg (by omega)] at H; exact H
theorem cmpN_len {b : Nat} {l r : List Nat} (hl : Norm b l) (hr : Norm b r) (h : l.length ≠ r.length) : cmpN (val b l) (val b r) = cmpN l.length r.length := by
  unfold cmpN
  rcases Nat.lt_or_gt_of_ne h with h | h
  · rw [if_pos h, if_pos (val_lt_len hl.1 hr h)]
  · have := val_lt_len hr.1 hl h
    rw [if_neg (show ¬ val b l < val b r by omega), if_pos this, if_neg (show ¬ l.length < r.length by omega), if_pos h]
theorem cmpN_dig {b : Nat} {l r : List Nat} {i : Nat} (hl : Dig b l) (hr : Dig b r) (hlen : l.length = r.length) (hi : i < l.length) (hd : l.drop (i + 1) = r.drop (i + 1)) (h : l[i] ≠ r[i]'(by omega)) : cmpN (val b l) (val b r) = cmpN l[i] (r[i]'(by omega)) := by
  unfold cmpN
  rcases Nat.lt_or_gt_of_ne h with h | h
  · rw [if_pos h, if_pos (val_cmp hl hlen hi hd h)]
  · have := val_cmp hr hlen.symm (by omega) hd.symm h
    rw [if_neg (show ¬ val b l < val b r by omega), if_pos this, if_neg (show ¬ l[i] < r[i] by omega), if_pos h]
theorem c_magCmp {u v : Value} {a b : Nat} (ha : Mg w u a) (hb : Mg w v b) (H : K (.int .i64 (cmpN a b)) w) : call P f_impl_magCmp [u, v] w K := by
  obtain ⟨l, h1, n1, rfl, _⟩ := ha
  obtain ⟨r, h2, n2, rfl, _⟩ := hb
  refine I_impl_magCmp ?_
  unfold D_impl_magCmp
  have b1 := h1.bound
  have b2 := h2.bound
  rw [h1.row.len u_s_uint32, h2.row.len u_s_uint32, bin_neq]
  refine cnd_dec (fun h => ?_) (fun h => ?_)
  · rw [h1.row.len u_s_uint32, h2.row.len u_s_uint32]
    rw [cmpN_len n1 n2 (by omega)] at H
    exact c_Compare_int H
  · have hlen : l.length = r.length := by omega
    rw [h1.row.len u_s_uint32, bin_sub, wrap_i64 (by omega) (by omega)]
    refine ⟨fun m x w' => w' = w ∧ x = .int .i64 ((m : Int) - 1) ∧ m ≤ l.length ∧ l.drop m = r.drop m, ⟨l.length, rfl, rfl, Nat.le_refl _, by rw [List.drop_length, hlen, List.drop_length]⟩, ?_⟩
    rintro m x junk w' ⟨rfl, rfl, hm, hd⟩
    rw [bin_geq]
    refine cnd_dec (fun hge => ?_) (fun hlt => ?_)
    · have hm0 : 0 < m := by omega
      rw [show (m : Int) - 1 = ((m - 1 : Nat) : Int) by omega]
      refine h1.at (i := m - 1) (by omega) u_s_uint32 i_uint32 u_uint32 ?_
      refine h2.at (i := m - 1) (by omega) u_s_uint32 i_uint32 u_uint32 ?_
      rw [bin_neq]
      refine cnd_dec (fun hne => ?_) (fun heq => ?_)
      · refine h1.at (i := m - 1) (by omega) u_s_uint32 i_uint32 u_uint32 ?_
        refine h2.at (i := m - 1) (by omega) u_s_uint32 i_uint32 u_uint32 ?_
        rw [cmpN_dig (i := m - 1) n1.1 n2.1 hlen (by omega) (by rw [show m - 1 + 1 = m by omega]; exact hd) (by omega)] at H
        exact c_Compare_u32 H
      · rw [bin_sub, wrap_i64 (by omega) (by omega)]
        refine ⟨m - 1, by omega, rfl, by congr 1, by omega, ?_⟩
        rw [List.drop_eq_getElem_cons (by omega : m - 1 < l.length), List.drop_eq_getElem_cons (by omega : m - 1 < r.length), show m - 1 + 1 = m by omega, hd]
        congr 1; omega
    · have hm0 : m = 0 := by omega
      subst hm0
      have : l = r := by simpa using hd
      subst this
      unfold cmpN at H
      rw [if_neg (by omega), if_neg (by omega)] at H
      exact H
end Go.Proofs.YtjompmflommadaaGreatDoor
