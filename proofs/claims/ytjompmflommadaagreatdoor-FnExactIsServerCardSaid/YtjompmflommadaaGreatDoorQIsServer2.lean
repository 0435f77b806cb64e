import Derived.Test.YtjompmflommadaaGreatDoorQIsServerVVcK
import Derived.Test.YtjompmflommadaaGreatDoorQIsServerVVcI
import Derived.ProofKit
import Derived.OpenShut
import Derived.ChangeOld
import Derived.Deep.Slices
import Derived.Test.YtjompmflommadaaGreatDoorQIsServerVU1
import Derived.Test.YtjompmflommadaaGreatDoorQIsServerVVcL
import Derived.Test.YtjompmflommadaaGreatDoorQIsServerVU2
import Derived.Test.YtjompmflommadaaGreatDoorQIsServerVU3
import Derived.Test.YtjompmflommadaaGreatDoorQIsServerVU12
import Derived.Test.YtjompmflommadaaGreatDoorQIsServerVVcM
import Derived.Test.YtjompmflommadaaGreatDoorQIsServer1
set_option linter.unusedSimpArgs false
set_option linter.unusedVariables false

set_option linter.unusedVariables false
set_option maxRecDepth 20000
namespace Go.Proofs.YtjompmflommadaaGreatDoor
open Go Go.Vc
def D_spec_l03Is (a0 : Value) (w : World) (K : Value → World → Prop) : Prop :=
  bx P 57 a0 w fun b c =>
  fda P 57 b 0 c fun d =>
  ld P 55 d c fun e =>
  call P f_spec_l02Is [e] c fun g h =>
  una P .not g h fun i =>
  ∃ j : Value → World → Prop, (∀ (k : Value) (_ : Env) (l : World), j k l →
  pick i (.bool true) k fun m =>
  cnd m
  (K (.bool false) l)
  (fda P 57 b 0 l fun n =>
  fda P 55 n 0 l fun o =>
  ld P 2 o l fun p =>
  bin P .eql 2 false true p (.int .i64 0) l fun q =>
  cnd q
  (fda P 57 b 1 l fun r =>
  ld P 2 r l fun s =>
  bin P .eql 2 false true s (.int .i64 0) l fun t =>
  K t l)
  (fda P 57 b 0 l fun u =>
  fda P 55 u 1 l fun v =>
  ld P 53 v l fun x =>
  ixa P 53 x (.int .i64 0) l fun y =>
  ld P 2 y l fun z =>
  bin P .rem 2 false true z (.int .i64 2) l fun A =>
  bin P .eql 2 false true A (.int .i64 1) l fun B =>
  K B l))) ∧
  grd i false
  (fda P 57 b 1 h fun C =>
  ld P 2 C h fun D =>
  call P f_spec_l01In [D, (.int .i64 (-3000)), (.int .i64 3000)] h fun E F =>
  una P .not E F fun G =>
  j G F)
  (j undef h)
def P_spec_l03Is : Plan := (.seq rg7 (.seq (.seq (.reg [.op (0, 0, false), .op (1, 0, false), .op (2, 2, false), .op (3, 0, false), .op (4, 0, false), .grp 4 false [(5, 0, false), (6, 0, false), (7, 2, false), (8, 0, false)] [11] 3840, .op (9, 0, false)]) (.cond (.seq rg2 .leaf) .leaf)) (.seq (.seq rg4 (.cond (.seq rg4 .leaf) .leaf)) (.seq rg9 .leaf))))
theorem I_spec_l03Is {a0 : Value} {w : World} {K : Value → World → Prop} (h : D_spec_l03Is a0 w K) : call P f_spec_l03Is [a0] w K :=
  call_of_vc mixed Tryz.func120 (c := codeOf Tryz.f120) (by kernel_rfl) (by kernel_rfl) (p := P_spec_l03Is) (by kernel_rfl) (by rw [Tryz.ntmps120]; simp) (by
    have e : D_spec_l03Is a0 w K = vc P P_spec_l03Is (codeOf Tryz.f120) (env0 [a0]) w (retX P Tryz.f120.results.toList K) := by kernel_rfl
    exact e ▸ h)
def D_spec_l03Read (a0 : Value) (w : World) (K : Value → World → Prop) : Prop :=
  alc P 57 w fun b c =>
  ∃ d : Nat → Value → World → Prop, (∃ e, d e (.int .i64 0) c) ∧ ∀ (g : Nat) (h : Value) (_ : Env) (i : World), d g h i →
  bl0 P .len #[9] 3 [a0] i fun j =>
  bin P .lss 3 false false h j i fun k =>
  ∃ l : Value → World → Prop, (∀ (m : Value) (_ : Env) (n : World), l m n →
  pick k m (.bool false) fun o =>
  cnd o
  (bin P .add 3 false true h (.int .i64 1) n fun p =>
  ∃ q, q < g ∧ d q p n)
  (bl0 P .len #[9] 3 [a0] n fun r =>
  bin P .eql 3 false false h r n fun s =>
  cnd s
  (bld P 57 [] n fun t =>
  sto P 57 b t n fun u =>
  ldc P 57 b u fun v =>
  K (.tuple #[v, (.bool false)]) u)
  (sli P 9 a0 none (some h) none n fun x =>
  call P f_spec_l02Read [x] n fun y z =>
  xtr P y 0 z fun A =>
  xtr P y 1 z fun B =>
  alc P 55 z fun C D =>
  sto P 55 C A D fun E =>
  bin P .add 3 false true h (.int .i64 1) E fun F =>
  sli P 9 a0 (some F) none none E fun G =>
  call P f_spec_l02Read [G] E fun H L =>
  xtr P H 0 L fun M =>
  xtr P H 1 L fun N =>
  alc P 55 L fun O Q =>
  sto P 55 O M Q fun R =>
  una P .not B R fun S =>
  ∃ T : Value → World → Prop, (∀ (U : Value) (_ : Env) (V : World), T U V →
  pick S (.bool true) U fun W =>
  ∃ X : Value → World → Prop, (∀ (Y : Value) (_ : Env) (Z : World), X Y Z →
  pick W (.bool true) Y fun b0 =>
  ∃ c0 : Value → World → Prop, (∀ (d0 : Value) (_ : Env) (e0 : World), c0 d0 e0 →
  pick b0 (.bool true) d0 fun g0 =>
  cnd g0
  (bld P 57 [] e0 fun h0 =>
  sto P 57 b h0 e0 fun i0 =>
  ldc P 57 b i0 fun j0 =>
  K (.tuple #[j0, (.bool false)]) i0)
  (ld P 55 C e0 fun k0 =>
  bld P 57 [(0, k0)] e0 fun l0 =>
  alc P 57 e0 fun m0 n0 =>
  sto P 57 m0 l0 n0 fun o0 =>
  fda P 55 O 1 o0 fun p0 =>
  ld P 53 p0 o0 fun q0 =>
  bl0 P .len #[53] 3 [q0] o0 fun r0 =>
  bin P .eql 3 false true r0 (.int .i64 1) o0 fun s0 =>
  cnd s0
  (fda P 55 O 0 o0 fun t0 =>
  ld P 2 t0 o0 fun u0 =>
  fda P 55 O 1 o0 fun v0 =>
  ld P 53 v0 o0 fun x0 =>
  ixa P 53 x0 (.int .i64 0) o0 fun y0 =>
  ld P 2 y0 o0 fun z0 =>
  bin P .mul 2 false false u0 z0 o0 fun A0 =>
  fda P 57 m0 1 o0 fun B0 =>
  sto P 2 B0 A0 o0 fun C0 =>
  ld P 57 m0 C0 fun D0 =>
  ld P 57 m0 C0 fun E0 =>
  call P f_spec_l03Is [E0] C0 fun F0 G0 =>
  Ext C0 G0 ∧ sto P 57 b D0 G0 fun H0 =>
  ldc P 57 b H0 fun L0 =>
  K (.tuple #[L0, F0]) H0)
  (ld P 57 m0 o0 fun M0 =>
  ld P 57 m0 o0 fun N0 =>
  call P f_spec_l03Is [N0] o0 fun O0 Q0 =>
  Ext o0 Q0 ∧ sto P 57 b M0 Q0 fun R0 =>
  ldc P 57 b R0 fun S0 =>
  K (.tuple #[S0, O0]) R0))) ∧
  grd b0 false
  (fda P 55 O 1 Z fun T0 =>
  ld P 53 T0 Z fun U0 =>
  bl0 P .len #[53] 3 [U0] Z fun V0 =>
  bin P .gtr 3 false true V0 (.int .i64 1) Z fun W0 =>
  c0 W0 Z)
  (c0 undef Z)) ∧
  grd W false
  (ld P 55 C V fun X0 =>
  call P f_spec_l02Is [X0] V fun Y0 Z0 =>
  una P .not Y0 Z0 fun b1 =>
  X b1 Z0)
  (X undef V)) ∧
  grd S false
  (una P .not N R fun c1 =>
  T c1 R)
  (T undef R)))) ∧
  grd k true
  (idx P 9 a0 h i fun d1 =>
  bin P .neq 5 false true d1 (.int .u8 112) i fun e1 =>
  l e1 i)
  (l undef i)
def P_spec_l03Read : Plan := (.seq rg7 (.seq rg2 (.seq (.blk (.loop [4] 4193296 (.seq (.seq (.reg [.op (0, 0, false), .op (1, 0, false), .op (2, 0, false), .op (3, 0, false), .op (4, 0, false), .grp 4 true [(5, 0, false), (6, 0, false), (7, 0, false), (8, 0, false)] [18] 491520, .op (9, 0, false)]) (.cond .leaf .leaf)) (.blk rg0)))) (.seq (.seq rg4 (.cond (.seq rg5 .leaf) .leaf)) (.seq (.reg [.op (0, 0, false), .op (1, 0, false), .op (2, 0, false), .op (3, 2, false), .op (4, 0, false), .op (5, 0, false), .op (6, 0, false), .op (7, 2, false), .op (8, 2, false), .op (9, 0, false)]) (.seq (.reg [.op (0, 0, false), .op (1, 0, false), .op (2, 0, false), .op (3, 0, false), .op (4, 2, false), .op (5, 0, false), .op (6, 0, false), .op (7, 0, false), .op (8, 2, false), .op (9, 2, false), .op (10, 0, false)]) (.seq (.seq (.reg [.op (0, 0, false), .op (1, 0, false), .op (2, 0, false), .grp 2 false [(3, 0, false), (4, 0, false)] [46] 105553116266496, .op (5, 0, false), .op (6, 0, false), .grp 6 false [(7, 0, false), (8, 2, false), (9, 0, false)] [51] 3940649673949184, .op (10, 0, false), .op (11, 0, false), .grp 11 false [(12, 0, false), (13, 0, false), (14, 0, false), (15, 0, false)] [57] 270215977642229760, .op (16, 0, false)]) (.cond (.seq rg5 .leaf) .leaf)) (.seq rg30 (.seq (.seq rg4 (.cond rg21 .leaf)) (.seq (.reg [.op (0, 0, false), .op (1, 0, false), .op (2, 2, true), .op (3, 2, false), .op (4, 0, false)]) .leaf))))))))))
theorem I_spec_l03Read {a0 : Value} {w : World} {K : Value → World → Prop} (h : D_spec_l03Read a0 w K) : call P f_spec_l03Read [a0] w K :=
  call_of_vc mixed Tryz.func191 (c := codeOf Tryz.f191) (by kernel_rfl) (by kernel_rfl) (p := P_spec_l03Read) (by kernel_rfl) (by rw [Tryz.ntmps191]; simp) (by
    have e : D_spec_l03Read a0 w K = vc P P_spec_l03Read (codeOf Tryz.f191) (env0 [a0]) w (retX P Tryz.f191.results.toList K) := by kernel_rfl
    exact e ▸ h)
def D_spec_l03Round (a0 a1 : Value) (w : World) (K : Value → World → Prop) : Prop :=
  bx P 57 a0 w fun b c =>
  fda P 57 b 0 c fun d =>
  fda P 55 d 0 c fun e =>
  ld P 2 e c fun g =>
  bin P .eql 2 false true g (.int .i64 0) c fun h =>
  cnd h
  (K (.tuple #[(.float .f32 0), (.int .i64 0)]) c)
  (ld P 57 b c fun i =>
  call P f_spec_l03Multiple [i, a1] c fun j k =>
  xtr P j 0 k fun l =>
  xtr P j 1 k fun m =>
  xtr P j 2 k fun n =>
  alc P 55 k fun o p =>
  sto P 55 o l p fun q =>
  ld P 55 o q fun r =>
  call P f_spec_l02Length [r] q fun s t =>
  bin P .add 2 false false s m t fun u =>
  bin P .gtr 2 false true u (.int .i64 128) t fun v =>
  cnd v
  (fda P 57 b 0 t fun x =>
  fda P 55 x 0 t fun y =>
  ld P 2 y t fun z =>
  call P f_spec_l03Over [z, a1] t fun A B =>
  K (.tuple #[A, (.int .i64 5)]) B)
  (fda P 55 o 1 t fun C =>
  ld P 53 C t fun D =>
  bl0 P .len #[53] 3 [D] t fun E =>
  bin P .sub 3 false true E (.int .i64 1) t fun F =>
  ∃ G : Nat → Value → Value → World → Prop, (∃ H, G H (.float .f64 0) F t) ∧ ∀ (L : Nat) (M : Value) (N : Value) (_ : Env) (O : World), G L M N O →
  bin P .geq 3 false true N (.int .i64 0) O fun Q =>
  cnd Q
  (rbin P .mul 117 false true M (.float .f64 4715268809856909312) O fun R =>
  fda P 55 o 1 O fun S =>
  ld P 53 S O fun T =>
  ixa P 53 T N O fun U =>
  ld P 2 U O fun V =>
  cnv P 2 117 V O fun W =>
  rbin P .add 117 false false R W O fun X =>
  bin P .sub 3 false true N (.int .i64 1) O fun Y =>
  ∃ Z, Z < L ∧ G Z X Y O)
  (call P f_spec_l01Twos [M, m] O fun b0 c0 =>
  rcnv P 117 66 b0 c0 fun d0 =>
  ∃ e0 : Value → World → Prop, (∀ (g0 : Value) (_ : Env) (h0 : World), e0 g0 h0 →
  fda P 57 b 0 h0 fun i0 =>
  fda P 55 i0 0 h0 fun j0 =>
  ld P 2 j0 h0 fun k0 =>
  bin P .lss 2 false true k0 (.int .i64 0) h0 fun l0 =>
  cnd l0
  (call P f_spec_l01Turned [d0] h0 fun m0 n0 =>
  K (.tuple #[m0, g0]) n0)
  (K (.tuple #[d0, g0]) h0)) ∧
  (una P .not n c0 fun o0 =>
  cnd o0
  (fda P 57 b 0 c0 fun p0 =>
  ld P 55 p0 c0 fun q0 =>
  fda P 57 b 1 c0 fun r0 =>
  ld P 2 r0 c0 fun s0 =>
  call P f_spec_l02Length [q0] c0 fun t0 u0 =>
  Ext c0 u0 ∧ bin P .add 2 false false t0 s0 u0 fun v0 =>
  bin P .leq 2 false true v0 (.int .i64 (-126)) u0 fun x0 =>
  cnd x0
  (bin P .add 2 false true (.int .i64 1) (.int .i64 2) u0 fun y0 =>
  e0 y0 u0)
  (e0 (.int .i64 1) u0))
  (e0 (.int .i64 0) c0)))))
def P_spec_l03Round : Plan := (.seq rg33 (.seq (.seq rg4 (.cond (.seq rg1 .leaf) .leaf)) (.seq (.reg [.op (0, 0, false), .op (1, 0, false), .op (2, 2, false), .op (3, 0, false), .op (4, 0, false), .op (5, 0, false), .op (6, 0, false), .op (7, 2, false), .op (8, 2, false), .op (9, 0, false), .op (10, 0, false)]) (.seq (.seq rg27 (.cond (.seq (.reg [.op (0, 0, false), .op (1, 0, false), .op (2, 0, false), .op (3, 0, false), .op (4, 2, false), .op (5, 0, false), .op (6, 0, false)]) .leaf) .leaf)) (.seq rg2 (.seq (.seq rg3 (.blk (.loop [9, 10] 2251524935779840 (.seq (.seq rg1 (.cond .leaf .leaf)) (.seq (.blk (.reg [.op (0, 0, false), .op (1, 1, false), .op (2, 0, false), .op (3, 0, false), .op (4, 0, false), .op (5, 0, false), .op (6, 0, false), .op (7, 0, false), .op (8, 1, false), .op (9, 0, false)])) rg0))))) (.seq (.reg [.op (0, 0, false), .op (1, 0, false), .op (2, 2, false), .op (3, 1, false), .op (4, 0, false), .op (5, 0, false)]) (.cut [12] 73750947497819246592 (.seq rg1 (.cond (.seq rg2 (.seq (.reg [.op (0, 0, false), .op (1, 0, false), .op (3, 0, false), .op (4, 0, false), .op (2, 2, true), .op (5, 0, false), .op (6, 0, false)]) (.cond rg0 .leaf))) .leaf)) (.seq (.seq rg4 (.cond rg5 .leaf)) (.seq rg4 .leaf))))))))))
theorem I_spec_l03Round {a0 a1 : Value} {w : World} {K : Value → World → Prop} (h : D_spec_l03Round a0 a1 w K) : call P f_spec_l03Round [a0, a1] w K :=
  call_of_vc mixed Tryz.func192 (c := codeOf Tryz.f192) (by kernel_rfl) (by kernel_rfl) (p := P_spec_l03Round) (by kernel_rfl) (by rw [Tryz.ntmps192]; simp) (by
    have e : D_spec_l03Round a0 a1 w K = vc P P_spec_l03Round (codeOf Tryz.f192) (env0 [a0, a1]) w (retX P Tryz.f192.results.toList K) := by kernel_rfl
    exact e ▸ h)
def D_spec_l03Multiple (a0 a1 : Value) (w : World) (K : Value → World → Prop) : Prop :=
  bx P 57 a0 w fun b c =>
  alc P 55 c fun d e =>
  fda P 57 b 0 e fun g =>
  ld P 55 g e fun h =>
  call P f_spec_l02Abs [h] e fun i j =>
  alc P 55 j fun k l =>
  sto P 55 k i l fun m =>
  ld P 55 k m fun n =>
  fda P 57 b 1 m fun o =>
  ld P 2 o m fun p =>
  call P f_spec_l02Length [n] m fun q r =>
  Ext m r ∧ bin P .add 2 false false q p r fun s =>
  bin P .sub 2 false true s (.int .i64 24) r fun t =>
  bl0 P .max #[2, 2] 2 [t, (.int .i64 (-149))] r fun u =>
  fda P 57 b 1 r fun v =>
  ld P 2 v r fun x =>
  bin P .sub 2 false false u x r fun y =>
  bin P .leq 2 false true y (.int .i64 0) r fun z =>
  cnd z
  (ld P 55 k r fun A =>
  una P .neg y r fun B =>
  call P f_spec_l02Left [A, B] r fun C D =>
  sto P 55 d C D fun E =>
  ldc P 55 d E fun F =>
  K (.tuple #[F, u, (.bool true)]) E)
  (ld P 55 k r fun G =>
  call P f_spec_l02Cut [G, y] r fun H L =>
  alc P 55 L fun M N =>
  sto P 55 M H N fun O =>
  ∃ Q : Value → World → Prop, (∀ (R : Value) (_ : Env) (S : World), Q R S →
  cnd R
  (ld P 55 M S fun T =>
  call P f_spec_l02Of [(.int .i64 1)] S fun U V =>
  Ext S V ∧ call P f_spec_l02Add [T, U] V fun W X =>
  sto P 55 M W X fun Y =>
  ld P 55 M Y fun Z =>
  sto P 55 d Z Y fun b0 =>
  ldc P 55 d b0 fun c0 =>
  K (.tuple #[c0, u, (.bool false)]) b0)
  (ld P 55 M S fun d0 =>
  sto P 55 d d0 S fun e0 =>
  ldc P 55 d e0 fun g0 =>
  K (.tuple #[g0, u, (.bool false)]) e0)) ∧
  (bin P .eql 2 false true a1 (.int .i64 0) O fun h0 =>
  cnd h0
  (ld P 55 k O fun i0 =>
  bin P .sub 2 false true y (.int .i64 1) O fun j0 =>
  call P f_spec_l02Bit [i0, j0] O fun k0 l0 =>
  bin P .eql 2 false true k0 (.int .i64 1) l0 fun m0 =>
  ∃ n0 : Value → World → Prop, (∀ (o0 : Value) (_ : Env) (p0 : World), n0 o0 p0 →
  ∃ q0 : Value → World → Prop, (∀ (r0 : Value) (_ : Env) (s0 : World), q0 r0 s0 →
  ∃ t0 : Value → World → Prop, (∀ (u0 : Value) (_ : Env) (v0 : World), t0 u0 v0 →
  pick m0 u0 (.bool false) fun x0 =>
  Q x0 v0) ∧
  grd m0 true
  (pick o0 (.bool true) r0 fun y0 =>
  t0 y0 s0)
  (t0 undef s0)) ∧
  grd o0 false
  (ld P 55 M p0 fun z0 =>
  call P f_spec_l02Bit [z0, (.int .i64 0)] p0 fun A0 B0 =>
  bin P .eql 2 false true A0 (.int .i64 1) B0 fun C0 =>
  q0 C0 B0)
  (q0 undef p0)) ∧
  grd m0 true
  (bin P .gtr 2 false true y (.int .i64 1) l0 fun D0 =>
  n0 D0 l0)
  (n0 undef l0))
  (bin P .eql 2 false true a1 (.int .i64 1) O fun E0 =>
  cnd E0
  (fda P 57 b 0 O fun F0 =>
  fda P 55 F0 0 O fun G0 =>
  ld P 2 G0 O fun H0 =>
  bin P .lss 2 false true H0 (.int .i64 0) O fun L0 =>
  Q L0 O)
  (bin P .eql 2 false true a1 (.int .i64 2) O fun M0 =>
  cnd M0
  (fda P 57 b 0 O fun N0 =>
  fda P 55 N0 0 O fun O0 =>
  ld P 2 O0 O fun Q0 =>
  bin P .gtr 2 false true Q0 (.int .i64 0) O fun R0 =>
  Q R0 O)
  (bin P .eql 2 false true a1 (.int .i64 4) O fun S0 =>
  cnd S0
  (Q (.bool true) O)
  (Q (.bool false) O))))))
def P_spec_l03Multiple : Plan := (.seq (.reg [.op (0, 2, false), .op (1, 2, false), .op (2, 0, false), .op (3, 0, false)]) (.seq (.reg [.op (0, 0, false), .op (1, 0, false), .op (2, 2, false), .op (3, 2, false), .op (4, 2, false)]) (.seq (.reg [.op (0, 0, false), .op (2, 0, false), .op (3, 0, false), .op (1, 2, true), .op (4, 0, false), .op (5, 0, false), .op (6, 0, false), .op (7, 0, false)]) (.seq rg3 (.seq (.seq rg1 (.cond (.seq (.reg [.op (0, 0, false), .op (1, 0, false), .op (2, 0, false), .op (3, 2, false), .op (4, 0, false), .op (5, 2, false), .op (6, 0, false), .op (7, 0, false)]) .leaf) .leaf)) (.seq (.reg [.op (0, 0, false), .op (1, 0, false), .op (2, 2, false), .op (3, 2, false), .op (4, 2, false), .op (5, 0, false)]) (.cut [11] 147573952520956938240 (.seq rg2 (.blk (.seq rg1 (.cond (.reg [.op (0, 0, false), .op (1, 0, false), .op (2, 0, false), .op (3, 2, false), .op (4, 0, false), .op (5, 0, false), .grp 5 true [(6, 0, false), (7, 0, false), (8, 0, false)] [47] 246290604621824, .grp 8 false [(9, 0, false), (10, 2, false), (11, 0, false)] [50] 1970324836974592, .grp 5 true [(12, 0, false)] [51] 2251799813685248, .op (13, 0, false), .op (14, 0, false)]) (.seq rg1 (.cond rg3 (.seq rg1 (.cond rg3 (.seq rg1 (.cond rg2 .leaf)))))))))) (.seq (.seq rg2 (.cond (.reg [.op (0, 0, false), .op (1, 2, true), .op (2, 2, false), .op (3, 2, false)]) .leaf)) (.seq rg25 .leaf)))))))))
theorem I_spec_l03Multiple {a0 a1 : Value} {w : World} {K : Value → World → Prop} (h : D_spec_l03Multiple a0 a1 w K) : call P f_spec_l03Multiple [a0, a1] w K :=
  call_of_vc mixed Tryz.func236 (c := codeOf Tryz.f236) (by kernel_rfl) (by kernel_rfl) (p := P_spec_l03Multiple) (by kernel_rfl) (by rw [Tryz.ntmps236]; simp) (by
    have e : D_spec_l03Multiple a0 a1 w K = vc P P_spec_l03Multiple (codeOf Tryz.f236) (env0 [a0, a1]) w (retX P Tryz.f236.results.toList K) := by kernel_rfl
    exact e ▸ h)
def D_spec_l03Over (a0 a1 : Value) (w : World) (K : Value → World → Prop) : Prop :=
  call P f_spec_l01Huge [] w fun b c =>
  ∃ d : Value → World → Prop, (∀ (e : Value) (_ : Env) (g : World), d e g →
  bin P .lss 2 false true a0 (.int .i64 0) g fun h =>
  cnd h
  (una P .neg e g fun i =>
  K i g)
  (K e g)) ∧
  (bin P .eql 2 false true a1 (.int .i64 3) c fun j =>
  ∃ k : Value → World → Prop, (∀ (l : Value) (_ : Env) (m : World), k l m →
  ∃ n : Value → World → Prop, (∀ (o : Value) (_ : Env) (p : World), n o p →
  ∃ q : Value → World → Prop, (∀ (r : Value) (_ : Env) (s : World), q r s →
  pick j (.bool true) r fun t =>
  ∃ u : Value → World → Prop, (∀ (v : Value) (_ : Env) (x : World), u v x →
  ∃ y : Value → World → Prop, (∀ (z : Value) (_ : Env) (A : World), y z A →
  ∃ B : Value → World → Prop, (∀ (C : Value) (_ : Env) (D : World), B C D →
  pick t (.bool true) C fun E =>
  cnd E
  (call P f_spec_l01At [(.int .i64 2139095039)] D fun F G =>
  d F G)
  (d b D)) ∧
  grd t false
  (pick v z (.bool false) fun H =>
  B H A)
  (B undef A)) ∧
  grd v true
  (bin P .lss 2 false true a0 (.int .i64 0) x fun L =>
  y L x)
  (y undef x)) ∧
  grd t false
  (bin P .eql 2 false true a1 (.int .i64 2) s fun M =>
  u M s)
  (u undef s)) ∧
  grd j false
  (pick l o (.bool false) fun N =>
  q N p)
  (q undef p)) ∧
  grd l true
  (bin P .gtr 2 false true a0 (.int .i64 0) m fun O =>
  n O m)
  (n undef m)) ∧
  grd j false
  (bin P .eql 2 false true a1 (.int .i64 1) c fun Q =>
  k Q c)
  (k undef c))
def P_spec_l03Over : Plan := (.seq rg2 (.seq rg7 (.cut [5] 67108768 (.seq (.reg [.op (0, 0, false), .op (1, 0, false), .op (2, 0, false), .grp 2 false [(3, 0, false), (4, 0, false), (5, 0, false)] [12] 7168, .grp 5 true [(6, 0, false), (7, 0, false)] [14] 24576, .grp 2 false [(8, 0, false)] [15] 32768, .op (9, 0, false), .op (10, 0, false), .grp 10 false [(11, 0, false), (12, 0, false), (13, 0, false)] [20] 1835008, .grp 13 true [(14, 0, false), (15, 0, false)] [22] 6291456, .grp 10 false [(16, 0, false)] [23] 8388608, .op (17, 0, false)]) (.cond rg7 .leaf)) (.seq (.seq rg1 (.cond (.seq rg0 .leaf) .leaf)) (.seq rg1 .leaf)))))
theorem I_spec_l03Over {a0 a1 : Value} {w : World} {K : Value → World → Prop} (h : D_spec_l03Over a0 a1 w K) : call P f_spec_l03Over [a0, a1] w K :=
  call_of_vc mixed Tryz.func238 (c := codeOf Tryz.f238) (by kernel_rfl) (by kernel_rfl) (p := P_spec_l03Over) (by kernel_rfl) (by rw [Tryz.ntmps238]; simp) (by
    have e : D_spec_l03Over a0 a1 w K = vc P P_spec_l03Over (codeOf Tryz.f238) (env0 [a0, a1]) w (retX P Tryz.f238.results.toList K) := by kernel_rfl
    exact e ▸ h)
end Go.Proofs.YtjompmflommadaaGreatDoor


set_option linter.unusedVariables false
set_option maxRecDepth 20000
namespace Go.Proofs.YtjompmflommadaaGreatDoor
open Go Go.Vc
def D_math_Ldexp (a0 a1 : Value) (w : World) (K : Value → World → Prop) : Prop :=
  cnd (.bool false)
  (call P f_math_archLdexp [a0, a1] w fun b c =>
  K b c)
  (call P f_math_ldexp [a0, a1] w fun d e =>
  K d e)
def P_math_Ldexp : Plan := (.seq rg2 (.seq (.cond (.seq rg10 .leaf) .leaf) (.seq rg10 .leaf)))
theorem I_math_Ldexp {a0 a1 : Value} {w : World} {K : Value → World → Prop} (h : D_math_Ldexp a0 a1 w K) : call P f_math_Ldexp [a0, a1] w K :=
  call_of_vc mixed Tryz.func267 (c := codeOf Tryz.f267) (by kernel_rfl) (by kernel_rfl) (p := P_math_Ldexp) (by kernel_rfl) (by rw [Tryz.ntmps267]; simp) (by
    have e : D_math_Ldexp a0 a1 w K = vc P P_math_Ldexp (codeOf Tryz.f267) (env0 [a0, a1]) w (retX P Tryz.f267.results.toList K) := by kernel_rfl
    exact e ▸ h)
def D_math_Inf (a0 : Value) (w : World) (K : Value → World → Prop) : Prop :=
  bin P .geq 3 false true a0 (.int .i64 0) w fun b =>
  cnd b
  (call P f_math_Float64frombits [(.int .u64 9218868437227405312)] w fun c d =>
  K c d)
  (call P f_math_Float64frombits [(.int .u64 18442240474082181120)] w fun e g =>
  K e g)
def P_math_Inf : Plan := (.seq rg2 (.seq rg2 (.seq (.seq rg1 (.cond rg2 rg2)) (.seq rg5 .leaf))))
theorem I_math_Inf {a0 : Value} {w : World} {K : Value → World → Prop} (h : D_math_Inf a0 w K) : call P f_math_Inf [a0] w K :=
  call_of_vc mixed Tryz.func282 (c := codeOf Tryz.f282) (by kernel_rfl) (by kernel_rfl) (p := P_math_Inf) (by kernel_rfl) (by rw [Tryz.ntmps282]; simp) (by
    have e : D_math_Inf a0 w K = vc P P_math_Inf (codeOf Tryz.f282) (env0 [a0]) w (retX P Tryz.f282.results.toList K) := by kernel_rfl
    exact e ▸ h)
def D_math_ldexp (a0 a1 : Value) (w : World) (K : Value → World → Prop) : Prop :=
  bin P .eql 117 false true a0 (.float .f64 0) w fun b =>
  cnd b
  (K a0 w)
  (call P f_math_IsInf [a0, (.int .i64 0)] w fun c d =>
  ∃ e : Value → World → Prop, (∀ (g : Value) (_ : Env) (h : World), e g h →
  pick c (.bool true) g fun i =>
  cnd i
  (K a0 h)
  (call P f_math_normalize [a0] h fun j k =>
  xtr P j 0 k fun l =>
  xtr P j 1 k fun m =>
  bin P .add 3 false false a1 m k fun n =>
  call P f_math_Float64bits [l] k fun o p =>
  bin P .shr 178 false true o (.int .u64 52) p fun q =>
  cnv P 178 3 q p fun r =>
  bin P .and 3 false true r (.int .i64 2047) p fun s =>
  bin P .sub 3 false true s (.int .i64 1023) p fun t =>
  bin P .add 3 false false n t p fun u =>
  bin P .lss 3 false true u (.int .i64 (-1075)) p fun v =>
  cnd v
  (call P f_math_Copysign [(.float .f64 0), l] p fun x y =>
  K x y)
  (bin P .gtr 3 false true u (.int .i64 1023) p fun z =>
  cnd z
  (bin P .lss 117 false true l (.float .f64 0) p fun A =>
  cnd A
  (call P f_math_Inf [(.int .i64 (-1))] p fun B C =>
  K B C)
  (call P f_math_Inf [(.int .i64 1)] p fun D E =>
  K D E))
  (∃ F : Value → Value → World → Prop, (∀ (G : Value) (H : Value) (_ : Env) (L : World), F G H L →
  bin P .andNot 178 false true o (.int .u64 9218868437227405312) L fun M =>
  bin P .add 3 false true G (.int .i64 1023) L fun N =>
  cnv P 3 178 N L fun O =>
  bin P .shl 178 false true O (.int .u64 52) L fun Q =>
  bin P .or 178 false false M Q L fun R =>
  call P f_math_Float64frombits [R] L fun S T =>
  rbin P .mul 117 false false H S T fun U =>
  K U T) ∧
  (bin P .lss 3 false true u (.int .i64 (-1022)) p fun V =>
  cnd V
  (bin P .add 3 false true u (.int .i64 53) p fun W =>
  F W (.float .f64 4368491638549381120) p)
  (F u (.float .f64 4607182418800017408) p)))))) ∧
  grd c false
  (call P f_math_IsNaN [a0] d fun X Y =>
  e X Y)
  (e undef d))
def P_math_ldexp : Plan := (.seq rg2 (.seq (.blk (.seq rg0 (.cond (.seq rg1 .leaf) (.seq (.reg [.op (0, 0, false), .op (1, 2, false), .op (2, 0, false), .grp 2 false [(3, 0, false), (4, 2, false)] [17] 196608, .op (5, 0, false), .op (6, 0, false)]) (.cond (.seq rg1 .leaf) .leaf))))) (.seq rg17 (.seq rg4 (.seq rg5 (.seq rg9 (.seq (.seq rg1 (.cond (.seq rg5 .leaf) .leaf)) (.seq (.seq rg1 (.cond (.seq (.seq rg1 (.cond (.seq rg7 .leaf) .leaf)) (.seq rg7 .leaf)) .leaf)) (.seq rg2 (.cut [1, 7] 2111062325330050 (.seq rg1 (.cond (.seq rg0 rg2) .leaf)) (.seq rg0 (.seq rg8 (.seq (.reg [.op (0, 0, false), .op (1, 0, false), .op (2, 2, false), .op (3, 1, false), .op (4, 0, false)]) .leaf)))))))))))))
theorem I_math_ldexp {a0 a1 : Value} {w : World} {K : Value → World → Prop} (h : D_math_ldexp a0 a1 w K) : call P f_math_ldexp [a0, a1] w K :=
  call_of_vc mixed Tryz.func284 (c := codeOf Tryz.f284) (by kernel_rfl) (by kernel_rfl) (p := P_math_ldexp) (by kernel_rfl) (by rw [Tryz.ntmps284]; simp) (by
    have e : D_math_ldexp a0 a1 w K = vc P P_math_ldexp (codeOf Tryz.f284) (env0 [a0, a1]) w (retX P Tryz.f284.results.toList K) := by kernel_rfl
    exact e ▸ h)
def D_math_IsInf (a0 a1 : Value) (w : World) (K : Value → World → Prop) : Prop :=
  bin P .eql 3 false true a1 (.int .i64 0) w fun b =>
  cnd b
  (call P f_math_Abs [a0] w fun c d =>
  bin P .gtr 117 false true c (.float .f64 9218868437227405311) d fun e =>
  K e d)
  (bin P .lss 3 false true a1 (.int .i64 0) w fun g =>
  cnd g
  (una P .neg a0 w fun h =>
  bin P .gtr 117 false true h (.float .f64 9218868437227405311) w fun i =>
  K i w)
  (bin P .gtr 117 false true a0 (.float .f64 9218868437227405311) w fun j =>
  K j w))
def P_math_IsInf : Plan := (.seq rg2 (.seq (.seq rg1 (.cond rg5 (.seq rg1 (.cond rg0 .leaf)))) (.seq rg0 .leaf)))
theorem I_math_IsInf {a0 a1 : Value} {w : World} {K : Value → World → Prop} (h : D_math_IsInf a0 a1 w K) : call P f_math_IsInf [a0, a1] w K :=
  call_of_vc mixed Tryz.func293 (c := codeOf Tryz.f293) (by kernel_rfl) (by kernel_rfl) (p := P_math_IsInf) (by kernel_rfl) (by rw [Tryz.ntmps293]; simp) (by
    have e : D_math_IsInf a0 a1 w K = vc P P_math_IsInf (codeOf Tryz.f293) (env0 [a0, a1]) w (retX P Tryz.f293.results.toList K) := by kernel_rfl
    exact e ▸ h)
def D_math_IsNaN (a0 : Value) (w : World) (K : Value → World → Prop) : Prop :=
  bin P .neq 117 false false a0 a0 w fun b =>
  K b w
def P_math_IsNaN : Plan := (.seq rg2 (.seq rg4 .leaf))
theorem I_math_IsNaN {a0 : Value} {w : World} {K : Value → World → Prop} (h : D_math_IsNaN a0 w K) : call P f_math_IsNaN [a0] w K :=
  call_of_vc mixed Tryz.func294 (c := codeOf Tryz.f294) (by kernel_rfl) (by kernel_rfl) (p := P_math_IsNaN) (by kernel_rfl) (by rw [Tryz.ntmps294]; simp) (by
    have e : D_math_IsNaN a0 w K = vc P P_math_IsNaN (codeOf Tryz.f294) (env0 [a0]) w (retX P Tryz.f294.results.toList K) := by kernel_rfl
    exact e ▸ h)
def D_math_normalize (a0 : Value) (w : World) (K : Value → World → Prop) : Prop :=
  call P f_math_Abs [a0] w fun b c =>
  bin P .lss 117 false true b (.float .f64 4503599627370496) c fun d =>
  cnd d
  (rbin P .mul 117 false true a0 (.float .f64 4841369599423283200) c fun e =>
  K (.tuple #[e, (.int .i64 (-52))]) c)
  (K (.tuple #[a0, (.int .i64 0)]) c)
def P_math_normalize : Plan := (.seq rg1 (.seq (.seq rg5 (.cond (.seq (.reg [.op (0, 0, false), .op (1, 1, false), .op (2, 0, false), .op (3, 0, false)]) .leaf) .leaf)) (.seq rg0 .leaf)))
theorem I_math_normalize {a0 : Value} {w : World} {K : Value → World → Prop} (h : D_math_normalize a0 w K) : call P f_math_normalize [a0] w K :=
  call_of_vc mixed Tryz.func295 (c := codeOf Tryz.f295) (by kernel_rfl) (by kernel_rfl) (p := P_math_normalize) (by kernel_rfl) (by rw [Tryz.ntmps295]; simp) (by
    have e : D_math_normalize a0 w K = vc P P_math_normalize (codeOf Tryz.f295) (env0 [a0]) w (retX P Tryz.f295.results.toList K) := by kernel_rfl
    exact e ▸ h)
def D_math_Abs (a0 : Value) (w : World) (K : Value → World → Prop) : Prop :=
  call P f_math_Float64bits [a0] w fun b c =>
  bin P .andNot 178 false true b (.int .u64 9223372036854775808) c fun d =>
  call P f_math_Float64frombits [d] c fun e g =>
  K e g
def P_math_Abs : Plan := (.seq rg2 (.seq (.reg [.op (0, 0, false), .op (1, 2, false), .op (2, 0, false), .op (3, 2, false), .op (4, 0, false)]) .leaf))
theorem I_math_Abs {a0 : Value} {w : World} {K : Value → World → Prop} (h : D_math_Abs a0 w K) : call P f_math_Abs [a0] w K :=
  call_of_vc mixed Tryz.func301 (c := codeOf Tryz.f301) (by kernel_rfl) (by kernel_rfl) (p := P_math_Abs) (by kernel_rfl) (by rw [Tryz.ntmps301]; simp) (by
    have e : D_math_Abs a0 w K = vc P P_math_Abs (codeOf Tryz.f301) (env0 [a0]) w (retX P Tryz.f301.results.toList K) := by kernel_rfl
    exact e ▸ h)
end Go.Proofs.YtjompmflommadaaGreatDoor


set_option linter.unusedVariables false
set_option maxRecDepth 20000
namespace Go.Proofs.YtjompmflommadaaGreatDoor
open Go Go.Vc
def D_spec_l06Float (a0 : Value) (w : World) (K : Value → World → Prop) : Prop :=
  call P f_spec_l03Read [a0] w fun b c =>
  xtr P b 0 c fun d =>
  xtr P b 1 c fun e =>
  alc P 57 c fun g h =>
  sto P 57 g d h fun i =>
  una P .not e i fun j =>
  cnd j
  (K (.tuple #[(.float .f32 0), (.bool false)]) i)
  (ld P 57 g i fun k =>
  call P f_spec_l03Round [k, (.int .i64 0)] i fun l m =>
  xtr P l 0 m fun n =>
  xtr P l 1 m fun o =>
  bin P .eql 2 false true o (.int .i64 0) m fun p =>
  K (.tuple #[n, p]) m)
def P_spec_l06Float : Plan := (.seq rg1 (.seq rg19 (.seq (.seq rg1 (.cond (.seq rg1 .leaf) .leaf)) (.seq rg17 (.seq rg3 .leaf)))))
theorem I_spec_l06Float {a0 : Value} {w : World} {K : Value → World → Prop} (h : D_spec_l06Float a0 w K) : call P f_spec_l06Float [a0] w K :=
  call_of_vc mixed Tryz.func141 (c := codeOf Tryz.f141) (by kernel_rfl) (by kernel_rfl) (p := P_spec_l06Float) (by kernel_rfl) (by rw [Tryz.ntmps141]; simp) (by
    have e : D_spec_l06Float a0 w K = vc P P_spec_l06Float (codeOf Tryz.f141) (env0 [a0]) w (retX P Tryz.f141.results.toList K) := by kernel_rfl
    exact e ▸ h)
end Go.Proofs.YtjompmflommadaaGreatDoor


set_option linter.unusedVariables false
set_option maxRecDepth 20000
namespace Go.Proofs.YtjompmflommadaaGreatDoor
open Go Go.Vc
def D_impl_parseFloat (a0 : Value) (w : World) (K : Value → World → Prop) : Prop :=
  call P f_impl_ParseDyadic [a0] w fun b c =>
  xtr P b 0 c fun d =>
  xtr P b 1 c fun e =>
  alc P 57 c fun g h =>
  sto P 57 g d h fun i =>
  bin P .neq 2 false true e (.int .i64 0) i fun j =>
  cnd j
  (K (.tuple #[(.float .f32 0), (.bool false)]) i)
  (ld P 57 g i fun k =>
  call P f_impl_RoundDyadic [k, (.int .i64 0)] i fun l m =>
  xtr P l 0 m fun n =>
  xtr P l 1 m fun o =>
  xtr P l 2 m fun p =>
  bin P .eql 2 false true o (.int .i64 0) m fun q =>
  K (.tuple #[n, q]) m)
def P_impl_parseFloat : Plan := (.seq rg1 (.seq rg19 (.seq (.seq rg1 (.cond (.seq rg1 .leaf) .leaf)) (.seq (.reg [.op (0, 0, false), .op (1, 2, false), .op (2, 0, false), .op (3, 0, false), .op (4, 0, false), .op (5, 0, false), .op (6, 0, false), .op (7, 0, false), .op (8, 0, false)]) (.seq rg3 .leaf)))))
theorem I_impl_parseFloat {a0 : Value} {w : World} {K : Value → World → Prop} (h : D_impl_parseFloat a0 w K) : call P f_impl_parseFloat [a0] w K :=
  call_of_vc mixed Tryz.func129 (c := codeOf Tryz.f129) (by kernel_rfl) (by kernel_rfl) (p := P_impl_parseFloat) (by kernel_rfl) (by rw [Tryz.ntmps129]; simp) (by
    have e : D_impl_parseFloat a0 w K = vc P P_impl_parseFloat (codeOf Tryz.f129) (env0 [a0]) w (retX P Tryz.f129.results.toList K) := by kernel_rfl
    exact e ▸ h)
end Go.Proofs.YtjompmflommadaaGreatDoor


set_option linter.unusedVariables false
set_option maxRecDepth 20000
namespace Go.Proofs.YtjompmflommadaaGreatDoor
open Go Go.Vc
def D_impl_IsProgram (a0 : Value) (w : World) (K : Value → World → Prop) : Prop :=
  bx P 27 a0 w fun b c =>
  fda P 27 b 0 c fun d =>
  ld P 22 d c fun e =>
  call P f_impl_depthOf [e] c fun g h =>
  xtr P g 0 h fun i =>
  xtr P g 1 h fun j =>
  K j h
def P_impl_IsProgram : Plan := (.seq rg7 (.seq (.reg [.op (0, 0, false), .op (1, 0, false), .op (2, 2, false), .op (3, 0, false), .op (4, 0, false), .op (5, 0, false), .op (6, 0, false), .op (7, 0, false)]) (.seq rg1 .leaf)))
theorem I_impl_IsProgram {a0 : Value} {w : World} {K : Value → World → Prop} (h : D_impl_IsProgram a0 w K) : call P f_impl_IsProgram [a0] w K :=
  call_of_vc mixed Tryz.func15 (c := codeOf Tryz.f15) (by kernel_rfl) (by kernel_rfl) (p := P_impl_IsProgram) (by kernel_rfl) (by rw [Tryz.ntmps15]; simp) (by
    have e : D_impl_IsProgram a0 w K = vc P P_impl_IsProgram (codeOf Tryz.f15) (env0 [a0]) w (retX P Tryz.f15.results.toList K) := by kernel_rfl
    exact e ▸ h)
def D_impl_depthOf (a0 : Value) (w : World) (K : Value → World → Prop) : Prop :=
  bl0 P .len #[22] 3 [a0] w fun b =>
  bin P .lss 3 false true b (.int .i64 1) w fun c =>
  ∃ d : Value → World → Prop, (∀ (e : Value) (_ : Env) (g : World), d e g →
  pick c (.bool true) e fun h =>
  cnd h
  (K (.tuple #[(.int .i64 0), (.bool false)]) g)
  (bl0 P .len #[22] 3 [a0] g fun i =>
  ∃ j : Nat → Value → Value → Value → World → Prop, (∃ k, j k (.int .i64 0) (.int .i64 0) (.int .i64 0) g) ∧ ∀ (l : Nat) (m : Value) (n : Value) (o : Value) (_ : Env) (p : World), j l m n o p →
  bin P .lss 3 false false o i p fun q =>
  cnd q
  (ixa P 22 a0 o p fun r =>
  ld P 9 r p fun s =>
  call P f_impl_form [s] p fun t u =>
  bin P .lss 3 false true t (.int .i64 0) u fun v =>
  ∃ x : Value → World → Prop, (∀ (y : Value) (_ : Env) (z : World), x y z →
  pick v (.bool true) y fun A =>
  cnd A
  (K (.tuple #[(.int .i64 0), (.bool false)]) z)
  (bin P .sub 3 true false (.int .i64 1) t z fun B =>
  bin P .add 3 false false m B z fun C =>
  bl0 P .max #[3, 3] 3 [n, C] z fun D =>
  bin P .add 3 false true o (.int .i64 1) z fun E =>
  ∃ F, F < l ∧ j F C D E z)) ∧
  grd v false
  (bin P .lss 3 false false m t u fun G =>
  x G u)
  (x undef u))
  (bin P .eql 3 false true m (.int .i64 1) p fun H =>
  ∃ L : Value → World → Prop, (∀ (M : Value) (_ : Env) (N : World), L M N →
  pick H M (.bool false) fun O =>
  K (.tuple #[n, O]) N) ∧
  grd H true
  (bin P .leq 3 false true n (.int .i64 16) p fun Q =>
  L Q p)
  (L undef p)))) ∧
  grd c false
  (bl0 P .len #[22] 3 [a0] w fun R =>
  bin P .gtr 3 false true R (.int .i64 60) w fun S =>
  d S w)
  (d undef w)
def P_impl_depthOf : Plan := (.seq rg1 (.seq (.seq (.reg [.op (0, 0, false), .op (1, 0, false), .op (2, 0, false), .op (3, 0, false), .grp 3 false [(4, 0, false), (5, 0, false), (6, 0, false)] [15] 57344, .op (7, 0, false)]) (.cond (.seq rg1 .leaf) .leaf)) (.seq rg1 (.seq (.seq rg0 (.blk (.loop [4, 5, 19] 1099511103932 (.seq rg2 (.seq (.cond .leaf .leaf) (.seq (.blk (.seq rg0 (.seq rg5 (.seq (.seq (.reg [.op (0, 0, false), .op (1, 0, false), .op (2, 0, false), .grp 2 false [(3, 0, false), (4, 0, false), (5, 0, false)] [30] 1879048192, .op (6, 0, false)]) (.cond (.seq rg1 .leaf) .leaf)) (.seq rg3 rg4))))) rg1)))))) (.seq (.reg [.op (0, 0, false), .op (1, 0, false), .op (2, 0, false), .op (3, 0, false), .grp 3 true [(4, 0, false), (5, 0, false)] [45] 52776558133248, .op (6, 0, false), .op (7, 0, false), .op (8, 0, false)]) .leaf)))))
theorem I_impl_depthOf {a0 : Value} {w : World} {K : Value → World → Prop} (h : D_impl_depthOf a0 w K) : call P f_impl_depthOf [a0] w K :=
  call_of_vc mixed Tryz.func54 (c := codeOf Tryz.f54) (by kernel_rfl) (by kernel_rfl) (p := P_impl_depthOf) (by kernel_rfl) (by rw [Tryz.ntmps54]; simp) (by
    have e : D_impl_depthOf a0 w K = vc P P_impl_depthOf (codeOf Tryz.f54) (env0 [a0]) w (retX P Tryz.f54.results.toList K) := by kernel_rfl
    exact e ▸ h)
def D_impl_form (a0 : Value) (w : World) (K : Value → World → Prop) : Prop :=
  ∃ b : World → Prop, (∀ (_ : Env) (c : World), b c →
  call P f_impl_parseFloat [a0] c fun d e =>
  xtr P d 0 e fun g =>
  xtr P d 1 e fun h =>
  cnd h
  (K (.int .i64 0) e)
  (K (.int .i64 (-1)) e)) ∧
  (∃ i : Value → World → Prop, (∀ (j : Value) (_ : Env) (k : World), i j k →
  cnd j
  (K (.int .i64 0) k)
  (∃ l : Value → World → Prop, (∀ (m : Value) (_ : Env) (n : World), l m n →
  cnd m
  (K (.int .i64 1) n)
  (bin P .eql 9 false true a0 (.string ⟨#[43]⟩) n fun o =>
  cnd o
  (cnd o
  (K (.int .i64 2) n)
  (b n))
  (bin P .eql 9 false true a0 (.string ⟨#[45]⟩) n fun p =>
  cnd p
  (cnd p
  (K (.int .i64 2) n)
  (b n))
  (bin P .eql 9 false true a0 (.string ⟨#[42]⟩) n fun q =>
  cnd q
  (cnd q
  (K (.int .i64 2) n)
  (b n))
  (bin P .eql 9 false true a0 (.string ⟨#[47]⟩) n fun r =>
  cnd r
  (cnd r
  (K (.int .i64 2) n)
  (b n))
  (bin P .eql 9 false true a0 (.string ⟨#[109, 105, 110]⟩) n fun s =>
  cnd s
  (cnd s
  (K (.int .i64 2) n)
  (b n))
  (bin P .eql 9 false true a0 (.string ⟨#[109, 97, 120]⟩) n fun t =>
  cnd t
  (K (.int .i64 2) n)
  (b n)))))))) ∧
  (bin P .eql 9 false true a0 (.string ⟨#[110, 101, 103]⟩) k fun u =>
  cnd u
  (l u k)
  (bin P .eql 9 false true a0 (.string ⟨#[115, 113, 114]⟩) k fun v =>
  cnd v
  (l v k)
  (bin P .eql 9 false true a0 (.string ⟨#[97, 98, 115]⟩) k fun x =>
  cnd x
  (l x k)
  (bin P .eql 9 false true a0 (.string ⟨#[114, 111, 111, 116]⟩) k fun y =>
  cnd y
  (l y k)
  (bin P .eql 9 false true a0 (.string ⟨#[101, 120, 112]⟩) k fun z =>
  cnd z
  (l z k)
  (bin P .eql 9 false true a0 (.string ⟨#[108, 111, 103]⟩) k fun A =>
  cnd A
  (l A k)
  (bin P .eql 9 false true a0 (.string ⟨#[97, 116, 97, 110]⟩) k fun B =>
  cnd B
  (l B k)
  (bin P .eql 9 false true a0 (.string ⟨#[115, 105, 110]⟩) k fun C =>
  l C k)))))))))) ∧
  (bin P .eql 9 false true a0 (.string ⟨#[120]⟩) w fun D =>
  cnd D
  (i D w)
  (bin P .eql 9 false true a0 (.string ⟨#[121]⟩) w fun E =>
  cnd E
  (i E w)
  (bin P .eql 9 false true a0 (.string ⟨#[122]⟩) w fun F =>
  i F w))))
def P_impl_form : Plan := (.seq rg2 (.cut [] 67108836 (.seq rg2 (.blk (.cut [6] 960 (.seq rg1 (.cond .leaf (.seq rg1 (.cond .leaf rg1)))) (.cond (.seq rg2 .leaf) (.cut [10] 523264 (.seq rg1 (.cond .leaf (.seq rg1 (.cond .leaf (.seq rg1 (.cond .leaf (.seq rg1 (.cond .leaf (.seq rg1 (.cond .leaf (.seq rg1 (.cond .leaf (.seq rg1 (.cond .leaf rg1)))))))))))))) (.cond (.seq rg2 .leaf) (.seq (.seq rg1 (.cond .leaf (.seq rg1 (.cond .leaf (.seq rg1 (.cond .leaf (.seq rg1 (.cond .leaf (.seq rg1 (.cond .leaf rg1)))))))))) (.cond (.seq rg2 .leaf) .leaf)))))))) (.seq (.seq rg17 (.seq rg2 (.cond (.seq rg2 .leaf) .leaf))) (.seq rg2 .leaf))))
theorem I_impl_form {a0 : Value} {w : World} {K : Value → World → Prop} (h : D_impl_form a0 w K) : call P f_impl_form [a0] w K :=
  call_of_vc mixed Tryz.func103 (c := codeOf Tryz.f103) (by kernel_rfl) (by kernel_rfl) (p := P_impl_form) (by kernel_rfl) (by rw [Tryz.ntmps103]; simp) (by
    have e : D_impl_form a0 w K = vc P P_impl_form (codeOf Tryz.f103) (env0 [a0]) w (retX P Tryz.f103.results.toList K) := by kernel_rfl
    exact e ▸ h)
end Go.Proofs.YtjompmflommadaaGreatDoor


set_option linter.unusedVariables false
set_option maxRecDepth 20000
namespace Go.Proofs.YtjompmflommadaaGreatDoor
open Go Go.Vc
def D_spec_l08Is (a0 : Value) (w : World) (K : Value → World → Prop) : Prop :=
  bx P 27 a0 w fun b c =>
  ld P 27 b c fun d =>
  call P f_spec_l08Depth [d] c fun e g =>
  bin P .gtr 2 false true e (.int .i64 0) g fun h =>
  K h g
def P_spec_l08Is : Plan := (.seq rg7 (.seq rg29 .leaf))
theorem I_spec_l08Is {a0 : Value} {w : World} {K : Value → World → Prop} (h : D_spec_l08Is a0 w K) : call P f_spec_l08Is [a0] w K :=
  call_of_vc mixed Tryz.func52 (c := codeOf Tryz.f52) (by kernel_rfl) (by kernel_rfl) (p := P_spec_l08Is) (by kernel_rfl) (by rw [Tryz.ntmps52]; simp) (by
    have e : D_spec_l08Is a0 w K = vc P P_spec_l08Is (codeOf Tryz.f52) (env0 [a0]) w (retX P Tryz.f52.results.toList K) := by kernel_rfl
    exact e ▸ h)
def D_spec_l08Depth (a0 : Value) (w : World) (K : Value → World → Prop) : Prop :=
  bx P 27 a0 w fun b c =>
  fda P 27 b 0 c fun d =>
  ld P 22 d c fun e =>
  bl0 P .len #[22] 3 [e] c fun g =>
  bin P .lss 3 false true g (.int .i64 1) c fun h =>
  ∃ i : Value → World → Prop, (∀ (j : Value) (_ : Env) (k : World), i j k →
  pick h (.bool true) j fun l =>
  cnd l
  (K (.int .i64 0) k)
  (∃ m : Nat → Value → Value → Value → World → Prop, (∃ n, m n (.int .i64 0) (.int .i64 0) (.int .i64 0) k) ∧ ∀ (o : Nat) (p : Value) (q : Value) (r : Value) (_ : Env) (s : World), m o p q r s →
  fda P 27 b 0 s fun t =>
  ld P 22 t s fun u =>
  bl0 P .len #[22] 3 [u] s fun v =>
  bin P .lss 3 false false r v s fun x =>
  cnd x
  (fda P 27 b 0 s fun y =>
  ld P 22 y s fun z =>
  ixa P 22 z r s fun A =>
  ld P 9 A s fun B =>
  call P f_spec_l08Needs [B] s fun C D =>
  bin P .lss 2 false true C (.int .i64 0) D fun E =>
  ∃ F : Value → World → Prop, (∀ (G : Value) (_ : Env) (H : World), F G H →
  pick E (.bool true) G fun L =>
  cnd L
  (K (.int .i64 0) H)
  (bin P .sub 2 false false p C H fun M =>
  bin P .add 2 false true M (.int .i64 1) H fun N =>
  bl0 P .max #[2, 2] 2 [q, N] H fun O =>
  bin P .add 3 false true r (.int .i64 1) H fun Q =>
  ∃ R, R < o ∧ m R N O Q H)) ∧
  grd E false
  (bin P .lss 2 false false p C D fun S =>
  F S D)
  (F undef D))
  (bin P .neq 2 false true p (.int .i64 1) s fun T =>
  ∃ U : Value → World → Prop, (∀ (V : Value) (_ : Env) (W : World), U V W →
  pick T (.bool true) V fun X =>
  cnd X
  (K (.int .i64 0) W)
  (K q W)) ∧
  grd T false
  (bin P .gtr 2 false true q (.int .i64 16) s fun Y =>
  U Y s)
  (U undef s)))) ∧
  grd h false
  (fda P 27 b 0 c fun Z =>
  ld P 22 Z c fun b0 =>
  bl0 P .len #[22] 3 [b0] c fun c0 =>
  bin P .gtr 3 false true c0 (.int .i64 60) c fun d0 =>
  i d0 c)
  (i undef c)
def P_spec_l08Depth : Plan := (.seq rg7 (.seq (.seq (.reg [.op (0, 0, false), .op (1, 0, false), .op (2, 0, false), .op (3, 0, false), .op (4, 0, false), .grp 4 false [(5, 0, false), (6, 0, false), (7, 0, false), (8, 0, false)] [15] 61440, .op (9, 0, false)]) (.cond (.seq rg2 .leaf) .leaf)) (.seq rg1 (.seq (.seq rg2 (.blk (.loop [3, 4, 5] 17592185913468 (.seq (.seq rg3 (.cond .leaf .leaf)) (.seq (.blk (.seq rg16 (.seq (.seq (.reg [.op (0, 0, false), .op (1, 0, false), .op (2, 0, false), .grp 2 false [(3, 0, false), (4, 0, false), (5, 0, false)] [35] 60129542144, .op (6, 0, false)]) (.cond (.seq rg2 .leaf) .leaf)) (.seq rg3 rg4)))) rg0))))) (.seq (.seq (.reg [.op (0, 0, false), .op (1, 0, false), .op (2, 0, false), .grp 2 false [(3, 0, false), (4, 0, false)] [48] 422212465065984, .op (5, 0, false)]) (.cond (.seq rg2 .leaf) .leaf)) (.seq rg1 .leaf))))))
theorem I_spec_l08Depth {a0 : Value} {w : World} {K : Value → World → Prop} (h : D_spec_l08Depth a0 w K) : call P f_spec_l08Depth [a0] w K :=
  call_of_vc mixed Tryz.func56 (c := codeOf Tryz.f56) (by kernel_rfl) (by kernel_rfl) (p := P_spec_l08Depth) (by kernel_rfl) (by rw [Tryz.ntmps56]; simp) (by
    have e : D_spec_l08Depth a0 w K = vc P P_spec_l08Depth (codeOf Tryz.f56) (env0 [a0]) w (retX P Tryz.f56.results.toList K) := by kernel_rfl
    exact e ▸ h)
def D_spec_l08Needs (a0 : Value) (w : World) (K : Value → World → Prop) : Prop :=
  ∃ b : World → Prop, (∀ (_ : Env) (c : World), b c →
  call P f_spec_l06Float [a0] c fun d e =>
  xtr P d 0 e fun g =>
  xtr P d 1 e fun h =>
  cnd h
  (K (.int .i64 0) e)
  (K (.int .i64 (-1)) e)) ∧
  (∃ i : Value → World → Prop, (∀ (j : Value) (_ : Env) (k : World), i j k →
  cnd j
  (K (.int .i64 0) k)
  (∃ l : Value → World → Prop, (∀ (m : Value) (_ : Env) (n : World), l m n →
  cnd m
  (K (.int .i64 1) n)
  (bin P .eql 9 false true a0 (.string ⟨#[43]⟩) n fun o =>
  cnd o
  (cnd o
  (K (.int .i64 2) n)
  (b n))
  (bin P .eql 9 false true a0 (.string ⟨#[45]⟩) n fun p =>
  cnd p
  (cnd p
  (K (.int .i64 2) n)
  (b n))
  (bin P .eql 9 false true a0 (.string ⟨#[42]⟩) n fun q =>
  cnd q
  (cnd q
  (K (.int .i64 2) n)
  (b n))
  (bin P .eql 9 false true a0 (.string ⟨#[47]⟩) n fun r =>
  cnd r
  (cnd r
  (K (.int .i64 2) n)
  (b n))
  (bin P .eql 9 false true a0 (.string ⟨#[109, 105, 110]⟩) n fun s =>
  cnd s
  (cnd s
  (K (.int .i64 2) n)
  (b n))
  (bin P .eql 9 false true a0 (.string ⟨#[109, 97, 120]⟩) n fun t =>
  cnd t
  (K (.int .i64 2) n)
  (b n)))))))) ∧
  (bin P .eql 9 false true a0 (.string ⟨#[110, 101, 103]⟩) k fun u =>
  cnd u
  (l u k)
  (bin P .eql 9 false true a0 (.string ⟨#[115, 113, 114]⟩) k fun v =>
  cnd v
  (l v k)
  (bin P .eql 9 false true a0 (.string ⟨#[97, 98, 115]⟩) k fun x =>
  cnd x
  (l x k)
  (bin P .eql 9 false true a0 (.string ⟨#[114, 111, 111, 116]⟩) k fun y =>
  cnd y
  (l y k)
  (bin P .eql 9 false true a0 (.string ⟨#[101, 120, 112]⟩) k fun z =>
  cnd z
  (l z k)
  (bin P .eql 9 false true a0 (.string ⟨#[108, 111, 103]⟩) k fun A =>
  cnd A
  (l A k)
  (bin P .eql 9 false true a0 (.string ⟨#[97, 116, 97, 110]⟩) k fun B =>
  cnd B
  (l B k)
  (bin P .eql 9 false true a0 (.string ⟨#[115, 105, 110]⟩) k fun C =>
  l C k)))))))))) ∧
  (bin P .eql 9 false true a0 (.string ⟨#[120]⟩) w fun D =>
  cnd D
  (i D w)
  (bin P .eql 9 false true a0 (.string ⟨#[121]⟩) w fun E =>
  cnd E
  (i E w)
  (bin P .eql 9 false true a0 (.string ⟨#[122]⟩) w fun F =>
  i F w))))
def P_spec_l08Needs : Plan := (.seq rg2 (.cut [] 67108836 (.seq rg2 (.blk (.cut [6] 960 (.seq rg1 (.cond .leaf (.seq rg1 (.cond .leaf rg1)))) (.cond (.seq rg2 .leaf) (.cut [10] 523264 (.seq rg1 (.cond .leaf (.seq rg1 (.cond .leaf (.seq rg1 (.cond .leaf (.seq rg1 (.cond .leaf (.seq rg1 (.cond .leaf (.seq rg1 (.cond .leaf (.seq rg1 (.cond .leaf rg1)))))))))))))) (.cond (.seq rg2 .leaf) (.seq (.seq rg1 (.cond .leaf (.seq rg1 (.cond .leaf (.seq rg1 (.cond .leaf (.seq rg1 (.cond .leaf (.seq rg1 (.cond .leaf rg1)))))))))) (.cond (.seq rg2 .leaf) .leaf)))))))) (.seq (.seq rg17 (.seq rg2 (.cond (.seq rg2 .leaf) .leaf))) (.seq rg2 .leaf))))
theorem I_spec_l08Needs {a0 : Value} {w : World} {K : Value → World → Prop} (h : D_spec_l08Needs a0 w K) : call P f_spec_l08Needs [a0] w K :=
  call_of_vc mixed Tryz.func89 (c := codeOf Tryz.f89) (by kernel_rfl) (by kernel_rfl) (p := P_spec_l08Needs) (by kernel_rfl) (by rw [Tryz.ntmps89]; simp) (by
    have e : D_spec_l08Needs a0 w K = vc P P_spec_l08Needs (codeOf Tryz.f89) (env0 [a0]) w (retX P Tryz.f89.results.toList K) := by kernel_rfl
    exact e ▸ h)
end Go.Proofs.YtjompmflommadaaGreatDoor


set_option linter.unusedVariables false
set_option maxRecDepth 20000
namespace Go.Proofs.YtjompmflommadaaGreatDoor
open Go Go.Vc
def D_impl_IsServer (a0 : Value) (w : World) (K : Value → World → Prop) : Prop :=
  bx P 48 a0 w fun b c =>
  fda P 48 b 0 c fun d =>
  ld P 22 d c fun e =>
  bl0 P .len #[22] 3 [e] c fun g =>
  bin P .gtr 3 false true g (.int .i64 8) c fun h =>
  ∃ i : Value → World → Prop, (∀ (j : Value) (_ : Env) (k : World), i j k →
  pick h (.bool true) j fun l =>
  ∃ m : Value → World → Prop, (∀ (n : Value) (_ : Env) (o : World), m n o →
  pick l (.bool true) n fun p =>
  cnd p
  (K (.bool false) o)
  (fda P 48 b 0 o fun q =>
  ld P 22 q o fun r =>
  bl0 P .len #[22] 3 [r] o fun s =>
  ∃ t : Nat → Value → World → Prop, (∃ u, t u (.int .i64 0) o) ∧ ∀ (v : Nat) (x : Value) (_ : Env) (y : World), t v x y →
  bin P .lss 3 false false x s y fun z =>
  cnd z
  (ixa P 22 r x y fun A =>
  ld P 9 A y fun B =>
  call P f_impl_isName [B] y fun C D =>
  una P .not C D fun E =>
  ∃ F : Value → World → Prop, (∀ (G : Value) (_ : Env) (H : World), F G H →
  pick E (.bool true) G fun L =>
  ∃ M : Value → World → Prop, (∀ (N : Value) (_ : Env) (O : World), M N O →
  pick L (.bool true) N fun Q =>
  cnd Q
  (K (.bool false) O)
  (bin P .add 3 false true x (.int .i64 1) O fun R =>
  ∃ S, S < v ∧ t S R O)) ∧
  grd L false
  (fda P 48 b 1 H fun T =>
  ld P 45 T H fun U =>
  ixa P 45 U x H fun V =>
  ld P 27 V H fun W =>
  call P f_impl_IsProgram [W] H fun X Y =>
  una P .not X Y fun Z =>
  M Z Y)
  (M undef H)) ∧
  grd E false
  (fda P 48 b 0 D fun b0 =>
  ld P 22 b0 D fun c0 =>
  sli P 22 c0 none (some x) none D fun d0 =>
  call P f_slices_Contains_string_string [d0, B] D fun e0 g0 =>
  F e0 g0)
  (F undef D))
  (fda P 48 b 2 y fun h0 =>
  ld P 46 h0 y fun i0 =>
  bl0 P .len #[46] 3 [i0] y fun j0 =>
  ∃ k0 : Nat → Value → World → Prop, (∃ l0, k0 l0 (.int .i64 0) y) ∧ ∀ (m0 : Nat) (n0 : Value) (_ : Env) (o0 : World), k0 m0 n0 o0 →
  bin P .lss 3 false false n0 j0 o0 fun p0 =>
  cnd p0
  (ixa P 46 i0 n0 o0 fun q0 =>
  ld P 96 q0 o0 fun r0 =>
  alc P 96 o0 fun s0 t0 =>
  sto P 96 s0 r0 t0 fun u0 =>
  fda P 48 b 2 u0 fun v0 =>
  ld P 46 v0 u0 fun x0 =>
  sli P 46 x0 none (some n0) none u0 fun y0 =>
  bl0 P .len #[46] 3 [y0] u0 fun z0 =>
  ∃ A0 : Nat → Value → World → Prop, (∃ B0, A0 B0 (.int .i64 0) u0) ∧ ∀ (C0 : Nat) (D0 : Value) (_ : Env) (E0 : World), A0 C0 D0 E0 →
  bin P .lss 3 false false D0 z0 E0 fun F0 =>
  cnd F0
  (ixa P 46 y0 D0 E0 fun G0 =>
  ld P 96 G0 E0 fun H0 =>
  alc P 96 E0 fun L0 M0 =>
  sto P 96 L0 H0 M0 fun N0 =>
  fda P 96 L0 0 N0 fun O0 =>
  ld P 9 O0 N0 fun Q0 =>
  fda P 96 s0 0 N0 fun R0 =>
  ld P 9 R0 N0 fun S0 =>
  bin P .eql 9 false false Q0 S0 N0 fun T0 =>
  cnd T0
  (K (.bool false) N0)
  (bin P .add 3 false true D0 (.int .i64 1) N0 fun U0 =>
  ∃ V0, V0 < C0 ∧ A0 V0 U0 N0))
  (bin P .add 3 false true n0 (.int .i64 1) E0 fun W0 =>
  ∃ X0, X0 < m0 ∧ k0 X0 W0 E0))
  (K (.bool true) o0)))) ∧
  grd l false
  (fda P 48 b 2 k fun Y0 =>
  ld P 46 Y0 k fun Z0 =>
  bl0 P .len #[46] 3 [Z0] k fun b1 =>
  bin P .gtr 3 false true b1 (.int .i64 16) k fun c1 =>
  m c1 k)
  (m undef k)) ∧
  grd h false
  (fda P 48 b 0 c fun d1 =>
  ld P 22 d1 c fun e1 =>
  bl0 P .len #[22] 3 [e1] c fun g1 =>
  fda P 48 b 1 c fun h1 =>
  ld P 45 h1 c fun i1 =>
  bl0 P .len #[45] 3 [i1] c fun j1 =>
  bin P .neq 3 false false g1 j1 c fun k1 =>
  i k1 c)
  (i undef c)
def P_impl_IsServer : Plan := (.seq rg7 (.seq (.seq (.reg [.op (0, 0, false), .op (1, 0, false), .op (2, 0, false), .op (3, 0, false), .op (4, 0, false), .grp 4 false [(5, 0, false), (6, 0, false), (7, 0, false), (8, 0, false), (9, 0, false), (10, 0, false), (11, 0, false)] [20] 2080768, .op (12, 0, false), .op (13, 0, false), .grp 13 false [(14, 0, false), (15, 0, false), (16, 0, false), (17, 0, false)] [26] 125829120, .op (18, 0, false)]) (.cond (.seq rg2 .leaf) .leaf)) (.seq (.seq rg4 (.blk (.loop [31] 144115185928372252 (.seq rg2 (.seq (.cond .leaf .leaf) (.seq (.blk (.seq rg3 (.seq (.reg [.op (0, 0, false), .op (1, 2, false), .op (2, 0, false), .op (3, 0, false), .grp 3 false [(4, 0, false), (5, 0, false), (6, 0, false), (7, 0, false), (8, 0, false), (9, 2, false)] [45] 69269232549888, .op (10, 0, false), .op (11, 0, false), .grp 11 false [(12, 0, false), (13, 0, false), (14, 0, false), (15, 0, false), (16, 0, false), (17, 2, false), (18, 0, false)] [54] 35747322042253312, .op (19, 0, false)]) (.cond (.seq rg2 .leaf) .leaf)))) rg1)))))) (.seq (.seq rg4 (.blk (.loop [60] 2417850486307753742565732 (.seq rg2 (.seq (.cond .leaf .leaf) (.seq (.blk (.seq (.reg [.op (0, 0, false), .op (1, 0, false), .op (2, 0, false), .op (3, 2, false), .op (4, 0, false), .op (5, 2, false)]) (.seq rg6 (.blk (.loop [70] 1207745227993911763403012 (.seq rg2 (.seq (.cond .leaf .leaf) (.seq (.blk (.seq rg30 (.seq rg3 (.cond (.seq rg2 .leaf) .leaf)))) rg1)))))))) rg1)))))) (.seq rg2 .leaf)))))
theorem I_impl_IsServer {a0 : Value} {w : World} {K : Value → World → Prop} (h : D_impl_IsServer a0 w K) : call P f_impl_IsServer [a0] w K :=
  call_of_vc mixed Tryz.func30 (c := codeOf Tryz.f30) (by kernel_rfl) (by kernel_rfl) (p := P_impl_IsServer) (by kernel_rfl) (by rw [Tryz.ntmps30]; simp) (by
    have e : D_impl_IsServer a0 w K = vc P P_impl_IsServer (codeOf Tryz.f30) (env0 [a0]) w (retX P Tryz.f30.results.toList K) := by kernel_rfl
    exact e ▸ h)
def D_impl_isName (a0 : Value) (w : World) (K : Value → World → Prop) : Prop :=
  bin P .eql 9 false true a0 (.string ⟨#[]⟩) w fun b =>
  ∃ c : Value → World → Prop, (∀ (d : Value) (_ : Env) (e : World), c d e →
  pick b (.bool true) d fun g =>
  cnd g
  (K (.bool false) e)
  (bl0 P .len #[9] 3 [a0] e fun h =>
  ∃ i : Nat → Value → World → Prop, (∃ j, i j (.int .i64 0) e) ∧ ∀ (k : Nat) (l : Value) (_ : Env) (m : World), i k l m →
  bin P .lss 3 false false l h m fun n =>
  cnd n
  (idx P 9 a0 l m fun o =>
  bin P .lss 5 false true o (.int .u8 97) m fun p =>
  ∃ q : Value → World → Prop, (∀ (r : Value) (_ : Env) (s : World), q r s →
  pick p (.bool true) r fun t =>
  cnd t
  (K (.bool false) s)
  (bin P .add 3 false true l (.int .i64 1) s fun u =>
  ∃ v, v < k ∧ i v u s)) ∧
  grd p false
  (idx P 9 a0 l m fun x =>
  bin P .gtr 5 false true x (.int .u8 122) m fun y =>
  q y m)
  (q undef m))
  (K (.bool true) m))) ∧
  grd b false
  (bl0 P .len #[9] 3 [a0] w fun z =>
  bin P .gtr 3 false true z (.int .i64 8) w fun A =>
  c A w)
  (c undef w)
def P_impl_isName : Plan := (.seq rg2 (.seq (.seq (.reg [.op (0, 0, false), .op (1, 0, false), .op (2, 0, false), .grp 2 false [(3, 0, false), (4, 0, false), (5, 0, false)] [9] 896, .op (6, 0, false)]) (.cond (.seq rg2 .leaf) .leaf)) (.seq (.seq rg0 (.blk (.loop [13] 134209548 (.seq rg2 (.seq (.cond .leaf .leaf) (.seq (.blk (.seq rg1 (.seq (.reg [.op (0, 0, false), .op (1, 0, false), .op (2, 0, false), .op (3, 0, false), .op (4, 0, false), .grp 4 false [(5, 0, false), (6, 0, false), (7, 0, false), (8, 0, false)] [24] 31457280, .op (9, 0, false)]) (.cond (.seq rg2 .leaf) .leaf)))) rg1)))))) (.seq rg2 .leaf))))
theorem I_impl_isName {a0 : Value} {w : World} {K : Value → World → Prop} (h : D_impl_isName a0 w K) : call P f_impl_isName [a0] w K :=
  call_of_vc mixed Tryz.func70 (c := codeOf Tryz.f70) (by kernel_rfl) (by kernel_rfl) (p := P_impl_isName) (by kernel_rfl) (by rw [Tryz.ntmps70]; simp) (by
    have e : D_impl_isName a0 w K = vc P P_impl_isName (codeOf Tryz.f70) (env0 [a0]) w (retX P Tryz.f70.results.toList K) := by kernel_rfl
    exact e ▸ h)
end Go.Proofs.YtjompmflommadaaGreatDoor


set_option linter.unusedVariables false
set_option maxRecDepth 20000
namespace Go.Proofs.YtjompmflommadaaGreatDoor
open Go Go.Vc
def D_spec_IsServer (a0 : Value) (w : World) (K : Value → World → Prop) : Prop :=
  bx P 48 a0 w fun b c =>
  ld P 48 b c fun d =>
  call P f_spec_l12Is [d] c fun e g =>
  K e g
def P_spec_IsServer : Plan := (.seq rg7 (.seq rg5 .leaf))
theorem I_spec_IsServer {a0 : Value} {w : World} {K : Value → World → Prop} (h : D_spec_IsServer a0 w K) : call P f_spec_IsServer [a0] w K :=
  call_of_vc mixed Tryz.func28 (c := codeOf Tryz.f28) (by kernel_rfl) (by kernel_rfl) (p := P_spec_IsServer) (by kernel_rfl) (by rw [Tryz.ntmps28]; simp) (by
    have e : D_spec_IsServer a0 w K = vc P P_spec_IsServer (codeOf Tryz.f28) (env0 [a0]) w (retX P Tryz.f28.results.toList K) := by kernel_rfl
    exact e ▸ h)
def D_spec_l12Is (a0 : Value) (w : World) (K : Value → World → Prop) : Prop :=
  bx P 48 a0 w fun b c =>
  fda P 48 b 0 c fun d =>
  ld P 22 d c fun e =>
  bl0 P .len #[22] 3 [e] c fun g =>
  bin P .gtr 3 false true g (.int .i64 8) c fun h =>
  ∃ i : Value → World → Prop, (∀ (j : Value) (_ : Env) (k : World), i j k →
  pick h (.bool true) j fun l =>
  ∃ m : Value → World → Prop, (∀ (n : Value) (_ : Env) (o : World), m n o →
  pick l (.bool true) n fun p =>
  cnd p
  (K (.bool false) o)
  (∃ q : Nat → Value → World → Prop, (∃ r, q r (.int .i64 0) o) ∧ ∀ (s : Nat) (t : Value) (_ : Env) (u : World), q s t u →
  fda P 48 b 0 u fun v =>
  ld P 22 v u fun x =>
  bl0 P .len #[22] 3 [x] u fun y =>
  bin P .lss 3 false false t y u fun z =>
  cnd z
  (fda P 48 b 0 u fun A =>
  ld P 22 A u fun B =>
  ixa P 22 B t u fun C =>
  ld P 9 C u fun D =>
  call P f_spec_l12Name [D] u fun E F =>
  una P .not E F fun G =>
  ∃ H : Value → World → Prop, (∀ (L : Value) (_ : Env) (M : World), H L M →
  pick G (.bool true) L fun N =>
  ∃ O : Value → World → Prop, (∀ (Q : Value) (_ : Env) (R : World), O Q R →
  pick N (.bool true) Q fun S =>
  cnd S
  (K (.bool false) R)
  (bin P .add 3 false true t (.int .i64 1) R fun T =>
  ∃ U, U < s ∧ q U T R)) ∧
  grd N false
  (ld P 48 b M fun V =>
  fda P 48 b 0 M fun W =>
  ld P 22 W M fun X =>
  ixa P 22 X t M fun Y =>
  ld P 9 Y M fun Z =>
  call P f_spec_l12Place [V, Z] M fun b0 c0 =>
  bin P .neq 3 false false b0 t c0 fun d0 =>
  O d0 c0)
  (O undef M)) ∧
  grd G false
  (fda P 48 b 1 F fun e0 =>
  ld P 45 e0 F fun g0 =>
  ixa P 45 g0 t F fun h0 =>
  ld P 27 h0 F fun i0 =>
  call P f_spec_l08Is [i0] F fun j0 k0 =>
  una P .not j0 k0 fun l0 =>
  H l0 k0)
  (H undef F))
  (∃ m0 : Nat → Value → World → Prop, (∃ n0, m0 n0 (.int .i64 0) u) ∧ ∀ (o0 : Nat) (p0 : Value) (_ : Env) (q0 : World), m0 o0 p0 q0 →
  fda P 48 b 2 q0 fun r0 =>
  ld P 46 r0 q0 fun s0 =>
  bl0 P .len #[46] 3 [s0] q0 fun t0 =>
  bin P .lss 3 false false p0 t0 q0 fun u0 =>
  cnd u0
  (ld P 48 b q0 fun v0 =>
  fda P 48 b 2 q0 fun x0 =>
  ld P 46 x0 q0 fun y0 =>
  ixa P 46 y0 p0 q0 fun z0 =>
  fda P 96 z0 0 q0 fun A0 =>
  ld P 9 A0 q0 fun B0 =>
  call P f_spec_l12Key [v0, B0] q0 fun C0 D0 =>
  bin P .neq 3 false false C0 p0 D0 fun E0 =>
  cnd E0
  (K (.bool false) D0)
  (bin P .add 3 false true p0 (.int .i64 1) D0 fun F0 =>
  ∃ G0, G0 < o0 ∧ m0 G0 F0 D0))
  (K (.bool true) q0)))) ∧
  grd l false
  (fda P 48 b 2 k fun H0 =>
  ld P 46 H0 k fun L0 =>
  bl0 P .len #[46] 3 [L0] k fun M0 =>
  bin P .gtr 3 false true M0 (.int .i64 16) k fun N0 =>
  m N0 k)
  (m undef k)) ∧
  grd h false
  (fda P 48 b 1 c fun O0 =>
  ld P 45 O0 c fun Q0 =>
  bl0 P .len #[45] 3 [Q0] c fun R0 =>
  fda P 48 b 0 c fun S0 =>
  ld P 22 S0 c fun T0 =>
  bl0 P .len #[22] 3 [T0] c fun U0 =>
  bin P .neq 3 false false R0 U0 c fun V0 =>
  i V0 c)
  (i undef c)
def P_spec_l12Is : Plan := (.seq rg7 (.seq (.seq (.reg [.op (0, 0, false), .op (1, 0, false), .op (2, 0, false), .op (3, 0, false), .op (4, 0, false), .grp 4 false [(5, 0, false), (6, 0, false), (7, 0, false), (8, 0, false), (9, 0, false), (10, 0, false), (11, 0, false)] [16] 130048, .op (12, 0, false), .op (13, 0, false), .grp 13 false [(14, 0, false), (15, 0, false), (16, 0, false), (17, 0, false)] [22] 7864320, .op (18, 0, false)]) (.cond (.seq rg2 .leaf) .leaf)) (.seq (.seq rg2 (.blk (.loop [3] 288230376134934540 (.seq (.seq rg3 (.cond .leaf .leaf)) (.seq (.blk (.seq (.reg [.op (0, 0, false), .op (1, 0, false), .op (2, 0, false), .op (3, 0, false), .op (4, 0, false), .op (5, 2, false), .op (6, 0, false), .op (7, 0, false), .grp 7 false [(8, 0, false), (9, 0, false), (10, 0, false), (11, 0, false), (12, 0, false), (13, 2, false), (14, 0, false)] [45] 69818988363776, .op (15, 0, false), .op (16, 0, false), .grp 16 false [(17, 0, false), (18, 0, false), (19, 0, false), (20, 0, false), (21, 0, false), (22, 0, false), (24, 0, false), (23, 2, false), (25, 0, false)] [56] 143833713099145216, .op (26, 0, false)]) (.cond (.seq rg2 .leaf) .leaf))) rg0))))) (.seq (.seq rg2 (.blk (.loop [4] 37778643632581009997844 (.seq (.seq rg3 (.cond .leaf .leaf)) (.seq (.blk (.seq (.reg [.op (0, 0, false), .op (1, 0, false), .op (2, 0, false), .op (3, 0, false), .op (4, 0, false), .op (5, 0, false), .op (6, 0, false), .op (8, 0, false), .op (7, 2, false), .op (9, 0, false)]) (.cond (.seq rg2 .leaf) .leaf))) rg0))))) (.seq rg2 .leaf)))))
theorem I_spec_l12Is {a0 : Value} {w : World} {K : Value → World → Prop} (h : D_spec_l12Is a0 w K) : call P f_spec_l12Is [a0] w K :=
  call_of_vc mixed Tryz.func67 (c := codeOf Tryz.f67) (by kernel_rfl) (by kernel_rfl) (p := P_spec_l12Is) (by kernel_rfl) (by rw [Tryz.ntmps67]; simp) (by
    have e : D_spec_l12Is a0 w K = vc P P_spec_l12Is (codeOf Tryz.f67) (env0 [a0]) w (retX P Tryz.f67.results.toList K) := by kernel_rfl
    exact e ▸ h)
def D_spec_l12Name (a0 : Value) (w : World) (K : Value → World → Prop) : Prop :=
  ∃ b : Nat → Value → World → Prop, (∃ c, b c (.int .i64 0) w) ∧ ∀ (d : Nat) (e : Value) (_ : Env) (g : World), b d e g →
  bl0 P .len #[9] 3 [a0] g fun h =>
  bin P .lss 3 false false e h g fun i =>
  cnd i
  (idx P 9 a0 e g fun j =>
  bin P .lss 5 false true j (.int .u8 97) g fun k =>
  ∃ l : Value → World → Prop, (∀ (m : Value) (_ : Env) (n : World), l m n →
  pick k (.bool true) m fun o =>
  cnd o
  (K (.bool false) n)
  (bin P .add 3 false true e (.int .i64 1) n fun p =>
  ∃ q, q < d ∧ b q p n)) ∧
  grd k false
  (idx P 9 a0 e g fun r =>
  bin P .gtr 5 false true r (.int .u8 122) g fun s =>
  l s g)
  (l undef g))
  (bl0 P .len #[9] 3 [a0] g fun t =>
  bin P .geq 3 false true t (.int .i64 1) g fun u =>
  ∃ v : Value → World → Prop, (∀ (x : Value) (_ : Env) (y : World), v x y →
  pick u x (.bool false) fun z =>
  K z y) ∧
  grd u true
  (bl0 P .len #[9] 3 [a0] g fun A =>
  bin P .leq 3 false true A (.int .i64 8) g fun B =>
  v B g)
  (v undef g))
def P_spec_l12Name : Plan := (.seq rg2 (.seq (.seq rg2 (.blk (.loop [3] 1048572 (.seq (.seq rg4 (.cond .leaf .leaf)) (.seq (.blk (.seq (.reg [.op (0, 0, false), .op (1, 0, false), .op (2, 0, false), .op (3, 0, false), .op (4, 0, false), .grp 4 false [(5, 0, false), (6, 0, false), (7, 0, false), (8, 0, false)] [18] 491520, .op (9, 0, false)]) (.cond (.seq rg2 .leaf) .leaf))) rg0))))) (.seq (.reg [.op (0, 0, false), .op (1, 0, false), .op (2, 0, false), .op (3, 0, false), .grp 3 true [(4, 0, false), (5, 0, false), (6, 0, false)] [26] 117440512, .op (7, 0, false), .op (8, 0, false)]) .leaf)))
theorem I_spec_l12Name {a0 : Value} {w : World} {K : Value → World → Prop} (h : D_spec_l12Name a0 w K) : call P f_spec_l12Name [a0] w K :=
  call_of_vc mixed Tryz.func110 (c := codeOf Tryz.f110) (by kernel_rfl) (by kernel_rfl) (p := P_spec_l12Name) (by kernel_rfl) (by rw [Tryz.ntmps110]; simp) (by
    have e : D_spec_l12Name a0 w K = vc P P_spec_l12Name (codeOf Tryz.f110) (env0 [a0]) w (retX P Tryz.f110.results.toList K) := by kernel_rfl
    exact e ▸ h)
def D_spec_l12Place (a0 a1 : Value) (w : World) (K : Value → World → Prop) : Prop :=
  bx P 48 a0 w fun b c =>
  ∃ d : Nat → Value → World → Prop, (∃ e, d e (.int .i64 0) c) ∧ ∀ (g : Nat) (h : Value) (_ : Env) (i : World), d g h i →
  fda P 48 b 0 i fun j =>
  ld P 22 j i fun k =>
  bl0 P .len #[22] 3 [k] i fun l =>
  bin P .lss 3 false false h l i fun m =>
  cnd m
  (fda P 48 b 0 i fun n =>
  ld P 22 n i fun o =>
  ixa P 22 o h i fun p =>
  ld P 9 p i fun q =>
  bin P .eql 9 false false q a1 i fun r =>
  cnd r
  (K h i)
  (bin P .add 3 false true h (.int .i64 1) i fun s =>
  ∃ t, t < g ∧ d t s i))
  (K (.int .i64 (-1)) i)
def P_spec_l12Place : Plan := (.seq rg7 (.seq (.seq rg2 (.blk (.loop [5] 2097136 (.seq (.seq rg3 (.cond .leaf .leaf)) (.seq (.blk (.seq rg8 (.cond (.seq rg1 .leaf) .leaf))) rg0))))) (.seq rg2 .leaf)))
theorem I_spec_l12Place {a0 a1 : Value} {w : World} {K : Value → World → Prop} (h : D_spec_l12Place a0 a1 w K) : call P f_spec_l12Place [a0, a1] w K :=
  call_of_vc mixed Tryz.func111 (c := codeOf Tryz.f111) (by kernel_rfl) (by kernel_rfl) (p := P_spec_l12Place) (by kernel_rfl) (by rw [Tryz.ntmps111]; simp) (by
    have e : D_spec_l12Place a0 a1 w K = vc P P_spec_l12Place (codeOf Tryz.f111) (env0 [a0, a1]) w (retX P Tryz.f111.results.toList K) := by kernel_rfl
    exact e ▸ h)
def D_spec_l12Key (a0 a1 : Value) (w : World) (K : Value → World → Prop) : Prop :=
  bx P 48 a0 w fun b c =>
  ∃ d : Nat → Value → World → Prop, (∃ e, d e (.int .i64 0) c) ∧ ∀ (g : Nat) (h : Value) (_ : Env) (i : World), d g h i →
  fda P 48 b 2 i fun j =>
  ld P 46 j i fun k =>
  bl0 P .len #[46] 3 [k] i fun l =>
  bin P .lss 3 false false h l i fun m =>
  cnd m
  (fda P 48 b 2 i fun n =>
  ld P 46 n i fun o =>
  ixa P 46 o h i fun p =>
  fda P 96 p 0 i fun q =>
  ld P 9 q i fun r =>
  bin P .eql 9 false false r a1 i fun s =>
  cnd s
  (K h i)
  (bin P .add 3 false true h (.int .i64 1) i fun t =>
  ∃ u, u < g ∧ d u t i))
  (K (.int .i64 (-1)) i)
def P_spec_l12Key : Plan := (.seq rg7 (.seq (.seq rg2 (.blk (.loop [5] 4194288 (.seq (.seq rg3 (.cond .leaf .leaf)) (.seq (.blk (.seq rg9 (.cond (.seq rg1 .leaf) .leaf))) rg0))))) (.seq rg2 .leaf)))
theorem I_spec_l12Key {a0 a1 : Value} {w : World} {K : Value → World → Prop} (h : D_spec_l12Key a0 a1 w K) : call P f_spec_l12Key [a0, a1] w K :=
  call_of_vc mixed Tryz.func112 (c := codeOf Tryz.f112) (by kernel_rfl) (by kernel_rfl) (p := P_spec_l12Key) (by kernel_rfl) (by rw [Tryz.ntmps112]; simp) (by
    have e : D_spec_l12Key a0 a1 w K = vc P P_spec_l12Key (codeOf Tryz.f112) (env0 [a0, a1]) w (retX P Tryz.f112.results.toList K) := by kernel_rfl
    exact e ▸ h)
end Go.Proofs.YtjompmflommadaaGreatDoor


set_option linter.unusedVariables false
set_option maxRecDepth 20000
namespace Go.Proofs.YtjompmflommadaaGreatDoor
open Go Go.Vc
def D_laws_FnExactIsServer (a0 : Value) (w : World) (K : Value → World → Prop) : Prop :=
  bx P 42 a0 w fun b c =>
  ld P 42 b c fun d =>
  call P f_laws_szServer [d, (.int .i64 1048576)] c fun e g =>
  bin P .lss 3 false true e (.int .i64 0) g fun h =>
  cnd h
  (K (.bool true) g)
  (ld P 42 b g fun i =>
  call P f_laws_toServer [i] g fun j k =>
  call P f_spec_IsServer [j] k fun l m =>
  ld P 42 b m fun n =>
  call P f_laws_toServer [n] m fun o p =>
  alc P 48 p fun q r =>
  sto P 48 q o r fun s =>
  ld P 48 q s fun t =>
  call P f_impl_IsServer [t] s fun u v =>
  bin P .neq 4 false false u l v fun x =>
  cnd x
  (K (.bool false) v)
  (ld P 48 q v fun y =>
  ld P 42 b v fun z =>
  call P f_laws_toServer [z] v fun A B =>
  Ext v B ∧ call P f_laws_eqServer [y, A] B fun C D =>
  una P .not C D fun E =>
  cnd E
  (K (.bool false) D)
  (K (.bool true) D)))
def P_laws_FnExactIsServer : Plan := (.seq rg7 (.seq rg2 (.seq rg10 (.seq (.seq rg1 (.cond (.seq rg2 .leaf) .leaf)) (.seq (.reg [.op (0, 0, false), .op (1, 2, false), .op (2, 2, false), .op (3, 0, false)]) (.seq (.reg [.op (0, 0, false), .op (1, 2, false), .op (2, 2, false), .op (3, 2, false)]) (.seq rg5 (.seq (.seq rg0 (.cond (.seq rg2 .leaf) .leaf)) (.seq (.seq (.reg [.op (0, 0, false), .op (1, 0, false), .op (2, 2, true), .op (3, 2, false), .op (4, 0, false)]) (.cond (.seq rg2 .leaf) .leaf)) (.seq rg2 .leaf))))))))))
theorem I_laws_FnExactIsServer {a0 : Value} {w : World} {K : Value → World → Prop} (h : D_laws_FnExactIsServer a0 w K) : call P f_laws_FnExactIsServer [a0] w K :=
  call_of_vc mixed Tryz.func8 (c := codeOf Tryz.f8) (by kernel_rfl) (by kernel_rfl) (p := P_laws_FnExactIsServer) (by kernel_rfl) (by rw [Tryz.ntmps8]; simp) (by
    have e : D_laws_FnExactIsServer a0 w K = vc P P_laws_FnExactIsServer (codeOf Tryz.f8) (env0 [a0]) w (retX P Tryz.f8.results.toList K) := by kernel_rfl
    exact e ▸ h)
end Go.Proofs.YtjompmflommadaaGreatDoor


set_option linter.unusedVariables false
namespace Go.Proofs.YtjompmflommadaaGreatDoor
open Go Go.Vc
abbrev fl (b : Nat) : Value := .float .f32 b
def finB (b : Nat) : Bool := decide (Fin Ieee.single b)
structure FS (w : World) (v : Value) (l : List Nat) : Prop where
  row : Row 1 w v l.length (l.map fl)
  lt : ∀ b ∈ l, b < 4294967296
theorem FS.ext {w w' : World} {v : Value} {l : List Nat} (h : FS w v l) (he : Ext w w') : FS w' v l := ⟨h.row.ext he, h.lt⟩
theorem FS.bound {w : World} {v : Value} {l : List Nat} (h : FS w v l) : l.length ≤ 9223372036854775807 := by have := h.row.bound; simp only [maxLen] at this; omega
variable {w : World} {K : Value → World → Prop}
theorem call_extern {g : FuncId} {fn : Func} {e : Array Value → Sem Value} (hf : P.funcs[g]? = some fn) (hn : (fn.name == "runtime.NumGoroutine") = false) (hb : fn.body = none) (h1 : Extern.findNext fn = none) (h2 : Extern.find fn = some e)
    {args : List Value} (H : SemA P (e args.toArray) w K) : call P g args w K := by
  intro c hc
  obtain ⟨v, c', hr, hk⟩ := H c hc
  refine ⟨.value v, c', ?_, hk⟩
  have hn' : ¬ fn.name = "runtime.NumGoroutine" := by simpa using hn
  simp [callFunc, program, Sem.run, hf, hn', hb, h1, h2, mark, hr]
theorem get_map {α β : Type} {f : α → β} {l : List α} {i : Nat} (hi : i < l.length) : (l.map f)[i]? = some (f l[i]) := by simp [hi]
end Go.Proofs.YtjompmflommadaaGreatDoor


set_option linter.unusedVariables false
namespace Go.Proofs.YtjompmflommadaaGreatDoor
open Go Go.Vc
variable {w : World} {K : Value → World → Prop}
structure FSS (w : World) (v : Value) (m : List (List Nat)) : Prop where
  ex : ∃ vs : List Value, Row 1 w v m.length vs ∧ ∀ i (hi : i < m.length), ∃ x, vs[i]? = some x ∧ FS w x m[i]
theorem FSS.ext {w w' : World} {v : Value} {m : List (List Nat)} (h : FSS w v m) (he : Ext w w') : FSS w' v m := by
  obtain ⟨vs, h1, h2⟩ := h.ex
  exact ⟨vs, h1.ext he, fun i hi => let ⟨x, hx, hf⟩ := h2 i hi; ⟨x, hx, hf.ext he⟩⟩
theorem FSS.bound {w : World} {v : Value} {m : List (List Nat)} (h : FSS w v m) : m.length ≤ 9223372036854775807 := by
  obtain ⟨vs, h1, _⟩ := h.ex
  have := h1.bound; simp only [maxLen] at this; omega
def matB (m : List (List Nat)) : Bool := m.all (fun r => decide (r.length = m.length) && r.all finB) && decide (1 ≤ m.length ∧ m.length ≤ 8)
def total (m : List (List Nat)) : Nat := (m.map List.length).sum
end Go.Proofs.YtjompmflommadaaGreatDoor


set_option linter.unusedVariables false
namespace Go.Proofs.YtjompmflommadaaGreatDoor
open Go Go.Vc
variable {w : World} {K : Value → World → Prop}
def Leq (a b : List Nat) : Prop := a.length = b.length ∧ ∀ i (h1 : i < a.length) (h2 : i < b.length), Feq a[i] b[i]
theorem Leq.refl (a : List Nat) : Leq a a := ⟨rfl, fun i h1 h2 => .inl rfl⟩
def LLeq (a b : List (List Nat)) : Prop := a.length = b.length ∧ ∀ i (h1 : i < a.length) (h2 : i < b.length), Leq a[i] b[i]
theorem LLeq.refl (a : List (List Nat)) : LLeq a a := ⟨rfl, fun i h1 h2 => Leq.refl _⟩
abbrev OS (w : World) (base : Nat) (v : Value) (l : List Nat) : Prop := w.ownsRow base t_float32 1 v l.length (l.map fl)
theorem OS.FS {base : Nat} {v : Value} {l : List Nat} (h : OS w base v l) (hb : ∀ b ∈ l, b < 4294967296) : FS w v l := ⟨owns_Row h, hb⟩
theorem replicate_set_take {α : Type} (l : List α) (z : α) (i : Nat) (hi : i < l.length) : (l.take i ++ List.replicate (l.length - i) z).set i l[i] = l.take (i + 1) ++ List.replicate (l.length - (i + 1)) z := by
  apply List.ext_getElem?
  intro j
  rw [List.getElem?_set]
  simp only [List.getElem?_append, List.length_take, List.getElem?_take, List.getElem?_replicate, List.length_append, List.length_replicate]
  by_cases h1 : i = j
  · subst h1
    simp [Nat.min_eq_left (Nat.le_of_lt hi), hi, show min (i + 1) l.length = i + 1 by omega]
    omega
  · rw [if_neg h1]
    by_cases h2 : j < i
    · simp [show j < min i l.length by omega, show j < min (i + 1) l.length by omega, h2, show j < i + 1 by omega]
    · simp [show ¬ j < min i l.length by omega, show ¬ j < min (i + 1) l.length by omega, show min i l.length = i by omega, show min (i + 1) l.length = i + 1 by omega]
      by_cases h3 : j - i < l.length - i
      · simp [h2, h3, show ¬ j < i + 1 by omega, show j - (i + 1) < l.length - (i + 1) by omega]
      · simp [h2, h3, show ¬ j < i + 1 by omega, show ¬ j - (i + 1) < l.length - (i + 1) by omega]
theorem oneCell_fl (b : Nat) : (fl b).oneCell' = true := rfl
end Go.Proofs.YtjompmflommadaaGreatDoor


set_option linter.unusedVariables false
namespace Go.Proofs.YtjompmflommadaaGreatDoor
open Go Go.Vc
variable {w : World} {K : Value → World → Prop}
theorem owns_ne {b1 b2 : Nat} {e1 e2 : TypeId} {s1 s2 n1 n2 : Nat} {v1 v2 : Value} {xs ys : List Value} (h1 : w.ownsRow b1 e1 s1 v1 n1 xs) (h2 : w.ownsRow b2 e2 s2 v2 n2 ys) (he : e1 ≠ e2) : v1.ownBlock = none ∨ v1.ownBlock ≠ v2.ownBlock := by
  rcases h1.2 with ⟨rfl, _⟩ | ⟨g, cap, cur, rfl, _, hg, _⟩
  · exact .inl rfl
  · rcases h2.2 with ⟨rfl, _⟩ | ⟨g', cap', cur', rfl, _, hg', _⟩
    · exact .inr (by simp [Value.ownBlock])
    · refine .inr ?_
      simp only [Value.ownBlock, ne_eq, Option.some.injEq]
      rintro rfl
      rw [hg] at hg'
      simp only [Option.some.injEq, Obj.cells.injEq] at hg'
      exact he hg'.2.1
structure OM (w : World) (lo hi : Nat) (v : Value) (m : List (List Nat)) (vs : List Value) : Prop where
  outer : w.ownsRow lo t_s_float32 1 v m.length vs
  rows : ∀ (i : Nat) (hl : i < m.length), ∃ x : Value, vs[i]? = some x ∧ OS w lo x m[i] ∧ ∀ k, x.ownBlock = some k → k < hi
  apart : ∀ (i j : Nat) (x y : Value), i < j → vs[i]? = some x → vs[j]? = some y → x.ownBlock = none ∨ x.ownBlock ≠ y.ownBlock
  top : ∀ k, v.ownBlock = some k → k < hi
def bits (m : List (List Nat)) : Prop := ∀ r ∈ m, ∀ b ∈ r, b < 4294967296
theorem OM.FSS {lo hi : Nat} {v : Value} {m : List (List Nat)} {vs : List Value} (h : OM w lo hi v m vs) (hb : bits m) : FSS w v m :=
  ⟨vs, owns_Row h.outer, fun i hi => let ⟨x, hx, ho, _⟩ := h.rows i hi; ⟨x, hx, ho.FS (hb _ (List.getElem_mem hi))⟩⟩
theorem OM.ext {lo hi : Nat} {v : Value} {m : List (List Nat)} {vs : List Value} {w' : World} (h : OM w lo hi v m vs) (he : Ext w w') : OM w' lo hi v m vs :=
  ⟨owns_ext h.outer he, fun i hi => let ⟨x, hx, ho, hk⟩ := h.rows i hi; ⟨x, hx, owns_ext ho he, hk⟩, h.apart, h.top⟩
theorem OM.chg {lo hi lo' hi' : Nat} {v : Value} {m : List (List Nat)} {vs : List Value} {w' : World} (h : OM w lo hi v m vs) (hc : Chg lo' hi' w w') (hb : hi ≤ lo' ∨ hi' ≤ lo) : OM w' lo hi v m vs :=
  ⟨(OwnR.chg ⟨h.outer, h.top⟩ hc hb).own, fun i hi => let ⟨x, hx, ho, hk⟩ := h.rows i hi; ⟨x, hx, (OwnR.chg ⟨ho, hk⟩ hc hb).own, hk⟩, h.apart, h.top⟩
def mk (k : Int) (n : Nat) : List Nat := (List.range n).map (fun j => floatOfInt .f32 (k + (j : Nat)))
@[simp] theorem mk_length (k : Int) (n : Nat) : (mk k n).length = n := by simp [mk]
def mkM (k : Int) (m : List (List Nat)) : List (List Nat) := (List.range m.length).map (fun i => mk (k + total (m.take i)) (m.getD i []).length)
@[simp] theorem mkM_length (k : Int) (m : List (List Nat)) : (mkM k m).length = m.length := by simp [mkM]
end Go.Proofs.YtjompmflommadaaGreatDoor


set_option linter.unusedVariables false
namespace Go.Proofs.YtjompmflommadaaGreatDoor
open Go Go.Vc
variable {w : World} {K : Value → World → Prop}
def mid (k : Int) (m : List (List Nat)) (i : Nat) : List (List Nat) := (List.range m.length).map (fun j => if j < i then mk (k + total (m.take j)) (m.getD j []).length else m.getD j [])
@[simp] theorem mid_length (k : Int) (m : List (List Nat)) (i : Nat) : (mid k m i).length = m.length := by simp [mid]
end Go.Proofs.YtjompmflommadaaGreatDoor


set_option linter.unusedVariables false
namespace Go.Proofs.YtjompmflommadaaGreatDoor
open Go Go.Vc
variable {w : World} {K : Value → World → Prop}
theorem FS.at {v : Value} {l : List Nat} (h : FS w v l) {i : Nat} (hi : i < l.length) {K : Value → Prop} (H : K (fl l[i])) : ixa P t_s_float32 v (.int .i64 (i : Int)) w (fun a => ld P t_float32 a w K) :=
  h.row.at1 (get_map hi) u_s_float32 i_float32 u_float32 rfl H
theorem OS.below {B base : Nat} {v : Value} {l : List Nat} {w0 w' : World} (h : OS w base v l) (hb : RowKit.Below B w0 w) (hg : w.grownBy w' v.ownBlock) (hB : B ≤ w0.heap.size) (hbase : B ≤ base) : RowKit.Below B w0 w' :=
  hb.grown hg (Nat.le_trans hB hb.size) fun k hk => Nat.le_trans hbase (h.lt k hk).1
theorem OS.nil (w : World) (base : Nat) : OS w base (.slice none 0 0) [] := ⟨rfl, .inl ⟨rfl, rfl⟩⟩
structure MV (w : World) (a v : Value) (m : List (List Nat)) (x : List Nat) : Prop where
  fa : FSS w a m
  fv : FS w v x
  len : ∀ r ∈ m, r.length = x.length
  fm : ∀ r ∈ m, r.all finB = true
  fx : x.all finB = true
  small : m.length ≤ 8
theorem MV.ext {w' : World} {a v : Value} {m : List (List Nat)} {x : List Nat} (h : MV w a v m x) (he : Ext w w') : MV w' a v m x := ⟨h.fa.ext he, h.fv.ext he, h.len, h.fm, h.fx, h.small⟩
end Go.Proofs.YtjompmflommadaaGreatDoor


set_option linter.unusedVariables false
namespace Go.Proofs.YtjompmflommadaaGreatDoor
open Go Go.Vc
variable {w : World} {K : Value → World → Prop}
theorem FS.one {v : Value} {l : List Nat} (h : FS w v l) : v.oneCell' = true := by
  obtain ⟨_, _, a, cap, rfl, _⟩ := h.row
  rfl
theorem matB_parts {m : List (List Nat)} (h : matB m = true) : (∀ r ∈ m, r.length = m.length ∧ r.all finB = true) ∧ 1 ≤ m.length ∧ m.length ≤ 8 := by
  unfold matB at h
  simp only [Bool.and_eq_true, decide_eq_true_eq] at h
  refine ⟨fun r hr => ?_, h.2.1, h.2.2⟩
  have := List.all_eq_true.1 h.1 r hr
  simpa using this
end Go.Proofs.YtjompmflommadaaGreatDoor


set_option linter.unusedVariables false
namespace Go.Proofs.YtjompmflommadaaGreatDoor
open Go Go.Vc
variable {w : World} {K : Value → World → Prop}
section
variable {lo hi : Nat} {v : Value} {m : List (List Nat)} {vs : List Value}
theorem OM.vlen (h : OM w lo hi v m vs) : vs.length = m.length := by have := h.outer.1; omega
theorem OM.row {w' : World} {i : Nat} {r : Value} {l : List Nat} (h : OM w lo hi v m vs) (hr : vs[i]? = some r) (hg : w.grownBy w' r.ownBlock) (ho : OS w' lo r l) : OM w' lo hi v (m.set i l) vs ∧ Chg lo hi w w' := by
  have hi' : i < m.length := by
    have := (List.getElem?_eq_some_iff.1 hr).1
    have := h.vlen; omega
  obtain ⟨x, hx, hox, hk⟩ := h.rows i hi'
  rw [hr] at hx; cases hx
  refine ⟨⟨?_, fun j hj => ?_, h.apart, h.top⟩, Chg.grown hg fun k hk' => ⟨(hox.lt k hk').1, hk k hk'⟩⟩
  · rw [List.length_set]
    exact h.outer.kept hg (owns_ne h.outer hox (by decide))
  · have hj' : j < m.length := by simpa using hj
    by_cases hji : j = i
    · subst hji
      refine ⟨r, hr, ?_, hk⟩
      rw [List.getElem_set_self]; exact ho
    · obtain ⟨r', hr', hor', hrk'⟩ := h.rows j hj'
      refine ⟨r', hr', ?_, hrk'⟩
      have hne : r'.ownBlock = none ∨ r'.ownBlock ≠ r.ownBlock := by
        rcases Nat.lt_or_ge j i with hlt | hge
        · exact h.apart j i r' r hlt hr' hr
        · rcases h.apart i j r r' (by omega) hr hr' with h | h
          · cases hb : r'.ownBlock with
            | none => exact .inl rfl
            | some q => exact .inr (by rw [h]; simp)
          · exact .inr fun e => h e.symm
      rw [List.getElem_set_ne (by omega)]
      exact hor'.kept hg hne
theorem OM.put {i j : Nat} {r : Value} {x : Nat} {K : World → Prop} (h : OM w lo hi v m vs) (hr : vs[i]? = some r) (hi' : i < m.length) (hj : j < m[i].length) (H : ∀ w', OM w' lo hi v (m.set i (m[i].set j x)) vs → Chg lo hi w w' → K w') :
    ixa P t_s_float32 r (.int .i64 (j : Int)) w (fun a => sto P t_float32 a (fl x) w K) := by
  obtain ⟨r', hr', ho, hk⟩ := h.rows i hi'
  rw [hr] at hr'; cases hr'
  refine owns_set ho hj (oneCell_fl _) u_s_float32 i_float32 fun w' ho' hg => ?_
  have e : OS w' lo r (m[i].set j x) := by
    show w'.ownsRow lo t_float32 1 r (m[i].set j x).length ((m[i].set j x).map fl)
    rw [List.length_set, List.map_set]; exact ho'
  obtain ⟨q1, q2⟩ := h.row hr hg e
  exact H w' q1 q2
theorem OM.nil (w : World) (lo hi : Nat) : OM w lo hi (.slice none 0 0) [] [] := ⟨⟨rfl, .inl ⟨rfl, rfl⟩⟩, fun i hi => by simp at hi, fun i j x y _ hx => by simp at hx, fun k hk => by cases hk⟩
theorem OM.mono {lo' hi' : Nat} (h : OM w lo hi v m vs) (h1 : lo' ≤ lo) (h2 : hi ≤ hi') : OM w lo' hi' v m vs :=
  ⟨owns_base h.outer h1, fun i hi => let ⟨x, hx, ho, hk⟩ := h.rows i hi; ⟨x, hx, owns_base ho h1, fun k hkk => Nat.lt_of_lt_of_le (hk k hkk) h2⟩, h.apart, fun k hk => Nat.lt_of_lt_of_le (h.top k hk) h2⟩
end
def tab (n : Nat) (f : Nat → Nat → Nat) : List (List Nat) := (List.range n).map fun i => (List.range n).map fun j => f i j
@[simp] theorem tab_length (n : Nat) (f : Nat → Nat → Nat) : (tab n f).length = n := by simp [tab]
def upd (f : Nat → Nat → Nat) (i j x : Nat) : Nat → Nat → Nat := fun p q => if p = i ∧ q = j then x else f p q
def cell (m : List (List Nat)) (i j : Nat) : Nat := (m.getD i []).getD j 0
def square (n : Nat) (m : List (List Nat)) : Prop := m.length = n ∧ ∀ r ∈ m, r.length = n
theorem square.row {n : Nat} {m : List (List Nat)} (h : square n m) {i : Nat} (hi : i < m.length) : m[i].length = n := h.2 _ (List.getElem_mem hi)
end Go.Proofs.YtjompmflommadaaGreatDoor


set_option linter.unusedVariables false
namespace Go.Proofs.YtjompmflommadaaGreatDoor
open Go Go.Vc
variable {w : World} {K : Value → World → Prop}
end Go.Proofs.YtjompmflommadaaGreatDoor


set_option linter.unusedVariables false
namespace Go.Proofs.YtjompmflommadaaGreatDoor
open Go Go.Vc
variable {w : World} {K : Value → World → Prop} {lo hi : Nat} {v : Value}
structure BxR (w : World) (lo hi : Nat) (t : TypeId) (p : Value) (cs : List Value) : Prop where
  own : Bx w lo t p cs
  top : ∀ k, blk p = some k → k < hi
theorem BxR.ext {w' : World} {t : TypeId} {p : Value} {cs : List Value} (h : BxR w lo hi t p cs) (he : Ext w w') : BxR w' lo hi t p cs := ⟨h.own.ext he, h.top⟩
theorem BxR.chg {w' : World} {lo' hi' : Nat} {t : TypeId} {p : Value} {cs : List Value} (h : BxR w lo hi t p cs) (hc : Chg lo' hi' w w') (hd : hi ≤ lo' ∨ hi' ≤ lo) : BxR w' lo hi t p cs := by
  obtain ⟨⟨g, h1, h2, h3⟩, ht⟩ := h
  have ht' := ht
  subst h1
  have := ht g rfl
  exact ⟨⟨g, rfl, h2, by rw [hc.block g (heap_lt h3) (by omega)]; exact h3⟩, ht⟩
theorem BxR.of {t : TypeId} {p : Value} {cs : List Value} (h : Bx w lo t p cs) : BxR w lo w.heap.size t p cs := ⟨h, fun k hk => (h.blk_lt hk).2⟩
theorem BxR.grown {w' : World} {t : TypeId} {p : Value} {cs : List Value} (h : BxR w lo hi t p cs) (hg : w.grownBy w' (blk p)) : Chg lo hi w w' := Chg.grown hg fun k hk => ⟨(h.own.blk_lt hk).1, h.top k hk⟩
abbrev I_Float32S := FS
def O_Float32S (w : World) (lo hi : Nat) (v : Value) (l : List Nat) : Prop := OwnR w lo hi t_float32 1 v l.length (l.map fl) ∧ ∀ b ∈ l, b < 4294967296
theorem O_Float32S.ext {l : List Nat} {w' : World} (h : O_Float32S w lo hi v l) (he : Ext w w') : O_Float32S w' lo hi v l := ⟨h.1.ext he, h.2⟩
theorem O_Float32S.chg {l : List Nat} {w' : World} {lo' hi' : Nat} (h : O_Float32S w lo hi v l) (hc : Chg lo' hi' w w') (hd : hi ≤ lo' ∨ hi' ≤ lo) : O_Float32S w' lo hi v l := ⟨h.1.chg hc hd, h.2⟩
theorem O_Float32S.I {l : List Nat} (h : O_Float32S w lo hi v l) : I_Float32S w v l := OS.FS h.1.own h.2
def A_Float32SS (w : World) (v : Value) (m : List (List Nat)) : Prop := FSS w v m ∧ bits m
abbrev I_Float32SS := A_Float32SS
theorem A_Float32SS.ext {m : List (List Nat)} {w' : World} (h : A_Float32SS w v m) (he : Ext w w') : A_Float32SS w' v m := ⟨h.1.ext he, h.2⟩
def O_Float32SS (w : World) (lo hi : Nat) (v : Value) (m : List (List Nat)) : Prop := (∃ vs, OM w lo hi v m vs) ∧ bits m
theorem O_Float32SS.ext {m : List (List Nat)} {w' : World} (h : O_Float32SS w lo hi v m) (he : Ext w w') : O_Float32SS w' lo hi v m := ⟨let ⟨vs, h⟩ := h.1; ⟨vs, h.ext he⟩, h.2⟩
theorem O_Float32SS.chg {m : List (List Nat)} {w' : World} {lo' hi' : Nat} (h : O_Float32SS w lo hi v m) (hc : Chg lo' hi' w w') (hd : hi ≤ lo' ∨ hi' ≤ lo) : O_Float32SS w' lo hi v m := ⟨let ⟨vs, h⟩ := h.1; ⟨vs, h.chg hc hd⟩, h.2⟩
theorem O_Float32SS.I {m : List (List Nat)} (h : O_Float32SS w lo hi v m) : I_Float32SS w v m := ⟨let ⟨_, h1⟩ := h.1; h1.FSS h.2, h.2⟩
end Go.Proofs.YtjompmflommadaaGreatDoor


set_option linter.unusedVariables false
namespace Go.Proofs.YtjompmflommadaaGreatDoor
open Go Go.Vc
open Go.ChangeShapes Go.WideShapes Go.ChangeAt
section
variable {H : Type} {enc : TypeId × Value → H} {w : World} {base : Nat} {spare : Nat → Bool} {held : Bool} {fuel : Nat}
theorem open_row {t e : TypeId} {v : Value} {x : DataW H × List MemPlace} (hu : P.underlying t = some (.slice e)) (hc : P.cellsOf e = 1) (h : DataW.trod enc P w base (fun _ => true) held fuel t [v] = some x) :
    ∃ (n : Nat) (vs : List Value), Row 1 w v n vs ∧ ∀ (i : Nat) (u : Value), vs[i]? = some u → ∃ m y, DataW.trod enc P w base (fun _ => true) held m e [u] = some y := by
  rcases Deep.open_slice1 hu hc h with ⟨hcs, _⟩ | ⟨a, len, cap, m, k, V, D, Pl, hcs, hb, hl, hm, hmm, _, hx⟩
  · obtain rfl : v = .slice none 0 0 := by simpa using hcs
    exact ⟨0, [], Row.nil 1 w, fun i u hu => by simp at hu⟩
  · obtain rfl : v = .slice (some a) len cap := by simpa using hcs
    simp only [if_true] at hmm
    subst hmm
    refine ⟨len, (List.range len).map V, ⟨by simp, by omega, some a, _, rfl, fun hn => ?_⟩, fun i u hu => ?_⟩
    · have h0 := (hx 0 (by omega)).1
      obtain ⟨b, o, sp⟩ := a
      have hsp : sp = none := by
        have := World.cell?_spot h0
        simpa [Addr.add] using this
      subst hsp
      refine ⟨b, o, rfl, fun j u hu => ?_⟩
      have hj : j < len := by
        have := (List.getElem?_eq_some_iff.1 hu).1
        simpa using this
      have := (hx j (by omega)).1
      rw [Addr.add_lit] at this
      rw [this]
      simp [hj] at hu
      rw [hu]
    · have hj : i < len := by
        have := (List.getElem?_eq_some_iff.1 hu).1
        simpa using this
      simp [hj] at hu
      subst hu
      exact ⟨k, _, (hx i (by omega)).2⟩
theorem list_of {α β : Type} {p : α → β → Prop} : ∀ {l : List α}, (∀ (i : Nat) (u : α), l[i]? = some u → ∃ b, p u b) → ∃ bs : List β, bs.length = l.length ∧ ∀ (i : Nat) (u : α), l[i]? = some u → ∃ b, bs[i]? = some b ∧ p u b
  | [], _ => ⟨[], rfl, fun i u h => by simp at h⟩
  | a :: l, h => by
    obtain ⟨b, hb⟩ := h 0 a rfl
    obtain ⟨bs, h1, h2⟩ := list_of (l := l) (fun i u hu => h (i + 1) u (by simpa using hu))
    refine ⟨b :: bs, by simp [h1], fun i u hu => ?_⟩
    cases i with
    | zero => simp at hu; subst hu; exact ⟨b, rfl, hb⟩
    | succ i => obtain ⟨c, hc1, hc2⟩ := h2 i u (by simpa using hu); exact ⟨c, by simpa using hc1, hc2⟩
end
theorem FS.N {w : World} {v : Value} {l : List Nat} (h : FS w v l) : FS (N w) v l := ⟨h.row, h.lt⟩
theorem FSS.N {w : World} {v : Value} {m : List (List Nat)} (h : FSS w v m) : FSS (Vc.N w) v m := by
  obtain ⟨vs, h1, h2⟩ := h.ex
  exact ⟨vs, h1, fun i hi => let ⟨x, hx, hf⟩ := h2 i hi; ⟨x, hx, hf.N⟩⟩
theorem A_Float32SS.N {w : World} {v : Value} {m : List (List Nat)} (h : A_Float32SS w v m) : A_Float32SS (Vc.N w) v m := ⟨h.1.N, h.2⟩
theorem below_N {w c : World} (h : Ext (Vc.N w) (Vc.N c)) : RowKit.Below w.heap.size w c := by
  have h1 := RowKit.Below.os h
  have h2 := RowKit.Below.tape h
  have h3 := RowKit.Below.output h
  have h4 := Ext.size h
  have h5 := Ext.block h
  exact ⟨h1, h2, h3, h4, h5⟩
theorem own : ownKnob P.godebug = none := by kernel_rfl
theorem laidOut : laidOutB P = true := by kernel_rfl
theorem calls_of {f : FuncId} {fn : Func} {args : List Value} {w : World} {K : Value → World → Prop} (hf : P.funcs[f]? = some fn) (hn : (fn.name == "runtime.NumGoroutine") = false) (hb : fn.body.isSome = true) (h : call P f args (N w) K) :
    Calls P f args.toArray w (fun e w' => ∃ v, e = .returned v ∧ K v (N w')) := by
  obtain ⟨n, c', hr, hk⟩ := h w rfl
  have hn' : ¬ fn.name = "runtime.NumGoroutine" := by simpa using hn
  cases hbb : fn.body with
  | none => rw [hbb] at hb; cases hb
  | some c =>
    have : (callFunc f args.toArray).run P w = .ok (.enter f args.toArray) w := by simp [callFunc, program, Sem.run, hf, hn', hbb]
    rw [this] at hr
    cases hr
    exact hk w rfl
end Go.Proofs.YtjompmflommadaaGreatDoor


set_option linter.unusedVariables false
namespace Go.Proofs.YtjompmflommadaaGreatDoor
open Go Go.Vc
variable {w : World} {K : Value → World → Prop}
def Mg (w : World) (v : Value) (n : Nat) : Prop := ∃ l, IR .u32 w v l ∧ Norm 4294967296 l ∧ val 4294967296 l = n ∧ Ty w v.ownBlock t_uint32
def MgO (w : World) (base : Nat) (v : Value) (n : Nat) : Prop := ∃ l, OD .u32 t_uint32 w base v l ∧ Norm 4294967296 l ∧ val 4294967296 l = n
theorem Ty_ext {w w' : World} {k : Option Nat} {e : TypeId} (h : Ty w k e) (he : Ext w w') : Ty w' k e := fun b hb => let ⟨c, f, hc⟩ := h b hb; ⟨c, f, by rw [he.block b (heap_lt hc)]; exact hc⟩
theorem Ty_none (w : World) (e : TypeId) : Ty w none e := fun b hb => by cases hb
theorem MgO.Mg {base n : Nat} {v : Value} (h : MgO w base v n) : Mg w v n := let ⟨l, h1, h2, h3⟩ := h; ⟨l, h1.IR, h2, h3, Ty.owns h1⟩
theorem Mg.ext {w' : World} {n : Nat} {v : Value} (h : Mg w v n) (he : Ext w w') : Mg w' v n := let ⟨l, h1, h2, h3, h4⟩ := h; ⟨l, h1.ext he, h2, h3, Ty_ext h4 he⟩
theorem Mg.nil (w : World) : Mg w (.slice none 0 0) 0 := ⟨[], IR.nil _ _, Norm.nil _, rfl, Ty_none _ _⟩
theorem MgO.nil (w : World) (base : Nat) : MgO w base (.slice none 0 0) 0 := ⟨[], OD.nil _ _ _ _, Norm.nil _, rfl⟩
theorem MgO.ext {w' : World} {base n : Nat} {v : Value} (h : MgO w base v n) (he : Ext w w') : MgO w' base v n := let ⟨l, h1, h2, h3⟩ := h; ⟨l, owns_ext h1 he, h2, h3⟩
theorem MgO.low {base base' n : Nat} {v : Value} (h : MgO w base v n) (hb : base' ≤ base) : MgO w base' v n := let ⟨l, h1, h2, h3⟩ := h; ⟨l, owns_base h1 hb, h2, h3⟩
theorem dig_len {l : List Nat} (h : Norm 4294967296 l) (hb : bl (val 4294967296 l) ≤ 1099511627776) : l.length ≤ 34359738369 := by
  have := (Norm.len_le (s := 32) (by decide) h).1
  have e : val (2 ^ 32) l = val 4294967296 l := rfl
  rw [e] at this
  omega
theorem w_u32 (x : Nat) : IntKind.u32.wrap (x : Int) = ((x % 4294967296 : Nat) : Int) := by simp [IntKind.wrap, IntKind.bits, IntKind.signed]
theorem w_u64 (x : Nat) : IntKind.u64.wrap (x : Int) = ((x % 18446744073709551616 : Nat) : Int) := by simp [IntKind.wrap, IntKind.bits, IntKind.signed]
theorem w_u64' {x : Nat} (h : x < 18446744073709551616) : IntKind.u64.wrap (x : Int) = (x : Int) := by rw [w_u64, Nat.mod_eq_of_lt h]
section
variable {t : TypeId} {cx cy : Bool} {k yk : IntKind} {a b s : Nat} {c : Int} {K : Value → Prop}
theorem bin_shrN (hs : s ≤ k.bits) (hc : c = (s : Int) := by rfl) : bin P .shr t cx cy (.int k (a : Int)) (.int yk c) w K = K (.int k ((a / 2 ^ s : Nat) : Int)) := by
  subst hc
  rw [bin_shr _ _ _ _ _ _ _ _ (by omega)]
  congr 2
  have e : min ((s : Int).toNat) k.bits = s := by rw [Int.toNat_natCast]; omega
  rw [e, Int.fdiv_eq_ediv_of_nonneg _ (Int.pow_nonneg (by decide))]
  simp
theorem bin_addN (h : a + b < 18446744073709551616) : bin P .add t cx cy (.int .u64 (a : Int)) (.int .u64 (b : Int)) w K = K (.int .u64 ((a + b : Nat) : Int)) := by
  rw [bin_add, show (a : Int) + b = ((a + b : Nat) : Int) by omega, w_u64' h]
theorem bin_mulN (h : a * b < 18446744073709551616) : bin P .mul t cx cy (.int .u64 (a : Int)) (.int .u64 (b : Int)) w K = K (.int .u64 ((a * b : Nat) : Int)) := by
  rw [bin_mul, show (a : Int) * b = ((a * b : Nat) : Int) by simp, w_u64' h]
theorem bin_addI (h : a + b ≤ 9223372036854775807) : bin P .add t cx cy (.int .i64 (a : Int)) (.int .i64 (b : Int)) w K = K (.int .i64 ((a + b : Nat) : Int)) := by
  rw [bin_add, show (a : Int) + b = ((a + b : Nat) : Int) by omega, wrap_i64 (by omega) (by omega)]
theorem bin_addI1 (h : a + b ≤ 9223372036854775807) (hc : c = (b : Int) := by rfl) : bin P .add t cx cy (.int .i64 (a : Int)) (.int .i64 c) w K = K (.int .i64 ((a + b : Nat) : Int)) := by
  subst hc; exact bin_addI h
theorem bin_subI1 (h : b ≤ a) (ha : a ≤ 9223372036854775807) (hc : c = (b : Int) := by rfl) : bin P .sub t cx cy (.int .i64 (a : Int)) (.int .i64 c) w K = K (.int .i64 ((a - b : Nat) : Int)) := by
  subst hc
  rw [bin_sub, show (a : Int) - b = ((a - b : Nat) : Int) by omega, wrap_i64 (by omega) (by omega)]
theorem cnv_32_64 : cnv P t_uint32 t_uint64 (.int .u32 (a : Int)) w K = K (.int .u64 ((a % 18446744073709551616 : Nat) : Int)) := by
  rw [cnv_int_int u_uint32 u_uint64, w_u64]
theorem cnv_32_64' (h : a < 4294967296) : cnv P t_uint32 t_uint64 (.int .u32 (a : Int)) w K = K (.int .u64 (a : Int)) := by
  rw [cnv_32_64, Nat.mod_eq_of_lt (by omega)]
theorem cnv_64_32 : cnv P t_uint64 t_uint32 (.int .u64 (a : Int)) w K = K (.int .u32 ((a % 4294967296 : Nat) : Int)) := by
  rw [cnv_int_int u_uint64 u_uint32, w_u32]
end
theorem trim_snoc_zero : ∀ l : List Nat, trim (l ++ [0]) = trim l
  | [] => by simp [trim]
  | d :: l => by rw [List.cons_append, trim, trim, trim_snoc_zero l]
theorem trim_last {l : List Nat} (h : l.getLast? ≠ some 0) : trim l = l := by
  induction l with
  | nil => rfl
  | cons d l ih =>
    rw [trim]
    cases l with
    | nil =>
      have : d ≠ 0 := by simpa using h
      rw [if_neg (fun q => this q.1)]; rfl
    | cons e l =>
      have h' : (e :: l).getLast? ≠ some 0 := by simpa using h
      rw [ih h', if_neg (fun q => by simp at q)]
theorem c_magTrim {v : Value} {l : List Nat} (h : IR .u32 w v l)
    (H : ∀ v', IR .u32 w v' (trim l) → (∀ base, OD .u32 t_uint32 w base v l → OD .u32 t_uint32 w base v' (trim l)) → (v'.ownBlock = none ∨ v'.ownBlock = v.ownBlock) → K v' w) : call P f_impl_magTrim [v] w K := by
  refine I_impl_magTrim ?_
  unfold D_impl_magTrim
  have hb := h.bound
  refine ⟨fun m x w' => w' = w ∧ m ≤ l.length ∧ IR .u32 w x (l.take m) ∧ (∀ base, OD .u32 t_uint32 w base v l → OD .u32 t_uint32 w base x (l.take m)) ∧ trim (l.take m) = trim l ∧ (x.ownBlock = none ∨ x.ownBlock = v.ownBlock),
    ⟨l.length, rfl, Nat.le_refl _, by rw [List.take_length]; exact h, fun base ho => by rw [List.take_length]; exact ho, by rw [List.take_length], .inr rfl⟩, ?_⟩
  rintro m x junk w' ⟨rfl, hm, hx, ho, ht, hbk⟩
  have hl : (l.take m).length = m := by rw [List.length_take]; omega
  rw [hx.row.len u_s_uint32, bin_gtr, hl]
  refine ⟨_, fun _ _ _ h => h, ?_⟩
  have fin : (l.take m).getLast? ≠ some 0 → K x w' := fun hz => by
    rw [trim_last hz] at ht
    exact H x (by rw [← ht]; exact hx) (fun base hq => by rw [← ht]; exact ho base hq) hbk
  refine grd_split (fun h1 => ?_) (fun h1 => ?_)
  · simp only [decide_eq_true_eq] at h1
    have hm0 : 0 < m := by omega
    rw [hx.row.len u_s_uint32, hl, bin_subI1 (b := 1) (by omega) (by omega)]
    have hi : m - 1 < (l.take m).length := by omega
    refine hx.at hi u_s_uint32 i_uint32 u_uint32 ?_
    rw [bin_eql, pick_bool]
    have hlast : (l.take m).getLast? = some (l.take m)[m - 1] := by
      rw [List.getLast?_eq_getElem?, hl]; exact List.getElem?_eq_getElem hi
    have htk : l.take m = l.take (m - 1) ++ [(l.take m)[m - 1]] := by
      have := List.take_succ_eq_append_getElem (l := l) (i := m - 1) (by omega)
      rw [show m - 1 + 1 = m by omega] at this
      rw [List.getElem_take]; exact this
    rw [decide_eq_true h1, cond_true]
    refine cnd_dec (fun hz => ?_) (fun hz => ?_)
    · have hz' : (l.take m)[m - 1] = 0 := by simpa using hz
      rw [hz'] at htk
      rw [hx.row.len u_s_uint32, hl, bin_subI1 (b := 1) (by omega) (by omega)]
      refine Row.sli_h hx.row hx.cap u_s_uint32 i_uint32 (by omega) fun v' r1 r2 r3 r4 => ?_
      have htt : (l.take m).take (m - 1) = l.take (m - 1) := by rw [List.take_take]; congr 1; omega
      have hl' : (l.take (m - 1)).length = m - 1 := by rw [List.length_take]; omega
      rw [← List.map_take, htt] at r1 r3
      refine ⟨m - 1, by omega, rfl, by omega, ⟨by rw [hl']; exact r1, r2⟩, fun base hq => ?_, ?_, ?_⟩
      · have := r3 base (ho base hq)
        unfold OD; rw [hl']; exact this
      · rw [← ht, htk, trim_snoc_zero]
      · rcases r4 with rfl | r4
        · exact .inl rfl
        · rw [r4]; exact hbk
    · exact fin (by rw [hlast]; simpa using hz)
  · rw [h1, Bool.not_true, pick_bool]
    simp only [Bool.not_true, decide_eq_false_iff_not] at h1
    have hm0 : m = 0 := by omega
    subst hm0
    exact fin (by simp)
theorem c_trimO {base : Nat} {v : Value} {l : List Nat} (h : OD .u32 t_uint32 w base v l) (hd : Dig 4294967296 l) (H : ∀ v', MgO w base v' (val 4294967296 l) → K v' w) : call P f_impl_magTrim [v] w K :=
  c_magTrim h.IR fun v' h1 h2 _ => H v' ⟨trim l, h2 base h, Norm.trim hd, val_trim _ _⟩
def cmpN (a b : Nat) : Int := if a < b then -1 else if b < a then 1 else 0
theorem c_isNaN_int {v : Value} {a : Int} (H : K (.bool false) w) : call P f_cmp_isNaN_int [.int .i64 a] w K := by
  refine I_cmp_isNaN_int ?_
  unfold D_cmp_isNaN_int
  rw [bin_neq]; simpa using H
theorem c_isNaN_u32 {v : Value} {a : Int} (H : K (.bool false) w) : call P f_cmp_isNaN_uint32 [.int .u32 a] w K := by
  refine I_cmp_isNaN_uint32 ?_
  unfold D_cmp_isNaN_uint32
  rw [bin_neq]; simpa using H
theorem c_Compare_int {a b : Nat} (H : K (.int .i64 (cmpN a b)) w) : call P f_cmp_Compare_int [.int .i64 (a : Int), .int .i64 (b : Int)] w K := by
  refine I_cmp_Compare_int ?_
  unfold D_cmp_Compare_int
  refine c_isNaN_int (v := undef) (c_isNaN_int (v := undef) ?_)
  rw [cnd_false, cnd_false, bin_lss]
  unfold cmpN at H
  refine cnd_dec (fun h => ?_) (fun h => ?_)
  · rw [if_pos (by omega)] at H; exact H
  · rw [if_neg (by omega)] at H
    rw [bin_gtr]
    refine cnd_dec (fun h => ?_) (fun h => ?_)
    · rw [if_pos (by omega)] at H; exact H
    · rw [if_neg (by omega)] at H; exact H
theorem c_Compare_u32 {a b : Nat} (H : K (.int .i64 (cmpN a b)) w) : call P f_cmp_Compare_uint32 [.int .u32 (a : Int), .int .u32 (b : Int)] w K := by
  refine I_cmp_Compare_uint32 ?_
  unfold D_cmp_Compare_uint32
  refine c_isNaN_u32 (v := undef) (c_isNaN_u32 (v := undef) ?_)
  rw [cnd_false, cnd_false, bin_lss]
  unfold cmpN at H
  refine cnd_dec (fun h => ?_) (fun h => ?_)
  · rw [if_pos (by omega)] at H; exact H
  · rw [if_neg (by omega)] at H
    rw [bin_gtr]
    refine cnd_dec (fun h => ?_) (fun h => ?_)
    · rw [if_pos (by omega)] at H; exact H
    · rw [if_neg (by omega)] at H; exact H
theorem cmpN_len {b : Nat} {l r : List Nat} (hl : Norm b l) (hr : Norm b r) (h : l.length ≠ r.length) : cmpN (val b l) (val b r) = cmpN l.length r.length := by
  unfold cmpN
  rcases Nat.lt_or_gt_of_ne h with h | h
  · rw [if_pos h, if_pos (val_lt_len hl.1 hr h)]
  · have := val_lt_len hr.1 hl h
    rw [if_neg (show ¬ val b l < val b r by omega), if_pos this, if_neg (show ¬ l.length < r.length by omega), if_pos h]
theorem cmpN_dig {b : Nat} {l r : List Nat} {i : Nat} (hl : Dig b l) (hr : Dig b r) (hlen : l.length = r.length) (hi : i < l.length) (hd : l.drop (i + 1) = r.drop (i + 1)) (h : l[i] ≠ r[i]'(by omega)) : cmpN (val b l) (val b r) = cmpN l[i] (r[i]'(by omega)) := by
  unfold cmpN
  rcases Nat.lt_or_gt_of_ne h with h | h
  · rw [if_pos h, if_pos (val_cmp hl hlen hi hd h)]
  · have := val_cmp hr hlen.symm (by omega) hd.symm h
    rw [if_neg (show ¬ val b l < val b r by omega), if_pos this, if_neg (show ¬ l[i] < r[i] by omega), if_pos h]
theorem c_magCmp {u v : Value} {a b : Nat} (ha : Mg w u a) (hb : Mg w v b) (H : K (.int .i64 (cmpN a b)) w) : call P f_impl_magCmp [u, v] w K := by
  obtain ⟨l, h1, n1, rfl, _⟩ := ha
  obtain ⟨r, h2, n2, rfl, _⟩ := hb
  refine I_impl_magCmp ?_
  unfold D_impl_magCmp
  have b1 := h1.bound
  have b2 := h2.bound
  rw [h1.row.len u_s_uint32, h2.row.len u_s_uint32, bin_neq]
  refine cnd_dec (fun h => ?_) (fun h => ?_)
  · rw [h1.row.len u_s_uint32, h2.row.len u_s_uint32]
    rw [cmpN_len n1 n2 (by omega)] at H
    exact c_Compare_int H
  · have hlen : l.length = r.length := by omega
    rw [h1.row.len u_s_uint32, bin_sub, wrap_i64 (by omega) (by omega)]
    refine ⟨fun m x w' => w' = w ∧ x = .int .i64 ((m : Int) - 1) ∧ m ≤ l.length ∧ l.drop m = r.drop m, ⟨l.length, rfl, rfl, Nat.le_refl _, by rw [List.drop_length, hlen, List.drop_length]⟩, ?_⟩
    rintro m x junk w' ⟨rfl, rfl, hm, hd⟩
    rw [bin_geq]
    refine cnd_dec (fun hge => ?_) (fun hlt => ?_)
    · have hm0 : 0 < m := by omega
      rw [show (m : Int) - 1 = ((m - 1 : Nat) : Int) by omega]
      refine h1.at (i := m - 1) (by omega) u_s_uint32 i_uint32 u_uint32 ?_
      refine h2.at (i := m - 1) (by omega) u_s_uint32 i_uint32 u_uint32 ?_
      rw [bin_neq]
      refine cnd_dec (fun hne => ?_) (fun heq => ?_)
      · refine h1.at (i := m - 1) (by omega) u_s_uint32 i_uint32 u_uint32 ?_
        refine h2.at (i := m - 1) (by omega) u_s_uint32 i_uint32 u_uint32 ?_
        rw [cmpN_dig (i := m - 1) n1.1 n2.1 hlen (by omega) (by rw [show m - 1 + 1 = m by omega]; exact hd) (by omega)] at H
        exact c_Compare_u32 H
      · rw [bin_sub, wrap_i64 (by omega) (by omega)]
        refine ⟨m - 1, by omega, rfl, by congr 1, by omega, ?_⟩
        rw [List.drop_eq_getElem_cons (by omega : m - 1 < l.length), List.drop_eq_getElem_cons (by omega : m - 1 < r.length), show m - 1 + 1 = m by omega, hd]
        congr 1; omega
    · have hm0 : m = 0 := by omega
      subst hm0
      have : l = r := by simpa using hd
      subst this
      unfold cmpN at H
      rw [if_neg (by omega), if_neg (by omega)] at H
      exact H
end Go.Proofs.YtjompmflommadaaGreatDoor


set_option linter.unusedVariables false
namespace Go.Proofs.YtjompmflommadaaGreatDoor
open Go Go.Vc
variable {w : World} {K : Value → World → Prop}
theorem val_take_succD (b : Nat) (l : List Nat) (i : Nat) : val b (l.take (i + 1)) = val b (l.take i) + b ^ i * l.getD i 0 := by
  by_cases h : i < l.length
  · rw [val_take_succ b h, List.getD_eq_getElem?_getD]; simp [h]
  · rw [List.take_of_length_le (by omega), List.take_of_length_le (by omega), List.getD_eq_getElem?_getD]; simp [show l.length ≤ i by omega]
theorem take_set {l : List Nat} {i x : Nat} (h : i < l.length) : (l.set i x).take (i + 1) = l.take i ++ [x] := by
  rw [List.take_succ_eq_append_getElem (by simpa using h)]
  simp [List.take_set_of_le]
theorem val_set_take (b : Nat) {l : List Nat} {i x : Nat} (h : i < l.length) : val b ((l.set i x).take (i + 1)) = val b (l.take i) + b ^ i * x := by
  rw [take_set h, val_snoc, List.length_take, Nat.min_eq_left (by omega)]
theorem Dig_set {b : Nat} {l : List Nat} {i x : Nat} (h : Dig b l) (hx : x < b) : Dig b (l.set i x) := fun d hd => by
  rcases List.mem_or_eq_of_mem_set hd with h1 | h1
  · exact h d h1
  · omega
theorem Dig_rep (b n : Nat) (hb : 0 < b) : Dig b (List.replicate n 0) := fun d hd => by rw [List.mem_replicate] at hd; omega
theorem Dig_get {b : Nat} {l : List Nat} (h : Dig b l) {i : Nat} (hi : i < l.length) : l[i] < b := h _ (List.getElem_mem hi)
theorem getD_get {l : List Nat} {i : Nat} (hi : i < l.length) : l.getD i 0 = l[i] := by rw [List.getD_eq_getElem?_getD]; simp [hi]
theorem len_mono {b : Nat} {l r : List Nat} (hl : Norm b l) (hr : Norm b r) (h : val b r ≤ val b l) : r.length ≤ l.length := by
  rw [← Nat.not_lt]
  intro hc
  have := val_lt_len hl.1 hr hc
  omega
theorem pB (i : Nat) : (4294967296 : Nat) ^ (i + 1) = 4294967296 ^ i * 4294967296 := Nat.pow_succ ..
theorem step_add {V L R p c a b s : Nat} (hv : V + c * p = L + R) (hs : s = c + a + b) : V + p * (s % 4294967296) + s / 4294967296 * (p * 4294967296) = L + p * a + (R + p * b) := by
  have h := Nat.div_add_mod s 4294967296
  have h2 : p * (4294967296 * (s / 4294967296) + s % 4294967296) = p * (c + a + b) := by rw [h, hs]
  grind
theorem step_sub32 {V L R p c a b s s0 s1 : Nat} (hv : V + R = L + c * p) (hs : s = c + b) (hk : s0 + s = a + s1 * 4294967296) : V + p * s0 + (R + p * b) = L + p * a + s1 * (p * 4294967296) := by
  have h2 : p * (s0 + s) = p * (a + s1 * 4294967296) := by rw [hk]
  rw [hs] at h2
  grind
theorem own_step {k : IntKind} {e : TypeId} {w w1 w2 : World} {v : Value} {l : List Nat} (he : Ext w w1) (ho : OD k e w1 w.heap.size v l) (hg : w1.grownBy w2 v.ownBlock) : Ext w w2 :=
  ext_of_grown he (fun g hg' => (ho.lt g hg').1) hg
theorem c_magAdd {u v : Value} {a b : Nat} (ha : Mg w u a) (hb : Mg w v b) (ba : bl a ≤ 1099511627776) (bb : bl b ≤ 1099511627776)
    (H : ∀ v' w', Ext w w' → MgO w' w.heap.size v' (a + b) → K v' w') : call P f_impl_magAdd [u, v] w K := by
  have main : ∀ {u v : Value} {l r : List Nat}, IR .u32 w u l → IR .u32 w v r → Dig 4294967296 l → Dig 4294967296 r → r.length ≤ l.length → l.length ≤ 34359738369 → (∀ v' w', Ext w w' → MgO w' w.heap.size v' (val 4294967296 l + val 4294967296 r) → K v' w') →
      (bl0 P .len #[t_s_uint32] t_int [u] w fun x17_6 =>
      bin P .add t_int false true x17_6 (.int .i64 1) w fun x18_7 =>
      mks P t_s_uint32 x18_7 x18_7 w fun x19_8 w9 =>
      bl0 P .len #[t_s_uint32] t_int [u] w9 fun x21_10 =>
      ∃ I11 : Nat → Value → Value → World → Prop, (∃ m46, I11 m46 (.int .u64 0) (.int .i64 0) w9) ∧ ∀ (m14 : Nat) (x6_15 : Value) (x22_16 : Value) (junk12 : Env) (w13 : World), I11 m14 x6_15 x22_16 w13 →
        bin P .lss t_int false false x22_16 x21_10 w13 fun x23_17 =>
        cnd x23_17
          (ixa P t_s_uint32 u x22_16 w13 fun x25_18 =>
          ld P t_uint32 x25_18 w13 fun x26_19 =>
          cnv P t_uint32 t_uint64 x26_19 w13 fun x29_20 =>
          bin P .add t_uint64 false false x6_15 x29_20 w13 fun x30_21 =>
          ∃ J22 : Value → World → Prop, (∀ (x6_25 : Value) (junk23 : Env) (w24 : World), J22 x6_25 w24 →
            cnv P t_uint64 t_uint32 x6_25 w24 fun x45_26 =>
            ixa P t_s_uint32 x19_8 x22_16 w24 fun x46_27 =>
            sto P t_uint32 x46_27 x45_26 w24 fun w29 =>
            bin P .shr t_uint64 false true x6_25 (.int .u64 32) w29 fun x48_30 =>
            bin P .add t_int false true x22_16 (.int .i64 1) w29 fun x49_31 =>
            ∃ m32, m32 < m14 ∧ I11 m32 x48_30 x49_31 w29) ∧
            (bl0 P .len #[t_s_uint32] t_int [v] w13 fun x33_33 =>
            bin P .lss t_int false false x22_16 x33_33 w13 fun x34_34 =>
            cnd x34_34
              (ixa P t_s_uint32 v x22_16 w13 fun x38_35 =>
              ld P t_uint32 x38_35 w13 fun x39_36 =>
              cnv P t_uint32 t_uint64 x39_36 w13 fun x40_37 =>
              bin P .add t_uint64 false false x30_21 x40_37 w13 fun x41_38 =>
              J22 x41_38 w13)
              (J22 x30_21 w13)))
          (bl0 P .len #[t_s_uint32] t_int [u] w13 fun x52_39 =>
          cnv P t_uint64 t_uint32 x6_15 w13 fun x54_40 =>
          ixa P t_s_uint32 x19_8 x52_39 w13 fun x55_41 =>
          sto P t_uint32 x55_41 x54_40 w13 fun w43 =>
          call P f_impl_magTrim [x19_8] w43 fun x57_44 w45 =>
          K x57_44 w45)) := by
    intro u v l r h1 h2 d1 d2 hlr hlen H
    rw [h1.row.len u_s_uint32, bin_addI1 (b := 1) (by omega)]
    refine OD.make u_s_uint32 i_uint32 (by omega) (by simp only [maxLen]; omega) fun w1 o ho he => ?_
    rw [(h1.ext he).row.len u_s_uint32]
    refine ⟨fun m x y w' => ∃ (i c : Nat) (q : List Nat), m + i = l.length ∧ x = .int .u64 (c : Int) ∧ y = .int .i64 (i : Int) ∧ Ext w w' ∧ OD .u32 t_uint32 w' w.heap.size o q ∧ q.length = l.length + 1 ∧ Dig 4294967296 q ∧ c ≤ 1 ∧
      val 4294967296 (q.take i) + c * 4294967296 ^ i = val 4294967296 (l.take i) + val 4294967296 (r.take i), ⟨l.length, 0, 0, _, rfl, rfl, rfl, he, ho, by simp, Dig_rep _ _ (by decide), by omega, by simp [val]⟩, ?_⟩
    rintro m x y junk w2 ⟨i, c, q, hm, rfl, rfl, e2, oq, hq, dq, hc, hv⟩
    rw [bin_lss]
    refine cnd_dec (fun hlt => ?_) (fun hge => ?_)
    · have hi : i < l.length := by omega
      refine (h1.ext e2).at hi u_s_uint32 i_uint32 u_uint32 ?_
      have g1 := Dig_get d1 hi
      rw [cnv_32_64' g1, bin_addN (by omega)]
      refine ⟨fun x w' => w' = w2 ∧ ∃ s : Nat, x = .int .u64 (s : Int) ∧ s = c + l[i] + r.getD i 0 ∧ r.getD i 0 < 4294967296, ?_, ?_⟩
      · rintro x junk w3 ⟨rfl, s, rfl, hs, hr⟩
        rw [cnv_64_32]
        refine OD.set oq (by omega) u_s_uint32 i_uint32 fun w4 oq' hg => ?_
        rw [bin_shrN (s := 32) (by decide), bin_addI1 (b := 1) (by omega)]
        refine ⟨m - 1, by omega, i + 1, s / 2 ^ 32, _, by omega, rfl, rfl, own_step e2 oq hg, oq', by simpa using hq, Dig_set dq (Nat.mod_lt _ (by decide)), by omega, ?_⟩
        rw [val_set_take _ (by omega), val_take_succD, val_take_succD, getD_get hi, pB]
        exact step_add hv hs
      · rw [(h2.ext e2).row.len u_s_uint32, bin_lss]
        refine cnd_dec (fun h => ?_) (fun h => ?_)
        · have hi2 : i < r.length := by omega
          refine (h2.ext e2).at hi2 u_s_uint32 i_uint32 u_uint32 ?_
          have g2 := Dig_get d2 hi2
          rw [cnv_32_64' g2, bin_addN (by omega)]
          exact ⟨rfl, _, rfl, by rw [getD_get hi2], by rw [getD_get hi2]; exact g2⟩
        · have : r.getD i 0 = 0 := by rw [List.getD_eq_getElem?_getD]; simp [show r.length ≤ i by omega]
          exact ⟨rfl, _, rfl, by omega, by omega⟩
    · have hi : i = l.length := by omega
      subst hi
      rw [(h1.ext e2).row.len u_s_uint32, cnv_64_32]
      refine OD.set oq (by omega) u_s_uint32 i_uint32 fun w4 oq' hg => ?_
      have hcm : c % 4294967296 = c := Nat.mod_eq_of_lt (by omega)
      rw [hcm] at oq'
      refine c_trimO oq' (Dig_set dq (by omega)) fun v' hv' => ?_
      have e : val 4294967296 (q.set l.length c) = val 4294967296 l + val 4294967296 r := by
        have h3 := val_set_take 4294967296 (l := q) (i := l.length) (x := c) (by omega)
        rw [List.take_of_length_le (by rw [List.length_set]; omega)] at h3
        rw [List.take_of_length_le (by omega : l.length ≤ l.length), List.take_of_length_le (by omega : r.length ≤ l.length)] at hv
        rw [h3, ← hv, Nat.mul_comm]
      rw [e] at hv'
      exact H _ _ (own_step e2 oq hg) hv'
  obtain ⟨l, h1, n1, rfl, _⟩ := ha
  obtain ⟨r, h2, n2, rfl, _⟩ := hb
  have l1 := dig_len n1 ba
  have l2 := dig_len n2 bb
  refine I_impl_magAdd ?_
  unfold D_impl_magAdd
  refine ⟨_, fun _ _ _ _ h => h, ?_⟩
  rw [h1.row.len u_s_uint32, h2.row.len u_s_uint32, bin_lss]
  refine cnd_dec (fun h => ?_) (fun h => ?_)
  · exact main h2 h1 n2.1 n1.1 (by omega) l2 (by rw [Nat.add_comm]; exact H)
  · exact main h1 h2 n1.1 n2.1 (by omega) l1 H
theorem wrap_u64_neg {x : Nat} (h0 : 0 < x) (h : x < 18446744073709551616) : IntKind.u64.wrap (-(x : Int)) = ((18446744073709551616 - x : Nat) : Int) := by
  simp [IntKind.wrap, IntKind.bits, IntKind.signed]; omega
theorem bin_subN {t : TypeId} {cx cy : Bool} {a b : Nat} {K : Value → Prop} (ha : a < 18446744073709551616) (hb : b < 18446744073709551616) : bin P .sub t cx cy (.int .u64 (a : Int)) (.int .u64 (b : Int)) w K = K (.int .u64 (((a + 18446744073709551616 - b) % 18446744073709551616 : Nat) : Int)) := by
  rw [bin_sub]
  congr 2
  by_cases h : b ≤ a
  · rw [show (a : Int) - b = ((a - b : Nat) : Int) by omega, w_u64' (by omega)]; omega
  · rw [show (a : Int) - b = -((b - a : Nat) : Int) by omega, wrap_u64_neg (by omega) (by omega)]; omega
theorem c_magSub {u v : Value} {a b : Nat} (ha : Mg w u a) (hb : Mg w v b) (hle : b ≤ a) (ba : bl a ≤ 1099511627776)
    (H : ∀ v' w', Ext w w' → MgO w' w.heap.size v' (a - b) → K v' w') : call P f_impl_magSub [u, v] w K := by
  obtain ⟨l, h1, n1, rfl, _⟩ := ha
  obtain ⟨r, h2, n2, rfl, _⟩ := hb
  have l1 := dig_len n1 ba
  have hlr := len_mono n1 n2 hle
  have d1 := n1.1
  have d2 := n2.1
  refine I_impl_magSub ?_
  unfold D_impl_magSub
  rw [h1.row.len u_s_uint32]
  refine OD.make u_s_uint32 i_uint32 (by omega) (by simp only [maxLen]; omega) fun w1 o ho he => ?_
  rw [(h1.ext he).row.len u_s_uint32]
  refine ⟨fun m x y w' => ∃ (i c : Nat) (q : List Nat), m + i = l.length ∧ x = .int .u64 (c : Int) ∧ y = .int .i64 (i : Int) ∧ Ext w w' ∧ OD .u32 t_uint32 w' w.heap.size o q ∧ q.length = l.length ∧ Dig 4294967296 q ∧ c ≤ 1 ∧
    val 4294967296 (q.take i) + val 4294967296 (r.take i) = val 4294967296 (l.take i) + c * 4294967296 ^ i, ⟨l.length, 0, 0, _, rfl, rfl, rfl, he, ho, by simp, Dig_rep _ _ (by decide), by omega, by simp [val]⟩, ?_⟩
  rintro m x y junk w2 ⟨i, c, q, hm, rfl, rfl, e2, oq, hq, dq, hc, hv⟩
  rw [bin_lss]
  refine cnd_dec (fun hlt => ?_) (fun hge => ?_)
  · have hi : i < l.length := by omega
    refine (h1.ext e2).at hi u_s_uint32 i_uint32 u_uint32 ?_
    have g1 := Dig_get d1 hi
    refine ⟨fun x w' => w' = w2 ∧ ∃ s : Nat, x = .int .u64 (s : Int) ∧ s = c + r.getD i 0 ∧ r.getD i 0 < 4294967296, ?_, ?_⟩
    · rintro x junk w3 ⟨rfl, s, rfl, hs, hr⟩
      rw [cnv_32_64' g1, bin_subN (by omega) (by omega), cnv_64_32]
      refine OD.set oq (by omega) u_s_uint32 i_uint32 fun w4 oq' hg => ?_
      rw [bin_shrN (s := 63) (by decide), bin_addI1 (b := 1) (by omega)]
      have key : (l[i] + 18446744073709551616 - s) % 18446744073709551616 % 4294967296 + s = l[i] + (l[i] + 18446744073709551616 - s) % 18446744073709551616 / 2 ^ 63 * 4294967296 ∧ (l[i] + 18446744073709551616 - s) % 18446744073709551616 / 2 ^ 63 ≤ 1 := by
        simp only [show (2 : Nat) ^ 63 = 9223372036854775808 from rfl]
        omega
      obtain ⟨k1, k2⟩ := key
      refine ⟨m - 1, by omega, i + 1, _, _, by omega, rfl, rfl, own_step e2 oq hg, oq', by simpa using hq, Dig_set dq (Nat.mod_lt _ (by decide)), k2, ?_⟩
      rw [val_set_take _ (by omega), val_take_succD, val_take_succD, getD_get hi, pB]
      exact step_sub32 hv hs k1
    · rw [(h2.ext e2).row.len u_s_uint32, bin_lss]
      refine cnd_dec (fun h => ?_) (fun h => ?_)
      · have hi2 : i < r.length := by omega
        refine (h2.ext e2).at hi2 u_s_uint32 i_uint32 u_uint32 ?_
        have g2 := Dig_get d2 hi2
        rw [cnv_32_64' g2, bin_addN (by omega)]
        exact ⟨rfl, _, rfl, by rw [getD_get hi2], by rw [getD_get hi2]; exact g2⟩
      · have : r.getD i 0 = 0 := by rw [List.getD_eq_getElem?_getD]; simp [show r.length ≤ i by omega]
        exact ⟨rfl, _, rfl, by omega, by omega⟩
  · have hi : i = l.length := by omega
    subst hi
    rw [List.take_of_length_le (by omega : l.length ≤ l.length), List.take_of_length_le (by omega : r.length ≤ l.length), List.take_of_length_le (by omega : q.length ≤ l.length)] at hv
    have hc0 : c = 0 := by
      have h3 := val_lt dq
      rw [hq] at h3
      rcases Nat.eq_zero_or_pos c with h | h
      · exact h
      · have : 1 * 4294967296 ^ l.length ≤ c * 4294967296 ^ l.length := Nat.mul_le_mul_right _ h
        omega
    subst hc0
    refine c_trimO oq dq fun v' hv' => ?_
    have e : val 4294967296 q = val 4294967296 l - val 4294967296 r := by omega
    rw [e] at hv'
    exact H _ _ e2 hv'
theorem bin_snil {t e : TypeId} {cx cy : Bool} {a : Option Addr} {n c : Nat} {K : Value → Prop} (hu : P.underlying t = some (.slice e)) : bin P .eql t cx cy (.slice a n c) (.slice none 0 0) w K = K (.bool a.isNone) := by
  refine bin_of (by unfold eqg eqGuard; rfl) ?_
  show rv P (do pure (Value.bool (← Op.equal t _ _))) w = _
  rw [rv_bind']
  have : rv P (Op.equal t (.slice a n c) (.slice none 0 0)) w = some a.isNone := by
    show rv P (Op.equalIn (9999 + 1) t _ _) w = _
    rw [Op.equalIn, rv_bind', rv_underlying hu]
    cases a <;> rfl
  rw [this]; rfl
theorem c_Clone {v : Value} {n : Nat} (h : Mg w v n) (hn : bl n ≤ 1099511627776) (H : ∀ v' w', Ext w w' → MgO w' w.heap.size v' n → K v' w') : call P f_slices_Clone_uint32_uint32 [v] w K := by
  obtain ⟨l, h1, n1, rfl, _⟩ := h
  have l1 := dig_len n1 hn
  refine I_slices_Clone_uint32_uint32 ?_
  unfold D_slices_Clone_uint32_uint32
  have hrow := h1.row
  obtain ⟨_, _, a, cap, rfl, hcell⟩ := hrow
  rw [bin_snil u_s_uint32]
  cases a with
  | none =>
    have hl0 : l.length = 0 := by
      refine Classical.byContradiction fun hne => ?_
      obtain ⟨_, _, h, _⟩ := hcell hne
      cases h
    obtain rfl : l = [] := List.eq_nil_of_length_eq_zero hl0
    exact cnd_yes rfl (H _ _ (Ext.refl _) (MgO.nil _ _))
  | some a =>
    refine cnd_no rfl ?_
    refine bsl_nil u_s_uint32 i_uint32 ?_
    have he := Ext_alloc w (.cells #[] t_uint32)
    have hz : (w.alloc (.cells #[] t_uint32)).ownsRow w.heap.size t_uint32 1 (.slice (some ⟨w.heap.size, 0, none⟩) 0 0) 0 [] := owns_lit w [] t_uint32
    generalize w.alloc (.cells #[] t_uint32) = w1 at he hz ⊢
    by_cases hl0 : l.length = 0
    · obtain rfl : l = [] := List.eq_nil_of_length_eq_zero hl0
      refine append_intro hz (h1.ext he).row (by simp) u_s_uint32 i_uint32 rfl (by decide) (Nat.zero_le _) (by decide) he.size fun v' w2 ho hg => ?_
      exact H _ _ (ext_of_grown he (fun g hq => (hz.lt g hq).1) hg) ⟨[], ho, n1, rfl⟩
    · refine append_fresh (h1.ext he).row (by simp [Value.oneCell']) u_s_uint32 i_uint32 rfl (by decide) (by omega) (by omega) fun v' w2 ho he2 => ?_
      exact H _ _ (he.trans he2) ⟨l, owns_base ho he.size, n1, rfl⟩
theorem val_set_all (b : Nat) {l : List Nat} {i x : Nat} (h : i < l.length) : val b (l.set i x) + b ^ i * l[i] = val b l + b ^ i * x := by
  have h1 := val_split b l (i := i) (by omega)
  have h2 := val_split b (l.set i x) (i := i) (by simp; omega)
  rw [List.take_set_of_le (by omega)] at h2
  have h3 : (l.set i x).drop i = x :: l.drop (i + 1) := by
    rw [List.drop_eq_getElem_cons (by simpa using h), List.getElem_set_self, List.drop_set_of_lt (by omega)]
  have h4 : l.drop i = l[i] :: l.drop (i + 1) := List.drop_eq_getElem_cons h
  rw [h3] at h2
  rw [h4] at h1
  simp only [val] at h1 h2
  grind
theorem mul_step {V V' Q L p pi pk c x y o s : Nat} (hp : p = pi * pk) (hv : V + c * p = Q + x * L * pi) (hs : s = c + (x * y + o)) (hq : V' + p * o = V + p * (s % 4294967296)) :
    V' + s / 4294967296 * (p * 4294967296) = Q + x * (L + pk * y) * pi := by
  have h := Nat.div_add_mod s 4294967296
  have h2 : p * (4294967296 * (s / 4294967296) + s % 4294967296) = p * (c + (x * y + o)) := by rw [h, hs]
  subst hp
  grind
theorem mul_last {V V' A x y p pi pk c : Nat} (hp : p = pi * pk) (hv : V + c * p = A * y + x * y * pi) (hq : V' + p * 0 = V + p * c) : V' = (A + pi * x) * y := by
  subst hp
  grind
theorem mul_word {x y : Nat} (hx : x < 4294967296) (hy : y < 4294967296) : x * y ≤ 18446744065119617025 := by
  have : x * y ≤ 4294967295 * 4294967295 := Nat.mul_le_mul (by omega) (by omega)
  omega
theorem getD_set {l : List Nat} {i j x : Nat} (h : i < l.length) : (l.set i x).getD j 0 = if i = j then x else l.getD j 0 := by
  simp only [List.getD_eq_getElem?_getD, List.getElem?_set]
  by_cases e : i = j
  · subst e; simp [h]
  · simp [e]
theorem c_magMul {u v : Value} {a b : Nat} (ha : Mg w u a) (hb : Mg w v b) (ba : bl a ≤ 1099511627776) (bb : bl b ≤ 1099511627776)
    (H : ∀ v' w', Ext w w' → MgO w' w.heap.size v' (a * b) → K v' w') : call P f_impl_magMul [u, v] w K := by
  obtain ⟨l, h1, n1, rfl, _⟩ := ha
  obtain ⟨r, h2, n2, rfl, _⟩ := hb
  have l1 := dig_len n1 ba
  have l2 := dig_len n2 bb
  have d1 := n1.1
  have d2 := n2.1
  refine I_impl_magMul ?_
  unfold D_impl_magMul
  rw [h1.row.len u_s_uint32, h2.row.len u_s_uint32, bin_addI (by omega)]
  refine OD.make u_s_uint32 i_uint32 (by omega) (by simp only [maxLen]; omega) fun w1 o ho he => ?_
  rw [(h1.ext he).row.len u_s_uint32]
  refine ⟨fun m y w' => ∃ (i : Nat) (q : List Nat), m + i = l.length ∧ y = .int .i64 (i : Int) ∧ Ext w w' ∧ OD .u32 t_uint32 w' w.heap.size o q ∧ q.length = l.length + r.length ∧ Dig 4294967296 q ∧ (∀ j, i + r.length ≤ j → q.getD j 0 = 0) ∧
    val 4294967296 q = val 4294967296 (l.take i) * val 4294967296 r, ⟨l.length, 0, _, rfl, rfl, he, ho, by simp, Dig_rep _ _ (by decide), fun j _ => by simp [List.getElem?_replicate]; split <;> rfl, by simp [val, val_replicate]⟩, ?_⟩
  rintro m y junk w2 ⟨i, q, hm, rfl, e2, oq, hq, dq, hz, hv⟩
  rw [bin_lss]
  refine cnd_dec (fun hlt => ?_) (fun hge => ?_)
  · have hi : i < l.length := by omega
    refine (h1.ext e2).at hi u_s_uint32 i_uint32 u_uint32 ?_
    have g1 := Dig_get d1 hi
    rw [(h2.ext e2).row.len u_s_uint32]
    refine ⟨fun m' x y w' => ∃ (k c : Nat) (q' : List Nat), m' + k = r.length ∧ x = .int .u64 (c : Int) ∧ y = .int .i64 (k : Int) ∧ Ext w w' ∧ OD .u32 t_uint32 w' w.heap.size o q' ∧ q'.length = l.length + r.length ∧ Dig 4294967296 q' ∧ (∀ j, i + r.length ≤ j → q'.getD j 0 = 0) ∧ c < 4294967296 ∧
      val 4294967296 q' + c * 4294967296 ^ (i + k) = val 4294967296 (l.take i) * val 4294967296 r + l[i] * val 4294967296 (r.take k) * 4294967296 ^ i,
      ⟨r.length, 0, 0, q, rfl, rfl, rfl, e2, oq, hq, dq, hz, by omega, by simp [val, hv]⟩, ?_⟩
    rintro m' x y junk w3 ⟨k, c, q', hm', rfl, rfl, e3, oq', hq', dq', hz', hc, hv'⟩
    rw [bin_lss]
    refine cnd_dec (fun hlt' => ?_) (fun hge' => ?_)
    · have hk : k < r.length := by omega
      refine (h2.ext e3).at hk u_s_uint32 i_uint32 u_uint32 ?_
      have g2 := Dig_get d2 hk
      have hik : i + k < q'.length := by omega
      have g3 := Dig_get dq' hik
      have hw := mul_word g1 g2
      rw [cnv_32_64' g1, cnv_32_64' g2, bin_mulN (by omega), bin_addI (by omega)]
      refine oq'.IR.at hik u_s_uint32 i_uint32 u_uint32 ?_
      rw [cnv_32_64' g3, bin_addN (by omega), bin_addN (by omega), bin_addI (by omega), cnv_64_32]
      refine OD.set oq' hik u_s_uint32 i_uint32 fun w4 oq4 hg => ?_
      rw [bin_shrN (s := 32) (by decide), bin_addI1 (b := 1) (by omega)]
      refine ⟨m' - 1, by omega, k + 1, _, _, by omega, rfl, rfl, own_step e3 oq' hg, oq4, by simpa using hq', Dig_set dq' (Nat.mod_lt _ (by decide)), fun j hj => ?_, ?_, ?_⟩
      · rw [getD_set hik, if_neg (by omega)]; exact hz' j hj
      · have : c + (l[i] * r[k] + q'[i + k]) < 18446744073709551616 := by omega
        simp only [show (2 : Nat) ^ 32 = 4294967296 from rfl]
        omega
      · rw [val_take_succD, getD_get hk, show (4294967296 : Nat) ^ (i + (k + 1)) = 4294967296 ^ (i + k) * 4294967296 from pB (i + k)]
        exact mul_step (Nat.pow_add ..) hv' rfl (val_set_all _ hik)
    · have hk : k = r.length := by omega
      subst hk
      have hik : i + r.length < q'.length := by omega
      rw [(h2.ext e3).row.len u_s_uint32, bin_addI (by omega), cnv_64_32]
      refine OD.set oq' hik u_s_uint32 i_uint32 fun w4 oq4 hg => ?_
      rw [bin_addI1 (b := 1) (by omega)]
      have hcm : c % 4294967296 = c := Nat.mod_eq_of_lt (by omega)
      rw [hcm] at oq4
      refine ⟨m - 1, by omega, i + 1, _, by omega, rfl, own_step e3 oq' hg, oq4, by simpa using hq', Dig_set dq' (by omega), fun j hj => ?_, ?_⟩
      · rw [getD_set hik, if_neg (by omega)]; exact hz' j (by omega)
      · rw [val_take_succD, getD_get hi]
        rw [List.take_of_length_le (Nat.le_refl _)] at hv'
        refine mul_last (Nat.pow_add ..) hv' ?_
        have h3 := val_set_all 4294967296 (l := q') (x := c) hik
        have h4 := hz' (i + r.length) (Nat.le_refl _)
        rw [getD_get hik] at h4
        rw [h4] at h3
        exact h3
  · have hi : i = l.length := by omega
    subst hi
    rw [List.take_of_length_le (Nat.le_refl _)] at hv
    refine c_trimO oq dq fun v' hv' => ?_
    rw [hv] at hv'
    exact H _ _ e2 hv'
end Go.Proofs.YtjompmflommadaaGreatDoor


set_option linter.unusedVariables false
namespace Go.Proofs.YtjompmflommadaaGreatDoor
open Go Go.Vc
variable {w : World} {K : Value → World → Prop}
section
variable {t : TypeId} {cx cy : Bool} {k yk : IntKind} {a b s : Nat} {c : Int} {K : Value → Prop}
theorem kmin_le (k : IntKind) : k.min ≤ 0 := by cases k <;> decide
theorem wrap_nat {k : IntKind} {x : Nat} (h : (x : Int) ≤ k.max) : k.wrap (x : Int) = (x : Int) := wrap_of (Int.le_trans (kmin_le k) (Int.natCast_nonneg _)) h
theorem bin_quoN (h : (a : Int) ≤ k.max) (hb : b ≠ 0) (hc : c = (b : Int) := by rfl) : bin P .quo t cx cy (.int k (a : Int)) (.int k c) w K = K (.int k ((a / b : Nat) : Int)) := by
  subst hc
  rw [bin_quo _ _ _ _ _ _ _ (by omega)]
  have e : Int.tdiv (a : Int) (b : Int) = ((a / b : Nat) : Int) := by rw [Int.ofNat_tdiv]
  rw [e, wrap_nat (Int.le_trans (by
    have := Nat.div_le_self a b
    omega) h)]
theorem bin_remN (hb : b ≠ 0) (hc : c = (b : Int) := by rfl) : bin P .rem t cx cy (.int k (a : Int)) (.int k c) w K = K (.int k ((a % b : Nat) : Int)) := by
  subst hc
  rw [bin_rem _ _ _ _ _ _ _ (by omega)]
  have e : Int.tmod (a : Int) (b : Int) = ((a % b : Nat) : Int) := by rw [Int.ofNat_tmod]
  rw [e]
theorem bin_shlN (hs : s ≤ k.bits) (h : ((a * 2 ^ s : Nat) : Int) ≤ k.max) (hc : c = (s : Int) := by rfl) : bin P .shl t cx cy (.int k (a : Int)) (.int yk c) w K = K (.int k ((a * 2 ^ s : Nat) : Int)) := by
  subst hc
  rw [bin_shl _ _ _ _ _ _ _ _ (by omega)]
  have e : min ((s : Int).toNat) k.bits = s := by rw [Int.toNat_natCast]; omega
  rw [e]
  have : (a : Int) * 2 ^ s = ((a * 2 ^ s : Nat) : Int) := by simp
  rw [this, wrap_nat h]
theorem toNat_word {n a : Nat} (h : a < 2 ^ n) : (BitVec.ofInt n (a : Int)).toNat = a := by
  rw [BitVec.ofInt_natCast, BitVec.toNat_ofNat, Nat.mod_eq_of_lt h]
theorem bin_orN (ha : a < 2 ^ k.bits) (hb : b < 2 ^ k.bits) (hk : k.signed = false) (hc : c = (b : Int) := by rfl) : bin P .or t cx cy (.int k (a : Int)) (.int k c) w K = K (.int k ((a ||| b : Nat) : Int)) := by
  subst hc
  rw [bin_or, BitVec.toNat_or, toNat_word ha, toNat_word hb]
  have h := Nat.or_lt_two_pow ha hb
  rw [wrap_nat]
  cases k <;> simp [IntKind.signed] at hk <;> simp [IntKind.max, IntKind.signed, IntKind.bits] at h ⊢ <;> omega
theorem bin_andN (ha : a < 2 ^ k.bits) (hb : b < 2 ^ k.bits) (hk : k.signed = false) (hc : c = (b : Int) := by rfl) : bin P .and t cx cy (.int k (a : Int)) (.int k c) w K = K (.int k ((a &&& b : Nat) : Int)) := by
  subst hc
  rw [bin_and, BitVec.toNat_and, toNat_word ha, toNat_word hb]
  have h : a &&& b ≤ a := Nat.and_le_left
  rw [wrap_nat]
  cases k <;> simp [IntKind.signed] at hk <;> simp [IntKind.max, IntKind.signed, IntKind.bits] at ha ⊢ <;> omega
theorem max_u64 : IntKind.u64.max = 18446744073709551615 := rfl
theorem max_u32 : IntKind.u32.max = 4294967295 := rfl
theorem max_i64 : IntKind.i64.max = 9223372036854775807 := rfl
theorem cnv_uint_int (h : a ≤ 9223372036854775807) : cnv P t_uint t_int (.int .u64 (a : Int)) w K = K (.int .i64 (a : Int)) := by
  rw [cnv_int_int u_uint u_int, wrap_i64 (by omega) (by omega)]
theorem cnv_int_uint (h : a ≤ 9223372036854775807) : cnv P t_int t_uint (.int .i64 (a : Int)) w K = K (.int .u64 (a : Int)) := by
  rw [cnv_int_int u_int u_uint, w_u64' (by omega)]
end
theorem left_or {d s old : Nat} (hs : s < 32) (hd : d < 4294967296) (ho : old < 2 ^ s) : old ||| (d * 2 ^ s % 4294967296) = old + d * 2 ^ s % 4294967296 := by
  have e : d * 2 ^ s % 4294967296 = 2 ^ s * (d % 2 ^ (32 - s)) := by
    have h32 : (4294967296 : Nat) = 2 ^ s * 2 ^ (32 - s) := by rw [← Nat.pow_add, show s + (32 - s) = 32 by omega]
    rw [h32, Nat.mul_comm d, Nat.mul_mod_mul_left]
  rw [e, Nat.or_comm, ← Nat.two_pow_add_eq_or_of_lt ho, Nat.add_comm]
theorem left_step {V V1 V2 T x p q2 old wd f d p0 : Nat} (hV : V = T * f) (h1 : V1 + p * old = V + p * (old + wd % 4294967296)) (h2 : V2 + p * 4294967296 * 0 = V1 + p * 4294967296 * (wd / 4294967296)) (hp : p * wd = p0 * d * f) : V2 = (T + p0 * d) * f := by
  have h := Nat.div_add_mod wd 4294967296
  have h3 : p * (4294967296 * (wd / 4294967296) + wd % 4294967296) = p0 * d * f := by rw [h, hp]
  subst hV
  grind
theorem c_magLeft {u : Value} {a n : Nat} (ha : Mg w u a) (ba : bl a ≤ 1099511627776) (bn : n ≤ 1099511627776)
    (H : ∀ v' w', Ext w w' → MgO w' w.heap.size v' (a * 2 ^ n) → K v' w') : call P f_impl_magLeft [u, .int .u64 (n : Int)] w K := by
  obtain ⟨l, h1, n1, rfl, _⟩ := ha
  have l1 := dig_len n1 ba
  have d1 := n1.1
  refine I_impl_magLeft ?_
  unfold D_impl_magLeft
  rw [h1.row.len u_s_uint32, bin_eql]
  refine cnd_dec (fun h0 => ?_) (fun h0 => ?_)
  · obtain rfl : l = [] := List.eq_nil_of_length_eq_zero (by omega)
    have := H _ _ (Ext.refl _) (by
      have := MgO.nil w w.heap.size
      simpa [val] using this)
    exact this
  · rw [bin_quoN (b := 32) (by rw [max_u64]; omega) (by decide), cnv_uint_int (by omega), h1.row.len u_s_uint32, bin_addI (by omega), bin_addI1 (b := 1) (by omega)]
    refine OD.make u_s_uint32 i_uint32 (by omega) (by simp only [maxLen]; omega) fun w1 o ho he => ?_
    rw [(h1.ext he).row.len u_s_uint32]
    refine ⟨fun m y w' => ∃ (i : Nat) (q : List Nat), m + i = l.length ∧ y = .int .i64 (i : Int) ∧ Ext w w' ∧ OD .u32 t_uint32 w' w.heap.size o q ∧ q.length = n / 32 + l.length + 1 ∧ Dig 4294967296 q ∧ (∀ j, n / 32 + i < j → q.getD j 0 = 0) ∧ q.getD (n / 32 + i) 0 < 2 ^ (n % 32) ∧
      val 4294967296 q = val 4294967296 (l.take i) * 2 ^ n, ⟨l.length, 0, _, rfl, rfl, he, ho, by simp, Dig_rep _ _ (by decide), fun j _ => by simp [List.getElem?_replicate]; split <;> rfl, by
        have : (List.replicate (n / 32 + l.length + 1) 0).getD (n / 32 + 0) 0 = 0 := by simp [List.getElem?_replicate]; split <;> rfl
        rw [this]; exact Nat.two_pow_pos _, by simp [val, val_replicate]⟩, ?_⟩
    rintro m y junk w2 ⟨i, q, hm, rfl, e2, oq, hq, dq, hz, hold, hv⟩
    rw [bin_lss]
    refine cnd_dec (fun hlt => ?_) (fun hge => ?_)
    · have hi : i < l.length := by omega
      refine (h1.ext e2).at hi u_s_uint32 i_uint32 u_uint32 ?_
      have g1 := Dig_get d1 hi
      have hs : n % 32 < 32 := Nat.mod_lt _ (by decide)
      have hps : 2 ^ (n % 32) ≤ 2147483648 := by
        have := Nat.pow_le_pow_right (n := 2) (by decide) (show n % 32 ≤ 31 by omega)
        exact this
      have hwd : l[i] * 2 ^ (n % 32) ≤ 4294967295 * 2147483648 := Nat.mul_le_mul (by omega) hps
      have hi1 : n / 32 + i < q.length := by omega
      have hi2 : n / 32 + i + 1 < q.length := by omega
      rw [cnv_32_64' g1, bin_remN (b := 32) (by decide), bin_shlN (s := n % 32) (by simp only [IntKind.bits]; omega) (by rw [max_u64]; omega)]
      rw [bin_quoN (b := 32) (by rw [max_u64]; omega) (by decide), cnv_uint_int (by omega), bin_addI (by omega)]
      refine oq.IR.at hi1 u_s_uint32 i_uint32 u_uint32 ?_
      have g3 := Dig_get dq hi1
      rw [cnv_64_32, bin_orN (by simpa [IntKind.bits] using g3) (by have := Nat.mod_lt (l[i] * 2 ^ (n % 32)) (show 0 < 4294967296 by decide); simpa [IntKind.bits] using this) rfl]
      rw [getD_get hi1] at hold
      rw [left_or hs g1 hold]
      refine OD.set oq hi1 u_s_uint32 i_uint32 fun w3 oq3 hg3 => ?_
      have e3 := own_step e2 oq hg3
      rw [bin_quoN (b := 32) (by rw [max_u64]; omega) (by decide), cnv_uint_int (by omega), bin_addI (by omega), bin_addI1 (b := 1) (by omega), bin_shrN (s := 32) (by decide), cnv_64_32]
      refine OD.set oq3 (by simpa using hi2) u_s_uint32 i_uint32 fun w4 oq4 hg4 => ?_
      rw [bin_addI1 (b := 1) (by omega)]
      have hhi : l[i] * 2 ^ (n % 32) / 2 ^ 32 < 2 ^ (n % 32) := by
        rw [Nat.div_lt_iff_lt_mul (Nat.two_pow_pos _), Nat.mul_comm]
        exact Nat.mul_lt_mul_of_pos_left g1 (Nat.two_pow_pos _)
      have hmod : l[i] * 2 ^ (n % 32) / 2 ^ 32 % 4294967296 = l[i] * 2 ^ (n % 32) / 2 ^ 32 := Nat.mod_eq_of_lt (by omega)
      rw [hmod] at oq4
      have hlo : q[n / 32 + i] + l[i] * 2 ^ (n % 32) % 4294967296 < 4294967296 := by
        rw [← left_or hs g1 hold]
        exact Nat.or_lt_two_pow (n := 32) g3 (Nat.mod_lt _ (by decide))
      refine ⟨m - 1, by omega, i + 1, _, by omega, rfl, own_step e3 oq3 hg4, oq4, by simpa using hq, Dig_set (Dig_set dq hlo) (by omega), fun j hj => ?_, ?_, ?_⟩
      · rw [getD_set (by simpa using hi2), if_neg (by omega), getD_set hi1, if_neg (by omega)]
        exact hz j (by omega)
      · rw [show n / 32 + (i + 1) = n / 32 + i + 1 from rfl, getD_set (by simpa using hi2), if_pos rfl]; exact hhi
      · rw [val_take_succD, getD_get hi]
        have a1 := val_set_all 4294967296 (l := q) (x := q[n / 32 + i] + l[i] * 2 ^ (n % 32) % 4294967296) hi1
        have hi2' : n / 32 + i + 1 < (q.set (n / 32 + i) (q[n / 32 + i] + l[i] * 2 ^ (n % 32) % 4294967296)).length := by simpa using hi2
        have a2 := val_set_all 4294967296 (x := l[i] * 2 ^ (n % 32) / 2 ^ 32) hi2'
        have hz0 : (q.set (n / 32 + i) (q[n / 32 + i] + l[i] * 2 ^ (n % 32) % 4294967296))[n / 32 + i + 1] = 0 := by
          have := hz (n / 32 + i + 1) (by omega)
          rw [getD_get hi2] at this
          rw [List.getElem_set_ne (by omega)]; exact this
        rw [hz0, pB] at a2
        refine left_step (x := 0) (q2 := 0) hv a1 a2 ?_
        have hn : 2 ^ n = 4294967296 ^ (n / 32) * 2 ^ (n % 32) := by
          conv => lhs; rw [← Nat.div_add_mod n 32, Nat.pow_add, Nat.pow_mul]
        rw [hn, Nat.pow_add]
        grind
    · have hi : i = l.length := by omega
      subst hi
      rw [List.take_of_length_le (Nat.le_refl _)] at hv
      refine c_trimO oq dq fun v' hv' => ?_
      rw [hv] at hv'
      exact H _ _ e2 hv'
theorem right_or {d x : Nat} (hd : d < 4294967296) : d ||| x * 4294967296 = d + x * 4294967296 := by
  have := Nat.two_pow_add_eq_or_of_lt (i := 32) hd x
  rw [Nat.or_comm, Nat.mul_comm x, show (4294967296 : Nat) = 2 ^ 32 from rfl, ← this, Nat.add_comm]
theorem right_dig {l : List Nat} {i s : Nat} (hd : Dig 4294967296 l) (hi : i < l.length) (hs : s < 32) :
    val 4294967296 l / 2 ^ s / 4294967296 ^ i % 4294967296 = (l[i] + l.getD (i + 1) 0 * 4294967296) / 2 ^ s % 4294967296 := by
  have h1 : val 4294967296 l / 2 ^ s / 4294967296 ^ i = val 4294967296 l / 4294967296 ^ i / 2 ^ s := by
    rw [Nat.div_div_eq_div_mul, Nat.div_div_eq_div_mul, Nat.mul_comm]
  have h2 : val 4294967296 l / 4294967296 ^ i = val 4294967296 (l.drop i) := by
    have hp : 0 < 4294967296 ^ i := Nat.pow_pos (by decide)
    rw [val_split _ l (Nat.le_of_lt hi), Nat.add_mul_div_left _ _ hp, Nat.div_eq_of_lt, Nat.zero_add]
    have := val_lt (hd.take i)
    rw [List.length_take, Nat.min_eq_left (by omega)] at this
    exact this
  have h3 : ∃ X, val 4294967296 (l.drop i) = l[i] + l.getD (i + 1) 0 * 4294967296 + 18446744073709551616 * X := by
    rw [List.drop_eq_getElem_cons hi, val]
    by_cases h : i + 1 < l.length
    · rw [List.drop_eq_getElem_cons h, val, getD_get h]
      exact ⟨val 4294967296 (l.drop (i + 1 + 1)), by grind⟩
    · rw [List.drop_eq_nil_of_le (by omega), val]
      have : l.getD (i + 1) 0 = 0 := by rw [List.getD_eq_getElem?_getD]; simp [show l.length ≤ i + 1 by omega]
      exact ⟨0, by rw [this]⟩
  obtain ⟨X, hX⟩ := h3
  rw [h1, h2, hX]
  have h4 : 18446744073709551616 * X = 2 ^ s * (4294967296 * (2 ^ (32 - s) * X)) := by
    have : (4294967296 : Nat) = 2 ^ s * 2 ^ (32 - s) := by rw [← Nat.pow_add, show s + (32 - s) = 32 by omega]
    have h5 : (18446744073709551616 : Nat) = 4294967296 * (2 ^ s * 2 ^ (32 - s)) := by rw [← this]
    rw [h5]; grind
  rw [h4, Nat.add_mul_div_left _ _ (Nat.two_pow_pos _), Nat.add_mul_mod_self_left]
theorem c_magRight {u : Value} {a n : Nat} (ha : Mg w u a) (ba : bl a ≤ 1099511627776) (bn : n ≤ 9223372036854775807)
    (H : ∀ v' w', Ext w w' → MgO w' w.heap.size v' (a / 2 ^ n) → K v' w') : call P f_impl_magRight [u, .int .u64 (n : Int)] w K := by
  obtain ⟨l, h1, n1, rfl, _⟩ := ha
  have l1 := dig_len n1 ba
  have d1 := n1.1
  have hn : 2 ^ n = 4294967296 ^ (n / 32) * 2 ^ (n % 32) := by
    conv => lhs; rw [← Nat.div_add_mod n 32, Nat.pow_add, Nat.pow_mul]
  refine I_impl_magRight ?_
  unfold D_impl_magRight
  rw [h1.row.len u_s_uint32, cnv_int_uint (by omega), bin_quoN (b := 32) (by rw [max_u64]; omega) (by decide), bin_leq]
  refine cnd_dec (fun h0 => ?_) (fun h0 => ?_)
  · have e : val 4294967296 l / 2 ^ n = 0 := by
      refine Nat.div_eq_of_lt (Nat.lt_of_lt_of_le (val_lt d1) ?_)
      rw [hn]
      refine Nat.le_trans (Nat.pow_le_pow_right (by decide) (by omega : l.length ≤ n / 32)) (Nat.le_mul_of_pos_right _ (Nat.two_pow_pos _))
    rw [e] at H
    exact H _ _ (Ext.refl _) (MgO.nil _ _)
  · have hle : n / 32 < l.length := by omega
    rw [bin_quoN (b := 32) (by rw [max_u64]; omega) (by decide)]
    refine Row.sli_l h1.row h1.cap u_s_uint32 i_uint32 (by omega) fun v' r1 r2 => ?_
    have hl' : (l.drop (n / 32)).length = l.length - n / 32 := List.length_drop
    have hm : IR .u32 w v' (l.drop (n / 32)) := ⟨by rw [hl', List.map_drop]; exact r1, r2⟩
    have hdiv : val 4294967296 l / 2 ^ n = val 4294967296 (l.drop (n / 32)) / 2 ^ (n % 32) := by
      rw [hn, ← Nat.div_div_eq_div_mul]
      congr 1
      have hp : 0 < 4294967296 ^ (n / 32) := Nat.pow_pos (by decide)
      conv => lhs; rw [val_split _ l (Nat.le_of_lt hle)]
      rw [Nat.add_mul_div_left _ _ hp, Nat.div_eq_of_lt, Nat.zero_add]
      have := val_lt (d1.take (n / 32))
      rw [List.length_take, Nat.min_eq_left (by omega)] at this
      exact this
    have dm : Dig 4294967296 (l.drop (n / 32)) := d1.drop _
    rw [hdiv] at H
    generalize l.drop (n / 32) = r at *
    have hs : n % 32 < 32 := Nat.mod_lt _ (by decide)
    rw [hm.row.len u_s_uint32]
    refine OD.make u_s_uint32 i_uint32 (by omega) (by simp only [maxLen]; omega) fun w1 o ho he => ?_
    rw [(hm.ext he).row.len u_s_uint32]
    refine ⟨fun m y w' => ∃ (i : Nat) (q : List Nat), m + i = r.length ∧ y = .int .i64 (i : Int) ∧ Ext w w' ∧ OD .u32 t_uint32 w' w.heap.size o q ∧ q.length = r.length ∧ Dig 4294967296 q ∧
      val 4294967296 (q.take i) = val 4294967296 r / 2 ^ (n % 32) % 4294967296 ^ i, ⟨r.length, 0, _, rfl, rfl, he, ho, by simp, Dig_rep _ _ (by decide), by simp [val, Nat.mod_one]⟩, ?_⟩
    rintro m y junk w2 ⟨i, q, hmi, rfl, e2, oq, hq, dq, hv⟩
    rw [bin_lss]
    refine cnd_dec (fun hlt => ?_) (fun hge => ?_)
    · have hi : i < r.length := by omega
      refine (hm.ext e2).at hi u_s_uint32 i_uint32 u_uint32 ?_
      have g1 := Dig_get dm hi
      rw [cnv_32_64' g1]
      refine ⟨fun x w' => w' = w2 ∧ x = .int .u64 ((r[i] + r.getD (i + 1) 0 * 4294967296 : Nat) : Int) ∧ r.getD (i + 1) 0 < 4294967296, ?_, ?_⟩
      · rintro x junk w3 ⟨rfl, rfl, hx⟩
        rw [bin_remN (b := 32) (by decide), bin_shrN (s := n % 32) (by simp only [IntKind.bits]; omega), cnv_64_32]
        refine OD.set oq (by omega) u_s_uint32 i_uint32 fun w4 oq4 hg => ?_
        rw [bin_addI1 (b := 1) (by omega)]
        refine ⟨m - 1, by omega, i + 1, _, by omega, rfl, own_step e2 oq hg, oq4, by simpa using hq, Dig_set dq (Nat.mod_lt _ (by decide)), ?_⟩
        rw [val_set_take _ (by omega), hv, ← right_dig dm hi hs, Nat.mod_pow_succ]
      · rw [bin_addI1 (b := 1) (by omega), (hm.ext e2).row.len u_s_uint32, bin_lss]
        refine cnd_dec (fun h => ?_) (fun h => ?_)
        · have hi2 : i + 1 < r.length := by omega
          have g2 := Dig_get dm hi2
          rw [bin_addI1 (b := 1) (by omega)]
          refine (hm.ext e2).at hi2 u_s_uint32 i_uint32 u_uint32 ?_
          rw [cnv_32_64' g2, bin_shlN (s := 32) (by decide) (by rw [max_u64]; simp only [show (2 : Nat) ^ 32 = 4294967296 from rfl]; omega)]
          rw [show (2 : Nat) ^ 32 = 4294967296 from rfl]
          rw [bin_orN (b := r[i + 1] * 4294967296) (by simp only [IntKind.bits]; omega) (by simp only [IntKind.bits]; omega) rfl, right_or g1, getD_get hi2]
          exact ⟨rfl, rfl, g2⟩
        · have : r.getD (i + 1) 0 = 0 := by rw [List.getD_eq_getElem?_getD]; simp [show r.length ≤ i + 1 by omega]
          rw [this]
          exact ⟨rfl, by simp, by decide⟩
    · have hi : i = r.length := by omega
      subst hi
      rw [List.take_of_length_le (by omega), Nat.mod_eq_of_lt (Nat.lt_of_le_of_lt (Nat.div_le_self _ _) (val_lt dm))] at hv
      refine c_trimO oq dq fun v' hv' => ?_
      rw [hv] at hv'
      exact H _ _ e2 hv'
theorem bl_top {k low top : Nat} (hl : low < 2 ^ k) (ht : top ≠ 0) : bl (low + 2 ^ k * top) = k + bl top := by
  have h1 := two_bl_le ht
  have h2 := lt_two_bl top
  have h3 := bl_pos ht
  have := bl_eq (n := low + 2 ^ k * top) (k := k + (bl top - 1)) (by
    rw [Nat.pow_add]
    have := Nat.mul_le_mul_left (2 ^ k) h1
    omega) (by
    rw [show k + (bl top - 1) + 1 = k + bl top by omega, Nat.pow_add]
    have h4 : 2 ^ k * (top + 1) ≤ 2 ^ k * 2 ^ bl top := Nat.mul_le_mul_left _ h2
    rw [Nat.mul_add] at h4
    omega)
  omega
theorem bl_val {l : List Nat} (h : Norm 4294967296 l) (hl : 0 < l.length) : bl (val 4294967296 l) = 32 * (l.length - 1) + bl (l[l.length - 1]) ∧ l[l.length - 1] ≠ 0 := by
  have hz : l[l.length - 1] ≠ 0 := by
    intro hz
    have := h.2
    rw [List.getLast?_eq_getElem?, List.getElem?_eq_getElem (by omega), hz] at this
    exact this rfl
  refine ⟨?_, hz⟩
  have h1 := val_split 4294967296 l (i := l.length - 1) (by omega)
  rw [List.drop_eq_getElem_cons (by omega), List.drop_eq_nil_of_le (by omega)] at h1
  simp only [val, Nat.mul_zero, Nat.add_zero] at h1
  have h2 := val_lt (h.1.take (l.length - 1))
  rw [List.length_take, Nat.min_eq_left (by omega)] at h2
  have hp : (4294967296 : Nat) ^ (l.length - 1) = 2 ^ (32 * (l.length - 1)) := by rw [Nat.pow_mul]
  rw [hp] at h1 h2
  rw [h1, bl_top h2 hz]
theorem c_magBits {u : Value} {a : Nat} (ha : Mg w u a) (ba : bl a ≤ 1099511627776) (H : K (.int .i64 (bl a : Nat)) w) : call P f_impl_magBits [u] w K := by
  obtain ⟨l, h1, n1, rfl, _⟩ := ha
  have l1 := dig_len n1 ba
  refine I_impl_magBits ?_
  unfold D_impl_magBits
  rw [h1.row.len u_s_uint32, bin_eql]
  refine cnd_dec (fun h0 => ?_) (fun h0 => ?_)
  · obtain rfl : l = [] := List.eq_nil_of_length_eq_zero (by omega)
    exact H
  · have hl : 0 < l.length := by omega
    obtain ⟨e1, e2⟩ := bl_val n1 hl
    rw [h1.row.len u_s_uint32, bin_subI1 (b := 1) (by omega) (by omega), bin_mul, wrap_i64 (by omega) (by omega), h1.row.len u_s_uint32, bin_subI1 (b := 1) (by omega) (by omega)]
    refine h1.at (by omega) u_s_uint32 i_uint32 u_uint32 ?_
    have g1 := Dig_get n1.1 (show l.length - 1 < l.length by omega)
    refine ⟨fun m x y w' => w' = w ∧ ∃ d c : Nat, x = .int .i64 (c : Int) ∧ y = .int .u32 (d : Int) ∧ m = bl d ∧ c + bl d = bl (val 4294967296 l), ⟨bl l[l.length - 1], rfl, l[l.length - 1], 32 * (l.length - 1), by congr 1, rfl, rfl, by omega⟩, ?_⟩
    rintro m x y junk w' ⟨rfl, d, c, rfl, rfl, rfl, hc⟩
    rw [bin_gtr]
    refine cnd_dec (fun hd => ?_) (fun hd => ?_)
    · rw [bin_addI1 (b := 1) (by omega), bin_shrN (s := 1) (by decide)]
      have hb := bl_shr d 1
      have hp := bl_pos (n := d) (by omega)
      exact ⟨_, by rw [hb]; omega, rfl, _, _, rfl, rfl, rfl, by rw [hb]; omega⟩
    · have : d = 0 := by omega
      subst this
      rw [bl_zero] at hc
      rw [← hc] at H
      exact H
end Go.Proofs.YtjompmflommadaaGreatDoor


set_option linter.unusedVariables false
namespace Go.Proofs.YtjompmflommadaaGreatDoor
open Go Go.Vc
variable {w : World} {K : Value → World → Prop}
def isSl : Value → Prop
  | .slice _ _ _ => True
  | _ => False
def IntR (w : World) (p : Value) (m : Int) : Prop := ∃ s, Bx w 0 t_impl_integer p [.bool (decide (m < 0)), s] ∧ Mg w s m.natAbs
def ZO (w : World) (base : Nat) (z : Value) : Prop := ∃ b s, Bx w base t_impl_integer z [.bool b, s] ∧ isSl s
theorem IntR.ext {w' : World} {p : Value} {m : Int} (h : IntR w p m) (he : Ext w w') : IntR w' p m := let ⟨s, h1, h2⟩ := h; ⟨s, h1.ext he, h2.ext he⟩
theorem ZO.ext {w' : World} {base : Nat} {z : Value} (h : ZO w base z) (he : Ext w w') : ZO w' base z := let ⟨b, s, h1, h2⟩ := h; ⟨b, s, h1.ext he, h2⟩
theorem ZO.low {base base' : Nat} {z : Value} (h : ZO w base z) (hb : base' ≤ base) : ZO w base' z := let ⟨b, s, h1, h2⟩ := h; ⟨b, s, h1.low hb, h2⟩
theorem Mg.isSl {v : Value} {n : Nat} (h : Mg w v n) : isSl v := by
  obtain ⟨l, h1, _⟩ := h
  obtain ⟨_, _, a, cap, rfl, _⟩ := h1.row
  trivial
theorem isSl.one {v : Value} (h : isSl v) : v.oneCell' = true := by
  unfold isSl at h
  split at h
  · rfl
  · exact h.elim
theorem nch_bx {base : Nat} {t : TypeId} {p : Value} {cs : List Value} {K : Value → Prop} (h : Bx w base t p cs) : nch p K = K p := by
  obtain ⟨g, rfl, _⟩ := h
  rfl
theorem IR_kept {k : IntKind} {w' : World} {v z : Value} {l : List Nat} {base : Nat} (h : IR k w v l) (hz : ZO w base z) (hg : w.grownBy w' (blk z)) : IR k w' v l := by
  obtain ⟨b, s, ⟨g, rfl, _, hb⟩, hs⟩ := hz
  refine ⟨?_, h.cap⟩
  obtain ⟨r1, r2, a, cap, rfl, r3⟩ := h.row
  refine ⟨r1, r2, a, cap, rfl, fun hn => ?_⟩
  obtain ⟨bb, o, rfl, q⟩ := r3 hn
  refine ⟨bb, o, rfl, fun j u hu => ?_⟩
  have hq := q j u hu
  have hne : bb ≠ g := by
    rintro rfl
    obtain ⟨d, hd⟩ : ∃ d : Nat, u = iv k d := by
      rw [List.getElem?_map] at hu
      cases hl : l[j]? with
      | none => rw [hl] at hu; cases hu
      | some d => rw [hl] at hu; cases hu; exact ⟨d, rfl⟩
    subst hd
    unfold World.cell? at hq
    simp only [hb] at hq
    have : [Value.bool b, s][o + j]? = some (iv k d) := by simpa using hq
    match o + j, this with
    | 0, h => simp at h
    | 1, h => simp at h; subst h; exact hs
    | _ + 2, h => simp at h
  have hlt : bb < w.heap.size := by
    unfold World.cell? at hq
    rcases Nat.lt_or_ge bb w.heap.size with h | h
    · exact h
    · rw [Array.getElem?_eq_none h] at hq; simp at hq
  unfold World.cell? at hq ⊢
  rw [hg.block bb hlt (by simp [blk]; omega)]
  exact hq
theorem Mg.kept_box {w' : World} {v z : Value} {n : Nat} {base : Nat} (h : Mg w v n) (hz : ZO w base z) (hg : w.grownBy w' (blk z)) : Mg w' v n :=
  let ⟨l, h1, h2, h3, h4⟩ := h; ⟨l, IR_kept h1 hz hg, h2, h3, by
    obtain ⟨b, s, hb, _⟩ := hz
    intro k hk
    obtain ⟨c, f, hc⟩ := h4 k hk
    have hne : some k ≠ blk z := by
      intro e
      obtain ⟨c', f', hc'⟩ := Ty.box hb k e.symm
      rw [hc] at hc'
      simp only [Option.some.injEq, Obj.cells.injEq] at hc'
      exact absurd hc'.2.1 (by decide)
    exact ⟨c, f, by rw [hg.block k (heap_lt hc) hne]; exact hc⟩⟩
theorem IntR.kept {w' : World} {x z : Value} {m : Int} {base : Nat} (h : IntR w x m) (hz : ZO w base z) (hg : w.grownBy w' (blk z)) (hne : x ≠ z) : IntR w' x m := by
  obtain ⟨s, h1, h2⟩ := h
  refine ⟨s, h1.kept hg ?_, h2.kept_box hz hg⟩
  obtain ⟨b, s', ⟨g, rfl, _⟩, _⟩ := hz
  obtain ⟨g', rfl, _⟩ := h1
  right
  simp [blk] at hne ⊢
  omega
theorem IR.kept_at {k : IntKind} {w' : World} {v : Value} {l : List Nat} {row : Option Nat} (h : IR k w v l) (hg : w.grownBy w' row) (hne : v.ownBlock = none ∨ v.ownBlock ≠ row) : IR k w' v l := by
  refine ⟨?_, h.cap⟩
  obtain ⟨r1, r2, a, cap, rfl, r3⟩ := h.row
  refine ⟨r1, r2, a, cap, rfl, fun hn => ?_⟩
  obtain ⟨bb, o, rfl, q⟩ := r3 hn
  refine ⟨bb, o, rfl, fun j u hu => ?_⟩
  have hq := q j u hu
  have hlt : bb < w.heap.size := by
    unfold World.cell? at hq
    rcases Nat.lt_or_ge bb w.heap.size with h | h
    · exact h
    · rw [Array.getElem?_eq_none h] at hq; simp at hq
  unfold World.cell? at hq ⊢
  rw [hg.block bb hlt (by
    rcases hne with h | h
    · simp [Value.ownBlock] at h
    · simpa [Value.ownBlock] using h)]
  exact hq
theorem Ty_kept {w' : World} {k row : Option Nat} {e e' : TypeId} (h : Ty w k e) (hg : w.grownBy w' row) (ht : Ty w row e') (hne : e ≠ e') : Ty w' k e := fun b hb => by
  obtain ⟨c, f, hc⟩ := h b hb
  refine ⟨c, f, ?_⟩
  rw [hg.block b (heap_lt hc) (fun e1 => by
    obtain ⟨c', f', hc'⟩ := ht b e1.symm
    rw [hc] at hc'
    simp only [Option.some.injEq, Obj.cells.injEq] at hc'
    exact hne hc'.2.1)]
  exact hc
theorem Mg.kt {w' : World} {v : Value} {n : Nat} {row : Option Nat} {e' : TypeId} (h : Mg w v n) (hg : w.grownBy w' row) (ht : Ty w row e') (hne : t_uint32 ≠ e') : Mg w' v n :=
  let ⟨l, h1, h2, h3, h4⟩ := h; ⟨l, IR.kept_at h1 hg (h4.apart ht hne), h2, h3, Ty_kept h4 hg ht hne⟩
theorem IntR.kt {w' : World} {p : Value} {m : Int} {row : Option Nat} {e' : TypeId} (h : IntR w p m) (hg : w.grownBy w' row) (ht : Ty w row e') (h1 : t_uint32 ≠ e') (h2 : t_impl_integer ≠ e') : IntR w' p m :=
  let ⟨s, a, b⟩ := h; ⟨s, keep_box a hg ht h2, b.kt hg ht h1⟩
theorem ZO.kt {w' : World} {base : Nat} {p : Value} {row : Option Nat} {e' : TypeId} (h : ZO w base p) (hg : w.grownBy w' row) (ht : Ty w row e') (h2 : t_impl_integer ≠ e') : ZO w' base p :=
  let ⟨b, s, a, c⟩ := h; ⟨b, s, keep_box a hg ht h2, c⟩
theorem ZO.ty {base : Nat} {p : Value} (h : ZO w base p) : Ty w (blk p) t_impl_integer := let ⟨_, _, a, _⟩ := h; Ty.box a
theorem ZO.blk_ge {base : Nat} {z : Value} (h : ZO w base z) {k : Nat} (hk : blk z = some k) : base ≤ k := by
  obtain ⟨b, s, h1, _⟩ := h
  exact (h1.blk_lt hk).1
theorem alc_Z {KW : Value → World → Prop} (H : ∀ p w', ZO w' w.heap.size p → IntR w' p 0 → Ext w w' → KW p w') : alc P t_impl_integer w KW :=
  alc_bx i_impl_integer fun p w' hb he _ => H p w' ⟨false, .slice none 0 0, hb, trivial⟩ ⟨.slice none 0 0, hb.low (Nat.zero_le _), Mg.nil _⟩ he
section
variable {p : Value} {m : Int} {K : Value → Prop}
theorem IntR.neg {base : Nat} {s : Value} {b : Bool} (h : Bx w base t_impl_integer p [.bool b, s]) (H : K (.bool b)) : fda P t_impl_integer p 0 w (fun a => ld P t_bool a w K) :=
  h.fld (off := 0) rfl u_impl_integer rfl i_bool u_bool rfl H
theorem IntR.mag {base : Nat} {s : Value} {b : Bool} (h : Bx w base t_impl_integer p [.bool b, s]) (H : K s) : fda P t_impl_integer p 1 w (fun a => ld P t_s_uint32 a w K) :=
  h.fld (off := 1) rfl u_impl_integer rfl i_s_uint32 u_s_uint32 rfl H
end
def sgnI (neg : Bool) (n : Nat) : Int := if neg then -(n : Int) else n
theorem sgnI_abs (neg : Bool) (n : Nat) : (sgnI neg n).natAbs = n := by unfold sgnI; split <;> simp
theorem sgnI_neg (neg : Bool) (n : Nat) : decide (sgnI neg n < 0) = (neg && decide (0 < n)) := by
  unfold sgnI
  cases neg
  · simp
  · simp
theorem c_put {z s : Value} {neg : Bool} {l : List Nat} {base : Nat} (hz : ZO w base z) (hs : IR .u32 w s l) (hty : Ty w s.ownBlock t_uint32) (hd : Dig 4294967296 l)
    (H : ∀ w', ZO w' base z → IntR w' z (sgnI neg (val 4294967296 l)) → w.grownBy w' (blk z) → K z w') : call P f_impl_integer_put [z, .bool neg, s] w K := by
  refine I_impl_integer_put ?_
  unfold D_impl_integer_put
  refine c_magTrim hs fun s' hs' _ hbk => ?_
  obtain ⟨b, s0, hb, hs0⟩ := hz
  have hz : ZO w base z := ⟨b, s0, hb, hs0⟩
  rw [nch_bx hb]
  have hM : Mg w s' (val 4294967296 l) := ⟨_, hs', Norm.trim hd, val_trim _ _, by
    rcases hbk with e | e
    · rw [e]; exact Ty_none _ _
    · rw [e]; exact hty⟩
  refine hb.fput (off := 1) (by simp) u_impl_integer rfl i_s_uint32 hM.isSl.one fun w1 hb1 g1 => ?_
  have hM1 := hM.kept_box hz g1
  have hs1 := IR_kept hs' hz g1
  have hb1 : Bx w1 base t_impl_integer z [.bool b, s'] := hb1
  refine ⟨fun x w' => w' = w1 ∧ (x = .bool (decide (0 < val 4294967296 l)) ∨ neg = false), ?_, ?_⟩
  · rintro x junk w' ⟨rfl, hx⟩
    have hp : ∃ y, y = (neg && decide (0 < val 4294967296 l)) ∧ pick (.bool neg) x (.bool false) = fun K => K (.bool y) := by
      refine ⟨_, rfl, ?_⟩
      funext K
      rw [pick_bool]
      rcases hx with rfl | rfl
      · cases neg <;> simp
      · simp
    obtain ⟨y, hy, hp⟩ := hp
    rw [hp]
    show nch z _
    rw [nch_bx hb1]
    refine hb1.fput (off := 0) (by simp) u_impl_integer rfl i_bool rfl fun w2 hb2 g2 => ?_
    have hb2 : Bx w2 base t_impl_integer z [.bool y, s'] := hb2
    have hz1 : ZO w' base z := ⟨b, s', hb1, hM.isSl⟩
    refine H w2 ⟨y, s', hb2, hM.isSl⟩ ⟨s', ?_, ?_⟩ (grown_trans g1 g2)
    · rw [sgnI_neg, ← hy]
      exact hb2.low (Nat.zero_le _)
    · rw [sgnI_abs]
      exact hM1.kept_box hz1 g2
  · refine grd_split (fun hn => ?_) (fun hn => ?_)
    · rw [nch_bx hb1]
      refine IntR.mag hb1 ?_
      rw [hs1.row.len u_s_uint32, bin_gtr]
      refine ⟨rfl, .inl ?_⟩
      congr 1
      rw [decide_eq_decide]
      have h1 := (Norm.trim hd).eq_nil (by decide)
      rw [val_trim] at h1
      have h2 : (trim l).length = 0 ↔ val 4294967296 l = 0 := List.length_eq_zero_iff.trans h1
      omega
    · exact ⟨rfl, .inr (by simpa using hn)⟩
theorem c_putM {z s : Value} {neg : Bool} {n : Nat} {base : Nat} (hz : ZO w base z) (hs : Mg w s n)
    (H : ∀ w', ZO w' base z → IntR w' z (sgnI neg n) → w.grownBy w' (blk z) → K z w') : call P f_impl_integer_put [z, .bool neg, s] w K := by
  obtain ⟨l, h1, h2, rfl, h4⟩ := hs
  exact c_put hz h1 h4 h2.1 H
theorem grown_ext {a b c : World} {row : Option Nat} (he : Ext a b) (hg : b.grownBy c row) : a.grownBy c row := ext_grown he hg
theorem c_Sign {p : Value} {m : Int} (h : IntR w p m) (H : K (.int .i64 m.sign) w) : call P f_impl_integer_Sign [p] w K := by
  obtain ⟨s, hb, hm⟩ := h
  refine I_impl_integer_Sign ?_
  unfold D_impl_integer_Sign
  rw [nch_bx hb]
  refine IntR.neg hb ?_
  refine cnd_dec (fun hn => ?_) (fun hn => ?_)
  · rw [Int.sign_eq_neg_one_of_neg hn] at H; exact H
  · rw [nch_bx hb]
    refine IntR.mag hb ?_
    obtain ⟨l, h1, h2, h3, _⟩ := hm
    rw [h1.row.len u_s_uint32, bin_gtr]
    have e := h2.eq_nil (by decide)
    rw [h3] at e
    have e2 : l.length = 0 ↔ m.natAbs = 0 := List.length_eq_zero_iff.trans e
    refine cnd_dec (fun hp => ?_) (fun hp => ?_)
    · have : 0 < m := by omega
      rw [Int.sign_eq_one_of_pos this] at H; exact H
    · have : m = 0 := by omega
      subst this; exact H
theorem c_BitLen {p : Value} {m : Int} (h : IntR w p m) (hb : bl m.natAbs ≤ 1099511627776) (H : K (.int .i64 (bl m.natAbs : Nat)) w) : call P f_impl_integer_BitLen [p] w K := by
  obtain ⟨s, hx, hm⟩ := h
  refine I_impl_integer_BitLen ?_
  unfold D_impl_integer_BitLen
  rw [nch_bx hx]
  exact IntR.mag hx (c_magBits hm hb H)
def cmpI (a b : Int) : Int := if a < b then -1 else if b < a then 1 else 0
theorem c_Cmp {p q : Value} {a b : Int} (h1 : IntR w p a) (h2 : IntR w q b) (H : K (.int .i64 (cmpI a b)) w) : call P f_impl_integer_Cmp [p, q] w K := by
  obtain ⟨s, b1, m1⟩ := h1
  obtain ⟨t, b2, m2⟩ := h2
  refine I_impl_integer_Cmp ?_
  unfold D_impl_integer_Cmp
  rw [nch_bx b1]
  refine IntR.neg b1 ?_
  refine ⟨fun x w' => w' = w ∧ (a < 0 → x = .bool (decide (b < 0))), ?_, ?_⟩
  · rintro x junk w' ⟨rfl, hx⟩
    rw [pick_bool]
    by_cases ha : a < 0
    · rw [hx ha, decide_eq_true ha, cond_true]
      refine cnd_dec (fun hb => ?_) (fun hb => ?_)
      · rw [nch_bx b2]
        refine IntR.mag b2 ?_
        rw [nch_bx b1]
        refine IntR.mag b1 ?_
        refine c_magCmp m2 m1 ?_
        have : cmpN b.natAbs a.natAbs = cmpI a b := by unfold cmpN cmpI; split <;> split <;> (try split) <;> (try split) <;> omega
        rw [this]; exact H
      · rw [nch_bx b1]
        refine IntR.neg b1 ?_
        refine cnd_yes (decide_eq_true ha) ?_
        have : cmpI a b = -1 := by unfold cmpI; rw [if_pos (by omega)]
        rw [this] at H; exact H
    · rw [decide_eq_false ha, cond_false, cnd_false, nch_bx b1]
      refine IntR.neg b1 ?_
      refine cnd_no (decide_eq_false ha) ?_
      rw [nch_bx b2]
      refine IntR.neg b2 ?_
      refine cnd_dec (fun hb => ?_) (fun hb => ?_)
      · have : cmpI a b = 1 := by unfold cmpI; rw [if_neg (by omega), if_pos (by omega)]
        rw [this] at H; exact H
      · rw [nch_bx b1]
        refine IntR.mag b1 ?_
        rw [nch_bx b2]
        refine IntR.mag b2 ?_
        refine c_magCmp m1 m2 ?_
        have : cmpN a.natAbs b.natAbs = cmpI a b := by unfold cmpN cmpI; split <;> split <;> (try split) <;> (try split) <;> omega
        rw [this]; exact H
  · refine grd_split (fun hn => ?_) (fun hn => ?_)
    · rw [nch_bx b2]
      exact IntR.neg b2 ⟨rfl, fun _ => rfl⟩
    · exact ⟨rfl, fun ha => by rw [decide_eq_true ha] at hn; cases hn⟩
section
variable {z x y : Value} {a b : Int} {base : Nat}
theorem c_Neg (hz : ZO w base z) (hx : IntR w x a) (ba : bl a.natAbs ≤ 1099511627776) (H : ∀ w', ZO w' base z → IntR w' z (-a) → w.grownBy w' (blk z) → K z w') : call P f_impl_integer_Neg [z, x] w K := by
  obtain ⟨s, hb, hm⟩ := hx
  refine I_impl_integer_Neg ?_
  unfold D_impl_integer_Neg
  rw [nch_bx hb]
  refine IntR.neg hb ?_
  rw [una_not, nch_bx hb]
  refine IntR.mag hb ?_
  refine c_Clone hm ba fun v w1 e1 h1 => ?_
  refine ⟨e1, c_putM (hz.ext e1) h1.Mg fun w2 z2 i2 g2 => H w2 z2 ?_ (grown_ext e1 g2)⟩
  have : sgnI (!decide (a < 0)) a.natAbs = -a := by unfold sgnI; by_cases h : a < 0 <;> simp [h] <;> omega
  rw [this] at i2; exact i2
theorem c_Abs (hz : ZO w base z) (hx : IntR w x a) (ba : bl a.natAbs ≤ 1099511627776) (H : ∀ w', ZO w' base z → IntR w' z a.natAbs → w.grownBy w' (blk z) → K z w') : call P f_impl_integer_Abs [z, x] w K := by
  obtain ⟨s, hb, hm⟩ := hx
  refine I_impl_integer_Abs ?_
  unfold D_impl_integer_Abs
  rw [nch_bx hb]
  refine IntR.mag hb ?_
  refine c_Clone hm ba fun v w1 e1 h1 => ?_
  exact c_putM (hz.ext e1) h1.Mg fun w2 z2 i2 g2 => H w2 z2 i2 (grown_ext e1 g2)
theorem c_plus {s : Value} {neg : Bool} {n : Nat} (hz : ZO w base z) (hx : IntR w x a) (hs : Mg w s n) (ba : bl a.natAbs ≤ 1099511627776) (bb : bl n ≤ 1099511627776)
    (hn : n = 0 → True) (H : ∀ w', ZO w' base z → IntR w' z (a + sgnI neg n) → w.grownBy w' (blk z) → K z w') : call P f_impl_integer_plus [z, x, .bool neg, s] w K := by
  obtain ⟨s1, hb, hm⟩ := hx
  refine I_impl_integer_plus ?_
  unfold D_impl_integer_plus
  rw [nch_bx hb]
  refine IntR.neg hb ?_
  rw [bin_beql _ _ _ _ _ _ u_bool]
  refine cnd_split (fun h => ?_) (fun h => ?_)
  · have h : decide (a < 0) = neg := by simpa using h
    rw [nch_bx hb]
    refine IntR.mag hb ?_
    refine c_magAdd hm hs ba bb fun v w1 e1 h1 => ?_
    refine c_putM (hz.ext e1) h1.Mg fun w2 z2 i2 g2 => H w2 z2 ?_ (grown_ext e1 g2)
    have : sgnI neg (a.natAbs + n) = a + sgnI neg n := by unfold sgnI; subst h; by_cases h : a < 0 <;> simp [h] <;> omega
    rw [this] at i2; exact i2
  · have h : (decide (a < 0)) = !neg := by
      cases neg <;> by_cases ha : a < 0 <;> simp [ha] at h ⊢
    rw [nch_bx hb]
    refine IntR.mag hb ?_
    refine c_magCmp hm hs ?_
    rw [bin_geq]
    refine cnd_dec (fun hc => ?_) (fun hc => ?_)
    · have hle : n ≤ a.natAbs := by unfold cmpN at hc; split at hc <;> (try split at hc) <;> omega
      rw [nch_bx hb]
      refine IntR.neg hb ?_
      rw [nch_bx hb]
      refine IntR.mag hb ?_
      refine c_magSub hm hs hle ba fun v w1 e1 h1 => ?_
      refine ⟨e1, c_putM (hz.ext e1) h1.Mg fun w2 z2 i2 g2 => H w2 z2 ?_ (grown_ext e1 g2)⟩
      have : sgnI (decide (a < 0)) (a.natAbs - n) = a + sgnI neg n := by unfold sgnI; rw [h]; cases neg <;> simp at h ⊢ <;> omega
      rw [this] at i2; exact i2
    · have hle : a.natAbs ≤ n := by unfold cmpN at hc; split at hc <;> (try split at hc) <;> omega
      rw [nch_bx hb]
      refine IntR.mag hb ?_
      refine c_magSub hs hm hle bb fun v w1 e1 h1 => ?_
      refine c_putM (hz.ext e1) h1.Mg fun w2 z2 i2 g2 => H w2 z2 ?_ (grown_ext e1 g2)
      have : sgnI neg (n - a.natAbs) = a + sgnI neg n := by unfold sgnI; cases neg <;> simp at h ⊢ <;> omega
      rw [this] at i2; exact i2
theorem c_Add (hz : ZO w base z) (hx : IntR w x a) (hy : IntR w y b) (ba : bl a.natAbs ≤ 1099511627776) (bb : bl b.natAbs ≤ 1099511627776)
    (H : ∀ w', ZO w' base z → IntR w' z (a + b) → w.grownBy w' (blk z) → K z w') : call P f_impl_integer_Add [z, x, y] w K := by
  obtain ⟨s, hb, hm⟩ := hy
  refine I_impl_integer_Add ?_
  unfold D_impl_integer_Add
  rw [nch_bx hb]
  refine IntR.neg hb ?_
  rw [nch_bx hb]
  refine IntR.mag hb ?_
  refine c_plus hz hx hm ba bb (fun _ => trivial) fun w2 z2 i2 g2 => H w2 z2 ?_ g2
  have : sgnI (decide (b < 0)) b.natAbs = b := by unfold sgnI; by_cases h : b < 0 <;> simp [h] <;> omega
  rw [this] at i2; exact i2
theorem c_Sub (hz : ZO w base z) (hx : IntR w x a) (hy : IntR w y b) (ba : bl a.natAbs ≤ 1099511627776) (bb : bl b.natAbs ≤ 1099511627776)
    (H : ∀ w', ZO w' base z → IntR w' z (a - b) → w.grownBy w' (blk z) → K z w') : call P f_impl_integer_Sub [z, x, y] w K := by
  obtain ⟨s, hb, hm⟩ := hy
  refine I_impl_integer_Sub ?_
  unfold D_impl_integer_Sub
  rw [nch_bx hb]
  refine IntR.neg hb ?_
  rw [una_not, nch_bx hb]
  refine IntR.mag hb ?_
  refine c_plus hz hx hm ba bb (fun _ => trivial) fun w2 z2 i2 g2 => H w2 z2 ?_ g2
  have : a + sgnI (!decide (b < 0)) b.natAbs = a - b := by unfold sgnI; by_cases h : b < 0 <;> simp [h] <;> omega
  rw [this] at i2; exact i2
theorem c_Lsh {n : Nat} (hz : ZO w base z) (hx : IntR w x a) (ba : bl a.natAbs ≤ 1099511627776) (bn : n ≤ 1099511627776)
    (H : ∀ w', ZO w' base z → IntR w' z (a * 2 ^ n) → w.grownBy w' (blk z) → K z w') : call P f_impl_integer_Lsh [z, x, .int .u64 (n : Int)] w K := by
  obtain ⟨s, hb, hm⟩ := hx
  refine I_impl_integer_Lsh ?_
  unfold D_impl_integer_Lsh
  rw [nch_bx hb]
  refine IntR.neg hb ?_
  rw [nch_bx hb]
  refine IntR.mag hb ?_
  refine c_magLeft hm ba bn fun v w1 e1 h1 => ?_
  refine ⟨e1, c_putM (hz.ext e1) h1.Mg fun w2 z2 i2 g2 => H w2 z2 ?_ (grown_ext e1 g2)⟩
  have : sgnI (decide (a < 0)) (a.natAbs * 2 ^ n) = a * 2 ^ n := by
    unfold sgnI
    by_cases h : a < 0
    · simp only [h, decide_true, if_true, Int.natCast_mul, Int.natCast_pow]
      have : (a.natAbs : Int) = -a := by omega
      rw [this, Int.neg_mul, Int.neg_neg]; rfl
    · simp only [h, decide_false, Bool.false_eq_true, if_false, Int.natCast_mul, Int.natCast_pow]
      have : (a.natAbs : Int) = a := by omega
      rw [this]; rfl
  rw [this] at i2; exact i2
theorem neg_div {a p : Int} (h : a < 0) (hp : 0 < p) : -((-a - 1) / p + 1) = a / p := by
  have h1 := Int.mul_ediv_add_emod (-a - 1) p
  have h2 := Int.emod_nonneg (-a - 1) (Int.ne_of_gt hp)
  have h3 := Int.emod_lt_of_pos (-a - 1) hp
  generalize (-a - 1) / p = d at *
  generalize (-a - 1) % p = r at *
  have h4 : a = (p - r - 1) + p * (-(d + 1)) := by grind
  rw [h4, Int.add_mul_ediv_left _ _ (Int.ne_of_gt hp), Int.ediv_eq_zero_of_lt (by omega) (by omega)]
  omega
theorem bsl_u32 {d : Nat} {KW : Value → World → Prop} (hd : d < 4294967296) (h0 : d ≠ 0) (H : ∀ v w', Ext w w' → Mg w' v d → KW v w') : bsl P t_s_uint32 1 [(0, .int .u32 (d : Int))] w KW := by
  refine bsl_one u_s_uint32 i_uint32 rfl rfl ?_
  have he := Ext_alloc w (.cells #[.int .u32 (d : Int)] t_uint32)
  have ho : OD .u32 t_uint32 (w.alloc (.cells #[.int .u32 (d : Int)] t_uint32)) w.heap.size (.slice (some ⟨w.heap.size, 0, none⟩) 1 1) [d] := owns_lit w [.int .u32 (d : Int)] t_uint32 (by simp [maxLen])
  exact H _ _ he ⟨[d], ho.IR, ⟨fun x hx => by simp at hx; omega, by simpa using h0⟩, by simp [val], Ty.owns ho⟩
theorem c_Rsh {n : Nat} (hz : ZO w base z) (hx : IntR w x a) (ba : bl a.natAbs ≤ 1099511627775) (bn : n ≤ 9223372036854775807)
    (H : ∀ w', ZO w' base z → IntR w' z (a / 2 ^ n) → w.grownBy w' (blk z) → K z w') : call P f_impl_integer_Rsh [z, x, .int .u64 (n : Int)] w K := by
  obtain ⟨s, hb, hm⟩ := hx
  refine I_impl_integer_Rsh ?_
  unfold D_impl_integer_Rsh
  have hpc : ((2 ^ n : Nat) : Int) = (2 : Int) ^ n := by simp
  rw [nch_bx hb]
  refine IntR.neg hb ?_
  rw [una_not]
  refine cnd_split (fun h => ?_) (fun h => ?_)
  · have h : ¬ a < 0 := by simpa using h
    rw [nch_bx hb]
    refine IntR.mag hb ?_
    refine c_magRight hm (by omega) bn fun v w1 e1 h1 => ?_
    refine c_putM (hz.ext e1) h1.Mg fun w2 z2 i2 g2 => H w2 z2 ?_ (grown_ext e1 g2)
    have : sgnI false (a.natAbs / 2 ^ n) = a / 2 ^ n := by
      show ((a.natAbs / 2 ^ n : Nat) : Int) = _
      rw [Int.natCast_ediv, hpc, show (a.natAbs : Int) = a by omega]
    rw [this] at i2; exact i2
  · have h : a < 0 := by simpa using h
    rw [nch_bx hb]
    refine IntR.mag hb ?_
    refine bsl_u32 (d := 1) (by decide) (by decide) fun v1 w1 e1 m1 => ?_
    refine c_magSub (hm.ext e1) m1 (by omega) (by omega) fun v2 w2 e2 m2 => ?_
    have hs := bl_sub_le a.natAbs 1
    refine c_magRight m2.Mg (by omega) bn fun v3 w3 e3 m3 => ?_
    refine bsl_u32 (d := 1) (by decide) (by decide) fun v4 w4 e4 m4 => ?_
    have hs2 := bl_shr (a.natAbs - 1) n
    refine c_magAdd (m3.Mg.ext e4) m4 (by omega) (by rw [bl_one]; decide) fun v5 w5 e5 m5 => ?_
    have E := e1.trans (e2.trans (e3.trans (e4.trans e5)))
    refine c_putM (hz.ext E) m5.Mg fun w6 z6 i6 g6 => H w6 z6 ?_ (grown_ext E g6)
    have : sgnI true ((a.natAbs - 1) / 2 ^ n + 1) = a / 2 ^ n := by
      have hp : (0 : Int) < 2 ^ n := Int.pow_pos (by decide)
      show -((((a.natAbs - 1) / 2 ^ n + 1 : Nat)) : Int) = _
      rw [Int.natCast_add, Int.natCast_ediv, hpc]
      have h2 : ((a.natAbs - 1 : Nat) : Int) = -a - 1 := by omega
      rw [h2]
      exact neg_div (by omega) hp
    rw [this] at i6; exact i6
end
end Go.Proofs.YtjompmflommadaaGreatDoor


set_option linter.unusedVariables false
namespace Go.Proofs.YtjompmflommadaaGreatDoor
open Go Go.Vc
variable {w : World} {K : Value → World → Prop}
theorem c_SetInt64 {z : Value} {n : Int} {base : Nat} (hz : ZO w base z) (h1 : -9223372036854775808 ≤ n) (h2 : n ≤ 9223372036854775807)
    (H : ∀ w', ZO w' base z → IntR w' z n → w.grownBy w' (blk z) → K z w') : call P f_impl_integer_SetInt64 [z, .int .i64 n] w K := by
  refine I_impl_integer_SetInt64 ?_
  unfold D_impl_integer_SetInt64
  rw [cnv_int_int u_int64 u_uint64]
  refine ⟨fun x w' => w' = w ∧ x = .int .u64 (n.natAbs : Int), ?_, ?_⟩
  · rintro x junk w' ⟨rfl, rfl⟩
    rw [bin_lss, cnv_64_32, bin_shrN (s := 32) (by decide), cnv_64_32]
    rw [show (2 : Nat) ^ 32 = 4294967296 from rfl]
    have hm : n.natAbs / 4294967296 % 4294967296 = n.natAbs / 4294967296 := Nat.mod_eq_of_lt (by omega)
    rw [hm]
    refine bsl_two u_s_uint32 i_uint32 rfl rfl rfl ?_
    have he := Ext_alloc w' (.cells #[.int .u32 ((n.natAbs % 4294967296 : Nat) : Int), .int .u32 ((n.natAbs / 4294967296 : Nat) : Int)] t_uint32)
    have ho : OD .u32 t_uint32 (w'.alloc (.cells #[.int .u32 ((n.natAbs % 4294967296 : Nat) : Int), .int .u32 ((n.natAbs / 4294967296 : Nat) : Int)] t_uint32)) w'.heap.size (.slice (some ⟨w'.heap.size, 0, none⟩) 2 2) [n.natAbs % 4294967296, n.natAbs / 4294967296] :=
      owns_lit w' [.int .u32 ((n.natAbs % 4294967296 : Nat) : Int), .int .u32 ((n.natAbs / 4294967296 : Nat) : Int)] t_uint32 (by simp [maxLen])
    have hd : Dig 4294967296 [n.natAbs % 4294967296, n.natAbs / 4294967296] := fun d hd => by
      simp only [List.mem_cons, List.not_mem_nil, or_false] at hd
      rcases hd with rfl | rfl
      · exact Nat.mod_lt _ (by decide)
      · omega
    refine c_put (hz.ext he) ho.IR (Ty.owns ho) hd fun w2 z2 i2 g2 => H w2 z2 ?_ (grown_ext he g2)
    have e : val 4294967296 [n.natAbs % 4294967296, n.natAbs / 4294967296] = n.natAbs := by
      simp only [val]
      have := Nat.div_add_mod n.natAbs 4294967296
      omega
    rw [e] at i2
    have : sgnI (decide (n < 0)) n.natAbs = n := by unfold sgnI; by_cases h : n < 0 <;> simp [h] <;> omega
    rw [this] at i2; exact i2
  · rw [bin_lss]
    have hw : IntKind.u64.wrap n = if n < 0 then n + 18446744073709551616 else n := by
      simp [IntKind.wrap, IntKind.bits, IntKind.signed]; split <;> omega
    refine cnd_dec (fun h => ?_) (fun h => ?_)
    · rw [una_neg_int, hw, if_pos h]
      refine ⟨rfl, ?_⟩
      congr 1
      have : IntKind.u64.wrap (0 - (n + 18446744073709551616)) = (-n) % 18446744073709551616 := by
        simp [IntKind.wrap, IntKind.bits, IntKind.signed]; omega
      rw [this]; omega
    · rw [hw, if_neg h]
      exact ⟨rfl, by congr 1; omega⟩
theorem c_newInt {n : Int} (h1 : -9223372036854775808 ≤ n) (h2 : n ≤ 9223372036854775807)
    (H : ∀ p w', Ext w w' → ZO w' w.heap.size p → IntR w' p n → K p w') : call P f_impl_newInt [.int .i64 n] w K := by
  refine I_impl_newInt ?_
  unfold D_impl_newInt
  refine alc_Z fun p w1 z1 _ e1 => ?_
  exact c_SetInt64 z1 h1 h2 fun w2 z2 i2 g2 => H p w2 (ext_of_grown e1 (fun g hg => z1.blk_ge hg) g2) z2 i2
theorem bl0_min_i64 {ats : Array TypeId} {ty : TypeId} {k : IntKind} {a b : Int} {K : Value → Prop} : bl0 P .min ats ty [.int k a, .int k b] w K = K (.int k (min a b)) := by
  unfold bl0
  have : rv P (builtin .min ats ty #[] [.int k a, .int k b].toArray) w = some (.value (.int k (min a b))) := by
    have e : min a b = if b < a then b else a := by split <;> omega
    rw [e]
    simp [builtin, Builtin.min_, Builtin.min2]
  rw [this]
  simp [valK]
theorem bl0_max_i64 {ats : Array TypeId} {ty : TypeId} {k : IntKind} {a b : Int} {K : Value → Prop} : bl0 P .max ats ty [.int k a, .int k b] w K = K (.int k (max a b)) := by
  unfold bl0
  have : rv P (builtin .max ats ty #[] [.int k a, .int k b].toArray) w = some (.value (.int k (max a b))) := by
    have e : max a b = if a < b then b else a := by split <;> omega
    rw [e]
    simp [builtin, Builtin.max_, Builtin.max2]
  rw [this]
  simp [valK]
theorem c_low {p : Value} {m : Int} (h : IntR w p m) (hm : m.natAbs < 18446744073709551616) (H : K (.int .u64 (m.natAbs : Int)) w) : call P f_impl_integer_low [p] w K := by
  obtain ⟨s, hb, l, h1, h2, h3, _⟩ := h
  have b1 := h1.bound
  refine I_impl_integer_low ?_
  unfold D_impl_integer_low
  rw [nch_bx hb]
  refine IntR.mag hb ?_
  rw [h1.row.len u_s_uint32]
  have hlen : l.length ≤ 2 := by
    refine Nat.le_of_not_lt fun hc => ?_
    have := h2.ge (by rintro rfl; simp at hc)
    have h4 : (4294967296 : Nat) ^ 2 ≤ 4294967296 ^ (l.length - 1) := Nat.pow_le_pow_right (by decide) (by omega)
    have h5 : (4294967296 : Nat) ^ 2 = 18446744073709551616 := by decide
    omega
  have hmin : bl0 P .min #[t_int, t_int] t_int [.int .i64 (l.length : Int), .int .i64 2] w = fun K => K (.int .i64 (l.length : Int)) := by
    funext K
    rw [bl0_min_i64]
    congr 2; omega
  rw [hmin]
  show bin P .sub t_int false true (.int .i64 (l.length : Int)) (.int .i64 1) w _
  rw [bin_sub, wrap_i64 (by omega) (by omega)]
  refine ⟨fun g x y w' => w' = w ∧ ∃ u : Nat, x = .int .u64 (u : Int) ∧ y = .int .i64 ((g : Int) - 1) ∧ g ≤ l.length ∧ u = val 4294967296 (l.drop g), ⟨l.length, rfl, 0, rfl, rfl, Nat.le_refl _, by simp [val]⟩, ?_⟩
  rintro g x y junk w' ⟨rfl, u, rfl, rfl, hg, hu⟩
  rw [bin_geq]
  refine cnd_dec (fun hge => ?_) (fun hlt => ?_)
  · have hg0 : 0 < g := by omega
    have hi : g - 1 < l.length := by omega
    have g1 := Dig_get h2.1 hi
    have hul : u < 4294967296 := by
      have := val_lt (h2.1.drop g)
      rw [List.length_drop, ← hu] at this
      have h4 : (4294967296 : Nat) ^ (l.length - g) ≤ 4294967296 ^ 1 := Nat.pow_le_pow_right (by decide) (by omega)
      omega
    rw [bin_shlN (s := 32) (by decide) (by rw [max_u64, show (2 : Nat) ^ 32 = 4294967296 from rfl]; omega), show (2 : Nat) ^ 32 = 4294967296 from rfl]
    rw [nch_bx hb]
    refine IntR.mag hb ?_
    rw [show (g : Int) - 1 = ((g - 1 : Nat) : Int) by omega]
    refine h1.at hi u_s_uint32 i_uint32 u_uint32 ?_
    rw [cnv_32_64' g1, bin_orN (b := l[g - 1]) (by simp only [IntKind.bits]; omega) (by simp only [IntKind.bits]; omega) rfl, Nat.or_comm, right_or g1]
    rw [bin_sub, wrap_i64 (by omega) (by omega)]
    refine ⟨g - 1, by omega, rfl, _, rfl, by congr 1, by omega, ?_⟩
    rw [List.drop_eq_getElem_cons hi, val, show g - 1 + 1 = g by omega, ← hu, Nat.mul_comm]
  · have : g = 0 := by omega
    subst this
    rw [List.drop_zero, h3] at hu
    subst hu
    exact H
theorem c_Int64 {p : Value} {m : Int} (h : IntR w p m) (hm : m.natAbs < 9223372036854775808) (H : K (.int .i64 m) w) : call P f_impl_integer_Int64 [p] w K := by
  have h0 := h
  obtain ⟨s, hb, l, h1, h2, h3, _⟩ := h
  refine I_impl_integer_Int64 ?_
  unfold D_impl_integer_Int64
  rw [nch_bx hb]
  refine IntR.neg hb ?_
  refine cnd_dec (fun hn => ?_) (fun hn => ?_)
  · refine c_low h0 (by omega) ?_
    rw [cnv_int_int u_uint64 u_int64, wrap_i64 (by omega) (by omega), una_neg_int, wrap_i64 (by omega) (by omega)]
    rw [show (0 : Int) - (m.natAbs : Int) = m by omega]
    exact H
  · refine c_low h0 (by omega) ?_
    rw [cnv_int_int u_uint64 u_int64, wrap_i64 (by omega) (by omega)]
    rw [show (m.natAbs : Int) = m by omega]
    exact H
theorem bit_val {l : List Nat} (hd : Dig 4294967296 l) (i : Nat) : val 4294967296 l / 2 ^ i % 2 = l.getD (i / 32) 0 / 2 ^ (i % 32) % 2 := by
  have hn : 2 ^ i = 4294967296 ^ (i / 32) * 2 ^ (i % 32) := by
    conv => lhs; rw [← Nat.div_add_mod i 32, Nat.pow_add, Nat.pow_mul]
  have hs : i % 32 < 32 := Nat.mod_lt _ (by decide)
  rw [hn, ← Nat.div_div_eq_div_mul]
  by_cases h : i / 32 < l.length
  · have hp : 0 < 4294967296 ^ (i / 32) := Nat.pow_pos (by decide)
    have h1 : val 4294967296 l / 4294967296 ^ (i / 32) = val 4294967296 (l.drop (i / 32)) := by
      rw [val_split _ l (Nat.le_of_lt h), Nat.add_mul_div_left _ _ hp, Nat.div_eq_of_lt, Nat.zero_add]
      have := val_lt (hd.take (i / 32))
      rw [List.length_take, Nat.min_eq_left (by omega)] at this
      exact this
    rw [h1, List.drop_eq_getElem_cons h, val, getD_get h]
    have h2 : (4294967296 : Nat) = 2 ^ (i % 32) * (2 * 2 ^ (31 - i % 32)) := by
      rw [← Nat.pow_succ', ← Nat.pow_add, show i % 32 + (31 - i % 32).succ = 32 by omega]
    have h3 : ∀ X, 4294967296 * X = 2 ^ (i % 32) * (2 * (2 ^ (31 - i % 32) * X)) := fun X => by
      conv => lhs; rw [h2]
      grind
    rw [h3, Nat.add_mul_div_left _ _ (Nat.two_pow_pos _), Nat.add_mul_mod_self_left]
  · have h1 : val 4294967296 l / 4294967296 ^ (i / 32) = 0 :=
      Nat.div_eq_of_lt (Nat.lt_of_lt_of_le (val_lt hd) (Nat.pow_le_pow_right (by decide) (by omega)))
    have h2 : l.getD (i / 32) 0 = 0 := by rw [List.getD_eq_getElem?_getD]; simp [show l.length ≤ i / 32 by omega]
    rw [h1, h2]
theorem c_Bit {p : Value} {m : Int} {i : Nat} (h : IntR w p m) (hi : i ≤ 9223372036854775807) (H : K (.int .u64 ((m.natAbs / 2 ^ i % 2 : Nat) : Int)) w) : call P f_impl_integer_Bit [p, .int .i64 (i : Int)] w K := by
  obtain ⟨s, hb, l, h1, h2, h3, _⟩ := h
  have hv := bit_val h2.1 i
  rw [h3] at hv
  rw [hv] at H
  refine I_impl_integer_Bit ?_
  unfold D_impl_integer_Bit
  rw [bin_quoN (b := 32) (by rw [max_i64]; omega) (by decide), nch_bx hb]
  refine IntR.mag hb ?_
  rw [h1.row.len u_s_uint32, bin_geq]
  refine cnd_dec (fun hge => ?_) (fun hlt => ?_)
  · have h2 : l.getD (i / 32) 0 = 0 := by rw [List.getD_eq_getElem?_getD]; simp [show l.length ≤ i / 32 by omega]
    rw [h2] at H
    simpa using H
  · have hlt : i / 32 < l.length := by omega
    rw [nch_bx hb]
    refine IntR.mag hb ?_
    rw [bin_quoN (b := 32) (by rw [max_i64]; omega) (by decide)]
    refine h1.at hlt u_s_uint32 i_uint32 u_uint32 ?_
    have g1 := Dig_get h2.1 hlt
    rw [bin_remN (b := 32) (by decide), bin_shrN (s := i % 32) (by simp only [IntKind.bits]; omega)]
    have hq : l[i / 32] / 2 ^ (i % 32) < 2 ^ IntKind.u32.bits := Nat.lt_of_le_of_lt (Nat.div_le_self _ _) g1
    rw [bin_andN (b := 1) hq (by decide) rfl, Nat.and_one_is_mod, cnv_int_int u_uint32 u_uint, w_u64' (by omega)]
    rw [getD_get hlt] at H
    exact H
end Go.Proofs.YtjompmflommadaaGreatDoor


set_option linter.unusedVariables false
namespace Go.Proofs.YtjompmflommadaaGreatDoor
open Go Go.Vc
variable {w : World} {K : Value → World → Prop}
theorem one_2 {a b : Value} (ha : a.oneCell' = true) (hb : b.oneCell' = true) : ∀ x ∈ [a, b], x.oneCell' = true := by
  intro x hx
  simp only [List.mem_cons, List.not_mem_nil, or_false] at hx
  rcases hx with rfl | rfl <;> assumption
theorem one_3 {a b c : Value} (ha : a.oneCell' = true) (hb : b.oneCell' = true) (hc : c.oneCell' = true) : ∀ x ∈ [a, b, c], x.oneCell' = true := by
  intro x hx
  simp only [List.mem_cons, List.not_mem_nil, or_false] at hx
  rcases hx with rfl | rfl | rfl <;> assumption
theorem Bx_fa {w : World} {base : Nat} {t ty : TypeId} {p : Value} {cs : List Value} {fs : Array Field} {f off b : Nat} {z : Value} {d : TypeDesc} (h : Bx w base t p cs) (hu : P.underlying t = some (.struct fs)) (hf : (fs[f]?).map (fun x => (x.type, x.offset)) = some (ty, off)) (ht : TI P ty z 1 b)
    (hue : P.underlying ty = some d) (hd : aggB d = false) :
    ∃ a, (∀ (w : World) (K : Value → Prop), fda P t p f w K = K a) ∧ (∀ {w' : World} {base' : Nat} {cs' : List Value} {x : Value}, Bx w' base' t p cs' → cs'[off]? = some x → ∀ K, ld P ty a w' K = K x) ∧
      (∀ {w' : World} {base' : Nat} {cs' : List Value} {x : Value} {K : World → Prop}, Bx w' base' t p cs' → off < cs'.length → x.oneCell' = true → (∀ w'', Bx w'' base' t p (cs'.set off x) → w'.grownBy w'' (blk p) → K w'') → sto P ty a x w' K) := by
  obtain ⟨g, rfl, hb, hg⟩ := h
  have ha : (Addr.mk g 0 none).add off = ⟨g, off, none⟩ := by rw [Addr.add_lit, Nat.zero_add]
  refine ⟨.pointer (some ⟨g, off, none⟩), fun w K => by rw [fda_off hu hf ht (by decide), ha], fun h' hx K => ?_, fun h' ho h1 H => ?_⟩
  · obtain ⟨g', e, _, hg'⟩ := h'
    cases e
    rw [ld_scalar hue hd (v := _)]
    unfold World.cell?
    simp [hg', hx]
  · obtain ⟨g', e, hb', hg'⟩ := h'
    cases e
    rename_i cs' x K
    refine sto_scalar ht h1 (u := cs'[off]) ?_ ?_ (H _ ⟨g, rfl, hb', setCell_block hg'⟩ setCell_grown)
    · simp [World.cell?, hg', ho]
    · simp [World.frozen?, hg']
theorem app_ODx {k : IntKind} {t e : TypeId} {b base : Nat} {v : Value} {l : List Nat} {d : Nat} {KW : Value → World → Prop} (h : OD k e w base v l) (hu : P.underlying t = some (.slice e)) (ht : TI P e (.int k 0) 1 b) (hn : l.length + 1 ≤ maxLen) (hby : (l.length + 1) * b ≤ 140737488355328) (hbase : base ≤ w.heap.size)
    (H : ∀ v' w', OD k e w' base v' (l ++ [d]) → w.grownBy w' v.ownBlock → KW v' w') : bsl P t 1 [(0, iv k d)] w fun y w2 => Ext w w2 ∧ bl2 P .append #[t, t] t [v, y] w2 KW := by
  refine app1x h rfl hu ht rfl hn hby hbase fun v' w' ho hg => H v' w' ?_ hg
  unfold OD
  rw [List.length_append, List.map_append]
  exact ho
theorem app_OD {k : IntKind} {t e : TypeId} {b base : Nat} {v : Value} {l : List Nat} {d : Nat} {KW : Value → World → Prop} (h : OD k e w base v l) (hu : P.underlying t = some (.slice e)) (ht : TI P e (.int k 0) 1 b) (hn : l.length + 1 ≤ maxLen) (hby : (l.length + 1) * b ≤ 140737488355328) (hbase : base ≤ w.heap.size)
    (H : ∀ v' w', OD k e w' base v' (l ++ [d]) → w.grownBy w' v.ownBlock → KW v' w') : bsl P t 1 [(0, iv k d)] w fun y w2 => bl2 P .append #[t, t] t [v, y] w2 KW :=
  SemA_mono (fun _ _ q => q.2) (app_ODx h hu ht hn hby hbase H)
theorem and_split {a b x y k : Nat} (ha : a < 2 ^ k) (hb : b < 2 ^ k) : (a + 2 ^ k * x) &&& (b + 2 ^ k * y) = (a &&& b) + 2 ^ k * (x &&& y) := by
  have hab : a &&& b < 2 ^ k := Nat.lt_of_le_of_lt Nat.and_le_left ha
  apply Nat.eq_of_testBit_eq
  intro j
  rw [Nat.testBit_and, Nat.add_comm a, Nat.add_comm b, Nat.add_comm (a &&& b), Nat.testBit_two_pow_mul_add _ ha, Nat.testBit_two_pow_mul_add _ hb, Nat.testBit_two_pow_mul_add _ hab]
  split <;> rw [Nat.testBit_and]
theorem p32 (i : Nat) : (4294967296 : Nat) ^ i = 2 ^ (32 * i) := by rw [Nat.pow_mul]
theorem c_And {z x y : Value} {a b : Int} {base : Nat} (hz : ZO w base z) (hx : IntR w x a) (hy : IntR w y b) (ba : bl a.natAbs ≤ 1099511627776)
    (H : ∀ w', ZO w' base z → IntR w' z (a.natAbs &&& b.natAbs : Nat) → w.grownBy w' (blk z) → K z w') : call P f_impl_integer_And [z, x, y] w K := by
  obtain ⟨s1, hb1, l, h1, n1, v1, _⟩ := hx
  obtain ⟨s2, hb2, r, h2, n2, v2, _⟩ := hy
  have d1 := n1.1
  have d2 := n2.1
  have l1 := dig_len n1 (by rw [v1]; exact ba)
  refine I_impl_integer_And ?_
  unfold D_impl_integer_And
  refine bsl_nil u_s_uint32 i_uint32 ?_
  have he := Ext_alloc w (.cells #[] t_uint32)
  have ho : OD .u32 t_uint32 (w.alloc (.cells #[] t_uint32)) w.heap.size (.slice (some ⟨w.heap.size, 0, none⟩) 0 0) [] := owns_lit w [] t_uint32
  generalize w.alloc (.cells #[] t_uint32) = w1 at he ho ⊢
  rw [nch_bx hb1]
  refine IntR.mag (hb1.ext he) ?_
  rw [(h1.ext he).row.len u_s_uint32, nch_bx hb2]
  refine IntR.mag (hb2.ext he) ?_
  rw [(h2.ext he).row.len u_s_uint32, bl0_min_i64, show min (l.length : Int) (r.length : Int) = ((min l.length r.length : Nat) : Int) by omega]
  refine ⟨fun g x y w' => ∃ (i : Nat) (q : List Nat), g + i = min l.length r.length ∧ y = .int .i64 (i : Int) ∧ Ext w w' ∧ OD .u32 t_uint32 w' w.heap.size x q ∧ q.length = i ∧ Dig 4294967296 q ∧
    val 4294967296 q = val 4294967296 (l.take i) &&& val 4294967296 (r.take i), ⟨min l.length r.length, 0, [], rfl, rfl, he, ho, rfl, (by intro d hd; cases hd), by simp [val]⟩, ?_⟩
  rintro g x y junk w2 ⟨i, q, hg, rfl, e2, oq, hq, dq, hv⟩
  rw [bin_lss]
  refine cnd_dec (fun hlt => ?_) (fun hge => ?_)
  · have hi1 : i < l.length := by omega
    have hi2 : i < r.length := by omega
    rw [nch_bx hb1]
    refine IntR.mag (hb1.ext e2) ?_
    refine (h1.ext e2).at hi1 u_s_uint32 i_uint32 u_uint32 ?_
    rw [nch_bx hb2]
    refine IntR.mag (hb2.ext e2) ?_
    refine (h2.ext e2).at hi2 u_s_uint32 i_uint32 u_uint32 ?_
    have g1 := Dig_get d1 hi1
    have g2 := Dig_get d2 hi2
    rw [bin_andN (b := r[i]) (by simpa [IntKind.bits] using g1) (by simpa [IntKind.bits] using g2) rfl]
    refine app_OD oq u_s_uint32 i_uint32 (by rw [hq]; simp only [maxLen]; omega) (by omega) e2.size fun v' w3 o3 hg3 => ?_
    rw [bin_addI1 (b := 1) (by omega)]
    have hand : l[i] &&& r[i] < 4294967296 := Nat.lt_of_le_of_lt Nat.and_le_left g1
    refine ⟨g - 1, by omega, i + 1, _, by omega, rfl, own_step e2 oq hg3, o3, by simp [hq], fun d hd => ?_, ?_⟩
    · rcases List.mem_append.1 hd with hd | hd
      · exact dq d hd
      · simp at hd; omega
    · rw [val_snoc, val_take_succ _ hi1, val_take_succ _ hi2, hv, hq, p32]
      refine (and_split ?_ ?_).symm
      · have := val_lt (d1.take i)
        rw [List.length_take, Nat.min_eq_left (by omega), p32] at this; exact this
      · have := val_lt (d2.take i)
        rw [List.length_take, Nat.min_eq_left (by omega), p32] at this; exact this
  · have hi : i = min l.length r.length := by omega
    have e : val 4294967296 q = a.natAbs &&& b.natAbs := by
      rw [hv, ← v1, ← v2]
      have s1 := val_split 4294967296 l (i := i) (by omega)
      have s2 := val_split 4294967296 r (i := i) (by omega)
      have t1 := val_lt (d1.take i)
      rw [List.length_take, Nat.min_eq_left (by omega), p32] at t1
      have t2 := val_lt (d2.take i)
      rw [List.length_take, Nat.min_eq_left (by omega), p32] at t2
      have hz : val 4294967296 (l.drop i) &&& val 4294967296 (r.drop i) = 0 := by
        rcases Nat.le_total l.length r.length with h | h
        · rw [List.drop_eq_nil_of_le (by omega : l.length ≤ i)]; simp [val]
        · rw [List.drop_eq_nil_of_le (by omega : r.length ≤ i)]; simp [val]
      rw [s1, s2, p32, and_split t1 t2, hz]
      simp
    have hz2 := hz.ext e2
    refine c_put hz2 oq.IR (Ty.owns oq) dq fun w3 z3 i3 g3 => H w3 z3 ?_ (grown_ext e2 g3)
    rw [e] at i3; exact i3
def Wl (l : List Nat) (m : Int) : Prop := Norm 16777216 l ∧ val 16777216 l = m.natAbs
structure LR (w : World) (s : Value) (l : List Nat) : Prop extends IR .i64 w s l where
  ty : Ty w s.ownBlock t_int64
instance {w : World} {s : Value} {l : List Nat} : Coe (LR w s l) (IR .i64 w s l) := ⟨LR.toIR⟩
theorem LR.ext {w' : World} {s : Value} {l : List Nat} (h : LR w s l) (he : Ext w w') : LR w' s l := ⟨h.toIR.ext he, Ty_ext h.ty he⟩
theorem LR.of {base : Nat} {s : Value} {l : List Nat} (h : OD .i64 t_int64 w base s l) : LR w s l := ⟨OD.IR h, Ty.owns h⟩
theorem LR.nil (w : World) : LR w (.slice none 0 0) [] := ⟨IR.nil _ _, Ty_none _ _⟩
theorem LR.kt {w' : World} {s : Value} {l : List Nat} {row : Option Nat} {e' : TypeId} (h : LR w s l) (hg : w.grownBy w' row) (ht : Ty w row e') (hne : t_int64 ≠ e') : LR w' s l :=
  ⟨IR.kept_at h.toIR hg (h.ty.apart ht hne), Ty_kept h.ty hg ht hne⟩
def Wr (w : World) (v : Value) (m : Int) : Prop := ∃ s l, v = .agg #[.int .i64 m.sign, s] ∧ LR w s l ∧ Wl l m
def Wo (w : World) (lo hi : Nat) (v : Value) (m : Int) : Prop := ∃ s l, v = .agg #[.int .i64 m.sign, s] ∧ OwnR w lo hi t_int64 1 s l.length (l.map (iv .i64)) ∧ Wl l m
theorem Wr.ext {w' : World} {v : Value} {m : Int} (h : Wr w v m) (he : Ext w w') : Wr w' v m := let ⟨s, l, h1, h2, h3⟩ := h; ⟨s, l, h1, h2.ext he, h3⟩
theorem Wo.ext {w' : World} {lo hi : Nat} {v : Value} {m : Int} (h : Wo w lo hi v m) (he : Ext w w') : Wo w' lo hi v m := let ⟨s, l, h1, h2, h3⟩ := h; ⟨s, l, h1, h2.ext he, h3⟩
theorem Wo.Wr {lo hi : Nat} {v : Value} {m : Int} (h : Wo w lo hi v m) : Wr w v m := let ⟨s, l, h1, h2, h3⟩ := h; ⟨s, l, h1, LR.of h2.own, h3⟩
theorem Wl.zero : Wl [] 0 := ⟨Norm.nil _, rfl⟩
theorem Wr.zero (w : World) : Wr w (.agg #[.int .i64 0, .slice none 0 0]) 0 := ⟨_, [], rfl, LR.nil _, Wl.zero⟩
theorem bld_Whole0 {K : Value → Prop} : bld P t_impl_Whole [] w K = K (.agg #[.int .i64 0, .slice none 0 0]) := bld_of (by kernel_rfl)
theorem bld_Whole1 {n : Int} {K : Value → Prop} : bld P t_impl_Whole [(0, .int .i64 n)] w K = K (.agg #[.int .i64 n, .slice none 0 0]) := bld_of (by kernel_rfl)
end Go.Proofs.YtjompmflommadaaGreatDoor


set_option linter.unusedVariables false
namespace Go.Proofs.YtjompmflommadaaGreatDoor
open Go Go.Vc
variable {w : World} {K : Value → World → Prop}
theorem and_mask (a : Nat) : a &&& 16777215 = a % 16777216 := Nat.and_two_pow_sub_one_eq_mod a 24
theorem blk_ne {w1 w2 : World} {b1 b2 : Nat} {t1 t2 : TypeId} {p q : Value} {c1 c2 : List Value} (h1 : Bx w1 b1 t1 p c1) (h2 : Bx w2 b2 t2 q c2) (h : w1.heap.size ≤ b2) : blk p = none ∨ blk p ≠ blk q := by
  obtain ⟨g, rfl, _, hg⟩ := h1
  obtain ⟨g', rfl, hb, _⟩ := h2
  have := heap_lt hg
  right
  simp only [blk, ne_eq, Option.some.injEq]
  omega
theorem digs_step {Q p r n q0 q1 : Nat} (h : Q + p * r = n) (h0 : q0 = r % 16777216) (h1 : q1 = r / 16777216) : Q + p * q0 + p * 16777216 * q1 = n := by
  have := Nat.div_add_mod r 16777216
  subst h0 h1
  rw [← h]
  conv => rhs; rw [← this]
  grind
theorem c_fromBig {p : Value} {m : Int} (h : IntR w p m) (hb : bl m.natAbs ≤ 1099511627775)
    (H0 : 2400 < bl m.natAbs → ∀ w', Ext w w' → K (.tuple #[.agg #[.int .i64 0, .slice none 0 0], .bool false]) w')
    (H1 : bl m.natAbs ≤ 2400 → ∀ v w', Ext w w' → Wo w' w.heap.size w'.heap.size v m → K (.tuple #[v, .bool true]) w') : call P f_impl_fromBig [p] w K := by
  refine I_impl_fromBig ?_
  unfold D_impl_fromBig
  refine alc_bx i_impl_Whole fun x2 w2 b2 e2 _ => ?_
  have h2 := h.ext e2
  refine c_BitLen h2 (by omega) ?_
  rw [bin_gtr]
  refine cnd_dec (fun hgt => ?_) (fun hle => ?_)
  · rw [bld_Whole0]
    refine b2.put i_impl_Whole (ds := [.int .i64 0, .slice none 0 0]) rfl rfl (one_2 rfl rfl) fun w3 b3 g3 => ?_
    refine b3.getc u_impl_Whole rfl i_impl_Whole rfl ?_
    exact H0 (by omega) _ (ext_of_grown e2 (fun g hg => (b2.blk_lt hg).1) g3)
  · have hle : bl m.natAbs ≤ 2400 := by omega
    refine c_Sign h2 ?_
    rw [bld_Whole1]
    refine alc_bx i_impl_Whole fun x4 w4 b4 e4 _ => ?_
    refine b4.put i_impl_Whole (ds := [.int .i64 m.sign, .slice none 0 0]) rfl rfl (one_2 rfl rfl) fun w5 b5 g5 => ?_
    have ne24 := blk_ne b2 b4 (Nat.le_refl _)
    have b25 := (b2.ext e4).kept g5 (by rcases ne24 with q | q; exact .inr (by rw [q]; obtain ⟨g, rfl, _⟩ := b4; simp [blk]); exact .inr fun e => q e.symm)
    have e5 : Ext w2 w5 := ext_of_grown e4 (fun g hg => (b4.blk_lt hg).1) g5
    have E5 := e2.trans e5
    refine alc_Z fun x14 w6 z6 _ e6 => ?_
    refine c_Abs z6 ((h.ext E5).ext e6) (by omega) fun w7 z7 i7 g7 => ?_
    have e7 : Ext w5 w7 := ext_of_grown e6 (fun g hg => z6.blk_ge hg) g7
    refine c_newInt (by decide) (by decide) fun x17 w8 e8 z8 i8 => ?_
    have E8 := E5.trans (e7.trans e8)
    have s2 := e2.size
    have s5 := E5.size
    have s58 := (e7.trans e8).size
    have ne : x17 ≠ x14 := by
      rintro rfl
      obtain ⟨b, s, q1, _⟩ := z7
      obtain ⟨b', s', q2, _⟩ := z8
      obtain ⟨g, rfl, _, hg⟩ := q1
      obtain ⟨g', e, hge, _⟩ := q2
      cases e
      have := heap_lt hg
      omega
    refine ⟨fun g w' => ∃ (q : List Nat) (r : Nat) (s : Value), r = g ∧ Ext w w' ∧ (∃ cs, cs.length = 2 ∧ Bx w' w.heap.size t_impl_Whole x2 cs) ∧ Bx w' w.heap.size t_impl_Whole x4 [.int .i64 m.sign, s] ∧ OD .i64 t_int64 w' w.heap.size s q ∧ ZO w' w.heap.size x14 ∧ IntR w' x14 (r : Int) ∧ IntR w' x17 16777215 ∧
      val 16777216 q + 16777216 ^ q.length * r = m.natAbs ∧ Dig 16777216 q ∧ (r = 0 → q.getLast? ≠ some 0),
      ⟨m.natAbs, [], m.natAbs, _, rfl, E8, ⟨_, rfl, (b25.ext (e7.trans e8)).low (Nat.le_refl _)⟩, (b5.ext (e7.trans e8)).low s2, OD.nil _ _ _ _, (z7.ext e8).low s5, i7.ext e8, i8, by simp [val], (by intro d hd; cases hd), by simp⟩, ?_⟩
    rintro g junk w9 ⟨q, r, s, rfl, e9, ⟨cs, hcs, bx2⟩, bx4, oq, zr, ir, im, hv, dq, hlast⟩
    refine c_Sign ir ?_
    rw [bin_gtr]
    have hrb : bl r ≤ bl m.natAbs := by
      refine bl_mono ?_
      rw [← hv]
      have : 1 * r ≤ 16777216 ^ q.length * r := Nat.mul_le_mul_right _ (Nat.pow_pos (by decide))
      omega
    refine cnd_dec (fun hpos => ?_) (fun hz => ?_)
    · have hr0 : 0 < r := by
        rcases Nat.eq_zero_or_pos r with h0 | h0
        · subst h0; exact absurd hpos (by decide)
        · exact h0
      have hql : q.length < 100 := by
        have h1 : 16777216 ^ q.length * 1 ≤ 16777216 ^ q.length * r := Nat.mul_le_mul_left _ hr0
        have h2 : 2 ^ (24 * q.length) ≤ m.natAbs := by rw [Nat.pow_mul, show (2 : Nat) ^ 24 = 16777216 from rfl]; omega
        rw [← lt_bl] at h2
        omega
      obtain ⟨a, fa, la, sa⟩ := Bx_fa (f := 1) (off := 1) (ty := t_s_int64) bx4 u_impl_Whole rfl i_s_int64 u_s_int64 rfl
      rw [fa, la bx4 rfl]
      refine alc_Z fun x23 w10 z10 _ e10 => ?_
      refine ⟨e10, ?_⟩
      refine c_And z10 (ir.ext e10) (im.ext e10) (by simpa using (by omega : bl r ≤ 1099511627776)) fun w11 z11 i11 g11 => ?_
      have e11 : Ext w9 w11 := ext_of_grown e10 (fun g hg => z10.blk_ge hg) g11
      have bx4' := bx4.ext e11
      rw [fa]
      refine ⟨rfl, ?_⟩
      rw [la bx4' rfl]
      refine ⟨rfl, ?_⟩
      have hand : ((r : Int).natAbs &&& (16777215 : Int).natAbs : Nat) = r % 16777216 := and_mask r
      rw [hand] at i11
      have hmod : r % 16777216 < 16777216 := Nat.mod_lt _ (by decide)
      refine c_Int64 i11 (by simp only [Int.natAbs_natCast]; omega) ?_
      refine ⟨Ext.refl _, ?_⟩
      have oq' := owns_ext oq e11
      have hsz := (e9.trans e11).size
      refine app_ODx oq' u_s_int64 i_int64 (by simp only [maxLen]; omega) (by omega) hsz fun s' w12 o12 g12 => ?_
      have t12 := Ty.owns oq'
      have bx4'' := keep_box bx4' g12 t12 (by decide)
      rw [fa]
      refine sa bx4'' (by simp) (by
        obtain ⟨_, _, a, c, e, _⟩ := (OD.IR o12).row
        rw [e]; rfl) fun w13 bx13 g13 => ?_
      have t13 := Ty.box bx4''
      have zr13 := ((zr.ext e11).kt g12 t12 (by decide)).kt g13 t13 (by decide)
      have ir13 := ((ir.ext e11).kt g12 t12 (by decide) (by decide)).kt g13 t13 (by decide) (by decide)
      have im13 := ((im.ext e11).kt g12 t12 (by decide) (by decide)).kt g13 t13 (by decide) (by decide)
      have o13 := keep_row o12 g13 t13 (by decide)
      have bx2' := keep_box (bx2.ext e11) g12 t12 (by decide)
      have ne24' : blk x2 ≠ blk x4 := by
        rcases ne24 with q | q
        · obtain ⟨g, rfl, _⟩ := b2; simp [blk] at q
        · exact q
      have bx2'' := bx2'.kept g13 (.inr fun e => ne24' e.symm)
      have E13 : Ext w w13 := ext_of_grown (ext_of_grown (e9.trans e11) (fun g hg => (oq'.lt g hg).1) g12) (fun g hg => (bx4''.blk_lt hg).1) g13
      refine c_Rsh (n := 24) zr13 ir13 (by simpa using (by omega : bl r ≤ 1099511627775)) (by decide) fun w14 z14 i14 g14 => ?_
      have t14 := zr13.ty
      refine ⟨r / 16777216, by omega, q ++ [r % 16777216], r / 16777216, s', rfl, ext_of_grown E13 (fun g hg => zr13.blk_ge hg) g14, ⟨cs, hcs, keep_box bx2'' g14 t14 (by decide)⟩, keep_box bx13 g14 t14 (by decide), keep_row o13 g14 t14 (by decide), z14, ?_, im13.kept zr13 g14 ne, ?_, ?_, ?_⟩
      · have : (r : Int) / 2 ^ 24 = ((r / 16777216 : Nat) : Int) := by simp
        rw [this] at i14; exact i14
      · rw [val_snoc, List.length_append, List.length_singleton, Nat.pow_succ]
        exact digs_step hv rfl rfl
      · intro d hd
        rcases List.mem_append.1 hd with hd | hd
        · exact dq d hd
        · simp at hd; omega
      · intro h0
        rw [List.getLast?_append]
        simp
        omega
    · have hr0 : r = 0 := by
        rcases Nat.eq_zero_or_pos r with h0 | h0
        · exact h0
        · exact absurd (by rw [Int.sign_eq_one_of_pos (by omega)]; decide) hz
      subst hr0
      refine bx4.get u_impl_Whole rfl i_impl_Whole rfl ?_
      have hs1 : s.oneCell' = true := by
        obtain ⟨_, _, a, c, e, _⟩ := (OD.IR oq).row
        rw [e]; rfl
      refine bx2.put i_impl_Whole (ds := [.int .i64 m.sign, s]) rfl hcs (one_2 rfl hs1) fun w10 b10 g10 => ?_
      refine b10.getc u_impl_Whole rfl i_impl_Whole rfl ?_
      have t10 := Ty.box bx2
      have e10 : Ext w w10 := ext_of_grown e9 (fun g hg => (bx2.blk_lt hg).1) g10
      have o10 := keep_row oq g10 t10 (by decide)
      refine H1 hle _ _ e10 ⟨s, q, rfl, OwnR.of o10, ⟨dq, hlast rfl⟩, by simpa using hv⟩
end Go.Proofs.YtjompmflommadaaGreatDoor


set_option linter.unusedVariables false
namespace Go.Proofs.YtjompmflommadaaGreatDoor
open Go Go.Vc
variable {w : World} {K : Value → World → Prop}
def Nm (w : World) (v : Value) (m e : Int) : Prop := ∃ p, v = .agg #[p, .int .i64 e] ∧ IntR w p m
def NQ (w : World) (v : Value) (lo hi : Nat) (q : Rat) : Prop := ∃ m e, Nm w v m e ∧ Bd lo hi m e ∧ q = dy m e
theorem Nm.ext {w' : World} {v : Value} {m e : Int} (h : Nm w v m e) (he : Ext w w') : Nm w' v m e := let ⟨p, h1, h2⟩ := h; ⟨p, h1, h2.ext he⟩
theorem NQ.ext {w' : World} {v : Value} {lo hi : Nat} {q : Rat} (h : NQ w v lo hi q) (he : Ext w w') : NQ w' v lo hi q := let ⟨m, e, h1, h2⟩ := h; ⟨m, e, h1.ext he, h2⟩
theorem NQ.mono {v : Value} {lo hi lo' hi' : Nat} {q : Rat} (h : NQ w v lo hi q) (h1 : lo ≤ lo') (h2 : hi ≤ hi') : NQ w v lo' hi' q := let ⟨m, e, a, b, c⟩ := h; ⟨m, e, a, b.mono h1 h2, c⟩
theorem IntR.ptr {p : Value} {m : Int} (h : IntR w p m) : ∃ a, p = .pointer (some a) := by
  obtain ⟨s, ⟨g, rfl, _⟩, _⟩ := h
  exact ⟨_, rfl⟩
theorem IntR.one {p : Value} {m : Int} (h : IntR w p m) : p.oneCell' = true := by obtain ⟨a, rfl⟩ := h.ptr; rfl
theorem bld_num {p : Value} {e : Int} {K : Value → Prop} (hp : ∃ a, p = .pointer (some a)) : bld P t_impl_num [(0, p), (1, .int .i64 e)] w K = K (.agg #[p, .int .i64 e]) := by
  obtain ⟨a, rfl⟩ := hp
  exact bld_of (by kernel_rfl)
def nm (p : Value) (e : Int) : List Value := [p, .int .i64 e]
theorem num_m {base : Nat} {x p : Value} {e : Int} {K : Value → Prop} (h : Bx w base t_impl_num x (nm p e)) (H : K p) : fda P t_impl_num x 0 w (fun a => ld P t_p_impl_integer a w K) :=
  h.fld (off := 0) rfl u_impl_num rfl i_p_impl_integer u_p_impl_integer rfl H
theorem num_e {base : Nat} {x p : Value} {e : Int} {K : Value → Prop} (h : Bx w base t_impl_num x (nm p e)) (H : K (.int .i64 e)) : fda P t_impl_num x 1 w (fun a => ld P t_int a w K) :=
  h.fld (off := 1) rfl u_impl_num rfl i_int u_int rfl H
theorem num_all {base : Nat} {x p : Value} {e : Int} {K : Value → Prop} (h : Bx w base t_impl_num x (nm p e)) (H : K (.agg #[p, .int .i64 e])) : ld P t_impl_num x w K :=
  h.get u_impl_num rfl i_impl_num rfl H
theorem num_ret {base : Nat} {x p : Value} {e : Int} {cs : List Value} (hb : Bx w base t_impl_num x cs) (hl : cs.length = 2) (hp : p.oneCell' = true) (H : ∀ w', w.grownBy w' (blk x) → K (.agg #[p, .int .i64 e]) w') :
    sto P t_impl_num x (.agg #[p, .int .i64 e]) w fun w' => ldc P t_impl_num x w' fun r => K r w' := by
  refine hb.put i_impl_num (ds := [p, .int .i64 e]) rfl hl (one_2 hp rfl) fun w' b' g' => ?_
  exact b'.getc u_impl_num rfl i_impl_num rfl (H w' g')
theorem bx_num {x : Value} {p : Value} {e : Int} {KW : Value → World → Prop} (H : ∀ x w', Bx w' w.heap.size t_impl_num x (nm p e) → Ext w w' → KW x w') : bx P t_impl_num (.agg #[p, .int .i64 e]) w KW :=
  bx_bx fun x w' b e _ => H x w' b e
theorem alc_num {KW : Value → World → Prop} (H : ∀ x w', (∃ cs, cs.length = 2 ∧ Bx w' w.heap.size t_impl_num x cs) → Ext w w' → KW x w') : alc P t_impl_num w KW :=
  alc_bx i_impl_num fun x w' b e _ => H x w' ⟨_, rfl, b⟩ e
theorem Nm.grown {w1 w2 : World} {base : Nat} {x p : Value} {cs : List Value} {m : Int} (h : IntR w1 p m) (hb : Bx w1 base t_impl_num x cs) (hg : w1.grownBy w2 (blk x)) : IntR w2 p m := h.kt hg (Ty.box hb) (by decide) (by decide)
theorem c_nsign {v : Value} {m e : Int} (h : Nm w v m e) (H : ∀ w', Ext w w' → K (.int .i64 m.sign) w') : call P f_impl_num_sign [v] w K := by
  obtain ⟨p, rfl, hp⟩ := h
  refine I_impl_num_sign ?_
  unfold D_impl_num_sign
  refine bx_num (x := undef) fun x w1 b1 e1 => ?_
  refine num_m b1 ?_
  exact c_Sign (hp.ext e1) (H _ e1)
end Go.Proofs.YtjompmflommadaaGreatDoor


set_option linter.unusedVariables false
namespace Go.Proofs.YtjompmflommadaaGreatDoor
open Go Go.Vc
variable {w : World} {K : Value → World → Prop}
structure Cn (lo hi : Nat) (q : Rat) (m e : Int) : Prop where
  canon : Canon m e
  bd : Bd lo hi m e
  val : q = dy m e
def Do (w : World) (lo hi : Nat) (v : Value) (m e : Int) : Prop := ∃ s l, v = .agg #[.int .i64 m.sign, s, .int .i64 e] ∧ OwnR w lo hi t_int64 1 s l.length (l.map (iv .i64)) ∧ Wl l m
def fitsD (m e : Int) : Prop := bl m.natAbs ≤ 2400 ∧ -3000 ≤ e ∧ e ≤ 3000
instance (m e : Int) : Decidable (fitsD m e) := by unfold fitsD; infer_instance
theorem Do.zero (w : World) (lo hi : Nat) : Do w lo hi (.agg #[.int .i64 0, .slice none 0 0, .int .i64 0]) 0 0 := ⟨_, [], rfl, ⟨OD.nil _ _ _ _, fun k hk => by cases hk⟩, Wl.zero⟩
theorem bld_Dyadic0 {K : Value → Prop} : bld P t_impl_Dyadic [] w K = K (.agg #[.int .i64 0, .slice none 0 0, .int .i64 0]) := bld_of (by kernel_rfl)
end Go.Proofs.YtjompmflommadaaGreatDoor


set_option linter.unusedVariables false
set_option linter.unusedSimpArgs false
namespace Go.Proofs.YtjompmflommadaaGreatDoor
open Go Go.Vc
variable {w : World} {K : Value → World → Prop}
theorem digB_iff {d : UInt8} : digB d = true ↔ ¬ ((d.toNat : Int) < 48) ∧ ¬ ((57 : Int) < (d.toNat : Int)) := by
  unfold digB
  simp only [Bool.and_eq_true, decide_eq_true_eq]
  omega
theorem all_take_succ {l : List UInt8} {i : Nat} (hi : i < l.length) (p : UInt8 → Bool) : (l.take (i + 1)).all p = ((l.take i).all p && p l[i]) := by
  rw [List.take_succ_eq_append_getElem hi, List.all_append]; simp
theorem not_all {l : List UInt8} {p : UInt8 → Bool} {i : Nat} (hi : i < l.length) (h : p l[i] = false) : l.all p = false := by
  refine Bool.eq_false_iff.2 fun hall => ?_
  have := List.all_eq_true.1 hall l[i] (List.getElem_mem hi)
  rw [h] at this; cases this
set_option maxRecDepth 20000 in
theorem c_isNumeral {l : List UInt8} (hl : l.length ≤ 4611686018427387904) (H : K (.bool (isNum l)) w) : call P f_impl_isNumeral [str l] w K := by
  refine I_impl_isNumeral ?_
  unfold D_impl_isNumeral
  refine ⟨fun x w' => Hide (w' = w ∧ x = str (body l) ∧ (negB l && decide (body l = [48])) = false), ?_, ?_⟩
  · rintro x junk w2 h
    obtain ⟨rfl, rfl, hneg⟩ := h.out
    clear h
    have hK : K (.bool (numB (body l))) w2 := by
      have e : isNum l = numB (body l) := by unfold isNum; rw [hneg]; simp
      rw [← e]; exact H
    have hbl := body_le l
    generalize body l = r at *
    rw [eql_str (b := [])]
    cases r with
    | nil =>
      have e : decide (([] : List UInt8) = []) = true := by simp
      rw [e]
      repeat (first | (refine ⟨_, fun _ _ _ h => h, ?_⟩) | simp only [-eq_self, grd_true_true, grd_true_false, grd_false_false, grd_false_true, pick_bool, cond_true, cond_false, cnd_true, cnd_false])
      exact hK
    | cons d r =>
      have e : decide ((d :: r) = []) = false := by simp
      have hidx : ∀ (w : World) (K : Value → Prop), idx P t_string (str (d :: r)) (.int .i64 0) w K = K (.int .u8 (d.toNat : Nat)) := fun w K => idx_str (i := 0) u_string (by simp)
      rw [e]
      have digits : ∀ C : Value → World → Prop, C (.bool ((d :: r).all digB)) w2 →
          (∃ I20 : Nat → Value → World → Prop, (∃ m37, I20 m37 (.int .i64 0) w2) ∧ ∀ (m23 : Nat) (x30_24 : Value) (junk21 : Env) (w22 : World), I20 m23 x30_24 w22 →
              bin P .lss 3 false false x30_24 (.int .i64 (((d :: r).length : Nat) : Int)) w22 fun x31_25 =>
              cnd x31_25
                (idx P t_string (str (d :: r)) x30_24 w22 fun x35_26 =>
                bin P .lss 5 false true x35_26 (.int .u8 48) w22 fun x36_27 =>
                ∃ J28 : Value → World → Prop, (∀ (x41_29 : Value) (junk31 : Env) (w30 : World), J28 x41_29 w30 →
                  pick x36_27 (.bool true) x41_29 fun x42_32 =>
                  cnd x42_32
                    (C (.bool false) w30)
                    (bin P .add 3 false true x30_24 (.int .i64 1) w30 fun x43_33 =>
                    ∃ m34, m34 < m23 ∧ I20 m34 x43_33 w30)) ∧
                  grd x36_27 false
                    (idx P t_string (str (d :: r)) x30_24 w22 fun x40_35 =>
                    bin P .gtr 5 false true x40_35 (.int .u8 57) w22 fun x41_36 =>
                    J28 x41_36 w22)
                    (J28 undef w22))
                (C (.bool true) w22)) := by
        intro C hC
        generalize d :: r = q at *
        refine ⟨fun g x w' => Hide (∃ i : Nat, w' = w2 ∧ x = .int .i64 (i : Int) ∧ g + i = q.length ∧ (q.take i).all digB = true), ⟨q.length, Hide.mk ⟨0, rfl, rfl, rfl, rfl⟩⟩, ?_⟩
        rintro g x junk w3 h
        obtain ⟨i, rfl, rfl, hg, hall⟩ := h.out
        rw [bin_lss]
        refine cnd_dec (fun hlt => ?_) (fun hge => ?_)
        · have hi : i < q.length := by omega
          have hx : ∀ (w : World) (K : Value → Prop), idx P t_string (str q) (.int .i64 (i : Int)) w K = K (.int .u8 (q[i].toNat : Nat)) := fun w K => idx_str u_string hi
          by_cases hd : digB q[i] = true
          · obtain ⟨a1, a2⟩ := digB_iff.1 hd
            repeat (first | (refine ⟨_, fun _ _ _ h => h, ?_⟩) | simp only [-eq_self, hx, bin_lss, bin_gtr, decide_eq_false a1, decide_eq_false a2, grd_true_true, grd_true_false, grd_false_false, grd_false_true, pick_bool, cond_true, cond_false, cnd_true, cnd_false])
            rw [bin_addI1 (b := 1) (by omega)]
            exact ⟨g - 1, by omega, Hide.mk ⟨i + 1, rfl, rfl, by omega, by rw [all_take_succ hi, hall, hd]; rfl⟩⟩
          · rw [Bool.not_eq_true] at hd
            rw [not_all hi hd] at hC
            by_cases a1 : ((q[i].toNat : Nat) : Int) < 48
            · repeat (first | (refine ⟨_, fun _ _ _ h => h, ?_⟩) | simp only [-eq_self, hx, bin_lss, bin_gtr, decide_eq_true a1, grd_true_true, grd_true_false, grd_false_false, grd_false_true, pick_bool, cond_true, cond_false, cnd_true, cnd_false])
              exact hC
            · have a2 : (57 : Int) < ((q[i].toNat : Nat) : Int) := by
                refine Classical.byContradiction fun h => ?_
                have := digB_iff.2 ⟨a1, h⟩
                rw [hd] at this; cases this
              repeat (first | (refine ⟨_, fun _ _ _ h => h, ?_⟩) | simp only [-eq_self, hx, bin_lss, bin_gtr, decide_eq_false a1, decide_eq_true a2, grd_true_true, grd_true_false, grd_false_false, grd_false_true, pick_bool, cond_true, cond_false, cnd_true, cnd_false])
              exact hC
        · have hi : i = q.length := by omega
          subst hi
          rw [List.take_of_length_le (Nat.le_refl _)] at hall
          rw [hall] at hC
          exact hC
      have lenx : ∀ (w : World) (K : Value → Prop), bl0 P .len #[t_string] t_int [str (d :: r)] w K = K (.int .i64 ((d :: r).length : Nat)) := fun w K => len_str u_string
      by_cases h1 : d = 48
      · have d1 : decide (((d.toNat : Nat) : Int) = 48) = true := decide_eq_true (by rw [h1]; rfl)
        by_cases h2 : 1 < (d :: r).length
        · have d2 : decide ((1 : Int) < (((d :: r).length : Nat) : Int)) = true := decide_eq_true (by omega)
          repeat (first | (refine ⟨_, fun _ _ _ h => h, ?_⟩) | simp only [-eq_self, hidx, lenx, bin_eql, bin_gtr, d1, d2, grd_true_true, grd_true_false, grd_false_false, grd_false_true, pick_bool, cond_true, cond_false, cnd_true, cnd_false])
          have : numB (d :: r) = false := by
            unfold numB
            have a : decide ((d :: r).head? ≠ some 48) = false := by rw [h1]; simp
            have b : decide ((d :: r).length ≤ 1) = false := decide_eq_false (by omega)
            rw [a, b]; simp
          rw [this] at hK; exact hK
        · have d2 : decide ((1 : Int) < (((d :: r).length : Nat) : Int)) = false := decide_eq_false (by omega)
          have hd := digits K (by
            have : numB (d :: r) = (d :: r).all digB := by
              unfold numB
              have b : decide ((d :: r).length ≤ 1) = true := decide_eq_true (by omega)
              rw [b]; simp
            rw [← this]; exact hK)
          repeat (first | exact hd | (refine ⟨_, fun _ _ _ h => h, ?_⟩) | simp only [-eq_self, hidx, lenx, bin_eql, bin_gtr, d1, d2, grd_true_true, grd_true_false, grd_false_false, grd_false_true, pick_bool, cond_true, cond_false, cnd_true, cnd_false])
      · have d1 : decide (((d.toNat : Nat) : Int) = 48) = false := decide_eq_false fun e => h1 (UInt8.toNat_inj.1 (by rw [show (48 : UInt8).toNat = 48 from rfl]; omega))
        have hd := digits K (by
          have : numB (d :: r) = (d :: r).all digB := by
            unfold numB
            have a : decide ((d :: r).head? ≠ some 48) = true := by simp [h1]
            rw [a]; simp
          rw [← this]; exact hK)
        repeat (first | exact hd | (refine ⟨_, fun _ _ _ h => h, ?_⟩) | simp only [-eq_self, hidx, lenx, bin_eql, bin_gtr, d1, grd_true_true, grd_true_false, grd_false_false, grd_false_true, pick_bool, cond_true, cond_false, cnd_true, cnd_false])
  · rw [len_str u_string]
    cases l with
    | nil =>
      have d0 : decide ((0 : Int) < ((([] : List UInt8).length : Nat) : Int)) = false := rfl
      repeat (first | (refine ⟨_, fun _ _ _ h => h, ?_⟩) | simp only [-eq_self, bin_gtr, d0, grd_true_true, grd_true_false, grd_false_false, grd_false_true, pick_bool, cond_true, cond_false, cnd_true, cnd_false])
      exact Hide.mk ⟨rfl, rfl, rfl⟩
    | cons d r =>
      have d0 : decide ((0 : Int) < (((d :: r).length : Nat) : Int)) = true := decide_eq_true (by simp)
      have hidx : ∀ (w : World) (K : Value → Prop), idx P t_string (str (d :: r)) (.int .i64 0) w K = K (.int .u8 (d.toNat : Nat)) := fun w K => idx_str (i := 0) u_string (by simp)
      by_cases h1 : d = 45
      · have d1 : decide (((d.toNat : Nat) : Int) = 45) = true := decide_eq_true (by rw [h1]; rfl)
        have hn : negB (d :: r) = true := by unfold negB; rw [h1]; rfl
        have hb : body (d :: r) = r := by unfold body; rw [hn]; rfl
        repeat (first | (refine ⟨_, fun _ _ _ h => h, ?_⟩) | simp only [-eq_self, hidx, bin_eql, bin_gtr, d0, d1, grd_true_true, grd_true_false, grd_false_false, grd_false_true, pick_bool, cond_true, cond_false, cnd_true, cnd_false])
        rw [show (1 : Int) = ((1 : Nat) : Int) from rfl, sli_strL u_string (by simp), eql_str (b := [48])]
        refine cnd_dec (fun h2 => ?_) (fun h2 => ?_)
        · have e : isNum (d :: r) = false := by
            unfold isNum
            rw [hn, hb]
            have : r = [48] := h2
            rw [this]; rfl
          rw [e] at H; exact H
        · refine Hide.mk ⟨rfl, by rw [hb]; rfl, ?_⟩
          rw [hn, hb]
          have : ¬ r = [48] := h2
          simp [this]
      · have d1 : decide (((d.toNat : Nat) : Int) = 45) = false := decide_eq_false fun e => h1 (UInt8.toNat_inj.1 (by rw [show (45 : UInt8).toNat = 45 from rfl]; omega))
        have hn : negB (d :: r) = false := by unfold negB; simp [h1]
        have hb : body (d :: r) = d :: r := by unfold body; rw [hn]; rfl
        repeat (first | (refine ⟨_, fun _ _ _ h => h, ?_⟩) | simp only [-eq_self, hidx, bin_eql, bin_gtr, d0, d1, grd_true_true, grd_true_false, grd_false_false, grd_false_true, pick_bool, cond_true, cond_false, cnd_true, cnd_false])
        exact Hide.mk ⟨rfl, by rw [hb], by rw [hn]; rfl⟩
end Go.Proofs.YtjompmflommadaaGreatDoor
namespace Go.Proofs.YtjompmflommadaaGreatDoor
open Go Go.Vc
variable {w : World} {K : Value → World → Prop}
theorem Mg.inj {v : Value} {n : Nat} (h : Mg w v n) {m : Nat} (e : n = m) : Mg w v m := e ▸ h
theorem one_trim {d : Nat} {KW : Value → World → Prop} (hd : d < 4294967296) (H : ∀ v w', Ext w w' → Mg w' v d → KW v w') :
    bsl P t_s_uint32 1 [(0, .int .u32 (d : Int))] w fun x w2 => Ext w w2 ∧ call P f_impl_magTrim [x] w2 KW := by
  refine bsl_one u_s_uint32 i_uint32 rfl rfl ?_
  have he := Ext_alloc w (.cells #[.int .u32 (d : Int)] t_uint32)
  have ho : OD .u32 t_uint32 (w.alloc (.cells #[.int .u32 (d : Int)] t_uint32)) w.heap.size (.slice (some ⟨w.heap.size, 0, none⟩) 1 1) [d] := owns_lit w [.int .u32 (d : Int)] t_uint32 (by simp [maxLen])
  refine ⟨he, c_trimO ho (fun x hx => by simp at hx; omega) fun v' h => H _ _ he ?_⟩
  have : val 4294967296 [d] = d := by simp [val]
  rw [this] at h
  exact h.Mg
theorem one_late {d : Nat} {KW : Value → World → Prop} (hd : d < 4294967296) (H : ∀ v w', Ext w w' → (∀ w'' (K : Value → World → Prop), Ext w' w'' → (∀ u, Mg w'' u d → K u w'') → call P f_impl_magTrim [v] w'' K) → KW v w') :
    bsl P t_s_uint32 1 [(0, .int .u32 (d : Int))] w KW := by
  refine bsl_one u_s_uint32 i_uint32 rfl rfl ?_
  have he := Ext_alloc w (.cells #[.int .u32 (d : Int)] t_uint32)
  have ho : OD .u32 t_uint32 (w.alloc (.cells #[.int .u32 (d : Int)] t_uint32)) w.heap.size (.slice (some ⟨w.heap.size, 0, none⟩) 1 1) [d] := owns_lit w [.int .u32 (d : Int)] t_uint32 (by simp [maxLen])
  refine H _ _ he fun w'' K e2 hK => ?_
  have ho2 : OD .u32 t_uint32 w'' w.heap.size (.slice (some ⟨w.heap.size, 0, none⟩) 1 1) [d] := owns_ext ho e2
  refine c_trimO ho2 (fun x hx => by simp at hx; omega) fun v' h => hK _ ?_
  have : val 4294967296 [d] = d := by simp [val]
  rw [this] at h
  exact h.Mg
set_option maxRecDepth 20000 in
theorem c_SetString {z : Value} {base : Nat} {l : List UInt8} (hz : ZO w base z) (hn : isNum l = true) (hl : l.length ≤ 800)
    (H : ∀ w1 w', Ext w w1 → ZO w1 base z → w1.grownBy w' (blk z) → ZO w' base z → IntR w' z (numI l) → K (.tuple #[z, .bool true]) w') : call P f_impl_integer_SetString [z, str l, .int .i64 10] w K := by
  have hnb := isNum_parts hn
  have hall : (body l).all digB = true := by
    simp only [numB, Bool.and_eq_true] at hnb; exact hnb.1.2
  have hne : body l ≠ [] := by
    simp only [numB, Bool.and_eq_true] at hnb; exact of_decide_eq_true hnb.1.1
  have hbl := body_le l
  have hlne : l ≠ [] := by
    rintro rfl; exact hne rfl
  obtain ⟨d0, r0, rfl⟩ := List.exists_cons_of_ne_nil hlne
  refine I_impl_integer_SetString ?_
  unfold D_impl_integer_SetString
  have hidx : ∀ (w : World) (K : Value → Prop), idx P t_string (str (d0 :: r0)) (.int .i64 0) w K = K (.int .u8 (d0.toNat : Nat)) := fun w K => idx_str (i := 0) u_string (by simp)
  have hneq : decide (d0 :: r0 ≠ []) = true := by simp
  rw [neq_str (b := []), hneq]
  have h45 : decide (((d0.toNat : Nat) : Int) = 45) = negB (d0 :: r0) := by
    unfold negB
    have : ((d0 :: r0).head? = some 45) ↔ d0 = 45 := by simp
    rw [decide_eq_decide, this]
    constructor
    · intro e; exact UInt8.toNat_inj.1 (by rw [show (45 : UInt8).toNat = 45 from rfl]; omega)
    · rintro rfl; rfl
  refine ⟨fun y w' => w' = w ∧ y = .bool (negB (d0 :: r0)), ?_, ?_⟩
  · rintro y junk w2 ⟨rfl, rfl⟩
    rw [pick_bool, cond_true]
    refine ⟨fun x w' => w' = w2 ∧ x = str (body (d0 :: r0)), ?_, ?_⟩
    · rintro x junk w3 ⟨rfl, rfl⟩
      unfold numI at H
      generalize body (d0 :: r0) = q at *
      generalize negB (d0 :: r0) = ng at *
      have hzz : ∃ v0 w4, Ext w3 w4 ∧ Mg w4 v0 0 := ⟨_, w3, Ext.refl _, Mg.nil _⟩
      refine bsl_nil u_s_uint32 i_uint32 ?_
      have he := Ext_alloc w3 (.cells #[] t_uint32)
      have ho : OD .u32 t_uint32 (w3.alloc (.cells #[] t_uint32)) w3.heap.size (.slice (some ⟨w3.heap.size, 0, none⟩) 0 0) [] := owns_lit w3 [] t_uint32
      have hm0 : Mg (w3.alloc (.cells #[] t_uint32)) (.slice (some ⟨w3.heap.size, 0, none⟩) 0 0) 0 := ⟨[], ho.IR, Norm.nil _, rfl, Ty.owns ho⟩
      generalize w3.alloc (.cells #[] t_uint32) = w4 at he hm0 ⊢
      generalize (Value.slice (some ⟨w3.heap.size, 0, none⟩) 0 0) = v0 at hm0 ⊢
      rw [len_str u_string]
      refine ⟨fun g v x w' => ∃ i : Nat, x = .int .i64 (i : Int) ∧ g + i = q.length ∧ Ext w3 w' ∧ Mg w' v (decV (q.take i)), ⟨q.length, 0, rfl, rfl, he, hm0⟩, ?_⟩
      rintro g v x junk w5 ⟨i, rfl, hg, e5, m5⟩
      rw [bin_lss]
      refine cnd_dec (fun hlt => ?_) (fun hge => ?_)
      · have hi : i < q.length := by omega
        have hd : digB q[i] = true := List.all_eq_true.1 hall q[i] (List.getElem_mem hi)
        obtain ⟨a1, a2⟩ := digB_iff.1 hd
        have hx : ∀ (w : World) (K : Value → Prop), idx P t_string (str q) (.int .i64 (i : Int)) w K = K (.int .u8 (q[i].toNat : Nat)) := fun w K => idx_str u_string hi
        rw [hx, bin_lss, decide_eq_false a1]
        refine ⟨fun y w' => w' = w5 ∧ y = .bool false, ?_, ?_⟩
        · rintro y junk w6 ⟨rfl, rfl⟩
          rw [pick_bool, cond_false, cnd_false]
          have hbl5 : bl (decV (q.take i)) ≤ 3200 := Nat.le_trans (dec_bl hall i) (by omega)
          have hval : decV (q.take (i + 1)) = decV (q.take i) * 10 + (q[i].toNat - 48) := by
            rw [List.take_succ_eq_append_getElem hi]
            exact decA_snoc 0 _ _
          refine ⟨fun v' w' => Ext w6 w' ∧ Mg w' v' (decV (q.take (i + 1))), ?_, ?_⟩
          · rintro v' junk w7 ⟨e7, m7⟩
            rw [bin_addI1 (b := 1) (by omega)]
            exact ⟨g - 1, by omega, i + 1, rfl, by omega, e5.trans e7, m7⟩
          · rw [cnv_int_int u_int u_uint32, hx, bin_sub]
            have hs8 : IntKind.u8.wrap (((q[i].toNat : Nat) : Int) - 48) = ((q[i].toNat - 48 : Nat) : Int) := by
              rw [show ((q[i].toNat : Nat) : Int) - 48 = ((q[i].toNat - 48 : Nat) : Int) by omega]
              exact wrap_nat (by show _ ≤ (255 : Int); omega)
            have hw10 : IntKind.u32.wrap 10 = ((10 : Nat) : Int) := rfl
            rw [hs8, cnv_int_int u_uint8 u_uint32, w_u32, Nat.mod_eq_of_lt (by omega), hw10]
            have fin : ∀ {a b c w'}, Ext w6 w' → Mg w' a (decV (q.take i)) → Mg w' b 10 → Mg w' c (q[i].toNat - 48) → True := fun _ _ _ _ => trivial
            have add : ∀ {a c : Value} {w' : World}, Ext w6 w' → Mg w' a (decV (q.take i) * 10) → Mg w' c (q[i].toNat - 48) → call P f_impl_magAdd [a, c] w' fun x w'' => Ext w6 w'' ∧ Mg w'' x (decV (q.take (i + 1))) := by
              intro a c w' he ha hc
              have hb1 := bl_mul (decV (q.take i)) 10
              have hb2 : bl 10 = 4 := by decide
              have hb3 : bl (q[i].toNat - 48) ≤ 8 := bl_le.2 (by omega)
              refine c_magAdd ha hc (by omega) (by omega) fun v' w'' e h => ⟨he.trans e, ?_⟩
              rw [hval]; exact h.Mg
            have mul : ∀ {a b : Value} {w' : World} {KW : Value → World → Prop}, Mg w' a (decV (q.take i)) → Mg w' b 10 → (∀ v w'', Ext w' w'' → Mg w'' v (decV (q.take i) * 10) → KW v w'') → call P f_impl_magMul [a, b] w' KW := by
              intro a b w' KW ha hb hK
              refine c_magMul ha hb (by omega) (by decide) fun v' w'' e h => hK v' w'' e h.Mg
            refine ⟨?_, ?_⟩
            · refine bsl_u32 (by decide) (by decide) fun v7 w7 e7 m10 => ?_
              refine ⟨e7, ?_, ?_⟩
              · refine mul (m5.ext e7) m10 fun v8 w8 e8 m8 => ?_
                refine ⟨e8, ?_⟩
                refine one_trim (by omega) fun v9 w9 e9 m9 => ?_
                exact add ((e7.trans e8).trans e9) (m8.ext e9) m9
              · refine one_late (by omega) fun v8 w8 e8 ht => ?_
                refine ⟨e8, ?_⟩
                refine mul ((m5.ext e7).ext e8) (m10.ext e8) fun v9 w9 e9 m9 => ?_
                refine ⟨e9, ?_⟩
                refine ht w9 _ e9 fun u mu => ?_
                exact add ((e7.trans e8).trans e9) m9 mu
            · refine one_late (by omega) fun v7 w7 e7 ht => ?_
              refine ⟨e7, ?_⟩
              refine bsl_u32 (by decide) (by decide) fun v8 w8 e8 m10 => ?_
              refine ⟨e8, ?_⟩
              refine mul ((m5.ext e7).ext e8) m10 fun v9 w9 e9 m9 => ?_
              refine ⟨e9, ?_⟩
              refine ht w9 _ (e8.trans e9) fun u mu => ?_
              exact add ((e7.trans e8).trans e9) m9 mu
        · rw [grd_false_false, hx, bin_gtr, decide_eq_false a2]
          exact ⟨rfl, rfl⟩
      · have hi : i = q.length := by omega
        subst hi
        rw [List.take_of_length_le (Nat.le_refl _)] at m5
        rw [eql_str (b := []), decide_eq_false hne, cnd_false]
        refine c_putM (hz.ext e5) m5 fun w6 z6 i6 g6 => ?_
        refine H w5 w6 e5 (hz.ext e5) g6 z6 ?_
        have : sgnI ng (decV q) = if ng = true then -(decV q : Int) else decV q := by unfold sgnI; rfl
        rw [this] at i6; exact i6
    · rw [neq_str (b := []), hneq]
      by_cases hg : negB (d0 :: r0) = true
      · have hb : body (d0 :: r0) = r0 := by unfold body; rw [hg]; rfl
        repeat (first | (refine ⟨_, fun _ _ _ h => h, ?_⟩) | simp only [-eq_self, hidx, bin_eql, h45, hg, grd_true_true, grd_true_false, grd_false_false, grd_false_true, pick_bool, cond_true, cond_false, cnd_true, cnd_false])
        rw [show (1 : Int) = ((1 : Nat) : Int) from rfl, sli_strL u_string (by simp)]
        exact ⟨rfl, by rw [hb]; rfl⟩
      · rw [Bool.not_eq_true] at hg
        have hb : body (d0 :: r0) = d0 :: r0 := by unfold body; rw [hg]; rfl
        have hd : digB d0 = true := by
          rw [hb] at hall
          exact List.all_eq_true.1 hall d0 (List.mem_cons_self ..)
        obtain ⟨a1, a2⟩ := digB_iff.1 hd
        have h43 : decide (((d0.toNat : Nat) : Int) = 43) = false := decide_eq_false (by omega)
        repeat (first | (refine ⟨_, fun _ _ _ h => h, ?_⟩) | simp only [-eq_self, hidx, bin_eql, h45, h43, hg, grd_true_true, grd_true_false, grd_false_false, grd_false_true, pick_bool, cond_true, cond_false, cnd_true, cnd_false])
        exact ⟨rfl, by rw [hb]⟩
  · rw [grd_true_true, hidx, bin_eql, h45]
    exact ⟨rfl, rfl⟩
end Go.Proofs.YtjompmflommadaaGreatDoor


set_option linter.unusedVariables false
namespace Go.Proofs.YtjompmflommadaaGreatDoor
open Go Go.Vc
variable {w : World} {K : Value → World → Prop}
theorem lim_len {l : List Nat} (h : Norm 16777216 l) (hb : bl (val 16777216 l) ≤ 1099511627776) : l.length ≤ 45812984491 := by
  have := (Norm.len_le (s := 24) (by decide) h).1
  have e : val (2 ^ 24) l = val 16777216 l := rfl
  rw [e] at this
  omega
theorem IR.sl {k : IntKind} {v : Value} {l : List Nat} (h : IR k w v l) : ∃ a n c, v = .slice a n c := by
  obtain ⟨_, _, a, c, rfl, _⟩ := h.row
  exact ⟨_, _, _, rfl⟩
theorem sl_one {v : Value} (h : ∃ a n c, v = .slice a n c) : v.oneCell' = true := by obtain ⟨_, _, _, rfl⟩ := h; rfl
theorem bld_Whole2 {n : Int} {s : Value} {K : Value → Prop} (hs : ∃ a l c, s = .slice a l c) : bld P t_impl_Whole [(0, .int .i64 n), (1, s)] w K = K (.agg #[.int .i64 n, s]) := by
  obtain ⟨a, l, c, rfl⟩ := hs
  exact bld_of (by kernel_rfl)
theorem wh_ret {base : Nat} {x v : Value} {m : Int} {lo hi : Nat} {cs : List Value} (hb : Bx w base t_impl_Whole x cs) (hl : cs.length = 2) (hv : Wo w lo hi v m) (H : ∀ w', w.grownBy w' (blk x) → Wo w' lo hi v m → K v w') :
    sto P t_impl_Whole x v w fun w' => ldc P t_impl_Whole x w' fun r => K r w' := by
  obtain ⟨s, l, rfl, ho, hw⟩ := hv
  refine hb.put i_impl_Whole (ds := [.int .i64 m.sign, s]) rfl hl (one_2 rfl (sl_one (IR.sl (OD.IR ho.own)))) fun w' b' g' => ?_
  exact b'.getc u_impl_Whole rfl i_impl_Whole rfl (H w' g' ⟨s, l, rfl, ⟨keep_row ho.own g' (Ty.box hb) (by decide), ho.top⟩, hw⟩)
theorem wo_mono {lo hi lo' hi' : Nat} {v : Value} {m : Int} (h : Wo w lo hi v m) (h1 : lo' ≤ lo) (h2 : hi ≤ hi') : Wo w lo' hi' v m := let ⟨s, l, a, b, c⟩ := h; ⟨s, l, a, b.mono h1 h2, c⟩
theorem c_l01Own {s : Value} {l : List Nat} (h : IR .i64 w s l) (hl : l.length ≤ 100000000000) (H : ∀ v' w', Ext w w' → OD .i64 t_int64 w' w.heap.size v' l → K v' w') : call P f_spec_l01Own [s] w K := by
  refine I_spec_l01Own ?_
  unfold D_spec_l01Own
  refine bsl_nil u_s_int64 i_int64 ?_
  have he := Ext_alloc w (.cells #[] t_int64)
  have hz : (w.alloc (.cells #[] t_int64)).ownsRow w.heap.size t_int64 1 (.slice (some ⟨w.heap.size, 0, none⟩) 0 0) 0 [] := owns_lit w [] t_int64
  generalize w.alloc (.cells #[] t_int64) = w1 at he hz ⊢
  refine append_intro hz (h.ext he).row (by simp [Value.oneCell']) u_s_int64 i_int64 rfl (by decide) (by simp only [maxLen]; omega) (by omega) he.size fun v' w2 ho hg => ?_
  refine H _ _ (ext_of_grown he (fun g hq => (hz.lt g hq).1) hg) ?_
  simpa using ho
theorem c_l02Make {s : Value} {l : List Nat} {sg m : Int} (h : IR .i64 w s l) (hd : Dig 16777216 l) (hm : m.natAbs = val 16777216 l) (hs : m ≠ 0 → m.sign = sg) (hl : l.length ≤ 100000000000)
    (H : ∀ v' w', Ext w w' → Wo w' w.heap.size w'.heap.size v' m → K v' w') : call P f_spec_l02Make [.int .i64 sg, s] w K := by
  refine I_spec_l02Make ?_
  unfold D_spec_l02Make
  refine alc_bx i_impl_Whole fun x w1 b1 e1 _ => ?_
  have h1 := h.ext e1
  rw [h1.row.len u_s_int64]
  refine ⟨fun g y w' => w' = w1 ∧ y = .int .i64 (g : Int) ∧ g ≤ l.length ∧ trim (l.take g) = trim l, ⟨l.length, rfl, rfl, Nat.le_refl _, by rw [List.take_length]⟩, ?_⟩
  rintro g y junk w' ⟨rfl, rfl, hg, ht⟩
  have hlt : (l.take g).length = g := by rw [List.length_take]; omega
  rw [bin_gtr]
  have fin : (l.take g).getLast? ≠ some 0 → bin P .eql t_int false true (.int .i64 (g : Int)) (.int .i64 0) w' fun x21_17 =>
      cnd x21_17 (bld P t_impl_Whole [] w' fun x22_18 => sto P t_impl_Whole x x22_18 w' fun w20 => ldc P t_impl_Whole x w20 fun r21 => K r21 w20)
        (sli P t_s_int64 s none (some (.int .i64 (g : Int))) none w' fun x26_22 => call P f_spec_l01Own [x26_22] w' fun x27_23 w24 => bld P t_impl_Whole [(0, .int .i64 sg), (1, x27_23)] w24 fun x28_25 => sto P t_impl_Whole x x28_25 w24 fun w27 => ldc P t_impl_Whole x w27 fun r28 => K r28 w27) := by
    intro hz
    rw [trim_last hz] at ht
    rw [bin_eql]
    refine cnd_dec (fun h0 => ?_) (fun h0 => ?_)
    · have hg0 : g = 0 := by omega
      subst hg0
      have hv0 : val 16777216 l = 0 := by rw [← val_trim, ← ht]; rfl
      have hm0 : m = 0 := by omega
      subst hm0
      rw [bld_Whole0]
      have hz0 : Wo w' w.heap.size w.heap.size (.agg #[.int .i64 0, .slice none 0 0]) 0 := ⟨_, [], rfl, ⟨OD.nil _ _ _ _, fun k hk => by cases hk⟩, Wl.zero⟩
      refine wh_ret b1 rfl hz0 fun w2 g2 h2 => ?_
      have e2 := ext_of_grown e1 (fun g hg => (b1.blk_lt hg).1) g2
      exact H _ _ e2 (wo_mono h2 (Nat.le_refl _) e2.size)
    · refine Row.sli_h h1.row h1.cap u_s_int64 i_int64 hg fun v' r1 r2 _ _ => ?_
      have hI : IR .i64 w' v' (l.take g) := ⟨by rw [hlt, List.map_take]; exact r1, r2⟩
      refine c_l01Own hI (by omega) fun s' w2 e2 o2 => ?_
      rw [bld_Whole2 (IR.sl (OD.IR o2))]
      have b2 := b1.ext e2
      have hn : Norm 16777216 (l.take g) := by rw [ht]; exact Norm.trim hd
      have hv : val 16777216 (l.take g) = m.natAbs := by rw [hm, ht, val_trim]
      have hm0 : m ≠ 0 := by
        rintro rfl
        have : l.take g ≠ [] := by
          intro e
          rw [e] at hlt
          simp at hlt
          omega
        have := hn.pos (by decide) this
        rw [hv] at this
        exact absurd this (by decide)
      have hW : Wo w2 w.heap.size w2.heap.size (.agg #[.int .i64 sg, s']) m := ⟨s', _, by rw [hs hm0], OwnR.of (owns_base o2 e1.size), hn, hv⟩
      refine wh_ret b2 rfl hW fun w3 g3 h3 => ?_
      have e3 : Ext w w3 := ext_of_grown (e1.trans e2) (fun g hg => (b2.blk_lt hg).1) g3
      exact H _ _ e3 (wo_mono h3 (Nat.le_refl _) g3.size)
  refine ⟨_, fun _ _ _ h => h, ?_⟩
  refine grd_split (fun hp => ?_) (fun hp => ?_)
  · simp only [decide_eq_true_eq] at hp
    have hg0 : 0 < g := by omega
    rw [bin_subI1 (b := 1) (by omega) (by have := h.bound; omega)]
    refine h1.at (i := g - 1) (by omega) u_s_int64 i_int64 u_int64 ?_
    rw [bin_eql, pick_bool, decide_eq_true hp, cond_true]
    have hlast : (l.take g).getLast? = some l[g - 1] := by
      rw [List.getLast?_eq_getElem?, hlt, List.getElem?_take, if_pos (by omega)]
      exact List.getElem?_eq_getElem (by omega)
    refine cnd_dec (fun hz => ?_) (fun hz => ?_)
    · have hz' : l[g - 1] = 0 := by simpa using hz
      rw [bin_subI1 (b := 1) (by omega) (by have := h.bound; omega)]
      refine ⟨g - 1, by omega, rfl, rfl, by omega, ?_⟩
      have htk := List.take_succ_eq_append_getElem (l := l) (i := g - 1) (by omega)
      rw [show g - 1 + 1 = g by omega, hz'] at htk
      rw [← ht, htk, trim_snoc_zero]
    · exact fin (by rw [hlast]; simpa using hz)
  · rw [hp, Bool.not_true, pick_bool, cond_false, cnd_false]
    simp only [Bool.not_true, decide_eq_false_iff_not] at hp
    have hg0 : g = 0 := by omega
    subst hg0
    exact fin (by simp)
theorem bx_Wh {m : Int} {s : Value} {KW : Value → World → Prop} (H : ∀ x w', Bx w' w.heap.size t_impl_Whole x [.int .i64 m, s] → Ext w w' → KW x w') : bx P t_impl_Whole (.agg #[.int .i64 m, s]) w KW :=
  bx_bx fun x w' b e _ => H x w' b e
theorem wh_s {base : Nat} {x s : Value} {m : Int} {K : Value → Prop} (h : Bx w base t_impl_Whole x [.int .i64 m, s]) (H : K (.int .i64 m)) : fda P t_impl_Whole x 0 w (fun a => ld P t_int64 a w K) :=
  h.fld (off := 0) rfl u_impl_Whole rfl i_int64 u_int64 rfl H
theorem wh_l {base : Nat} {x s : Value} {m : Int} {K : Value → Prop} (h : Bx w base t_impl_Whole x [.int .i64 m, s]) (H : K s) : fda P t_impl_Whole x 1 w (fun a => ld P t_s_int64 a w K) :=
  h.fld (off := 1) rfl u_impl_Whole rfl i_s_int64 u_s_int64 rfl H
theorem wh_all {base : Nat} {x s : Value} {m : Int} {K : Value → Prop} (h : Bx w base t_impl_Whole x [.int .i64 m, s]) (H : K (.agg #[.int .i64 m, s])) : ld P t_impl_Whole x w K :=
  h.get u_impl_Whole rfl i_impl_Whole rfl H
theorem alc_Wh {KW : Value → World → Prop} (H : ∀ x w', (∃ cs, cs.length = 2 ∧ Bx w' w.heap.size t_impl_Whole x cs) → Ext w w' → KW x w') : alc P t_impl_Whole w KW :=
  alc_bx i_impl_Whole fun x w' b e _ => H x w' ⟨_, rfl, b⟩ e
theorem wh_make {base : Nat} {x s : Value} {l : List Nat} {sg m : Int} {cs : List Value} {w0 : World} (he : Ext w0 w) (hb : Bx w base t_impl_Whole x cs) (hcs : cs.length = 2) (hbase : w0.heap.size ≤ base) (h : IR .i64 w s l) (hd : Dig 16777216 l) (hm : m.natAbs = val 16777216 l) (hs : m ≠ 0 → m.sign = sg) (hl : l.length ≤ 100000000000)
    (H : ∀ v' w', Ext w0 w' → Wo w' w0.heap.size w'.heap.size v' m → K v' w') : call P f_spec_l02Make [.int .i64 sg, s] w fun r w1 => sto P t_impl_Whole x r w1 fun w2 => ldc P t_impl_Whole x w2 fun r => K r w2 := by
  refine c_l02Make h hd hm hs hl fun v' w1 e1 h1 => ?_
  have b1 := hb.ext e1
  refine wh_ret b1 hcs h1 fun w2 g2 h2 => ?_
  have e2 : Ext w0 w2 := ext_of_grown (he.trans e1) (fun g hg => Nat.le_trans hbase (b1.blk_lt hg).1) g2
  exact H _ _ e2 (wo_mono h2 he.size g2.size)
theorem tmod_abs (a : Int) : (a.tmod 16777216).natAbs = a.natAbs % 16777216 := Int.natAbs_tmod a 16777216
theorem tdiv_abs (a : Int) : (a.tdiv 16777216).natAbs = a.natAbs / 16777216 := Int.natAbs_tdiv a 16777216
theorem c_l02Of {n : Int} (h1 : -9223372036854775807 ≤ n) (h2 : n ≤ 9223372036854775807) (H : ∀ v' w', Ext w w' → Wo w' w.heap.size w'.heap.size v' n → K v' w') : call P f_spec_l02Of [.int .i64 n] w K := by
  refine I_spec_l02Of ?_
  unfold D_spec_l02Of
  refine alc_Wh fun x w1 ⟨cs, hcs, b1⟩ e1 => ?_
  refine bsl_nil u_s_int64 i_int64 ?_
  have he := Ext_alloc w1 (.cells #[] t_int64)
  have hz : OD .i64 t_int64 (w1.alloc (.cells #[] t_int64)) w1.heap.size (.slice (some ⟨w1.heap.size, 0, none⟩) 0 0) [] := owns_lit w1 [] t_int64
  generalize w1.alloc (.cells #[] t_int64) = w2 at he hz ⊢
  refine ⟨fun y w' => w' = w2 ∧ y = .int .i64 (if n < 0 then -1 else 1), ?_, ?_⟩
  · rintro y junk w' ⟨rfl, rfl⟩
    refine ⟨fun g x y w' => ∃ (a : Int) (q : List Nat), g = a.natAbs ∧ x = .int .i64 a ∧ Ext w1 w' ∧ OD .i64 t_int64 w' w1.heap.size y q ∧ q.length ≤ 64 ∧ val 16777216 q + 16777216 ^ q.length * a.natAbs = n.natAbs ∧ Dig 16777216 q ∧ a.natAbs ≤ n.natAbs,
      ⟨n.natAbs, n, [], rfl, rfl, he, hz, Nat.zero_le _, by simp [val], (by intro d hd; cases hd), Nat.le_refl _⟩, ?_⟩
    rintro g x y junk w3 ⟨a, q, rfl, rfl, e3, oq, hq64, hv, dq, ha⟩
    have E3 := e1.trans e3
    have hql : a ≠ 0 → q.length < 64 := fun ha0 => by
      have h3 : 16777216 ^ q.length * 1 ≤ 16777216 ^ q.length * a.natAbs := Nat.mul_le_mul_left _ (by omega)
      have h4 : 2 ^ (24 * q.length) ≤ n.natAbs := by rw [Nat.pow_mul, show (2 : Nat) ^ 24 = 16777216 from rfl]; omega
      refine Nat.lt_of_not_le fun hc => ?_
      have : 2 ^ 64 ≤ 2 ^ (24 * q.length) := Nat.pow_le_pow_right (by decide) (by omega)
      have h64 : (2 : Nat) ^ 64 = 18446744073709551616 := by decide
      omega
    rw [bin_neq]
    refine cnd_dec (fun hne => ?_) (fun heq => ?_)
    · rw [bin_rem _ _ _ _ _ _ _ (by decide)]
      have hm := tmod_abs a
      have hq := tdiv_abs a
      have hmod := Nat.mod_lt a.natAbs (show 0 < 16777216 by decide)
      refine ⟨fun y w' => w' = w3 ∧ y = .int .i64 ((a.natAbs % 16777216 : Nat) : Int), ?_, ?_⟩
      · rintro y' junk w4 ⟨rfl, rfl⟩
        have := hql (by omega)
        refine app_OD oq u_s_int64 i_int64 (by simp only [maxLen]; omega) (by omega) e3.size fun v' w5 o5 g5 => ?_
        rw [bin_quo _ _ _ _ _ _ _ (by decide), wrap_i64 (by omega) (by omega)]
        refine ⟨_, ?_, a.tdiv 16777216, _, rfl, rfl, ext_of_grown e3 (fun g hg => (oq.lt g hg).1) g5, o5, by simp; omega, ?_, ?_, by omega⟩
        · rw [hq]; omega
        · rw [val_snoc, List.length_append, List.length_singleton, Nat.pow_succ, hq]
          exact digs_step hv rfl rfl
        · intro d hd
          rcases List.mem_append.1 hd with hd | hd
          · exact dq d hd
          · simp at hd; omega
      · rw [bin_lss]
        refine cnd_dec (fun hneg => ?_) (fun hpos => ?_)
        · rw [una_neg_int, wrap_i64 (by omega) (by omega)]
          exact ⟨rfl, by congr 1; omega⟩
        · exact ⟨rfl, by congr 1; omega⟩
    · have ha0 : a = 0 := by omega
      subst ha0
      refine wh_make E3 (b1.ext e3) hcs (Nat.le_refl _) (OD.IR oq) dq (by simpa using hv.symm) (fun hn => ?_) ?_ fun v' w' he' hw' => H v' w' he' hw'
      · split
        · rename_i h; exact Int.sign_eq_neg_one_of_neg h
        · exact Int.sign_eq_one_of_pos (by omega)
      · omega
  · rw [bin_lss]
    refine cnd_dec (fun hneg => ?_) (fun hpos => ?_)
    · exact ⟨rfl, by rw [if_pos hneg]⟩
    · exact ⟨rfl, by rw [if_neg hpos]⟩
end Go.Proofs.YtjompmflommadaaGreatDoor
