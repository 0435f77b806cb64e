import Derived.Test.YtjompmflommadaaGreatDoorQFnProgramTextsVVcK
import Derived.Test.YtjompmflommadaaGreatDoorQFnProgramTextsVVcI
import Derived.ProofKit
import Derived.OpenShut
import Derived.ChangeOld
import Derived.Deep.Slices
import Derived.Test.YtjompmflommadaaGreatDoorQFnProgramTexts1
set_option linter.unusedSimpArgs false
set_option linter.unusedVariables false
namespace Go.Proofs.YtjompmflommadaaGreatDoor
set_option maxRecDepth 20000
section
open Go Go.Vc
def O4 (a0 : Value) (w : World) (K : Value → World → Prop) : Prop :=
 alc P 55 w fun b c =>
 bsl P 53 0 [] c fun d e =>
 ∃ g : Value → World → Prop, (∀ (h : Value) (_ : Env) (i : World), g h i →
 ∃ j : Nat → Value → Value → World → Prop, (∃ k, j k a0 d i) ∧ ∀ (l : Nat) (m : Value) (n : Value) (_ : Env) (o : World), j l m n o →
 bin P .neq 2 false true m (.int .i64 0) o fun p =>
 cnd p
 (bin P .rem 2 false true m (.int .i64 16777216) o fun q =>
 ∃ r : Value → World → Prop, (∀ (s : Value) (_ : Env) (t : World), r s t →
 bsl P 53 1 [(0, s)] t fun u v =>
 bl2 P .append #[53, 53] 53 [n, u] v fun x y =>
 bin P .quo 2 false true m (.int .i64 16777216) y fun z =>
 ∃ A, A < l ∧ j A z x y) ∧
 (bin P .lss 2 false true q (.int .i64 0) o fun B =>
 cnd B
 (una P .neg q o fun C =>
 r C o)
 (r q o)))
 (call P Bk [h, n] o fun D E =>
 sto P 55 b D E fun F =>
 ldc P 55 b F fun G =>
 K G F)) ∧
 (bin P .lss 2 false true a0 (.int .i64 0) e fun H =>
 cnd H
 (g (.int .i64 (-1)) e)
 (g (.int .i64 1) e))
def Ta : Plan := (.seq rg55 (.seq rg22 (.cut [3] 392 (.seq rg0 (.cond rg3 .leaf)) (.seq (.blk (.loop [0, 4] 8388145 (.seq (.seq rg0 (.cond .leaf .leaf)) (.blk (.seq rg1 (.cut [5] 122912 (.seq rg0 (.cond rg1 .leaf)) (.seq rg33 rg1))))))) (.seq rg56 .leaf)))))
theorem AbW {a0 : Value} {w : World} {K : Value → World → Prop} (h : O4 a0 w K) : call P DX [a0] w K :=
 Aa mixed Tryz.func164 (c := codeOf Tryz.f164) (by kernel_rfl) (by kernel_rfl) (p := Ta) (by kernel_rfl) (by rw [Tryz.ntmps164]; simp) (by
  have e : O4 a0 w K = vc P Ta (codeOf Tryz.f164) (env0 [a0]) w (retX P Tryz.f164.results.toList K) := by kernel_rfl
  exact e ▸ h)
def Np (a0 : Value) (w : World) (K : Value → World → Prop) : Prop :=
 bx P 55 a0 w fun b c =>
 alc P 55 c fun d e =>
 fda P 55 b 0 e fun g =>
 ld P 2 g e fun h =>
 fda P 55 b 0 e fun i =>
 ld P 2 i e fun j =>
 bin P .mul 2 false false h j e fun k =>
 fda P 55 b 1 e fun l =>
 ld P 53 l e fun m =>
 call P Bk [k, m] e fun n o =>
 sto P 55 d n o fun p =>
 ldc P 55 d p fun q =>
 K q p
def Sm : Plan := (.seq rg38 (.seq (.reg [.op (0, 0, false), .op (1, 0, false), .op (2, 0, false), .op (3, 0, false), .op (4, 0, false), .op (5, 0, false), .op (6, 0, false), .op (7, 2, false), .op (8, 2, false)]) .leaf))
theorem Aaf {a0 : Value} {w : World} {K : Value → World → Prop} (h : Np a0 w K) : call P MG [a0] w K :=
 Aa mixed Tryz.func167 (c := codeOf Tryz.f167) (by kernel_rfl) (by kernel_rfl) (p := Sm) (by kernel_rfl) (by rw [Tryz.ntmps167]; simp) (by
  have e : Np a0 w K = vc P Sm (codeOf Tryz.f167) (env0 [a0]) w (retX P Tryz.f167.results.toList K) := by kernel_rfl
  exact e ▸ h)
def NZ (a0 : Value) (w : World) (K : Value → World → Prop) : Prop :=
 bx P 55 a0 w fun b c =>
 fda P 55 b 1 c fun d =>
 ld P 53 d c fun e =>
 bl0 P .len #[53] 3 [e] c fun g =>
 ∃ h : Nat → Value → World → Prop, (∃ i, h i (.int .i64 0) c) ∧ ∀ (j : Nat) (k : Value) (_ : Env) (l : World), h j k l →
 bin P .lss 3 false false k g l fun m =>
 cnd m
 (fda P 55 b 1 l fun n =>
 ld P 53 n l fun o =>
 ixa P 53 o k l fun p =>
 ld P 2 p l fun q =>
 call P GF [q, (.int .i64 0), (.int .i64 16777215)] l fun r s =>
 una P .not r s fun t =>
 cnd t
 (K (.bool false) s)
 (bin P .add 3 false true k (.int .i64 1) s fun u =>
 ∃ v, v < j ∧ h v u s))
 (bin P .eql 3 false true g (.int .i64 0) l fun x =>
 cnd x
 (fda P 55 b 0 l fun y =>
 ld P 2 y l fun z =>
 bin P .eql 2 false true z (.int .i64 0) l fun A =>
 K A l)
 (bin P .leq 3 false true g (.int .i64 100) l fun B =>
 ∃ C : Value → World → Prop, (∀ (D : Value) (_ : Env) (E : World), C D E →
 pick B D (.bool false) fun F =>
 ∃ G : Value → World → Prop, (∀ (H : Value) (_ : Env) (L : World), G H L →
 ∃ M : Value → World → Prop, (∀ (N : Value) (_ : Env) (O : World), M N O →
 ∃ Q : Value → World → Prop, (∀ (R : Value) (_ : Env) (S : World), Q R S →
 pick F R (.bool false) fun T =>
 K T S) ∧
 grd F true
 (pick H (.bool true) N fun U =>
 Q U O)
 (Q undef O)) ∧
 grd H false
 (fda P 55 b 0 L fun V =>
 ld P 2 V L fun W =>
 bin P .eql 2 false true W (.int .i64 (-1)) L fun X =>
 M X L)
 (M undef L)) ∧
 grd F true
 (fda P 55 b 0 E fun Y =>
 ld P 2 Y E fun Z =>
 bin P .eql 2 false true Z (.int .i64 1) E fun b0 =>
 G b0 E)
 (G undef E)) ∧
 grd B true
 (fda P 55 b 1 l fun c0 =>
 ld P 53 c0 l fun d0 =>
 bin P .sub 3 false true g (.int .i64 1) l fun e0 =>
 ixa P 53 d0 e0 l fun g0 =>
 ld P 2 g0 l fun h0 =>
 bin P .neq 2 false true h0 (.int .i64 0) l fun i0 =>
 C i0 l)
 (C undef l)))
def SV : Plan := (.seq rg6 (.seq rg5 (.seq (.seq rg3 (.blk (.loop [4] 1048340 (.seq (.seq rg1 (.cond .leaf .leaf)) (.seq (.blk (.seq rg48 (.cond (.seq rg3 .leaf) .leaf))) rg1))))) (.seq (.seq rg0 (.cond (.seq rg5 .leaf) .leaf)) (.seq (.reg [.op (0, 0, false), .op (1, 0, false), .op (2, 0, false), .grp 2 true [(3, 0, false), (4, 0, false), (5, 0, false), (6, 0, false), (7, 0, false), (8, 0, false), (9, 0, false)] [34] 34091302912, .op (10, 0, false), .op (11, 0, false), .grp 11 true [(12, 0, false), (13, 0, false), (14, 0, false), (15, 0, false)] [40] 2061584302080, .grp 15 false [(16, 0, false), (17, 0, false), (18, 0, false)] [43] 15393162788864, .grp 11 true [(19, 0, false)] [44] 17592186044416, .op (20, 0, false), .op (21, 0, false)]) .leaf)))))
theorem Abp {a0 : Value} {w : World} {K : Value → World → Prop} (h : NZ a0 w K) : call P JS [a0] w K :=
 Aa mixed Tryz.func170 (c := codeOf Tryz.f170) (by kernel_rfl) (by kernel_rfl) (p := SV) (by kernel_rfl) (by rw [Tryz.ntmps170]; simp) (by
  have e : NZ a0 w K = vc P SV (codeOf Tryz.f170) (env0 [a0]) w (retX P Tryz.f170.results.toList K) := by kernel_rfl
  exact e ▸ h)
def Ll (a0 : Value) (w : World) (K : Value → World → Prop) : Prop :=
 bx P 55 a0 w fun b c =>
 ∃ d : Nat → Value → World → Prop, (∃ e, d e (.int .i64 0) c) ∧ ∀ (g : Nat) (h : Value) (_ : Env) (i : World), d g h i →
 ld P 55 b i fun j =>
 call P FO [j, h] i fun k l =>
 bin P .eql 2 false true k (.int .i64 0) l fun m =>
 cnd m
 (bin P .add 2 false true h (.int .i64 1) l fun n =>
 ∃ o, o < g ∧ d o n l)
 (K h l)
def Qn : Plan := (.seq rg6 (.seq rg3 (.seq (.blk (.loop [3] 1016 (.seq (.seq rg8 (.cond .leaf .leaf)) (.blk rg1)))) (.seq rg0 .leaf))))
theorem Y8 {a0 : Value} {w : World} {K : Value → World → Prop} (h : Ll a0 w K) : call P LI [a0] w K :=
 Aa mixed Tryz.func171 (c := codeOf Tryz.f171) (by kernel_rfl) (by kernel_rfl) (p := Qn) (by kernel_rfl) (by rw [Tryz.ntmps171]; simp) (by
  have e : Ll a0 w K = vc P Qn (codeOf Tryz.f171) (env0 [a0]) w (retX P Tryz.f171.results.toList K) := by kernel_rfl
  exact e ▸ h)
def MM (a0 a1 : Value) (w : World) (K : Value → World → Prop) : Prop :=
 bx P 55 a0 w fun b c =>
 alc P 55 c fun d e =>
 bsl P 53 0 [] e fun g h =>
 bin P .quo 2 false true a1 (.int .i64 24) h fun i =>
 ∃ j : Nat → Value → Value → World → Prop, (∃ k, j k g i h) ∧ ∀ (l : Nat) (m : Value) (n : Value) (_ : Env) (o : World), j l m n o →
 fda P 55 b 1 o fun p =>
 ld P 53 p o fun q =>
 bl0 P .len #[53] 3 [q] o fun r =>
 bin P .lss 2 false false n r o fun s =>
 cnd s
 (fda P 55 b 1 o fun t =>
 ld P 53 t o fun u =>
 ixa P 53 u n o fun v =>
 ld P 2 v o fun x =>
 bin P .rem 2 false true a1 (.int .i64 24) o fun y =>
 cnv P 2 178 y o fun z =>
 bin P .shr 2 false false x z o fun A =>
 bin P .add 2 false true n (.int .i64 1) o fun B =>
 fda P 55 b 1 o fun C =>
 ld P 53 C o fun D =>
 bl0 P .len #[53] 3 [D] o fun E =>
 bin P .lss 2 false false B E o fun F =>
 cnd F
 (fda P 55 b 1 o fun G =>
 ld P 53 G o fun H =>
 bin P .add 2 false true n (.int .i64 1) o fun L =>
 ixa P 53 H L o fun M =>
 ld P 2 M o fun N =>
 bin P .rem 2 false true a1 (.int .i64 24) o fun O =>
 bin P .sub 2 true false (.int .i64 24) O o fun Q =>
 cnv P 2 178 Q o fun R =>
 bin P .shl 2 false false N R o fun S =>
 bin P .add 2 false false A S o fun T =>
 bin P .rem 2 false true T (.int .i64 16777216) o fun U =>
 bsl P 53 1 [(0, U)] o fun V W =>
 bl2 P .append #[53, 53] 53 [m, V] W fun X Y =>
 bin P .add 2 false true n (.int .i64 1) Y fun Z =>
 ∃ b0, b0 < l ∧ j b0 X Z Y)
 (bsl P 53 1 [(0, A)] o fun c0 d0 =>
 bl2 P .append #[53, 53] 53 [m, c0] d0 fun e0 g0 =>
 bin P .add 2 false true n (.int .i64 1) g0 fun h0 =>
 ∃ i0, i0 < l ∧ j i0 e0 h0 g0))
 (fda P 55 b 0 o fun j0 =>
 ld P 2 j0 o fun k0 =>
 call P Bk [k0, m] o fun l0 m0 =>
 sto P 55 d l0 m0 fun n0 =>
 ldc P 55 d n0 fun o0 =>
 K o0 n0)
def Ss : Plan := (.seq rg38 (.seq rg6 (.seq (.seq rg1 (.blk (.loop [5, 6] 2251799813683424 (.seq (.seq rg4 (.cond .leaf .leaf)) (.seq (.blk (.seq rg24 (.seq (.seq rg9 (.cond (.reg [.op (0, 0, false), .op (1, 0, false), .op (2, 0, false), .op (3, 0, false), .op (4, 0, false), .op (5, 0, false), .op (6, 0, false), .op (7, 0, false), .op (8, 0, false), .op (9, 0, false), .op (10, 0, false), .op (11, 0, false), .op (12, 0, false), .op (13, 0, false), .op (14, 0, false)]) .leaf)) rg33))) rg1))))) (.seq (.reg [.op (0, 0, false), .op (1, 0, false), .op (2, 0, false), .op (3, 2, false), .op (4, 2, false)]) .leaf))))
theorem Aa2 {a0 a1 : Value} {w : World} {K : Value → World → Prop} (h : MM a0 a1 w K) : call P Iy [a0, a1] w K :=
 Aa mixed Tryz.func172 (c := codeOf Tryz.f172) (by kernel_rfl) (by kernel_rfl) (p := Ss) (by kernel_rfl) (by rw [Tryz.ntmps172]; simp) (by
  have e : MM a0 a1 w K = vc P Ss (codeOf Tryz.f172) (env0 [a0, a1]) w (retX P Tryz.f172.results.toList K) := by kernel_rfl
  exact e ▸ h)
def KE (a0 a1 : Value) (w : World) (K : Value → World → Prop) : Prop :=
 alc P 55 w fun b c =>
 bl0 P .len #[53] 3 [a1] c fun d =>
 ∃ e : Nat → Value → World → Prop, (∃ g, e g d c) ∧ ∀ (h : Nat) (i : Value) (_ : Env) (j : World), e h i j →
 bin P .gtr 3 false true i (.int .i64 0) j fun k =>
 ∃ l : Value → World → Prop, (∀ (m : Value) (_ : Env) (n : World), l m n →
 pick k m (.bool false) fun o =>
 cnd o
 (bin P .sub 3 false true i (.int .i64 1) n fun p =>
 ∃ q, q < h ∧ e q p n)
 (bin P .eql 3 false true i (.int .i64 0) n fun r =>
 cnd r
 (bld P 55 [] n fun s =>
 sto P 55 b s n fun t =>
 ldc P 55 b t fun u =>
 K u t)
 (sli P 53 a1 none (some i) none n fun v =>
 call P FV [v] n fun x y =>
 bld P 55 [(0, a0), (1, x)] y fun z =>
 sto P 55 b z y fun A =>
 ldc P 55 b A fun B =>
 K B A))) ∧
 grd k true
 (bin P .sub 3 false true i (.int .i64 1) j fun C =>
 ixa P 53 a1 C j fun D =>
 ld P 2 D j fun E =>
 bin P .eql 2 false true E (.int .i64 0) j fun F =>
 l F j)
 (l undef j)
def Rb : Plan := (.seq rg55 (.seq rg1 (.seq (.blk (.loop [5] 1048352 (.seq (.seq (.reg [.op (0, 0, false), .op (1, 0, false), .op (2, 0, false), .grp 2 true [(3, 0, false), (4, 0, false), (5, 0, false), (6, 0, false), (7, 0, false), (8, 0, false)] [16] 129024, .op (9, 0, false)]) (.cond .leaf .leaf)) (.blk rg1)))) (.seq (.seq rg0 (.cond (.seq rg31 .leaf) .leaf)) (.seq (.reg [.op (0, 0, false), .op (1, 0, false), .op (2, 0, false), .op (3, 0, false), .op (4, 2, false), .op (5, 0, false), .op (6, 2, false)]) .leaf)))))
theorem Y6 {a0 a1 : Value} {w : World} {K : Value → World → Prop} (h : KE a0 a1 w K) : call P Bk [a0, a1] w K :=
 Aa mixed Tryz.func214 (c := codeOf Tryz.f214) (by kernel_rfl) (by kernel_rfl) (p := Rb) (by kernel_rfl) (by rw [Tryz.ntmps214]; simp) (by
  have e : KE a0 a1 w K = vc P Rb (codeOf Tryz.f214) (env0 [a0, a1]) w (retX P Tryz.f214.results.toList K) := by kernel_rfl
  exact e ▸ h)
def MK (a0 : Value) (w : World) (K : Value → World → Prop) : Prop :=
 bx P 55 a0 w fun b c =>
 alc P 55 c fun d e =>
 fda P 55 b 0 e fun g =>
 ld P 2 g e fun h =>
 una P .neg h e fun i =>
 fda P 55 b 1 e fun j =>
 ld P 53 j e fun k =>
 call P Bk [i, k] e fun l m =>
 sto P 55 d l m fun n =>
 ldc P 55 d n fun o =>
 K o n
def SE : Plan := (.seq rg38 (.seq (.reg [.op (0, 0, false), .op (1, 0, false), .op (2, 0, false), .op (3, 0, false), .op (4, 0, false), .op (5, 2, false), .op (6, 2, false)]) .leaf))
theorem Aac {a0 : Value} {w : World} {K : Value → World → Prop} (h : MK a0 w K) : call P ML [a0] w K :=
 Aa mixed Tryz.func215 (c := codeOf Tryz.f215) (by kernel_rfl) (by kernel_rfl) (p := SE) (by kernel_rfl) (by rw [Tryz.ntmps215]; simp) (by
  have e : MK a0 w K = vc P SE (codeOf Tryz.f215) (env0 [a0]) w (retX P Tryz.f215.results.toList K) := by kernel_rfl
  exact e ▸ h)
def Nb (a0 a1 : Value) (w : World) (K : Value → World → Prop) : Prop :=
 bx P 55 a0 w fun b c =>
 bx P 55 a1 c fun d e =>
 alc P 55 e fun g h =>
 fda P 55 b 1 h fun i =>
 ld P 53 i h fun j =>
 bl0 P .len #[53] 3 [j] h fun k =>
 fda P 55 d 1 h fun l =>
 ld P 53 l h fun m =>
 bl0 P .len #[53] 3 [m] h fun n =>
 bin P .add 3 false false k n h fun o =>
 bin P .add 3 false true o (.int .i64 1) h fun p =>
 mks P 53 p p h fun q r =>
 ∃ s : Nat → Value → World → Prop, (∃ t, s t (.int .i64 0) r) ∧ ∀ (u : Nat) (v : Value) (_ : Env) (x : World), s u v x →
 fda P 55 b 1 x fun y =>
 ld P 53 y x fun z =>
 bl0 P .len #[53] 3 [z] x fun A =>
 bin P .lss 3 false false v A x fun B =>
 cnd B
 (∃ C : Nat → Value → Value → World → Prop, (∃ D, C D (.int .i64 0) (.int .i64 0) x) ∧ ∀ (E : Nat) (F : Value) (G : Value) (_ : Env) (H : World), C E F G H →
 fda P 55 d 1 H fun L =>
 ld P 53 L H fun M =>
 bl0 P .len #[53] 3 [M] H fun N =>
 bin P .lss 3 false false G N H fun O =>
 cnd O
 (bin P .add 3 false false v G H fun Q =>
 ixa P 53 q Q H fun R =>
 ld P 2 R H fun S =>
 bin P .add 2 false false F S H fun T =>
 fda P 55 b 1 H fun U =>
 ld P 53 U H fun V =>
 ixa P 53 V v H fun W =>
 ld P 2 W H fun X =>
 fda P 55 d 1 H fun Y =>
 ld P 53 Y H fun Z =>
 ixa P 53 Z G H fun b0 =>
 ld P 2 b0 H fun c0 =>
 bin P .mul 2 false false X c0 H fun d0 =>
 bin P .add 2 false false T d0 H fun e0 =>
 bin P .add 3 false false v G H fun g0 =>
 bin P .rem 2 false true e0 (.int .i64 16777216) H fun h0 =>
 ixa P 53 q g0 H fun i0 =>
 sto P 2 i0 h0 H fun j0 =>
 bin P .quo 2 false true e0 (.int .i64 16777216) j0 fun k0 =>
 bin P .add 3 false true G (.int .i64 1) j0 fun l0 =>
 ∃ m0, m0 < E ∧ C m0 k0 l0 j0)
 (fda P 55 d 1 H fun n0 =>
 ld P 53 n0 H fun o0 =>
 bl0 P .len #[53] 3 [o0] H fun p0 =>
 bin P .add 3 false false v p0 H fun q0 =>
 ixa P 53 q q0 H fun r0 =>
 sto P 2 r0 F H fun s0 =>
 bin P .add 3 false true v (.int .i64 1) s0 fun t0 =>
 ∃ u0, u0 < u ∧ s u0 t0 s0))
 (fda P 55 b 0 x fun v0 =>
 ld P 2 v0 x fun x0 =>
 fda P 55 d 0 x fun y0 =>
 ld P 2 y0 x fun z0 =>
 bin P .mul 2 false false x0 z0 x fun A0 =>
 call P Bk [A0, q] x fun B0 C0 =>
 sto P 55 g B0 C0 fun D0 =>
 ldc P 55 g D0 fun E0 =>
 K E0 D0)
def SD : Plan := (.seq rg40 (.seq rg25 (.seq (.seq rg3 (.blk (.loop [6] 590295810358705390016 (.seq (.seq rg4 (.cond .leaf .leaf)) (.seq (.blk (.seq rg3 (.seq (.seq rg3 (.blk (.loop [7, 8] 2305843009180139904 (.seq (.seq rg4 (.cond .leaf .leaf)) (.seq (.blk (.seq (.reg [.op (0, 0, false), .op (1, 0, false), .op (2, 0, false), .op (3, 0, false), .op (4, 0, false), .op (5, 0, false), .op (6, 0, false), .op (7, 0, false), .op (8, 0, false), .op (9, 0, false), .op (10, 0, false), .op (11, 0, false), .op (12, 0, false), .op (13, 0, false), .op (14, 0, false), .op (15, 0, false), .op (16, 0, false), .op (17, 0, false), .op (18, 0, false), .op (19, 0, false), .op (20, 0, false)]) (.seq rg23 rg1))) rg1))))) rg19))) rg1))))) (.seq (.reg [.op (0, 0, false), .op (1, 0, false), .op (2, 0, false), .op (3, 0, false), .op (4, 0, false), .op (5, 0, false), .op (6, 2, false), .op (7, 2, false)]) .leaf))))
theorem Aa3 {a0 a1 : Value} {w : World} {K : Value → World → Prop} (h : Nb a0 a1 w K) : call P Na [a0, a1] w K :=
 Aa mixed Tryz.func216 (c := codeOf Tryz.f216) (by kernel_rfl) (by kernel_rfl) (p := SD) (by kernel_rfl) (by rw [Tryz.ntmps216]; simp) (by
  have e : Nb a0 a1 w K = vc P SD (codeOf Tryz.f216) (env0 [a0, a1]) w (retX P Tryz.f216.results.toList K) := by kernel_rfl
  exact e ▸ h)
def Nk (a0 a1 : Value) (w : World) (K : Value → World → Prop) : Prop :=
 bx P 55 a0 w fun b c =>
 bx P 55 a1 c fun d e =>
 alc P 55 e fun g h =>
 fda P 55 b 0 h fun i =>
 ld P 2 i h fun j =>
 bin P .eql 2 false true j (.int .i64 0) h fun k =>
 cnd k
 (fda P 55 d 0 h fun l =>
 ld P 2 l h fun m =>
 fda P 55 d 1 h fun n =>
 ld P 53 n h fun o =>
 call P Bk [m, o] h fun p q =>
 sto P 55 g p q fun r =>
 ldc P 55 g r fun s =>
 K s r)
 (fda P 55 d 0 h fun t =>
 ld P 2 t h fun u =>
 bin P .eql 2 false true u (.int .i64 0) h fun v =>
 cnd v
 (fda P 55 b 0 h fun x =>
 ld P 2 x h fun y =>
 fda P 55 b 1 h fun z =>
 ld P 53 z h fun A =>
 call P Bk [y, A] h fun B C =>
 sto P 55 g B C fun D =>
 ldc P 55 g D fun E =>
 K E D)
 (fda P 55 b 0 h fun F =>
 ld P 2 F h fun G =>
 fda P 55 d 0 h fun H =>
 ld P 2 H h fun L =>
 bin P .eql 2 false false G L h fun M =>
 cnd M
 (fda P 55 b 0 h fun N =>
 ld P 2 N h fun O =>
 fda P 55 b 1 h fun Q =>
 ld P 53 Q h fun R =>
 fda P 55 d 1 h fun S =>
 ld P 53 S h fun T =>
 call P Lx [R, T] h fun U V =>
 Ext h V ∧ call P Bk [O, U] V fun W X =>
 sto P 55 g W X fun Y =>
 ldc P 55 g Y fun Z =>
 K Z Y)
 (fda P 55 b 1 h fun b0 =>
 ld P 53 b0 h fun c0 =>
 fda P 55 d 1 h fun d0 =>
 ld P 53 d0 h fun e0 =>
 call P EX [c0, e0] h fun g0 h0 =>
 bin P .geq 2 false true g0 (.int .i64 0) h0 fun i0 =>
 cnd i0
 (fda P 55 b 0 h0 fun j0 =>
 ld P 2 j0 h0 fun k0 =>
 fda P 55 b 1 h0 fun l0 =>
 ld P 53 l0 h0 fun m0 =>
 fda P 55 d 1 h0 fun n0 =>
 ld P 53 n0 h0 fun o0 =>
 call P Gs [m0, o0] h0 fun p0 q0 =>
 Ext h0 q0 ∧ call P Bk [k0, p0] q0 fun r0 s0 =>
 sto P 55 g r0 s0 fun t0 =>
 ldc P 55 g t0 fun u0 =>
 K u0 t0)
 (fda P 55 d 0 h0 fun v0 =>
 ld P 2 v0 h0 fun x0 =>
 fda P 55 d 1 h0 fun y0 =>
 ld P 53 y0 h0 fun z0 =>
 fda P 55 b 1 h0 fun A0 =>
 ld P 53 A0 h0 fun B0 =>
 call P Gs [z0, B0] h0 fun C0 D0 =>
 Ext h0 D0 ∧ call P Bk [x0, C0] D0 fun E0 F0 =>
 sto P 55 g E0 F0 fun G0 =>
 ldc P 55 g G0 fun H0 =>
 K H0 G0))))
def S7 : Plan := (.seq rg40 (.seq (.blk (.seq rg5 (.cond (.seq rg43 .leaf) (.seq rg5 (.cond (.seq rg43 .leaf) (.seq rg9 (.cond (.seq rg37 .leaf) (.seq rg49 (.cond (.seq rg37 .leaf) .leaf))))))))) (.seq rg37 .leaf)))
theorem Aad {a0 a1 : Value} {w : World} {K : Value → World → Prop} (h : Nk a0 a1 w K) : call P Ga [a0, a1] w K :=
 Aa mixed Tryz.func217 (c := codeOf Tryz.f217) (by kernel_rfl) (by kernel_rfl) (p := S7) (by kernel_rfl) (by rw [Tryz.ntmps217]; simp) (by
  have e : Nk a0 a1 w K = vc P S7 (codeOf Tryz.f217) (env0 [a0, a1]) w (retX P Tryz.f217.results.toList K) := by kernel_rfl
  exact e ▸ h)
def Kp (a0 a1 : Value) (w : World) (K : Value → World → Prop) : Prop :=
 bx P 55 a0 w fun b c =>
 alc P 55 c fun d e =>
 bin P .quo 2 false true a1 (.int .i64 24) e fun g =>
 mks P 53 g g e fun h i =>
 ∃ j : Nat → Value → Value → Value → World → Prop, (∃ k, j k h (.int .i64 0) (.int .i64 0) i) ∧ ∀ (l : Nat) (m : Value) (n : Value) (o : Value) (_ : Env) (p : World), j l m n o p →
 fda P 55 b 1 p fun q =>
 ld P 53 q p fun r =>
 bl0 P .len #[53] 3 [r] p fun s =>
 bin P .lss 3 false false o s p fun t =>
 cnd t
 (fda P 55 b 1 p fun u =>
 ld P 53 u p fun v =>
 ixa P 53 v o p fun x =>
 ld P 2 x p fun y =>
 bin P .rem 2 false true a1 (.int .i64 24) p fun z =>
 cnv P 2 178 z p fun A =>
 bin P .shl 2 false false y A p fun B =>
 bin P .add 2 false false n B p fun C =>
 bin P .rem 2 false true C (.int .i64 16777216) p fun D =>
 bsl P 53 1 [(0, D)] p fun E F =>
 bl2 P .append #[53, 53] 53 [m, E] F fun G H =>
 bin P .quo 2 false true C (.int .i64 16777216) H fun L =>
 bin P .add 3 false true o (.int .i64 1) H fun M =>
 ∃ N, N < l ∧ j N G L M H)
 (fda P 55 b 0 p fun O =>
 ld P 2 O p fun Q =>
 bsl P 53 1 [(0, n)] p fun R S =>
 Ext p S ∧ bl2 P .append #[53, 53] 53 [m, R] S fun T U =>
 (fda P 55 b 0 U fun z => z = O) ∧ (ld P 2 O U fun z => z = Q) ∧ call P Bk [Q, T] U fun V W =>
 sto P 55 d V W fun X =>
 ldc P 55 d X fun Y =>
 K Y X)
def Qp : Plan := (.seq rg38 (.seq rg8 (.seq rg3 (.seq (.seq rg3 (.blk (.loop [5, 6, 7] 68719474912 (.seq (.seq rg4 (.cond .leaf .leaf)) (.seq (.blk (.seq rg16 (.seq rg30 rg1))) rg1))))) (.seq (.reg [.op (0, 0, false), .op (1, 0, false), .op (2, 0, false), .op (3, 0, false), .op (4, 2, true), .op (5, 5, false), .op (6, 2, false), .op (7, 2, false)]) .leaf)))))
theorem YC {a0 a1 : Value} {w : World} {K : Value → World → Prop} (h : Kp a0 a1 w K) : call P Fk [a0, a1] w K :=
 Aa mixed Tryz.func218 (c := codeOf Tryz.f218) (by kernel_rfl) (by kernel_rfl) (p := Qp) (by kernel_rfl) (by rw [Tryz.ntmps218]; simp) (by
  have e : Kp a0 a1 w K = vc P Qp (codeOf Tryz.f218) (env0 [a0, a1]) w (retX P Tryz.f218.results.toList K) := by kernel_rfl
  exact e ▸ h)
def MR (a0 a1 : Value) (w : World) (K : Value → World → Prop) : Prop :=
 bx P 55 a0 w fun b c =>
 bin P .quo 2 false true a1 (.int .i64 24) c fun d =>
 fda P 55 b 1 c fun e =>
 ld P 53 e c fun g =>
 bl0 P .len #[53] 3 [g] c fun h =>
 bin P .geq 2 false false d h c fun i =>
 cnd i
 (K (.int .i64 0) c)
 (fda P 55 b 1 c fun j =>
 ld P 53 j c fun k =>
 bin P .quo 2 false true a1 (.int .i64 24) c fun l =>
 ixa P 53 k l c fun m =>
 ld P 2 m c fun n =>
 bin P .rem 2 false true a1 (.int .i64 24) c fun o =>
 cnv P 2 178 o c fun p =>
 bin P .shr 2 false false n p c fun q =>
 bin P .and 2 false true q (.int .i64 1) c fun r =>
 K r c)
def Sl : Plan := (.seq rg6 (.seq (.seq rg9 (.cond (.seq rg3 .leaf) .leaf)) (.seq rg16 .leaf)))
theorem Aa8 {a0 a1 : Value} {w : World} {K : Value → World → Prop} (h : MR a0 a1 w K) : call P FO [a0, a1] w K :=
 Aa mixed Tryz.func219 (c := codeOf Tryz.f219) (by kernel_rfl) (by kernel_rfl) (p := Sl) (by kernel_rfl) (by rw [Tryz.ntmps219]; simp) (by
  have e : MR a0 a1 w K = vc P Sl (codeOf Tryz.f219) (env0 [a0, a1]) w (retX P Tryz.f219.results.toList K) := by kernel_rfl
  exact e ▸ h)
def LC (a0 : Value) (w : World) (K : Value → World → Prop) : Prop :=
 alc P 55 w fun b c =>
 ∃ d : Value → Value → World → Prop, (∀ (e : Value) (g : Value) (_ : Env) (h : World), d e g h →
 bl0 P .len #[9] 3 [g] h fun i =>
 bin P .eql 3 false true i (.int .i64 0) h fun j =>
 ∃ k : Value → World → Prop, (∀ (l : Value) (_ : Env) (m : World), k l m →
 ∃ n : Value → World → Prop, (∀ (o : Value) (_ : Env) (p : World), n o p →
 ∃ q : Value → World → Prop, (∀ (r : Value) (_ : Env) (s : World), q r s →
 ∃ t : Value → World → Prop, (∀ (u : Value) (_ : Env) (v : World), t u v →
 ∃ x : Value → World → Prop, (∀ (y : Value) (_ : Env) (z : World), x y z →
 pick j (.bool true) y fun A =>
 cnd A
 (bld P 55 [] z fun B =>
 sto P 55 b B z fun C =>
 ldc P 55 b C fun D =>
 K (.tuple #[D, (.bool false)]) C)
 (∃ E : Nat → Value → World → Prop, (∃ F, E F (.int .i64 0) z) ∧ ∀ (G : Nat) (H : Value) (_ : Env) (L : World), E G H L →
 bl0 P .len #[9] 3 [g] L fun M =>
 bin P .lss 3 false false H M L fun N =>
 cnd N
 (idx P 9 g H L fun O =>
 bin P .lss 5 false true O (.int .u8 48) L fun Q =>
 ∃ R : Value → World → Prop, (∀ (S : Value) (_ : Env) (T : World), R S T →
 pick Q (.bool true) S fun U =>
 cnd U
 (bld P 55 [] T fun V =>
 sto P 55 b V T fun W =>
 ldc P 55 b W fun X =>
 K (.tuple #[X, (.bool false)]) W)
 (bin P .add 3 false true H (.int .i64 1) T fun Y =>
 ∃ Z, Z < G ∧ E Z Y T)) ∧
 grd Q false
 (idx P 9 g H L fun b0 =>
 bin P .gtr 5 false true b0 (.int .u8 57) L fun c0 =>
 R c0 L)
 (R undef L))
 (bsl P 53 0 [] L fun d0 e0 =>
 ∃ g0 : Nat → Value → Value → World → Prop, (∃ h0, g0 h0 d0 (.int .i64 0) e0) ∧ ∀ (i0 : Nat) (j0 : Value) (k0 : Value) (_ : Env) (l0 : World), g0 i0 j0 k0 l0 →
 bl0 P .len #[9] 3 [g] l0 fun m0 =>
 bin P .lss 3 false false k0 m0 l0 fun n0 =>
 ∃ o0 : Value → World → Prop, (∀ (p0 : Value) (_ : Env) (q0 : World), o0 p0 q0 →
 pick n0 p0 (.bool false) fun r0 =>
 cnd r0
 (idx P 9 g k0 q0 fun s0 =>
 bin P .sub 5 false true s0 (.int .u8 48) q0 fun t0 =>
 cnv P 5 2 t0 q0 fun u0 =>
 ∃ v0 : Nat → Value → Value → World → Prop, (∃ x0, v0 x0 u0 (.int .i64 0) q0) ∧ ∀ (y0 : Nat) (z0 : Value) (A0 : Value) (_ : Env) (B0 : World), v0 y0 z0 A0 B0 →
 bl0 P .len #[53] 3 [j0] B0 fun C0 =>
 bin P .lss 3 false false A0 C0 B0 fun D0 =>
 cnd D0
 (ixa P 53 j0 A0 B0 fun E0 =>
 ld P 2 E0 B0 fun F0 =>
 bin P .mul 2 true false (.int .i64 10) F0 B0 fun G0 =>
 bin P .add 2 false false z0 G0 B0 fun H0 =>
 bin P .rem 2 false true H0 (.int .i64 16777216) B0 fun L0 =>
 ixa P 53 j0 A0 B0 fun M0 =>
 sto P 2 M0 L0 B0 fun N0 =>
 bin P .quo 2 false true H0 (.int .i64 16777216) N0 fun O0 =>
 bin P .add 3 false true A0 (.int .i64 1) N0 fun Q0 =>
 ∃ R0, R0 < y0 ∧ v0 R0 O0 Q0 N0)
 (bin P .gtr 2 false true z0 (.int .i64 0) B0 fun S0 =>
 cnd S0
 (bsl P 53 1 [(0, z0)] B0 fun T0 U0 =>
 bl2 P .append #[53, 53] 53 [j0, T0] U0 fun V0 W0 =>
 bin P .add 3 false true k0 (.int .i64 1) W0 fun X0 =>
 ∃ Y0, Y0 < i0 ∧ g0 Y0 V0 X0 W0)
 (bin P .add 3 false true k0 (.int .i64 1) B0 fun Z0 =>
 ∃ b1, b1 < i0 ∧ g0 b1 j0 Z0 B0)))
 (call P Bk [e, j0] q0 fun c1 d1 =>
 sto P 55 b c1 d1 fun e1 =>
 ldc P 55 b e1 fun g1 =>
 K (.tuple #[g1, (.bool true)]) e1)) ∧
 grd n0 true
 (bin P .lss 3 false true k0 (.int .i64 1000) l0 fun h1 =>
 o0 h1 l0)
 (o0 undef l0)))) ∧
 grd j false
 (pick l u (.bool false) fun i1 =>
 x i1 v)
 (x undef v)) ∧
 grd l true
 (pick o (.bool true) r fun j1 =>
 t j1 s)
 (t undef s)) ∧
 grd o false
 (bin P .lss 2 false true e (.int .i64 0) p fun k1 =>
 q k1 p)
 (q undef p)) ∧
 grd l true
 (bl0 P .len #[9] 3 [g] m fun l1 =>
 bin P .gtr 3 false true l1 (.int .i64 1) m fun m1 =>
 n m1 m)
 (n undef m)) ∧
 grd j false
 (idx P 9 g (.int .i64 0) h fun n1 =>
 bin P .eql 5 false true n1 (.int .u8 48) h fun o1 =>
 k o1 h)
 (k undef h)) ∧
 (bl0 P .len #[9] 3 [a0] c fun p1 =>
 bin P .gtr 3 false true p1 (.int .i64 0) c fun q1 =>
 ∃ r1 : Value → World → Prop, (∀ (s1 : Value) (_ : Env) (t1 : World), r1 s1 t1 →
 pick q1 s1 (.bool false) fun u1 =>
 cnd u1
 (sli P 9 a0 (some (.int .i64 1)) none none t1 fun v1 =>
 d (.int .i64 (-1)) v1 t1)
 (d (.int .i64 1) a0 t1)) ∧
 grd q1 true
 (idx P 9 a0 (.int .i64 0) c fun x1 =>
 bin P .eql 5 false true x1 (.int .u8 45) c fun y1 =>
 r1 y1 c)
 (r1 undef c))
def Ro : Plan := (.seq rg6 (.seq rg1 (.cut [4, 5] 4190256 (.seq (.reg [.op (0, 0, false), .op (1, 0, false), .op (2, 0, false), .op (3, 0, false), .grp 3 true [(4, 0, false), (5, 0, false), (6, 0, false)] [18] 458752, .op (7, 0, false)]) (.cond (.seq rg3 rg1) .leaf)) (.seq (.seq (.reg [.op (0, 0, false), .op (1, 0, false), .op (2, 0, false), .op (3, 0, false), .grp 3 false [(4, 0, false), (5, 0, false), (6, 0, false), (7, 0, false)] [29] 1006632960, .grp 7 true [(8, 0, false), (9, 0, false), (10, 0, false), (11, 0, false)] [33] 16106127360, .grp 11 false [(12, 0, false), (13, 0, false)] [35] 51539607552, .grp 7 true [(14, 0, false)] [36] 68719476736, .grp 3 false [(15, 0, false)] [37] 137438953472, .op (16, 0, false)]) (.cond (.seq rg2 .leaf) .leaf)) (.seq (.seq rg3 (.blk (.loop [6] 144114088564228168 (.seq (.seq rg5 (.cond .leaf .leaf)) (.seq (.blk (.seq (.reg [.op (0, 0, false), .op (1, 0, false), .op (2, 0, false), .op (3, 0, false), .op (4, 0, false), .grp 4 false [(5, 0, false), (6, 0, false), (7, 0, false), (8, 0, false)] [54] 33776997205278720, .op (9, 0, false)]) (.cond (.seq rg2 .leaf) .leaf))) rg1))))) (.seq rg6 (.seq (.seq rg3 (.blk (.loop [7, 8] 633825300113826470372199892864 (.seq (.seq (.reg [.op (0, 0, false), .op (1, 0, false), .op (2, 0, false), .op (3, 0, false), .op (4, 0, false), .grp 4 true [(5, 0, false), (6, 0, false)] [64] 27670116110564327424, .op (7, 0, false)]) (.cond .leaf .leaf)) (.seq (.blk (.seq rg9 (.seq (.seq rg3 (.blk (.loop [9, 10] 9903510869550076459902567936 (.seq (.seq rg5 (.cond .leaf .leaf)) (.seq (.blk (.seq rg11 (.seq rg36 rg1))) rg1))))) (.seq rg0 (.cond rg33 .leaf))))) rg1))))) (.seq rg33 .leaf))))))))
theorem YJ {a0 : Value} {w : World} {K : Value → World → Prop} (h : LC a0 w K) : call P Fr [a0] w K :=
 Aa mixed Tryz.func235 (c := codeOf Tryz.f235) (by kernel_rfl) (by kernel_rfl) (p := Ro) (by kernel_rfl) (by rw [Tryz.ntmps235]; simp) (by
  have e : LC a0 w K = vc P Ro (codeOf Tryz.f235) (env0 [a0]) w (retX P Tryz.f235.results.toList K) := by kernel_rfl
  exact e ▸ h)
def ID (a0 : Value) (w : World) (K : Value → World → Prop) : Prop :=
 bx P 55 a0 w fun b c =>
 fda P 55 b 1 c fun d =>
 ld P 53 d c fun e =>
 bl0 P .len #[53] 3 [e] c fun g =>
 bin P .eql 2 false true g (.int .i64 0) c fun h =>
 cnd h
 (K (.int .i64 0) c)
 (bin P .sub 2 false true g (.int .i64 1) c fun i =>
 bin P .mul 2 false true i (.int .i64 24) c fun j =>
 fda P 55 b 1 c fun k =>
 ld P 53 k c fun l =>
 bin P .sub 2 false true g (.int .i64 1) c fun m =>
 ixa P 53 l m c fun n =>
 ld P 2 n c fun o =>
 ∃ p : Nat → Value → Value → World → Prop, (∃ q, p q j o c) ∧ ∀ (r : Nat) (s : Value) (t : Value) (_ : Env) (u : World), p r s t u →
 bin P .gtr 2 false true t (.int .i64 0) u fun v =>
 cnd v
 (bin P .add 2 false true s (.int .i64 1) u fun x =>
 bin P .quo 2 false true t (.int .i64 2) u fun y =>
 ∃ z, z < r ∧ p z x y u)
 (K s u))
def NY : Plan := (.seq rg6 (.seq rg5 (.seq (.seq rg0 (.cond (.seq rg3 .leaf) .leaf)) (.seq rg5 (.seq (.seq rg10 (.blk (.loop [4, 5] 66060336 (.seq (.seq rg0 (.cond .leaf .leaf)) (.seq (.blk rg1) rg1))))) (.seq rg0 .leaf))))))
theorem VZ {a0 : Value} {w : World} {K : Value → World → Prop} (h : ID a0 w K) : call P DZ [a0] w K :=
 Aa mixed Tryz.func237 (c := codeOf Tryz.f237) (by kernel_rfl) (by kernel_rfl) (p := NY) (by kernel_rfl) (by rw [Tryz.ntmps237]; simp) (by
  have e : ID a0 w K = vc P NY (codeOf Tryz.f237) (env0 [a0]) w (retX P Tryz.f237.results.toList K) := by kernel_rfl
  exact e ▸ h)
def Lb (a0 : Value) (w : World) (K : Value → World → Prop) : Prop :=
 bx P 55 a0 w fun b c =>
 fda P 55 b 0 c fun d =>
 ld P 2 d c fun e =>
 bin P .eql 2 false true e (.int .i64 0) c fun g =>
 cnd g
 (K (.string ⟨#[48]⟩) c)
 (fda P 55 b 1 c fun h =>
 ld P 53 h c fun i =>
 call P FV [i] c fun j k =>
 ∃ l : Nat → Value → Value → World → Prop, (∃ m, l m (.string ⟨#[]⟩) j k) ∧ ∀ (n : Nat) (o : Value) (p : Value) (_ : Env) (q : World), l n o p q →
 bl0 P .len #[53] 3 [p] q fun r =>
 bin P .gtr 3 false true r (.int .i64 0) q fun s =>
 cnd s
 (bl0 P .len #[53] 3 [p] q fun t =>
 bin P .sub 3 false true t (.int .i64 1) q fun u =>
 ∃ v : Nat → Value → Value → World → Prop, (∃ x, v x (.int .i64 0) u q) ∧ ∀ (y : Nat) (z : Value) (A : Value) (_ : Env) (B : World), v y z A B →
 bin P .geq 3 false true A (.int .i64 0) B fun C =>
 cnd C
 (bin P .mul 2 false true z (.int .i64 16777216) B fun D =>
 ixa P 53 p A B fun E =>
 ld P 2 E B fun F =>
 bin P .add 2 false false D F B fun G =>
 bin P .quo 2 false true G (.int .i64 10000000) B fun H =>
 ixa P 53 p A B fun L =>
 sto P 2 L H B fun M =>
 bin P .rem 2 false true G (.int .i64 10000000) M fun N =>
 bin P .sub 3 false true A (.int .i64 1) M fun O =>
 ∃ Q, Q < y ∧ v Q N O M)
 (∃ R : Nat → Value → World → Prop, (∃ S, R S p B) ∧ ∀ (T : Nat) (U : Value) (_ : Env) (V : World), R T U V →
 bl0 P .len #[53] 3 [U] V fun W =>
 bin P .gtr 3 false true W (.int .i64 0) V fun X =>
 ∃ Y : Value → World → Prop, (∀ (Z : Value) (_ : Env) (b0 : World), Y Z b0 →
 pick X Z (.bool false) fun c0 =>
 cnd c0
 (bl0 P .len #[53] 3 [U] b0 fun d0 =>
 bin P .sub 3 false true d0 (.int .i64 1) b0 fun e0 =>
 sli P 53 U none (some e0) none b0 fun g0 =>
 ∃ h0, h0 < T ∧ R h0 g0 b0)
 (call P Cj [z] b0 fun i0 j0 =>
 ∃ k0 : Nat → Value → World → Prop, (∃ l0, k0 l0 i0 j0) ∧ ∀ (m0 : Nat) (n0 : Value) (_ : Env) (o0 : World), k0 m0 n0 o0 →
 bl0 P .len #[53] 3 [U] o0 fun p0 =>
 bin P .gtr 3 false true p0 (.int .i64 0) o0 fun q0 =>
 ∃ r0 : Value → World → Prop, (∀ (s0 : Value) (_ : Env) (t0 : World), r0 s0 t0 →
 pick q0 s0 (.bool false) fun u0 =>
 cnd u0
 (bin P .add 9 true false (.string ⟨#[48]⟩) n0 t0 fun v0 =>
 ∃ x0, x0 < m0 ∧ k0 x0 v0 t0)
 (bin P .add 9 false false n0 o t0 fun y0 =>
 ∃ z0, z0 < n ∧ l z0 y0 U t0)) ∧
 grd q0 true
 (bl0 P .len #[9] 3 [n0] o0 fun A0 =>
 bin P .lss 3 false true A0 (.int .i64 7) o0 fun B0 =>
 r0 B0 o0)
 (r0 undef o0))) ∧
 grd X true
 (bl0 P .len #[53] 3 [U] V fun C0 =>
 bin P .sub 3 false true C0 (.int .i64 1) V fun D0 =>
 ixa P 53 U D0 V fun E0 =>
 ld P 2 E0 V fun F0 =>
 bin P .eql 2 false true F0 (.int .i64 0) V fun G0 =>
 Y G0 V)
 (Y undef V)))
 (fda P 55 b 0 q fun H0 =>
 ld P 2 H0 q fun L0 =>
 bin P .lss 2 false true L0 (.int .i64 0) q fun M0 =>
 cnd M0
 (bin P .add 9 true false (.string ⟨#[45]⟩) o q fun N0 =>
 K N0 q)
 (K o q)))
def Rt : Plan := (.seq rg6 (.seq (.seq rg1 (.cond (.seq rg3 .leaf) .leaf)) (.seq rg39 (.seq (.blk (.loop [3, 4] 2361183241434822574584 (.seq (.seq rg1 (.cond .leaf .leaf)) (.blk (.seq rg3 (.seq (.seq rg5 (.blk (.loop [5, 6] 549753716960 (.seq (.seq rg0 (.cond .leaf .leaf)) (.seq (.blk (.seq rg11 (.seq rg36 rg1))) rg1))))) (.seq (.blk (.loop [4] 72057044282114064 (.seq (.seq (.reg [.op (0, 0, false), .op (1, 0, false), .op (2, 0, false), .op (3, 0, false), .grp 3 true [(4, 0, false), (5, 0, false), (6, 0, false), (7, 0, false), (8, 0, false), (9, 0, false), (10, 0, false)] [49] 1117103813820416, .op (11, 0, false)]) (.cond .leaf .leaf)) (.blk rg9)))) (.seq rg2 (.seq (.blk (.loop [8] 294859674803201114368 (.seq (.seq (.reg [.op (0, 0, false), .op (1, 0, false), .op (2, 0, false), .op (3, 0, false), .grp 3 true [(4, 0, false), (5, 0, false), (6, 0, false)] [64] 32281802128991715328, .op (7, 0, false)]) (.cond .leaf .leaf)) (.blk rg1)))) rg5))))))))) (.seq (.seq rg1 (.cond (.seq rg1 .leaf) .leaf)) (.seq rg0 .leaf))))))
theorem Yt {a0 : Value} {w : World} {K : Value → World → Prop} (h : Lb a0 w K) : call P HC [a0] w K :=
 Aa mixed Tryz.func241 (c := codeOf Tryz.f241) (by kernel_rfl) (by kernel_rfl) (p := Rt) (by kernel_rfl) (by rw [Tryz.ntmps241]; simp) (by
  have e : Lb a0 w K = vc P Rt (codeOf Tryz.f241) (env0 [a0]) w (retX P Tryz.f241.results.toList K) := by kernel_rfl
  exact e ▸ h)
def KO (a0 a1 : Value) (w : World) (K : Value → World → Prop) : Prop :=
 bsl P 53 0 [] w fun b c =>
 ∃ d : Nat → Value → Value → Value → World → Prop, (∃ e, d e b (.int .i64 0) (.int .i64 0) c) ∧ ∀ (g : Nat) (h : Value) (i : Value) (j : Value) (_ : Env) (k : World), d g h i j k →
 bl0 P .len #[53] 3 [a0] k fun l =>
 bin P .lss 3 false false j l k fun m =>
 ∃ n : Value → World → Prop, (∀ (o : Value) (_ : Env) (p : World), n o p →
 pick m (.bool true) o fun q =>
 ∃ r : Value → World → Prop, (∀ (s : Value) (_ : Env) (t : World), r s t →
 pick q (.bool true) s fun u =>
 cnd u
 (∃ v : Value → World → Prop, (∀ (x : Value) (_ : Env) (y : World), v x y →
 ∃ z : Value → World → Prop, (∀ (A : Value) (_ : Env) (B : World), z A B →
 bin P .rem 2 false true A (.int .i64 16777216) B fun C =>
 bsl P 53 1 [(0, C)] B fun D E =>
 bl2 P .append #[53, 53] 53 [h, D] E fun F G =>
 bin P .quo 2 false true A (.int .i64 16777216) G fun H =>
 bin P .add 3 false true j (.int .i64 1) G fun L =>
 ∃ M, M < g ∧ d M F H L G) ∧
 (bl0 P .len #[53] 3 [a1] y fun N =>
 bin P .lss 3 false false j N y fun O =>
 cnd O
 (ixa P 53 a1 j y fun Q =>
 ld P 2 Q y fun R =>
 bin P .add 2 false false x R y fun S =>
 z S y)
 (z x y))) ∧
 (bl0 P .len #[53] 3 [a0] t fun T =>
 bin P .lss 3 false false j T t fun U =>
 cnd U
 (ixa P 53 a0 j t fun V =>
 ld P 2 V t fun W =>
 bin P .add 2 false false i W t fun X =>
 v X t)
 (v i t)))
 (K h t)) ∧
 grd q false
 (bin P .gtr 2 false true i (.int .i64 0) p fun Y =>
 r Y p)
 (r undef p)) ∧
 grd m false
 (bl0 P .len #[53] 3 [a1] k fun Z =>
 bin P .lss 3 false false j Z k fun b0 =>
 n b0 k)
 (n undef k)
def QV : Plan := (.seq rg3 (.seq rg22 (.seq (.seq rg3 (.blk (.loop [5, 6, 7] 4503599627370208 (.seq (.seq (.reg [.op (0, 0, false), .op (1, 0, false), .op (2, 0, false), .op (3, 0, false), .op (4, 0, false), .grp 4 false [(5, 0, false), (6, 0, false), (7, 0, false), (8, 0, false)] [17] 245760, .op (9, 0, false), .op (10, 0, false), .grp 10 false [(11, 0, false), (12, 0, false)] [21] 3145728, .op (13, 0, false)]) (.cond .leaf .leaf)) (.seq (.blk (.cut [6] 34326184000 (.seq rg5 (.cond rg10 .leaf)) (.cut [6] 35150012350528 (.seq rg5 (.cond rg10 .leaf)) (.seq rg30 rg1)))) rg1))))) (.seq rg0 .leaf))))
theorem Za {a0 a1 : Value} {w : World} {K : Value → World → Prop} (h : KO a0 a1 w K) : call P Lx [a0, a1] w K :=
 Aa mixed Tryz.func252 (c := codeOf Tryz.f252) (by kernel_rfl) (by kernel_rfl) (p := QV) (by kernel_rfl) (by rw [Tryz.ntmps252]; simp) (by
  have e : KO a0 a1 w K = vc P QV (codeOf Tryz.f252) (env0 [a0, a1]) w (retX P Tryz.f252.results.toList K) := by kernel_rfl
  exact e ▸ h)
def ET (a0 a1 : Value) (w : World) (K : Value → World → Prop) : Prop :=
 bl0 P .len #[53] 3 [a0] w fun b =>
 bl0 P .len #[53] 3 [a1] w fun c =>
 bin P .neq 3 false false b c w fun d =>
 cnd d
 (bl0 P .len #[53] 3 [a0] w fun e =>
 bl0 P .len #[53] 3 [a1] w fun g =>
 bin P .lss 3 false false e g w fun h =>
 cnd h
 (K (.int .i64 (-1)) w)
 (K (.int .i64 1) w))
 (bl0 P .len #[53] 3 [a0] w fun i =>
 bin P .sub 3 false true i (.int .i64 1) w fun j =>
 ∃ k : Nat → Value → World → Prop, (∃ l, k l j w) ∧ ∀ (m : Nat) (n : Value) (_ : Env) (o : World), k m n o →
 bin P .geq 3 false true n (.int .i64 0) o fun p =>
 cnd p
 (ixa P 53 a0 n o fun q =>
 ld P 2 q o fun r =>
 ixa P 53 a1 n o fun s =>
 ld P 2 s o fun t =>
 bin P .neq 2 false false r t o fun u =>
 cnd u
 (ixa P 53 a0 n o fun v =>
 ld P 2 v o fun x =>
 ixa P 53 a1 n o fun y =>
 ld P 2 y o fun z =>
 bin P .lss 2 false false x z o fun A =>
 cnd A
 (K (.int .i64 (-1)) o)
 (K (.int .i64 1) o))
 (bin P .sub 3 false true n (.int .i64 1) o fun B =>
 ∃ C, C < m ∧ k C B o))
 (K (.int .i64 0) o))
def Ir : Plan := (.seq rg3 (.seq (.seq rg4 (.cond (.seq (.seq rg4 (.cond (.seq rg3 .leaf) .leaf)) (.seq rg3 .leaf)) .leaf)) (.seq (.seq rg5 (.blk (.loop [5] 2199022731312 (.seq (.seq rg0 (.cond .leaf .leaf)) (.seq (.blk (.seq rg13 (.cond (.seq (.seq rg13 (.cond (.seq rg3 .leaf) .leaf)) (.seq rg3 .leaf)) .leaf))) rg1))))) (.seq rg3 .leaf))))
theorem Qd {a0 a1 : Value} {w : World} {K : Value → World → Prop} (h : ET a0 a1 w K) : call P EX [a0, a1] w K :=
 Aa mixed Tryz.func253 (c := codeOf Tryz.f253) (by kernel_rfl) (by kernel_rfl) (p := Ir) (by kernel_rfl) (by rw [Tryz.ntmps253]; simp) (by
  have e : ET a0 a1 w K = vc P Ir (codeOf Tryz.f253) (env0 [a0, a1]) w (retX P Tryz.f253.results.toList K) := by kernel_rfl
  exact e ▸ h)
def JX (a0 a1 : Value) (w : World) (K : Value → World → Prop) : Prop :=
 bsl P 53 0 [] w fun b c =>
 ∃ d : Nat → Value → Value → Value → World → Prop, (∃ e, d e b (.int .i64 0) (.int .i64 0) c) ∧ ∀ (g : Nat) (h : Value) (i : Value) (j : Value) (_ : Env) (k : World), d g h i j k →
 bl0 P .len #[53] 3 [a0] k fun l =>
 bin P .lss 3 false false j l k fun m =>
 cnd m
 (ixa P 53 a0 j k fun n =>
 ld P 2 n k fun o =>
 bin P .sub 2 false false o i k fun p =>
 ∃ q : Value → World → Prop, (∀ (r : Value) (_ : Env) (s : World), q r s →
 bin P .lss 2 false true r (.int .i64 0) s fun t =>
 cnd t
 (bin P .add 2 false true r (.int .i64 16777216) s fun u =>
 bsl P 53 1 [(0, u)] s fun v x =>
 bl2 P .append #[53, 53] 53 [h, v] x fun y z =>
 bin P .add 3 false true j (.int .i64 1) z fun A =>
 ∃ B, B < g ∧ d B y (.int .i64 1) A z)
 (bsl P 53 1 [(0, r)] s fun C D =>
 bl2 P .append #[53, 53] 53 [h, C] D fun E F =>
 bin P .add 3 false true j (.int .i64 1) F fun G =>
 ∃ H, H < g ∧ d H E (.int .i64 0) G F)) ∧
 (bl0 P .len #[53] 3 [a1] k fun L =>
 bin P .lss 3 false false j L k fun M =>
 cnd M
 (ixa P 53 a1 j k fun N =>
 ld P 2 N k fun O =>
 bin P .sub 2 false false p O k fun Q =>
 q Q k)
 (q p k)))
 (K h k)
def PM : Plan := (.seq rg3 (.seq rg22 (.seq (.seq rg3 (.blk (.loop [5, 6, 7] 1099511627232 (.seq (.seq rg5 (.cond .leaf .leaf)) (.seq (.blk (.seq rg10 (.cut [8] 4290773248 (.seq rg5 (.cond rg10 .leaf)) (.seq rg3 (.seq (.seq rg0 (.cond (.seq rg1 rg3) .leaf)) rg33))))) rg1))))) (.seq rg0 .leaf))))
theorem WI {a0 a1 : Value} {w : World} {K : Value → World → Prop} (h : JX a0 a1 w K) : call P Gs [a0, a1] w K :=
 Aa mixed Tryz.func254 (c := codeOf Tryz.f254) (by kernel_rfl) (by kernel_rfl) (p := PM) (by kernel_rfl) (by rw [Tryz.ntmps254]; simp) (by
  have e : JX a0 a1 w K = vc P PM (codeOf Tryz.f254) (env0 [a0, a1]) w (retX P Tryz.f254.results.toList K) := by kernel_rfl
  exact e ▸ h)
def FH (a0 : Value) (w : World) (K : Value → World → Prop) : Prop :=
 bin P .lss 2 false true a0 (.int .i64 10) w fun b =>
 cnd b
 (bin P .add 2 true false (.int .i64 48) a0 w fun c =>
 cnv P 2 5 c w fun d =>
 bsl P 72 1 [(0, d)] w fun e g =>
 cnv2 P 72 9 e g fun h i =>
 K h i)
 (∃ j : Value → World → Prop, (∀ (k : Value) (_ : Env) (l : World), j k l →
 K k l) ∧
 (bin P .quo 2 false true a0 (.int .i64 10) w fun m =>
 bin P .rem 2 false true a0 (.int .i64 10) w fun n =>
 bin P .add 2 true false (.int .i64 48) n w fun o =>
 cnv P 2 5 o w fun p =>
 (call P Cj [m] w fun q r =>
 Ext w r ∧ bsl P 72 1 [(0, p)] r fun s t =>
 Ext r t ∧ cnv2 P 72 9 s t fun u v =>
 Ext t v ∧ bin P .add 9 false false q u v fun x =>
 j x v) ∧
 (bsl P 72 1 [(0, p)] w fun y z =>
 Ext w z ∧ (call P Cj [m] z fun A B =>
 Ext z B ∧ cnv2 P 72 9 y B fun C D =>
 Ext B D ∧ bin P .add 9 false false A C D fun E =>
 j E D) ∧
 (cnv2 P 72 9 y z fun F G =>
 Ext z G ∧ call P Cj [m] G fun H L =>
 Ext G L ∧ bin P .add 9 false false H F L fun M =>
 j M L))))
def OF : Plan := (.seq rg3 (.seq (.seq rg0 (.cond (.seq rg30 .leaf) .leaf)) (.seq (.tree [2] 1047556 (.op (0, 0, false) (.op (1, 0, false) (.op (3, 0, false) (.op (4, 0, false) (.op (5, 0, false) (.op (6, 0, false) (.fork (2, 2, true) (.fork (7, 2, true) (.fork (8, 2, true) (.op (9, 0, false) (.op (10, 0, false) .done)) .stop) .stop) (.fork (7, 2, true) (.fork (2, 2, true) (.fork (8, 2, true) (.op (9, 0, false) (.op (10, 0, false) .done)) .stop) (.fork (8, 2, true) (.fork (2, 2, true) (.op (9, 0, false) (.op (10, 0, false) .done)) .stop) .stop)) .stop))))))))) .leaf)))
theorem Of {a0 : Value} {w : World} {K : Value → World → Prop} (h : FH a0 w K) : call P Cj [a0] w K :=
 Aa mixed Tryz.func272 (c := codeOf Tryz.f272) (by kernel_rfl) (by kernel_rfl) (p := OF) (by kernel_rfl) (by rw [Tryz.ntmps272]; simp) (by
  have e : FH a0 w K = vc P OF (codeOf Tryz.f272) (env0 [a0]) w (retX P Tryz.f272.results.toList K) := by kernel_rfl
  exact e ▸ h)
end


set_option maxRecDepth 20000
section
open Go Go.Vc
def O8 (a0 : Value) (w : World) (K : Value → World → Prop) : Prop :=
 alc P 57 w fun b c =>
 call P J4 [a0] c fun d e =>
 xtr P d 0 e fun g =>
 xtr P d 1 e fun h =>
 bin P .lss 66 false true a0 (.float .f32 0) e fun i =>
 cnd i
 (una P .neg g e fun j =>
 call P DX [j] e fun k l =>
 call P Cp [k, h] l fun m n =>
 sto P 57 b m n fun o =>
 ldc P 57 b o fun p =>
 K p o)
 (call P DX [g] e fun q r =>
 call P Cp [q, h] r fun s t =>
 sto P 57 b s t fun u =>
 ldc P 57 b u fun v =>
 K v u)
def Tc : Plan := (.seq rg55 (.seq rg7 (.seq (.seq rg0 (.cond rg1 .leaf)) (.seq rg50 .leaf))))
theorem AbH {a0 : Value} {w : World} {K : Value → World → Prop} (h : O8 a0 w K) : call P BW [a0] w K :=
 Aa mixed Tryz.func118 (c := codeOf Tryz.f118) (by kernel_rfl) (by kernel_rfl) (p := Tc) (by kernel_rfl) (by rw [Tryz.ntmps118]; simp) (by
  have e : O8 a0 w K = vc P Tc (codeOf Tryz.f118) (env0 [a0]) w (retX P Tryz.f118.results.toList K) := by kernel_rfl
  exact e ▸ h)
def Pb (a0 : Value) (w : World) (K : Value → World → Prop) : Prop :=
 bx P 57 a0 w fun b c =>
 fda P 57 b 0 c fun d =>
 ld P 55 d c fun e =>
 call P JS [e] c fun g h =>
 una P .not g h fun i =>
 ∃ j : Value → World → Prop, (∀ (k : Value) (_ : Env) (l : World), j k l →
 pick i (.bool true) k fun m =>
 cnd m
 (K (.bool false) l)
 (fda P 57 b 0 l fun n =>
 fda P 55 n 0 l fun o =>
 ld P 2 o l fun p =>
 bin P .eql 2 false true p (.int .i64 0) l fun q =>
 cnd q
 (fda P 57 b 1 l fun r =>
 ld P 2 r l fun s =>
 bin P .eql 2 false true s (.int .i64 0) l fun t =>
 K t l)
 (fda P 57 b 0 l fun u =>
 fda P 55 u 1 l fun v =>
 ld P 53 v l fun x =>
 ixa P 53 x (.int .i64 0) l fun y =>
 ld P 2 y l fun z =>
 bin P .rem 2 false true z (.int .i64 2) l fun A =>
 bin P .eql 2 false true A (.int .i64 1) l fun B =>
 K B l))) ∧
 grd i false
 (fda P 57 b 1 h fun C =>
 ld P 2 C h fun D =>
 call P GF [D, (.int .i64 (-3000)), (.int .i64 3000)] h fun E F =>
 una P .not E F fun G =>
 j G F)
 (j undef h)
def TU : Plan := (.seq rg6 (.seq (.seq (.reg [.op (0, 0, false), .op (1, 0, false), .op (2, 2, false), .op (3, 0, false), .op (4, 0, false), .grp 4 false [(5, 0, false), (6, 0, false), (7, 2, false), (8, 0, false)] [11] 3840, .op (9, 0, false)]) (.cond (.seq rg3 .leaf) .leaf)) (.seq (.seq rg5 (.cond (.seq rg5 .leaf) .leaf)) (.seq rg11 .leaf))))
theorem AaO {a0 : Value} {w : World} {K : Value → World → Prop} (h : Pb a0 w K) : call P Hs [a0] w K :=
 Aa mixed Tryz.func120 (c := codeOf Tryz.f120) (by kernel_rfl) (by kernel_rfl) (p := TU) (by kernel_rfl) (by rw [Tryz.ntmps120]; simp) (by
  have e : Pb a0 w K = vc P TU (codeOf Tryz.f120) (env0 [a0]) w (retX P Tryz.f120.results.toList K) := by kernel_rfl
  exact e ▸ h)
def Lr (a0 a1 : Value) (w : World) (K : Value → World → Prop) : Prop :=
 bx P 55 a0 w fun b c =>
 alc P 57 c fun d e =>
 fda P 55 b 0 e fun g =>
 ld P 2 g e fun h =>
 bin P .eql 2 false true h (.int .i64 0) e fun i =>
 cnd i
 (bld P 57 [] e fun j =>
 sto P 57 d j e fun k =>
 ldc P 57 d k fun l =>
 K l k)
 (ld P 55 b e fun m =>
 call P LI [m] e fun n o =>
 ld P 55 b o fun p =>
 call P Iy [p, n] o fun q r =>
 bin P .add 2 false false a1 n r fun s =>
 bld P 57 [(0, q), (1, s)] r fun t =>
 sto P 57 d t r fun u =>
 ldc P 57 d u fun v =>
 K v u)
def QC : Plan := (.seq rg38 (.seq (.seq rg1 (.cond (.seq rg31 .leaf) .leaf)) (.seq rg2 (.seq (.reg [.op (0, 0, false), .op (1, 0, false), .op (2, 2, false), .op (3, 0, false), .op (4, 0, false), .op (5, 0, false), .op (6, 0, false), .op (7, 2, false)]) .leaf))))
theorem YT {a0 a1 : Value} {w : World} {K : Value → World → Prop} (h : Lr a0 a1 w K) : call P Cp [a0, a1] w K :=
 Aa mixed Tryz.func121 (c := codeOf Tryz.f121) (by kernel_rfl) (by kernel_rfl) (p := QC) (by kernel_rfl) (by rw [Tryz.ntmps121]; simp) (by
  have e : Lr a0 a1 w K = vc P QC (codeOf Tryz.f121) (env0 [a0, a1]) w (retX P Tryz.f121.results.toList K) := by kernel_rfl
  exact e ▸ h)
def HZ (a0 a1 : Value) (w : World) (K : Value → World → Prop) : Prop :=
 bx P 57 a0 w fun b c =>
 bx P 57 a1 c fun d e =>
 ld P 57 b e fun g =>
 ld P 57 d e fun h =>
 call P FZ [g, h] e fun i j =>
 fld P 57 i 0 j fun k =>
 fld P 55 k 0 j fun l =>
 K l j
def N4 : Plan := (.seq rg47 (.seq (.reg [.op (0, 0, false), .op (1, 0, false), .op (2, 2, false), .op (3, 0, false), .op (4, 0, false), .op (5, 0, false)]) .leaf))
theorem UT {a0 a1 : Value} {w : World} {K : Value → World → Prop} (h : HZ a0 a1 w K) : call P Ff [a0, a1] w K :=
 Aa mixed Tryz.func147 (c := codeOf Tryz.f147) (by kernel_rfl) (by kernel_rfl) (p := N4) (by kernel_rfl) (by rw [Tryz.ntmps147]; simp) (by
  have e : HZ a0 a1 w K = vc P N4 (codeOf Tryz.f147) (env0 [a0, a1]) w (retX P Tryz.f147.results.toList K) := by kernel_rfl
  exact e ▸ h)
def Nc (a0 : Value) (w : World) (K : Value → World → Prop) : Prop :=
 bx P 57 a0 w fun b c =>
 alc P 57 c fun d e =>
 fda P 57 b 0 e fun g =>
 ld P 55 g e fun h =>
 fda P 57 b 1 e fun i =>
 ld P 2 i e fun j =>
 call P ML [h] e fun k l =>
 Ext e l ∧ bld P 57 [(0, k), (1, j)] l fun m =>
 sto P 57 d m l fun n =>
 ldc P 57 d n fun o =>
 K o n
def Sq : Plan := (.seq rg38 (.seq (.reg [.op (0, 0, false), .op (1, 0, false), .op (3, 0, false), .op (4, 0, false), .op (2, 2, true), .op (5, 0, false), .op (6, 2, false)]) .leaf))
theorem ZZ {a0 : Value} {w : World} {K : Value → World → Prop} (h : Nc a0 w K) : call P Nd [a0] w K :=
 Aa mixed Tryz.func165 (c := codeOf Tryz.f165) (by kernel_rfl) (by kernel_rfl) (p := Sq) (by kernel_rfl) (by rw [Tryz.ntmps165]; simp) (by
  have e : Nc a0 w K = vc P Sq (codeOf Tryz.f165) (env0 [a0]) w (retX P Tryz.f165.results.toList K) := by kernel_rfl
  exact e ▸ h)
def Nh (a0 a1 : Value) (w : World) (K : Value → World → Prop) : Prop :=
 bx P 57 a0 w fun b c =>
 bx P 57 a1 c fun d e =>
 alc P 57 e fun g h =>
 fda P 57 b 0 h fun i =>
 ld P 55 i h fun j =>
 fda P 57 d 0 h fun k =>
 ld P 55 k h fun l =>
 fda P 57 b 1 h fun m =>
 ld P 2 m h fun n =>
 fda P 57 d 1 h fun o =>
 ld P 2 o h fun p =>
 bin P .add 2 false false n p h fun q =>
 call P Na [j, l] h fun r s =>
 Ext h s ∧ call P Cp [r, q] s fun t u =>
 sto P 57 g t u fun v =>
 ldc P 57 g v fun x =>
 K x v
def S8 : Plan := (.seq rg40 (.seq (.reg [.op (0, 0, false), .op (1, 0, false), .op (2, 0, false), .op (3, 0, false), .op (5, 0, false), .op (6, 0, false), .op (7, 0, false), .op (8, 0, false), .op (9, 0, false), .op (4, 2, true), .op (10, 2, false), .op (11, 2, false)]) .leaf))
theorem Aa5 {a0 a1 : Value} {w : World} {K : Value → World → Prop} (h : Nh a0 a1 w K) : call P Nf [a0, a1] w K :=
 Aa mixed Tryz.func166 (c := codeOf Tryz.f166) (by kernel_rfl) (by kernel_rfl) (p := S8) (by kernel_rfl) (by rw [Tryz.ntmps166]; simp) (by
  have e : Nh a0 a1 w K = vc P S8 (codeOf Tryz.f166) (env0 [a0, a1]) w (retX P Tryz.f166.results.toList K) := by kernel_rfl
  exact e ▸ h)
def Nr (a0 a1 : Value) (w : World) (K : Value → World → Prop) : Prop :=
 bx P 57 a0 w fun b c =>
 bx P 57 a1 c fun d e =>
 alc P 57 e fun g h =>
 fda P 57 b 0 h fun i =>
 fda P 55 i 0 h fun j =>
 ld P 2 j h fun k =>
 bin P .eql 2 false true k (.int .i64 0) h fun l =>
 cnd l
 (fda P 57 d 0 h fun m =>
 ld P 55 m h fun n =>
 fda P 57 d 1 h fun o =>
 ld P 2 o h fun p =>
 call P Cp [n, p] h fun q r =>
 sto P 57 g q r fun s =>
 ldc P 57 g s fun t =>
 K t s)
 (fda P 57 d 0 h fun u =>
 fda P 55 u 0 h fun v =>
 ld P 2 v h fun x =>
 bin P .eql 2 false true x (.int .i64 0) h fun y =>
 cnd y
 (fda P 57 b 0 h fun z =>
 ld P 55 z h fun A =>
 fda P 57 b 1 h fun B =>
 ld P 2 B h fun C =>
 call P Cp [A, C] h fun D E =>
 sto P 57 g D E fun F =>
 ldc P 57 g F fun G =>
 K G F)
 (fda P 57 b 1 h fun H =>
 ld P 2 H h fun L =>
 fda P 57 d 1 h fun M =>
 ld P 2 M h fun N =>
 bl0 P .min #[2, 2] 2 [L, N] h fun O =>
 fda P 57 b 0 h fun Q =>
 ld P 55 Q h fun R =>
 fda P 57 b 1 h fun S =>
 ld P 2 S h fun T =>
 bin P .sub 2 false false T O h fun U =>
 fda P 57 d 0 h fun V =>
 ld P 55 V h fun W =>
 fda P 57 d 1 h fun X =>
 ld P 2 X h fun Y =>
 bin P .sub 2 false false Y O h fun Z =>
 call P Fk [R, U] h fun b0 c0 =>
 Ext h c0 ∧ call P Fk [W, Z] c0 fun d0 e0 =>
 call P Ga [b0, d0] e0 fun g0 h0 =>
 call P Cp [g0, O] h0 fun i0 j0 =>
 sto P 57 g i0 j0 fun k0 =>
 ldc P 57 g k0 fun l0 =>
 K l0 k0))
def Sd : Plan := (.seq rg40 (.seq (.seq rg5 (.cond (.seq rg43 .leaf) .leaf)) (.seq (.seq rg5 (.cond (.seq rg43 .leaf) .leaf)) (.seq rg9 (.seq (.reg [.op (0, 0, false), .op (1, 0, false), .op (2, 0, false), .op (3, 0, false), .op (4, 0, false), .op (5, 0, false), .op (7, 0, false), .op (8, 0, false), .op (9, 0, false), .op (10, 0, false), .op (11, 0, false), .op (12, 0, false), .op (15, 0, false), .op (6, 2, true), .op (13, 2, false), .op (14, 2, false), .op (16, 2, false), .op (17, 2, false)]) .leaf)))))
theorem ZM {a0 a1 : Value} {w : World} {K : Value → World → Prop} (h : Nr a0 a1 w K) : call P FT [a0, a1] w K :=
 Aa mixed Tryz.func168 (c := codeOf Tryz.f168) (by kernel_rfl) (by kernel_rfl) (p := Sd) (by kernel_rfl) (by rw [Tryz.ntmps168]; simp) (by
  have e : Nr a0 a1 w K = vc P Sd (codeOf Tryz.f168) (env0 [a0, a1]) w (retX P Tryz.f168.results.toList K) := by kernel_rfl
  exact e ▸ h)
def Nt (a0 a1 : Value) (w : World) (K : Value → World → Prop) : Prop :=
 bx P 57 a0 w fun b c =>
 bx P 57 a1 c fun d e =>
 alc P 57 e fun g h =>
 ld P 57 b h fun i =>
 ld P 57 d h fun j =>
 call P Nd [j] h fun k l =>
 Ext h l ∧ call P FT [i, k] l fun m n =>
 sto P 57 g m n fun o =>
 ldc P 57 g o fun p =>
 K p o
def Sy : Plan := (.seq rg40 (.seq (.reg [.op (0, 0, false), .op (1, 0, false), .op (2, 2, true), .op (3, 2, false), .op (4, 2, false)]) .leaf))
theorem Aaq {a0 a1 : Value} {w : World} {K : Value → World → Prop} (h : Nt a0 a1 w K) : call P FZ [a0, a1] w K :=
 Aa mixed Tryz.func169 (c := codeOf Tryz.f169) (by kernel_rfl) (by kernel_rfl) (p := Sy) (by kernel_rfl) (by rw [Tryz.ntmps169]; simp) (by
  have e : Nt a0 a1 w K = vc P Sy (codeOf Tryz.f169) (env0 [a0, a1]) w (retX P Tryz.f169.results.toList K) := by kernel_rfl
  exact e ▸ h)
def Ky (a0 : Value) (w : World) (K : Value → World → Prop) : Prop :=
 alc P 57 w fun b c =>
 ∃ d : Nat → Value → World → Prop, (∃ e, d e (.int .i64 0) c) ∧ ∀ (g : Nat) (h : Value) (_ : Env) (i : World), d g h i →
 bl0 P .len #[9] 3 [a0] i fun j =>
 bin P .lss 3 false false h j i fun k =>
 ∃ l : Value → World → Prop, (∀ (m : Value) (_ : Env) (n : World), l m n →
 pick k m (.bool false) fun o =>
 cnd o
 (bin P .add 3 false true h (.int .i64 1) n fun p =>
 ∃ q, q < g ∧ d q p n)
 (bl0 P .len #[9] 3 [a0] n fun r =>
 bin P .eql 3 false false h r n fun s =>
 cnd s
 (bld P 57 [] n fun t =>
 sto P 57 b t n fun u =>
 ldc P 57 b u fun v =>
 K (.tuple #[v, (.bool false)]) u)
 (sli P 9 a0 none (some h) none n fun x =>
 call P Fr [x] n fun y z =>
 xtr P y 0 z fun A =>
 xtr P y 1 z fun B =>
 alc P 55 z fun C D =>
 sto P 55 C A D fun E =>
 bin P .add 3 false true h (.int .i64 1) E fun F =>
 sli P 9 a0 (some F) none none E fun G =>
 call P Fr [G] E fun H L =>
 xtr P H 0 L fun M =>
 xtr P H 1 L fun N =>
 alc P 55 L fun O Q =>
 sto P 55 O M Q fun R =>
 una P .not B R fun S =>
 ∃ T : Value → World → Prop, (∀ (U : Value) (_ : Env) (V : World), T U V →
 pick S (.bool true) U fun W =>
 ∃ X : Value → World → Prop, (∀ (Y : Value) (_ : Env) (Z : World), X Y Z →
 pick W (.bool true) Y fun b0 =>
 ∃ c0 : Value → World → Prop, (∀ (d0 : Value) (_ : Env) (e0 : World), c0 d0 e0 →
 pick b0 (.bool true) d0 fun g0 =>
 cnd g0
 (bld P 57 [] e0 fun h0 =>
 sto P 57 b h0 e0 fun i0 =>
 ldc P 57 b i0 fun j0 =>
 K (.tuple #[j0, (.bool false)]) i0)
 (ld P 55 C e0 fun k0 =>
 bld P 57 [(0, k0)] e0 fun l0 =>
 alc P 57 e0 fun m0 n0 =>
 sto P 57 m0 l0 n0 fun o0 =>
 fda P 55 O 1 o0 fun p0 =>
 ld P 53 p0 o0 fun q0 =>
 bl0 P .len #[53] 3 [q0] o0 fun r0 =>
 bin P .eql 3 false true r0 (.int .i64 1) o0 fun s0 =>
 cnd s0
 (fda P 55 O 0 o0 fun t0 =>
 ld P 2 t0 o0 fun u0 =>
 fda P 55 O 1 o0 fun v0 =>
 ld P 53 v0 o0 fun x0 =>
 ixa P 53 x0 (.int .i64 0) o0 fun y0 =>
 ld P 2 y0 o0 fun z0 =>
 bin P .mul 2 false false u0 z0 o0 fun A0 =>
 fda P 57 m0 1 o0 fun B0 =>
 sto P 2 B0 A0 o0 fun C0 =>
 ld P 57 m0 C0 fun D0 =>
 ld P 57 m0 C0 fun E0 =>
 call P Hs [E0] C0 fun F0 G0 =>
 Ext C0 G0 ∧ sto P 57 b D0 G0 fun H0 =>
 ldc P 57 b H0 fun L0 =>
 K (.tuple #[L0, F0]) H0)
 (ld P 57 m0 o0 fun M0 =>
 ld P 57 m0 o0 fun N0 =>
 call P Hs [N0] o0 fun O0 Q0 =>
 Ext o0 Q0 ∧ sto P 57 b M0 Q0 fun R0 =>
 ldc P 57 b R0 fun S0 =>
 K (.tuple #[S0, O0]) R0))) ∧
 grd b0 false
 (fda P 55 O 1 Z fun T0 =>
 ld P 53 T0 Z fun U0 =>
 bl0 P .len #[53] 3 [U0] Z fun V0 =>
 bin P .gtr 3 false true V0 (.int .i64 1) Z fun W0 =>
 c0 W0 Z)
 (c0 undef Z)) ∧
 grd W false
 (ld P 55 C V fun X0 =>
 call P JS [X0] V fun Y0 Z0 =>
 una P .not Y0 Z0 fun b1 =>
 X b1 Z0)
 (X undef V)) ∧
 grd S false
 (una P .not N R fun c1 =>
 T c1 R)
 (T undef R)))) ∧
 grd k true
 (idx P 9 a0 h i fun d1 =>
 bin P .neq 5 false true d1 (.int .u8 112) i fun e1 =>
 l e1 i)
 (l undef i)
def Q7 : Plan := (.seq rg6 (.seq rg3 (.seq (.blk (.loop [4] 4193296 (.seq (.seq (.reg [.op (0, 0, false), .op (1, 0, false), .op (2, 0, false), .op (3, 0, false), .op (4, 0, false), .grp 4 true [(5, 0, false), (6, 0, false), (7, 0, false), (8, 0, false)] [18] 491520, .op (9, 0, false)]) (.cond .leaf .leaf)) (.blk rg1)))) (.seq (.seq rg5 (.cond (.seq rg2 .leaf) .leaf)) (.seq rg17 (.seq rg18 (.seq (.seq (.reg [.op (0, 0, false), .op (1, 0, false), .op (2, 0, false), .grp 2 false [(3, 0, false), (4, 0, false)] [46] 105553116266496, .op (5, 0, false), .op (6, 0, false), .grp 6 false [(7, 0, false), (8, 2, false), (9, 0, false)] [51] 3940649673949184, .op (10, 0, false), .op (11, 0, false), .grp 11 false [(12, 0, false), (13, 0, false), (14, 0, false), (15, 0, false)] [57] 270215977642229760, .op (16, 0, false)]) (.cond (.seq rg2 .leaf) .leaf)) (.seq rg56 (.seq (.seq rg5 (.cond rg19 .leaf)) (.seq (.reg [.op (0, 0, false), .op (1, 0, false), .op (2, 2, true), .op (3, 2, false), .op (4, 0, false)]) .leaf))))))))))
theorem YF {a0 : Value} {w : World} {K : Value → World → Prop} (h : Ky a0 w K) : call P LJ [a0] w K :=
 Aa mixed Tryz.func191 (c := codeOf Tryz.f191) (by kernel_rfl) (by kernel_rfl) (p := Q7) (by kernel_rfl) (by rw [Tryz.ntmps191]; simp) (by
  have e : Ky a0 w K = vc P Q7 (codeOf Tryz.f191) (env0 [a0]) w (retX P Tryz.f191.results.toList K) := by kernel_rfl
  exact e ▸ h)
def Jx (a0 a1 : Value) (w : World) (K : Value → World → Prop) : Prop :=
 bx P 57 a0 w fun b c =>
 fda P 57 b 0 c fun d =>
 fda P 55 d 0 c fun e =>
 ld P 2 e c fun g =>
 bin P .eql 2 false true g (.int .i64 0) c fun h =>
 cnd h
 (K (.tuple #[(.float .f32 0), (.int .i64 0)]) c)
 (ld P 57 b c fun i =>
 call P Hb [i, a1] c fun j k =>
 xtr P j 0 k fun l =>
 xtr P j 1 k fun m =>
 xtr P j 2 k fun n =>
 alc P 55 k fun o p =>
 sto P 55 o l p fun q =>
 ld P 55 o q fun r =>
 call P DZ [r] q fun s t =>
 bin P .add 2 false false s m t fun u =>
 bin P .gtr 2 false true u (.int .i64 128) t fun v =>
 cnd v
 (fda P 57 b 0 t fun x =>
 fda P 55 x 0 t fun y =>
 ld P 2 y t fun z =>
 call P K6 [z, a1] t fun A B =>
 K (.tuple #[A, (.int .i64 5)]) B)
 (fda P 55 o 1 t fun C =>
 ld P 53 C t fun D =>
 bl0 P .len #[53] 3 [D] t fun E =>
 bin P .sub 3 false true E (.int .i64 1) t fun F =>
 ∃ G : Nat → Value → Value → World → Prop, (∃ H, G H (.float .f64 0) F t) ∧ ∀ (L : Nat) (M : Value) (N : Value) (_ : Env) (O : World), G L M N O →
 bin P .geq 3 false true N (.int .i64 0) O fun Q =>
 cnd Q
 (rbin P .mul 117 false true M (.float .f64 4715268809856909312) O fun R =>
 fda P 55 o 1 O fun S =>
 ld P 53 S O fun T =>
 ixa P 53 T N O fun U =>
 ld P 2 U O fun V =>
 cnv P 2 117 V O fun W =>
 rbin P .add 117 false false R W O fun X =>
 bin P .sub 3 false true N (.int .i64 1) O fun Y =>
 ∃ Z, Z < L ∧ G Z X Y O)
 (call P DL [M, m] O fun b0 c0 =>
 rcnv P 117 66 b0 c0 fun d0 =>
 ∃ e0 : Value → World → Prop, (∀ (g0 : Value) (_ : Env) (h0 : World), e0 g0 h0 →
 fda P 57 b 0 h0 fun i0 =>
 fda P 55 i0 0 h0 fun j0 =>
 ld P 2 j0 h0 fun k0 =>
 bin P .lss 2 false true k0 (.int .i64 0) h0 fun l0 =>
 cnd l0
 (call P Bn [d0] h0 fun m0 n0 =>
 K (.tuple #[m0, g0]) n0)
 (K (.tuple #[d0, g0]) h0)) ∧
 (una P .not n c0 fun o0 =>
 cnd o0
 (fda P 57 b 0 c0 fun p0 =>
 ld P 55 p0 c0 fun q0 =>
 fda P 57 b 1 c0 fun r0 =>
 ld P 2 r0 c0 fun s0 =>
 call P DZ [q0] c0 fun t0 u0 =>
 Ext c0 u0 ∧ bin P .add 2 false false t0 s0 u0 fun v0 =>
 bin P .leq 2 false true v0 (.int .i64 (-126)) u0 fun x0 =>
 cnd x0
 (bin P .add 2 false true (.int .i64 1) (.int .i64 2) u0 fun y0 =>
 e0 y0 u0)
 (e0 (.int .i64 1) u0))
 (e0 (.int .i64 0) c0)))))
def Pr : Plan := (.seq rg22 (.seq (.seq rg5 (.cond (.seq rg0 .leaf) .leaf)) (.seq (.reg [.op (0, 0, false), .op (1, 0, false), .op (2, 2, false), .op (3, 0, false), .op (4, 0, false), .op (5, 0, false), .op (6, 0, false), .op (7, 2, false), .op (8, 2, false), .op (9, 0, false), .op (10, 0, false)]) (.seq (.seq rg35 (.cond (.seq rg49 .leaf) .leaf)) (.seq rg3 (.seq (.seq rg4 (.blk (.loop [9, 10] 2251524935779840 (.seq (.seq rg0 (.cond .leaf .leaf)) (.seq (.blk (.reg [.op (0, 0, false), .op (1, 1, false), .op (2, 0, false), .op (3, 0, false), .op (4, 0, false), .op (5, 0, false), .op (6, 0, false), .op (7, 0, false), .op (8, 1, false), .op (9, 0, false)])) rg1))))) (.seq (.reg [.op (0, 0, false), .op (1, 0, false), .op (2, 2, false), .op (3, 1, false), .op (4, 0, false), .op (5, 0, false)]) (.cut [12] 73750947497819246592 (.seq rg0 (.cond (.seq rg3 (.seq (.reg [.op (0, 0, false), .op (1, 0, false), .op (3, 0, false), .op (4, 0, false), .op (2, 2, true), .op (5, 0, false), .op (6, 0, false)]) (.cond rg1 .leaf))) .leaf)) (.seq (.seq rg5 (.cond rg2 .leaf)) (.seq rg5 .leaf))))))))))
theorem WX {a0 a1 : Value} {w : World} {K : Value → World → Prop} (h : Jx a0 a1 w K) : call P Ev [a0, a1] w K :=
 Aa mixed Tryz.func192 (c := codeOf Tryz.f192) (by kernel_rfl) (by kernel_rfl) (p := Pr) (by kernel_rfl) (by rw [Tryz.ntmps192]; simp) (by
  have e : Jx a0 a1 w K = vc P Pr (codeOf Tryz.f192) (env0 [a0, a1]) w (retX P Tryz.f192.results.toList K) := by kernel_rfl
  exact e ▸ h)
def Ks (a0 : Value) (w : World) (K : Value → World → Prop) : Prop :=
 bx P 57 a0 w fun b c =>
 fda P 57 b 0 c fun d =>
 ld P 55 d c fun e =>
 fda P 57 b 1 c fun g =>
 ld P 2 g c fun h =>
 call P HC [e] c fun i j =>
 Ext c j ∧ bin P .add 9 false true i (.string ⟨#[112]⟩) j fun k =>
 call P DX [h] j fun l m =>
 Ext j m ∧ call P HC [l] m fun n o =>
 Ext m o ∧ bin P .add 9 false false k n o fun p =>
 K p o
def QX : Plan := (.seq rg6 (.seq (.reg [.op (0, 0, false), .op (1, 0, false), .op (4, 0, false), .op (5, 0, false), .op (2, 2, true), .op (3, 0, false), .op (6, 2, true), .op (7, 2, true), .op (8, 0, false), .op (9, 0, false)]) .leaf))
theorem Zd {a0 : Value} {w : World} {K : Value → World → Prop} (h : Ks a0 w K) : call P La [a0] w K :=
 Aa mixed Tryz.func201 (c := codeOf Tryz.f201) (by kernel_rfl) (by kernel_rfl) (p := QX) (by kernel_rfl) (by rw [Tryz.ntmps201]; simp) (by
  have e : Ks a0 w K = vc P QX (codeOf Tryz.f201) (env0 [a0]) w (retX P Tryz.f201.results.toList K) := by kernel_rfl
  exact e ▸ h)
def Hd (a0 a1 : Value) (w : World) (K : Value → World → Prop) : Prop :=
 bx P 57 a0 w fun b c =>
 alc P 55 c fun d e =>
 fda P 57 b 0 e fun g =>
 ld P 55 g e fun h =>
 call P MG [h] e fun i j =>
 alc P 55 j fun k l =>
 sto P 55 k i l fun m =>
 ld P 55 k m fun n =>
 fda P 57 b 1 m fun o =>
 ld P 2 o m fun p =>
 call P DZ [n] m fun q r =>
 Ext m r ∧ bin P .add 2 false false q p r fun s =>
 bin P .sub 2 false true s (.int .i64 24) r fun t =>
 bl0 P .max #[2, 2] 2 [t, (.int .i64 (-149))] r fun u =>
 fda P 57 b 1 r fun v =>
 ld P 2 v r fun x =>
 bin P .sub 2 false false u x r fun y =>
 bin P .leq 2 false true y (.int .i64 0) r fun z =>
 cnd z
 (ld P 55 k r fun A =>
 una P .neg y r fun B =>
 call P Fk [A, B] r fun C D =>
 sto P 55 d C D fun E =>
 ldc P 55 d E fun F =>
 K (.tuple #[F, u, (.bool true)]) E)
 (ld P 55 k r fun G =>
 call P Iy [G, y] r fun H L =>
 alc P 55 L fun M N =>
 sto P 55 M H N fun O =>
 ∃ Q : Value → World → Prop, (∀ (R : Value) (_ : Env) (S : World), Q R S →
 cnd R
 (ld P 55 M S fun T =>
 call P DX [(.int .i64 1)] S fun U V =>
 Ext S V ∧ call P Ga [T, U] V fun W X =>
 sto P 55 M W X fun Y =>
 ld P 55 M Y fun Z =>
 sto P 55 d Z Y fun b0 =>
 ldc P 55 d b0 fun c0 =>
 K (.tuple #[c0, u, (.bool false)]) b0)
 (ld P 55 M S fun d0 =>
 sto P 55 d d0 S fun e0 =>
 ldc P 55 d e0 fun g0 =>
 K (.tuple #[g0, u, (.bool false)]) e0)) ∧
 (bin P .eql 2 false true a1 (.int .i64 0) O fun h0 =>
 cnd h0
 (ld P 55 k O fun i0 =>
 bin P .sub 2 false true y (.int .i64 1) O fun j0 =>
 call P FO [i0, j0] O fun k0 l0 =>
 bin P .eql 2 false true k0 (.int .i64 1) l0 fun m0 =>
 ∃ n0 : Value → World → Prop, (∀ (o0 : Value) (_ : Env) (p0 : World), n0 o0 p0 →
 ∃ q0 : Value → World → Prop, (∀ (r0 : Value) (_ : Env) (s0 : World), q0 r0 s0 →
 ∃ t0 : Value → World → Prop, (∀ (u0 : Value) (_ : Env) (v0 : World), t0 u0 v0 →
 pick m0 u0 (.bool false) fun x0 =>
 Q x0 v0) ∧
 grd m0 true
 (pick o0 (.bool true) r0 fun y0 =>
 t0 y0 s0)
 (t0 undef s0)) ∧
 grd o0 false
 (ld P 55 M p0 fun z0 =>
 call P FO [z0, (.int .i64 0)] p0 fun A0 B0 =>
 bin P .eql 2 false true A0 (.int .i64 1) B0 fun C0 =>
 q0 C0 B0)
 (q0 undef p0)) ∧
 grd m0 true
 (bin P .gtr 2 false true y (.int .i64 1) l0 fun D0 =>
 n0 D0 l0)
 (n0 undef l0))
 (bin P .eql 2 false true a1 (.int .i64 1) O fun E0 =>
 cnd E0
 (fda P 57 b 0 O fun F0 =>
 fda P 55 F0 0 O fun G0 =>
 ld P 2 G0 O fun H0 =>
 bin P .lss 2 false true H0 (.int .i64 0) O fun L0 =>
 Q L0 O)
 (bin P .eql 2 false true a1 (.int .i64 2) O fun M0 =>
 cnd M0
 (fda P 57 b 0 O fun N0 =>
 fda P 55 N0 0 O fun O0 =>
 ld P 2 O0 O fun Q0 =>
 bin P .gtr 2 false true Q0 (.int .i64 0) O fun R0 =>
 Q R0 O)
 (bin P .eql 2 false true a1 (.int .i64 4) O fun S0 =>
 cnd S0
 (Q (.bool true) O)
 (Q (.bool false) O))))))
def Mr : Plan := (.seq (.reg [.op (0, 2, false), .op (1, 2, false), .op (2, 0, false), .op (3, 0, false)]) (.seq (.reg [.op (0, 0, false), .op (1, 0, false), .op (2, 2, false), .op (3, 2, false), .op (4, 2, false)]) (.seq (.reg [.op (0, 0, false), .op (2, 0, false), .op (3, 0, false), .op (1, 2, true), .op (4, 0, false), .op (5, 0, false), .op (6, 0, false), .op (7, 0, false)]) (.seq rg4 (.seq (.seq rg0 (.cond (.seq (.reg [.op (0, 0, false), .op (1, 0, false), .op (2, 0, false), .op (3, 2, false), .op (4, 0, false), .op (5, 2, false), .op (6, 0, false), .op (7, 0, false)]) .leaf) .leaf)) (.seq (.reg [.op (0, 0, false), .op (1, 0, false), .op (2, 2, false), .op (3, 2, false), .op (4, 2, false), .op (5, 0, false)]) (.cut [11] 147573952520956938240 (.seq rg3 (.blk (.seq rg0 (.cond (.reg [.op (0, 0, false), .op (1, 0, false), .op (2, 0, false), .op (3, 2, false), .op (4, 0, false), .op (5, 0, false), .grp 5 true [(6, 0, false), (7, 0, false), (8, 0, false)] [47] 246290604621824, .grp 8 false [(9, 0, false), (10, 2, false), (11, 0, false)] [50] 1970324836974592, .grp 5 true [(12, 0, false)] [51] 2251799813685248, .op (13, 0, false), .op (14, 0, false)]) (.seq rg0 (.cond rg4 (.seq rg0 (.cond rg4 (.seq rg0 (.cond rg3 .leaf)))))))))) (.seq (.seq rg3 (.cond (.reg [.op (0, 0, false), .op (1, 2, true), .op (2, 2, false), .op (3, 2, false)]) .leaf)) (.seq rg39 .leaf)))))))))
theorem Tg {a0 a1 : Value} {w : World} {K : Value → World → Prop} (h : Hd a0 a1 w K) : call P Hb [a0, a1] w K :=
 Aa mixed Tryz.func236 (c := codeOf Tryz.f236) (by kernel_rfl) (by kernel_rfl) (p := Mr) (by kernel_rfl) (by rw [Tryz.ntmps236]; simp) (by
  have e : Hd a0 a1 w K = vc P Mr (codeOf Tryz.f236) (env0 [a0, a1]) w (retX P Tryz.f236.results.toList K) := by kernel_rfl
  exact e ▸ h)
def KL (a0 a1 : Value) (w : World) (K : Value → World → Prop) : Prop :=
 call P Fq [] w fun b c =>
 ∃ d : Value → World → Prop, (∀ (e : Value) (_ : Env) (g : World), d e g →
 bin P .lss 2 false true a0 (.int .i64 0) g fun h =>
 cnd h
 (una P .neg e g fun i =>
 K i g)
 (K e g)) ∧
 (bin P .eql 2 false true a1 (.int .i64 3) c fun j =>
 ∃ k : Value → World → Prop, (∀ (l : Value) (_ : Env) (m : World), k l m →
 ∃ n : Value → World → Prop, (∀ (o : Value) (_ : Env) (p : World), n o p →
 ∃ q : Value → World → Prop, (∀ (r : Value) (_ : Env) (s : World), q r s →
 pick j (.bool true) r fun t =>
 ∃ u : Value → World → Prop, (∀ (v : Value) (_ : Env) (x : World), u v x →
 ∃ y : Value → World → Prop, (∀ (z : Value) (_ : Env) (A : World), y z A →
 ∃ B : Value → World → Prop, (∀ (C : Value) (_ : Env) (D : World), B C D →
 pick t (.bool true) C fun E =>
 cnd E
 (call P CJ [(.int .i64 2139095039)] D fun F G =>
 d F G)
 (d b D)) ∧
 grd t false
 (pick v z (.bool false) fun H =>
 B H A)
 (B undef A)) ∧
 grd v true
 (bin P .lss 2 false true a0 (.int .i64 0) x fun L =>
 y L x)
 (y undef x)) ∧
 grd t false
 (bin P .eql 2 false true a1 (.int .i64 2) s fun M =>
 u M s)
 (u undef s)) ∧
 grd j false
 (pick l o (.bool false) fun N =>
 q N p)
 (q undef p)) ∧
 grd l true
 (bin P .gtr 2 false true a0 (.int .i64 0) m fun O =>
 n O m)
 (n undef m)) ∧
 grd j false
 (bin P .eql 2 false true a1 (.int .i64 1) c fun Q =>
 k Q c)
 (k undef c))
def Qq : Plan := (.seq rg3 (.seq rg6 (.cut [5] 67108768 (.seq (.reg [.op (0, 0, false), .op (1, 0, false), .op (2, 0, false), .grp 2 false [(3, 0, false), (4, 0, false), (5, 0, false)] [12] 7168, .grp 5 true [(6, 0, false), (7, 0, false)] [14] 24576, .grp 2 false [(8, 0, false)] [15] 32768, .op (9, 0, false), .op (10, 0, false), .grp 10 false [(11, 0, false), (12, 0, false), (13, 0, false)] [20] 1835008, .grp 13 true [(14, 0, false), (15, 0, false)] [22] 6291456, .grp 10 false [(16, 0, false)] [23] 8388608, .op (17, 0, false)]) (.cond rg6 .leaf)) (.seq (.seq rg0 (.cond (.seq rg1 .leaf) .leaf)) (.seq rg0 .leaf)))))
theorem YX {a0 a1 : Value} {w : World} {K : Value → World → Prop} (h : KL a0 a1 w K) : call P K6 [a0, a1] w K :=
 Aa mixed Tryz.func238 (c := codeOf Tryz.f238) (by kernel_rfl) (by kernel_rfl) (p := Qq) (by kernel_rfl) (by rw [Tryz.ntmps238]; simp) (by
  have e : KL a0 a1 w K = vc P Qq (codeOf Tryz.f238) (env0 [a0, a1]) w (retX P Tryz.f238.results.toList K) := by kernel_rfl
  exact e ▸ h)
end


set_option maxRecDepth 20000
section
open Go Go.Vc
def Ol (a0 a1 : Value) (w : World) (K : Value → World → Prop) : Prop :=
 cnd (.bool false)
 (call P We [a0, a1] w fun b c =>
 K b c)
 (call P TL [a0, a1] w fun d e =>
 K d e)
def T9 : Plan := (.seq rg3 (.seq (.cond (.seq rg8 .leaf) .leaf) (.seq rg8 .leaf)))
theorem AbG {a0 a1 : Value} {w : World} {K : Value → World → Prop} (h : Ol a0 a1 w K) : call P Jt [a0, a1] w K :=
 Aa mixed Tryz.func267 (c := codeOf Tryz.f267) (by kernel_rfl) (by kernel_rfl) (p := T9) (by kernel_rfl) (by rw [Tryz.ntmps267]; simp) (by
  have e : Ol a0 a1 w K = vc P T9 (codeOf Tryz.f267) (env0 [a0, a1]) w (retX P Tryz.f267.results.toList K) := by kernel_rfl
  exact e ▸ h)
def NG (a0 : Value) (w : World) (K : Value → World → Prop) : Prop :=
 bin P .geq 3 false true a0 (.int .i64 0) w fun b =>
 cnd b
 (call P BY [(.int .u64 9218868437227405312)] w fun c d =>
 K c d)
 (call P BY [(.int .u64 18442240474082181120)] w fun e g =>
 K e g)
def W4 : Plan := (.seq rg3 (.seq rg3 (.seq (.seq rg0 (.cond rg3 rg3)) (.seq rg2 .leaf))))
theorem Wu {a0 : Value} {w : World} {K : Value → World → Prop} (h : NG a0 w K) : call P NJ [a0] w K :=
 Aa mixed Tryz.func282 (c := codeOf Tryz.f282) (by kernel_rfl) (by kernel_rfl) (p := W4) (by kernel_rfl) (by rw [Tryz.ntmps282]; simp) (by
  have e : NG a0 w K = vc P W4 (codeOf Tryz.f282) (env0 [a0]) w (retX P Tryz.f282.results.toList K) := by kernel_rfl
  exact e ▸ h)
def OA (a0 a1 : Value) (w : World) (K : Value → World → Prop) : Prop :=
 bin P .eql 117 false true a0 (.float .f64 0) w fun b =>
 cnd b
 (K a0 w)
 (call P SW [a0, (.int .i64 0)] w fun c d =>
 ∃ e : Value → World → Prop, (∀ (g : Value) (_ : Env) (h : World), e g h →
 pick c (.bool true) g fun i =>
 cnd i
 (K a0 h)
 (call P OR [a0] h fun j k =>
 xtr P j 0 k fun l =>
 xtr P j 1 k fun m =>
 bin P .add 3 false false a1 m k fun n =>
 call P EN [l] k fun o p =>
 bin P .shr 178 false true o (.int .u64 52) p fun q =>
 cnv P 178 3 q p fun r =>
 bin P .and 3 false true r (.int .i64 2047) p fun s =>
 bin P .sub 3 false true s (.int .i64 1023) p fun t =>
 bin P .add 3 false false n t p fun u =>
 bin P .lss 3 false true u (.int .i64 (-1075)) p fun v =>
 cnd v
 (call P WR [(.float .f64 0), l] p fun x y =>
 K x y)
 (bin P .gtr 3 false true u (.int .i64 1023) p fun z =>
 cnd z
 (bin P .lss 117 false true l (.float .f64 0) p fun A =>
 cnd A
 (call P NJ [(.int .i64 (-1))] p fun B C =>
 K B C)
 (call P NJ [(.int .i64 1)] p fun D E =>
 K D E))
 (∃ F : Value → Value → World → Prop, (∀ (G : Value) (H : Value) (_ : Env) (L : World), F G H L →
 bin P .andNot 178 false true o (.int .u64 9218868437227405312) L fun M =>
 bin P .add 3 false true G (.int .i64 1023) L fun N =>
 cnv P 3 178 N L fun O =>
 bin P .shl 178 false true O (.int .u64 52) L fun Q =>
 bin P .or 178 false false M Q L fun R =>
 call P BY [R] L fun S T =>
 rbin P .mul 117 false false H S T fun U =>
 K U T) ∧
 (bin P .lss 3 false true u (.int .i64 (-1022)) p fun V =>
 cnd V
 (bin P .add 3 false true u (.int .i64 53) p fun W =>
 F W (.float .f64 4368491638549381120) p)
 (F u (.float .f64 4607182418800017408) p)))))) ∧
 grd c false
 (call P Ua [a0] d fun X Y =>
 e X Y)
 (e undef d))
def Ul : Plan := (.seq rg3 (.seq (.blk (.seq rg1 (.cond (.seq rg0 .leaf) (.seq (.reg [.op (0, 0, false), .op (1, 2, false), .op (2, 0, false), .grp 2 false [(3, 0, false), (4, 2, false)] [17] 196608, .op (5, 0, false), .op (6, 0, false)]) (.cond (.seq rg0 .leaf) .leaf))))) (.seq rg7 (.seq rg5 (.seq rg2 (.seq rg11 (.seq (.seq rg0 (.cond (.seq rg2 .leaf) .leaf)) (.seq (.seq rg0 (.cond (.seq (.seq rg0 (.cond (.seq rg6 .leaf) .leaf)) (.seq rg6 .leaf)) .leaf)) (.seq rg3 (.cut [1, 7] 2111062325330050 (.seq rg0 (.cond (.seq rg1 rg3) .leaf)) (.seq rg1 (.seq rg10 (.seq (.reg [.op (0, 0, false), .op (1, 0, false), .op (2, 2, false), .op (3, 1, false), .op (4, 0, false)]) .leaf)))))))))))))
theorem AaU {a0 a1 : Value} {w : World} {K : Value → World → Prop} (h : OA a0 a1 w K) : call P TL [a0, a1] w K :=
 Aa mixed Tryz.func284 (c := codeOf Tryz.f284) (by kernel_rfl) (by kernel_rfl) (p := Ul) (by kernel_rfl) (by rw [Tryz.ntmps284]; simp) (by
  have e : OA a0 a1 w K = vc P Ul (codeOf Tryz.f284) (env0 [a0, a1]) w (retX P Tryz.f284.results.toList K) := by kernel_rfl
  exact e ▸ h)
def OQ (a0 a1 : Value) (w : World) (K : Value → World → Prop) : Prop :=
 bin P .eql 3 false true a1 (.int .i64 0) w fun b =>
 cnd b
 (call P N7 [a0] w fun c d =>
 bin P .gtr 117 false true c (.float .f64 9218868437227405311) d fun e =>
 K e d)
 (bin P .lss 3 false true a1 (.int .i64 0) w fun g =>
 cnd g
 (una P .neg a0 w fun h =>
 bin P .gtr 117 false true h (.float .f64 9218868437227405311) w fun i =>
 K i w)
 (bin P .gtr 117 false true a0 (.float .f64 9218868437227405311) w fun j =>
 K j w))
def TZ : Plan := (.seq rg3 (.seq (.seq rg0 (.cond rg2 (.seq rg0 (.cond rg1 .leaf)))) (.seq rg1 .leaf)))
theorem Abk {a0 a1 : Value} {w : World} {K : Value → World → Prop} (h : OQ a0 a1 w K) : call P SW [a0, a1] w K :=
 Aa mixed Tryz.func293 (c := codeOf Tryz.f293) (by kernel_rfl) (by kernel_rfl) (p := TZ) (by kernel_rfl) (by rw [Tryz.ntmps293]; simp) (by
  have e : OQ a0 a1 w K = vc P TZ (codeOf Tryz.f293) (env0 [a0, a1]) w (retX P Tryz.f293.results.toList K) := by kernel_rfl
  exact e ▸ h)
def Pf (a0 : Value) (w : World) (K : Value → World → Prop) : Prop :=
 bin P .neq 117 false false a0 a0 w fun b =>
 K b w
def ST : Plan := (.seq rg3 (.seq rg5 .leaf))
theorem AaN {a0 : Value} {w : World} {K : Value → World → Prop} (h : Pf a0 w K) : call P Ua [a0] w K :=
 Aa mixed Tryz.func294 (c := codeOf Tryz.f294) (by kernel_rfl) (by kernel_rfl) (p := ST) (by kernel_rfl) (by rw [Tryz.ntmps294]; simp) (by
  have e : Pf a0 w K = vc P ST (codeOf Tryz.f294) (env0 [a0]) w (retX P Tryz.f294.results.toList K) := by kernel_rfl
  exact e ▸ h)
def IJ (a0 : Value) (w : World) (K : Value → World → Prop) : Prop :=
 call P N7 [a0] w fun b c =>
 bin P .lss 117 false true b (.float .f64 4503599627370496) c fun d =>
 cnd d
 (rbin P .mul 117 false true a0 (.float .f64 4841369599423283200) c fun e =>
 K (.tuple #[e, (.int .i64 (-52))]) c)
 (K (.tuple #[a0, (.int .i64 0)]) c)
def Pg : Plan := (.seq rg0 (.seq (.seq rg2 (.cond (.seq (.reg [.op (0, 0, false), .op (1, 1, false), .op (2, 0, false), .op (3, 0, false)]) .leaf) .leaf)) (.seq rg1 .leaf)))
theorem V4 {a0 : Value} {w : World} {K : Value → World → Prop} (h : IJ a0 w K) : call P OR [a0] w K :=
 Aa mixed Tryz.func295 (c := codeOf Tryz.f295) (by kernel_rfl) (by kernel_rfl) (p := Pg) (by kernel_rfl) (by rw [Tryz.ntmps295]; simp) (by
  have e : IJ a0 w K = vc P Pg (codeOf Tryz.f295) (env0 [a0]) w (retX P Tryz.f295.results.toList K) := by kernel_rfl
  exact e ▸ h)
def Ry (a0 : Value) (w : World) (K : Value → World → Prop) : Prop :=
 call P EN [a0] w fun b c =>
 bin P .andNot 178 false true b (.int .u64 9223372036854775808) c fun d =>
 call P BY [d] c fun e g =>
 K e g
def X6 : Plan := (.seq rg3 (.seq (.reg [.op (0, 0, false), .op (1, 2, false), .op (2, 0, false), .op (3, 2, false), .op (4, 0, false)]) .leaf))
theorem Aet {a0 : Value} {w : World} {K : Value → World → Prop} (h : Ry a0 w K) : call P N7 [a0] w K :=
 Aa mixed Tryz.func301 (c := codeOf Tryz.f301) (by kernel_rfl) (by kernel_rfl) (p := X6) (by kernel_rfl) (by rw [Tryz.ntmps301]; simp) (by
  have e : Ry a0 w K = vc P X6 (codeOf Tryz.f301) (env0 [a0]) w (retX P Tryz.f301.results.toList K) := by kernel_rfl
  exact e ▸ h)
end


set_option maxRecDepth 20000
section
open Go Go.Vc
def JE (a0 a1 : Value) (w : World) (K : Value → World → Prop) : Prop :=
 bsl P 22 0 [] w fun b c =>
 ∃ d : Nat → Value → Value → Value → World → Prop, (∃ e, d e b (.int .i64 0) (.int .i64 0) c) ∧ ∀ (g : Nat) (h : Value) (i : Value) (j : Value) (_ : Env) (k : World), d g h i j k →
 bl0 P .len #[9] 3 [a0] k fun l =>
 bin P .lss 3 false false j l k fun m =>
 cnd m
 (idx P 9 a0 j k fun n =>
 bin P .eql 5 false false n a1 k fun o =>
 cnd o
 (sli P 9 a0 (some i) (some j) none k fun p =>
 bsl P 22 1 [(0, p)] k fun q r =>
 bl2 P .append #[22, 22] 22 [h, q] r fun s t =>
 bin P .add 3 false true j (.int .i64 1) t fun u =>
 bin P .add 3 false true j (.int .i64 1) t fun v =>
 ∃ x, x < g ∧ d x s u v t)
 (bin P .add 3 false true j (.int .i64 1) k fun y =>
 ∃ z, z < g ∧ d z h i y k))
 (sli P 9 a0 (some i) none none k fun A =>
 bsl P 22 1 [(0, A)] k fun B C =>
 bl2 P .append #[22, 22] 22 [h, B] C fun D E =>
 K D E)
def PK : Plan := (.seq rg3 (.seq rg6 (.seq rg3 (.seq (.seq rg3 (.blk (.loop [5, 6, 7] 536870624 (.seq (.seq rg5 (.cond .leaf .leaf)) (.seq (.blk (.seq rg4 (.cond (.seq rg45 rg1) .leaf))) rg1))))) (.seq (.reg [.op (0, 0, false), .op (1, 0, false), .op (2, 0, false), .op (3, 0, false), .op (4, 2, false), .op (5, 2, false), .op (6, 0, false)]) .leaf)))))
theorem XG {a0 a1 : Value} {w : World} {K : Value → World → Prop} (h : JE a0 a1 w K) : call P Jw [a0, a1] w K :=
 Aa mixed Tryz.func61 (c := codeOf Tryz.f61) (by kernel_rfl) (by kernel_rfl) (p := PK) (by kernel_rfl) (by rw [Tryz.ntmps61]; simp) (by
  have e : JE a0 a1 w K = vc P PK (codeOf Tryz.f61) (env0 [a0, a1]) w (retX P Tryz.f61.results.toList K) := by kernel_rfl
  exact e ▸ h)
def JM (a0 : Value) (w : World) (K : Value → World → Prop) : Prop :=
 call P LJ [a0] w fun b c =>
 xtr P b 0 c fun d =>
 xtr P b 1 c fun e =>
 alc P 57 c fun g h =>
 sto P 57 g d h fun i =>
 una P .not e i fun j =>
 cnd j
 (K (.tuple #[(.float .f32 0), (.bool false)]) i)
 (ld P 57 g i fun k =>
 call P Ev [k, (.int .i64 0)] i fun l m =>
 xtr P l 0 m fun n =>
 xtr P l 1 m fun o =>
 bin P .eql 2 false true o (.int .i64 0) m fun p =>
 K (.tuple #[n, p]) m)
def P4 : Plan := (.seq rg0 (.seq rg12 (.seq (.seq rg0 (.cond (.seq rg0 .leaf) .leaf)) (.seq rg7 (.seq rg4 .leaf)))))
theorem WD {a0 : Value} {w : World} {K : Value → World → Prop} (h : JM a0 w K) : call P Gx [a0] w K :=
 Aa mixed Tryz.func141 (c := codeOf Tryz.f141) (by kernel_rfl) (by kernel_rfl) (p := P4) (by kernel_rfl) (by rw [Tryz.ntmps141]; simp) (by
  have e : JM a0 w K = vc P P4 (codeOf Tryz.f141) (env0 [a0]) w (retX P Tryz.f141.results.toList K) := by kernel_rfl
  exact e ▸ h)
def IH (a0 a1 : Value) (w : World) (K : Value → World → Prop) : Prop :=
 bl0 P .len #[52] 3 [a1] w fun b =>
 call P Am [a0, b] w fun c d =>
 ixa P 52 a1 c d fun e =>
 ld P 66 e d fun g =>
 K g d
def OE : Plan := (.seq rg3 (.seq rg44 .leaf))
theorem Wf {a0 a1 : Value} {w : World} {K : Value → World → Prop} (h : IH a0 a1 w K) : call P IB [a0, a1] w K :=
 Aa mixed Tryz.func202 (c := codeOf Tryz.f202) (by kernel_rfl) (by kernel_rfl) (p := OE) (by kernel_rfl) (by rw [Tryz.ntmps202]; simp) (by
  have e : IH a0 a1 w K = vc P OE (codeOf Tryz.f202) (env0 [a0, a1]) w (retX P Tryz.f202.results.toList K) := by kernel_rfl
  exact e ▸ h)
end


set_option maxRecDepth 20000
section
open Go Go.Vc
def HS (a0 : Value) (w : World) (K : Value → World → Prop) : Prop :=
 call P Hw [a0] w fun b c =>
 xtr P b 0 c fun d =>
 xtr P b 1 c fun e =>
 alc P 57 c fun g h =>
 sto P 57 g d h fun i =>
 bin P .neq 2 false true e (.int .i64 0) i fun j =>
 cnd j
 (K (.tuple #[(.float .f32 0), (.bool false)]) i)
 (ld P 57 g i fun k =>
 call P GZ [k, (.int .i64 0)] i fun l m =>
 xtr P l 0 m fun n =>
 xtr P l 1 m fun o =>
 xtr P l 2 m fun p =>
 bin P .eql 2 false true o (.int .i64 0) m fun q =>
 K (.tuple #[n, q]) m)
def Nw : Plan := (.seq rg0 (.seq rg12 (.seq (.seq rg0 (.cond (.seq rg0 .leaf) .leaf)) (.seq (.reg [.op (0, 0, false), .op (1, 2, false), .op (2, 0, false), .op (3, 0, false), .op (4, 0, false), .op (5, 0, false), .op (6, 0, false), .op (7, 0, false), .op (8, 0, false)]) (.seq rg4 .leaf)))))
theorem UK {a0 : Value} {w : World} {K : Value → World → Prop} (h : HS a0 w K) : call P Fd [a0] w K :=
 Aa mixed Tryz.func129 (c := codeOf Tryz.f129) (by kernel_rfl) (by kernel_rfl) (p := Nw) (by kernel_rfl) (by rw [Tryz.ntmps129]; simp) (by
  have e : HS a0 w K = vc P Nw (codeOf Tryz.f129) (env0 [a0]) w (retX P Tryz.f129.results.toList K) := by kernel_rfl
  exact e ▸ h)
end


set_option maxRecDepth 20000
section
open Go Go.Vc
def I1 (a0 : Value) (w : World) (K : Value → World → Prop) : Prop :=
 bx P 27 a0 w fun b c =>
 fda P 27 b 0 c fun d =>
 ld P 22 d c fun e =>
 call P HI [e] c fun g h =>
 xtr P g 0 h fun i =>
 xtr P g 1 h fun j =>
 K j h
def ON : Plan := (.seq rg6 (.seq (.reg [.op (0, 0, false), .op (1, 0, false), .op (2, 2, false), .op (3, 0, false), .op (4, 0, false), .op (5, 0, false), .op (6, 0, false), .op (7, 0, false)]) (.seq rg0 .leaf)))
theorem Vy {a0 : Value} {w : World} {K : Value → World → Prop} (h : I1 a0 w K) : call P Ci [a0] w K :=
 Aa mixed Tryz.func15 (c := codeOf Tryz.f15) (by kernel_rfl) (by kernel_rfl) (p := ON) (by kernel_rfl) (by rw [Tryz.ntmps15]; simp) (by
  have e : I1 a0 w K = vc P ON (codeOf Tryz.f15) (env0 [a0]) w (retX P Tryz.f15.results.toList K) := by kernel_rfl
  exact e ▸ h)
def Kw (a0 : Value) (w : World) (K : Value → World → Prop) : Prop :=
 bx P 27 a0 w fun b c =>
 fda P 27 b 0 c fun d =>
 ld P 22 d c fun e =>
 call P HI [e] c fun g h =>
 xtr P g 0 h fun i =>
 xtr P g 1 h fun j =>
 una P .not j h fun k =>
 cnd k
 (K (.tuple #[(.int .i64 0), (.int .i64 1)]) h)
 (K (.tuple #[i, (.int .i64 0)]) h)
def Qv : Plan := (.seq rg22 (.seq (.reg [.op (0, 0, false), .op (1, 0, false), .op (2, 2, false), .op (3, 0, false), .op (4, 0, false), .op (5, 0, false), .op (6, 0, false), .op (7, 0, false)]) (.seq (.seq rg0 (.cond (.seq rg0 .leaf) .leaf)) (.seq rg1 .leaf))))
theorem YE {a0 : Value} {w : World} {K : Value → World → Prop} (h : Kw a0 w K) : call P HL [a0] w K :=
 Aa mixed Tryz.func18 (c := codeOf Tryz.f18) (by kernel_rfl) (by kernel_rfl) (p := Qv) (by kernel_rfl) (by rw [Tryz.ntmps18]; simp) (by
  have e : Kw a0 w K = vc P Qv (codeOf Tryz.f18) (env0 [a0]) w (retX P Tryz.f18.results.toList K) := by kernel_rfl
  exact e ▸ h)
def GV (a0 : Value) (w : World) (K : Value → World → Prop) : Prop :=
 bx P 27 a0 w fun b c =>
 ld P 27 b c fun d =>
 call P Ci [d] c fun e g =>
 una P .not e g fun h =>
 cnd h
 (K (.tuple #[(.int .i64 0), (.int .i64 1)]) g)
 (ld P 27 b g fun i =>
 call P Js [i] g fun j k =>
 K (.tuple #[j, (.int .i64 0)]) k)
def Mm : Plan := (.seq rg22 (.seq (.seq rg2 (.cond (.seq rg0 .leaf) .leaf)) (.seq rg14 .leaf)))
theorem TJ {a0 : Value} {w : World} {K : Value → World → Prop} (h : GV a0 w K) : call P G8 [a0] w K :=
 Aa mixed Tryz.func20 (c := codeOf Tryz.f20) (by kernel_rfl) (by kernel_rfl) (p := Mm) (by kernel_rfl) (by rw [Tryz.ntmps20]; simp) (by
  have e : GV a0 w K = vc P Mm (codeOf Tryz.f20) (env0 [a0]) w (retX P Tryz.f20.results.toList K) := by kernel_rfl
  exact e ▸ h)
def Hv (a0 : Value) (w : World) (K : Value → World → Prop) : Prop :=
 bx P 27 a0 w fun b c =>
 ld P 27 b c fun d =>
 call P Ci [d] c fun e g =>
 una P .not e g fun h =>
 cnd h
 (K (.tuple #[(.string ⟨#[]⟩), (.int .i64 1)]) g)
 (ld P 27 b g fun i =>
 call P Hp [i] g fun j k =>
 K (.tuple #[j, (.int .i64 0)]) k)
def Md : Plan := (.seq rg22 (.seq (.seq rg2 (.cond (.seq rg0 .leaf) .leaf)) (.seq rg14 .leaf)))
theorem Us {a0 : Value} {w : World} {K : Value → World → Prop} (h : Hv a0 w K) : call P EL [a0] w K :=
 Aa mixed Tryz.func22 (c := codeOf Tryz.f22) (by kernel_rfl) (by kernel_rfl) (p := Md) (by kernel_rfl) (by rw [Tryz.ntmps22]; simp) (by
  have e : Hv a0 w K = vc P Md (codeOf Tryz.f22) (env0 [a0]) w (retX P Tryz.f22.results.toList K) := by kernel_rfl
  exact e ▸ h)
def Gl (a0 : Value) (w : World) (K : Value → World → Prop) : Prop :=
 alc P 27 w fun b c =>
 call P Jp [a0, (.string ⟨#[32]⟩)] c fun d e =>
 bld P 27 [(0, d)] e fun g =>
 alc P 27 e fun h i =>
 sto P 27 h g i fun j =>
 ld P 27 h j fun k =>
 call P Ci [k] j fun l m =>
 una P .not l m fun n =>
 cnd n
 (bld P 27 [] m fun o =>
 sto P 27 b o m fun p =>
 ldc P 27 b p fun q =>
 K (.tuple #[q, (.int .i64 6)]) p)
 (ld P 27 h m fun r =>
 sto P 27 b r m fun s =>
 ldc P 27 b s fun t =>
 K (.tuple #[t, (.int .i64 0)]) s)
def Km : Plan := (.seq rg6 (.seq rg50 (.seq (.seq rg2 (.cond (.seq rg2 .leaf) .leaf)) (.seq rg2 .leaf))))
theorem SJ {a0 : Value} {w : World} {K : Value → World → Prop} (h : Gl a0 w K) : call P Ec [a0] w K :=
 Aa mixed Tryz.func24 (c := codeOf Tryz.f24) (by kernel_rfl) (by kernel_rfl) (p := Km) (by kernel_rfl) (by rw [Tryz.ntmps24]; simp) (by
  have e : Gl a0 w K = vc P Km (codeOf Tryz.f24) (env0 [a0]) w (retX P Tryz.f24.results.toList K) := by kernel_rfl
  exact e ▸ h)
def L4 (a0 a1 : Value) (w : World) (K : Value → World → Prop) : Prop :=
 bx P 27 a0 w fun b c =>
 alc P 68 c fun d e =>
 ld P 27 b e fun g =>
 bl0 P .len #[52] 3 [a1] e fun h =>
 call P C9 [a1] e fun i j =>
 Ext e j ∧ call P OW [g, i, h] j fun k l =>
 bin P .neq 2 false true k (.int .i64 0) l fun m =>
 cnd m
 (bld P 68 [] l fun n =>
 sto P 68 d n l fun o =>
 ldc P 68 d o fun p =>
 K (.tuple #[p, k]) o)
 (bsl P 119 0 [] l fun q r =>
 bl0 P .len #[52] 3 [a1] r fun s =>
 ∃ t : Nat → Value → Value → World → Prop, (∃ u, t u q (.int .i64 0) r) ∧ ∀ (v : Nat) (x : Value) (y : Value) (_ : Env) (z : World), t v x y z →
 bin P .lss 3 false false y s z fun A =>
 cnd A
 (ixa P 52 a1 y z fun B =>
 ld P 66 B z fun C =>
 bld P 68 [(0, C)] z fun D =>
 bsl P 119 1 [(0, D)] z fun E F =>
 bl2 P .append #[119, 119] 119 [x, E] F fun G H =>
 bin P .add 3 false true y (.int .i64 1) H fun L =>
 ∃ M, M < v ∧ t M G L H)
 (ld P 27 b z fun N =>
 bld P 127 [(0, (.func (.func 94) #[] #[])), (1, (.func (.func 95) #[] #[])), (2, (.func (.func 96) #[] #[]))] z fun O =>
 call P FN [N, x, O] z fun Q R =>
 xtr P Q 0 R fun S =>
 xtr P Q 1 R fun T =>
 sto P 68 d S R fun U =>
 ldc P 68 d U fun V =>
 K (.tuple #[V, T]) U))
def Rm : Plan := (.seq rg47 (.seq (.seq (.reg [.op (0, 0, false), .op (1, 0, false), .op (3, 0, false), .op (4, 0, false), .op (2, 2, true), .op (5, 2, false), .op (6, 0, false)]) (.seq rg0 (.cond (.seq rg8 .leaf) .leaf))) (.seq rg6 (.seq (.seq rg1 (.blk (.loop [7, 23] 8581546624 (.seq rg3 (.seq (.cond .leaf .leaf) (.seq (.blk (.seq rg1 rg30)) rg0)))))) (.seq (.reg [.op (0, 0, false), .op (1, 0, false), .op (2, 0, false), .op (3, 2, false), .op (4, 0, false), .op (5, 0, false), .op (6, 2, false), .op (7, 0, false)]) .leaf)))))
theorem YN {a0 a1 : Value} {w : World} {K : Value → World → Prop} (h : L4 a0 a1 w K) : call P HP [a0, a1] w K :=
 Aa mixed Tryz.func41 (c := codeOf Tryz.f41) (by kernel_rfl) (by kernel_rfl) (p := Rm) (by kernel_rfl) (by rw [Tryz.ntmps41]; simp) (by
  have e : L4 a0 a1 w K = vc P Rm (codeOf Tryz.f41) (env0 [a0, a1]) w (retX P Tryz.f41.results.toList K) := by kernel_rfl
  exact e ▸ h)
def L7 (a0 : Value) (w : World) (K : Value → World → Prop) : Prop :=
 bl0 P .len #[22] 3 [a0] w fun b =>
 bin P .lss 3 false true b (.int .i64 1) w fun c =>
 ∃ d : Value → World → Prop, (∀ (e : Value) (_ : Env) (g : World), d e g →
 pick c (.bool true) e fun h =>
 cnd h
 (K (.tuple #[(.int .i64 0), (.bool false)]) g)
 (bl0 P .len #[22] 3 [a0] g fun i =>
 ∃ j : Nat → Value → Value → Value → World → Prop, (∃ k, j k (.int .i64 0) (.int .i64 0) (.int .i64 0) g) ∧ ∀ (l : Nat) (m : Value) (n : Value) (o : Value) (_ : Env) (p : World), j l m n o p →
 bin P .lss 3 false false o i p fun q =>
 cnd q
 (ixa P 22 a0 o p fun r =>
 ld P 9 r p fun s =>
 call P LN [s] p fun t u =>
 bin P .lss 3 false true t (.int .i64 0) u fun v =>
 ∃ x : Value → World → Prop, (∀ (y : Value) (_ : Env) (z : World), x y z →
 pick v (.bool true) y fun A =>
 cnd A
 (K (.tuple #[(.int .i64 0), (.bool false)]) z)
 (bin P .sub 3 true false (.int .i64 1) t z fun B =>
 bin P .add 3 false false m B z fun C =>
 bl0 P .max #[3, 3] 3 [n, C] z fun D =>
 bin P .add 3 false true o (.int .i64 1) z fun E =>
 ∃ F, F < l ∧ j F C D E z)) ∧
 grd v false
 (bin P .lss 3 false false m t u fun G =>
 x G u)
 (x undef u))
 (bin P .eql 3 false true m (.int .i64 1) p fun H =>
 ∃ L : Value → World → Prop, (∀ (M : Value) (_ : Env) (N : World), L M N →
 pick H M (.bool false) fun O =>
 K (.tuple #[n, O]) N) ∧
 grd H true
 (bin P .leq 3 false true n (.int .i64 16) p fun Q =>
 L Q p)
 (L undef p)))) ∧
 grd c false
 (bl0 P .len #[22] 3 [a0] w fun R =>
 bin P .gtr 3 false true R (.int .i64 60) w fun S =>
 d S w)
 (d undef w)
def QA : Plan := (.seq rg0 (.seq (.seq (.reg [.op (0, 0, false), .op (1, 0, false), .op (2, 0, false), .op (3, 0, false), .grp 3 false [(4, 0, false), (5, 0, false), (6, 0, false)] [15] 57344, .op (7, 0, false)]) (.cond (.seq rg0 .leaf) .leaf)) (.seq rg0 (.seq (.seq rg1 (.blk (.loop [4, 5, 19] 1099511103932 (.seq rg3 (.seq (.cond .leaf .leaf) (.seq (.blk (.seq rg1 (.seq rg2 (.seq (.seq (.reg [.op (0, 0, false), .op (1, 0, false), .op (2, 0, false), .grp 2 false [(3, 0, false), (4, 0, false), (5, 0, false)] [30] 1879048192, .op (6, 0, false)]) (.cond (.seq rg0 .leaf) .leaf)) (.seq rg4 rg5))))) rg0)))))) (.seq (.reg [.op (0, 0, false), .op (1, 0, false), .op (2, 0, false), .op (3, 0, false), .grp 3 true [(4, 0, false), (5, 0, false)] [45] 52776558133248, .op (6, 0, false), .op (7, 0, false), .op (8, 0, false)]) .leaf)))))
theorem YS {a0 : Value} {w : World} {K : Value → World → Prop} (h : L7 a0 w K) : call P HI [a0] w K :=
 Aa mixed Tryz.func54 (c := codeOf Tryz.f54) (by kernel_rfl) (by kernel_rfl) (p := QA) (by kernel_rfl) (by rw [Tryz.ntmps54]; simp) (by
  have e : L7 a0 w K = vc P QA (codeOf Tryz.f54) (env0 [a0]) w (retX P Tryz.f54.results.toList K) := by kernel_rfl
  exact e ▸ h)
def Oq (a0 : Value) (w : World) (K : Value → World → Prop) : Prop :=
 bx P 27 a0 w fun b c =>
 fda P 27 b 0 c fun d =>
 ld P 22 d c fun e =>
 bl0 P .len #[22] 3 [e] c fun g =>
 ∃ h : Nat → Value → Value → World → Prop, (∃ i, h i (.int .i64 0) (.int .i64 0) c) ∧ ∀ (j : Nat) (k : Value) (l : Value) (_ : Env) (m : World), h j k l m →
 bin P .lss 3 false false l g m fun n =>
 cnd n
 (ixa P 22 e l m fun o =>
 ld P 9 o m fun p =>
 call P Gy [p] m fun q r =>
 bin P .add 3 false true q (.int .i64 1) r fun s =>
 bl0 P .max #[3, 3] 3 [k, s] r fun t =>
 bin P .add 3 false true l (.int .i64 1) r fun u =>
 ∃ v, v < j ∧ h v t u r)
 (K k m)
def Te : Plan := (.seq rg6 (.seq rg3 (.seq (.seq rg5 (.blk (.loop [3, 9] 523816 (.seq rg3 (.seq (.cond .leaf .leaf) (.seq (.blk (.seq rg1 (.reg [.op (0, 0, false), .op (1, 0, false), .op (2, 2, false), .op (3, 0, false), .op (4, 0, false), .op (5, 0, false)]))) rg0)))))) (.seq rg0 .leaf))))
theorem AbC {a0 : Value} {w : World} {K : Value → World → Prop} (h : Oq a0 w K) : call P Js [a0] w K :=
 Aa mixed Tryz.func58 (c := codeOf Tryz.f58) (by kernel_rfl) (by kernel_rfl) (p := Te) (by kernel_rfl) (by rw [Tryz.ntmps58]; simp) (by
  have e : Oq a0 w K = vc P Te (codeOf Tryz.f58) (env0 [a0]) w (retX P Tryz.f58.results.toList K) := by kernel_rfl
  exact e ▸ h)
def Hz (a0 : Value) (w : World) (K : Value → World → Prop) : Prop :=
 bx P 27 a0 w fun b c =>
 fda P 27 b 0 c fun d =>
 ld P 22 d c fun e =>
 call P Kv [e, (.string ⟨#[32]⟩)] c fun g h =>
 K g h
def Mj : Plan := (.seq rg6 (.seq rg8 .leaf))
theorem Tv {a0 : Value} {w : World} {K : Value → World → Prop} (h : Hz a0 w K) : call P Hp [a0] w K :=
 Aa mixed Tryz.func60 (c := codeOf Tryz.f60) (by kernel_rfl) (by kernel_rfl) (p := Mj) (by kernel_rfl) (by rw [Tryz.ntmps60]; simp) (by
  have e : Hz a0 w K = vc P Mj (codeOf Tryz.f60) (env0 [a0]) w (retX P Tryz.f60.results.toList K) := by kernel_rfl
  exact e ▸ h)
def On (a0 a1 a2 : Value) (w : World) (K : Value → World → Prop) : Prop :=
 bx P 27 a0 w fun b c =>
 ld P 27 b c fun d =>
 call P Ci [d] c fun e g =>
 una P .not e g fun h =>
 ∃ i : Value → World → Prop, (∀ (j : Value) (_ : Env) (k : World), i j k →
 pick h (.bool true) j fun l =>
 cnd l
 (K (.int .i64 1) k)
 (ld P 27 b k fun m =>
 call P Js [m] k fun n o =>
 bin P .lss 3 false false a2 n o fun p =>
 ∃ q : Value → World → Prop, (∀ (r : Value) (_ : Env) (s : World), q r s →
 pick p (.bool true) r fun t =>
 cnd t
 (K (.int .i64 2) s)
 (K (.int .i64 0) s)) ∧
 grd p false
 (bin P .gtr 3 false true a2 (.int .i64 3) o fun u =>
 q u o)
 (q undef o))) ∧
 grd h false
 (una P .not a1 g fun v =>
 i v g)
 (i undef g)
def Tm : Plan := (.seq rg6 (.seq (.blk (.seq (.reg [.op (0, 0, false), .op (1, 2, false), .op (2, 0, false), .op (3, 0, false), .grp 3 false [(4, 0, false), (5, 0, false)] [13] 12288, .op (6, 0, false), .op (7, 0, false)]) (.cond (.seq rg3 .leaf) (.seq (.reg [.op (0, 0, false), .op (1, 0, false), .op (2, 2, false), .op (3, 0, false), .op (4, 0, false), .grp 4 false [(5, 0, false), (6, 0, false)] [22] 6291456, .op (7, 0, false), .op (8, 0, false)]) (.cond (.seq rg3 .leaf) .leaf))))) (.seq rg3 .leaf)))
theorem AbX {a0 a1 a2 : Value} {w : World} {K : Value → World → Prop} (h : On a0 a1 a2 w K) : call P OW [a0, a1, a2] w K :=
 Aa mixed Tryz.func76 (c := codeOf Tryz.f76) (by kernel_rfl) (by kernel_rfl) (p := Tm) (by kernel_rfl) (by rw [Tryz.ntmps76]; simp) (by
  have e : On a0 a1 a2 w K = vc P Tm (codeOf Tryz.f76) (env0 [a0, a1, a2]) w (retX P Tryz.f76.results.toList K) := by kernel_rfl
  exact e ▸ h)
def F7 (a0 a1 a2 : Value) (w : World) (K : Value → World → Prop) : Prop :=
 bx P 27 a0 w fun b c =>
 bx P 127 a2 c fun d e =>
 alc P 68 e fun g h =>
 alc P 68 h fun i j =>
 nch i fun k =>
 ld P 68 k j fun l =>
 alc P 68 j fun m n =>
 sto P 68 m l n fun o =>
 bsl P 119 0 [] o fun p q =>
 fda P 27 b 0 q fun r =>
 ld P 22 r q fun s =>
 bl0 P .len #[22] 3 [s] q fun t =>
 ∃ u : Nat → Value → Value → World → Prop, (∃ v, u v p (.int .i64 0) q) ∧ ∀ (x : Nat) (y : Value) (z : Value) (_ : Env) (A : World), u x y z A →
 bin P .lss 3 false false z t A fun B =>
 cnd B
 (ixa P 22 s z A fun C =>
 ld P 9 C A fun D =>
 call P Gy [D] A fun E F =>
 bin P .geq 3 false true E (.int .i64 0) F fun G =>
 cnd G
 (ixa P 119 a1 E F fun H =>
 ld P 68 H F fun L =>
 bsl P 119 1 [(0, L)] F fun M N =>
 bl2 P .append #[119, 119] 119 [y, M] N fun O Q =>
 bin P .add 3 false true z (.int .i64 1) Q fun R =>
 ∃ S, S < x ∧ u S O R Q)
 (call P LN [D] F fun T U =>
 bin P .eql 3 false true T (.int .i64 0) U fun V =>
 cnd V
 (call P Fd [D] U fun W X =>
 xtr P W 0 X fun Y =>
 xtr P W 1 X fun Z =>
 fda P 127 d 0 X fun b0 =>
 ld P 125 b0 X fun c0 =>
 callv P c0 [Y] X fun d0 e0 =>
 bsl P 119 1 [(0, d0)] e0 fun g0 h0 =>
 bl2 P .append #[119, 119] 119 [y, g0] h0 fun i0 j0 =>
 bin P .add 3 false true z (.int .i64 1) j0 fun k0 =>
 ∃ l0, l0 < x ∧ u l0 i0 k0 j0)
 (bl0 P .len #[119] 3 [y] U fun m0 =>
 bin P .sub 3 false true m0 (.int .i64 1) U fun n0 =>
 ixa P 119 y n0 U fun o0 =>
 ld P 68 o0 U fun p0 =>
 alc P 68 U fun q0 r0 =>
 sto P 68 q0 p0 r0 fun s0 =>
 ld P 68 m s0 fun t0 =>
 alc P 68 s0 fun u0 v0 =>
 sto P 68 u0 t0 v0 fun x0 =>
 ∃ y0 : Value → World → Prop, (∀ (z0 : Value) (_ : Env) (A0 : World), y0 z0 A0 →
 bin P .neq 2 false true z0 (.int .i64 0) A0 fun B0 =>
 cnd B0
 (ld P 68 m A0 fun C0 =>
 sto P 68 g C0 A0 fun D0 =>
 ldc P 68 g D0 fun E0 =>
 K (.tuple #[E0, z0]) D0)
 (bl0 P .len #[119] 3 [y] A0 fun F0 =>
 bin P .sub 3 false false F0 T A0 fun G0 =>
 sli P 119 y none (some G0) none A0 fun H0 =>
 ld P 68 u0 A0 fun L0 =>
 bsl P 119 1 [(0, L0)] A0 fun M0 N0 =>
 Ext A0 N0 ∧ bl2 P .append #[119, 119] 119 [H0, M0] N0 fun O0 Q0 =>
 bin P .add 3 false true z (.int .i64 1) Q0 fun R0 =>
 ∃ S0, S0 < x ∧ u S0 O0 R0 Q0)) ∧
 (bin P .eql 3 false true T (.int .i64 1) x0 fun T0 =>
 cnd T0
 (fda P 127 d 1 x0 fun U0 =>
 ld P 122 U0 x0 fun V0 =>
 ld P 68 q0 x0 fun W0 =>
 callv P V0 [D, W0] x0 fun X0 Y0 =>
 xtr P X0 0 Y0 fun Z0 =>
 xtr P X0 1 Y0 fun b1 =>
 sto P 68 u0 Z0 Y0 fun c1 =>
 y0 b1 c1)
 (fda P 127 d 2 x0 fun d1 =>
 ld P 123 d1 x0 fun e1 =>
 bl0 P .len #[119] 3 [y] x0 fun g1 =>
 bin P .sub 3 false true g1 (.int .i64 2) x0 fun h1 =>
 ixa P 119 y h1 x0 fun i1 =>
 ld P 68 i1 x0 fun j1 =>
 ld P 68 q0 x0 fun k1 =>
 callv P e1 [D, j1, k1] x0 fun l1 m1 =>
 xtr P l1 0 m1 fun n1 =>
 xtr P l1 1 m1 fun o1 =>
 sto P 68 u0 n1 m1 fun p1 =>
 (xtr P l1 1 p1 fun z => z = o1) ∧ y0 o1 p1)))))
 (ixa P 119 y (.int .i64 0) A fun q1 =>
 ld P 68 q1 A fun r1 =>
 sto P 68 g r1 A fun s1 =>
 ldc P 68 g s1 fun t1 =>
 K (.tuple #[t1, (.int .i64 0)]) s1)
def JK : Plan := (.seq rg28 (.seq (.reg [.op (0, 2, false), .op (1, 0, false), .op (2, 0, false), .op (3, 2, false), .op (4, 2, false)]) (.seq rg6 (.seq (.seq rg5 (.blk (.loop [9, 26] 5070602400912917605986746235520 (.seq rg3 (.seq (.cond .leaf .leaf) (.seq (.blk (.seq rg1 (.seq (.seq rg2 (.seq rg0 (.cond (.seq rg45 .leaf) .leaf))) (.seq rg2 (.seq (.seq rg0 (.cond (.seq rg7 (.seq (.reg [.op (0, 0, false), .op (1, 0, false), .op (2, 0, false), .op (3, 0, false), .op (4, 2, false), .op (5, 2, false), .op (6, 2, false), .op (7, 0, false)]) .leaf)) .leaf)) (.seq (.reg [.op (0, 0, false), .op (1, 0, false), .op (2, 0, false), .op (3, 0, false), .op (4, 0, false), .op (5, 0, false), .op (6, 2, false), .op (7, 2, false)]) (.seq rg34 (.cut [18] 309484991374600995015491584 (.seq rg0 (.cond (.reg [.op (0, 0, false), .op (1, 0, false), .op (2, 0, false), .op (3, 0, false), .op (4, 2, false), .op (5, 0, false), .op (6, 0, false), .op (7, 0, false), .op (8, 2, false), .op (9, 0, false)]) (.reg [.op (0, 0, false), .op (1, 0, false), .op (2, 0, false), .op (3, 0, false), .op (4, 0, false), .op (5, 0, false), .op (6, 0, false), .op (7, 0, false), .op (8, 0, false), .op (9, 0, false), .op (10, 2, false), .op (11, 0, false), .op (12, 0, false), .op (13, 0, false), .op (14, 8194, false), .op (15, 0, false)]))) (.seq (.seq rg0 (.cond (.seq rg8 .leaf) .leaf)) (.reg [.op (0, 0, false), .op (1, 0, false), .op (2, 0, false), .op (3, 0, false), .op (4, 0, false), .op (5, 0, false), .op (6, 0, false), .op (7, 2, true), .op (8, 2, false), .op (9, 0, false)])))))))))) rg0)))))) (.seq rg21 .leaf)))))
theorem RC {a0 a1 a2 : Value} {w : World} {K : Value → World → Prop} (h : F7 a0 a1 a2 w K) : call P FN [a0, a1, a2] w K :=
 Aa mixed Tryz.func93 (c := codeOf Tryz.f93) (by kernel_rfl) (by kernel_rfl) (p := JK) (by kernel_rfl) (by rw [Tryz.ntmps93]; simp) (by
  have e : F7 a0 a1 a2 w K = vc P JK (codeOf Tryz.f93) (env0 [a0, a1, a2]) w (retX P Tryz.f93.results.toList K) := by kernel_rfl
  exact e ▸ h)
def I8 (a0 : Value) (w : World) (K : Value → World → Prop) : Prop :=
 alc P 68 w fun b c =>
 bld P 68 [(0, a0)] c fun d =>
 sto P 68 b d c fun e =>
 ldc P 68 b e fun g =>
 K g e
def Oi : Plan := (.seq rg55 (.seq rg54 .leaf))
theorem V9 {a0 : Value} {w : World} {K : Value → World → Prop} (h : I8 a0 w K) : call P CA [a0] w K :=
 Aa mixed Tryz.func94 (c := codeOf Tryz.f94) (by kernel_rfl) (by kernel_rfl) (p := Oi) (by kernel_rfl) (by rw [Tryz.ntmps94]; simp) (by
  have e : I8 a0 w K = vc P Oi (codeOf Tryz.f94) (env0 [a0]) w (retX P Tryz.f94.results.toList K) := by kernel_rfl
  exact e ▸ h)
def Kr (a0 a1 : Value) (w : World) (K : Value → World → Prop) : Prop :=
 bx P 68 a1 w fun b c =>
 alc P 68 c fun d e =>
 bin P .eql 9 false true a0 (.string ⟨#[110, 101, 103]⟩) e fun g =>
 cnd g
 (ld P 68 b e fun h =>
 call P CN [h] e fun i j =>
 sto P 68 d i j fun k =>
 ldc P 68 d k fun l =>
 K (.tuple #[l, (.int .i64 0)]) k)
 (bin P .eql 9 false true a0 (.string ⟨#[115, 113, 114]⟩) e fun m =>
 cnd m
 (ld P 68 b e fun n =>
 ld P 68 b e fun o =>
 call P Ew [n, o] e fun p q =>
 xtr P p 0 q fun r =>
 xtr P p 1 q fun s =>
 call P CC [r, s] q fun t u =>
 xtr P t 0 u fun v =>
 xtr P t 1 u fun x =>
 sto P 68 d v u fun y =>
 ldc P 68 d y fun z =>
 K (.tuple #[z, x]) y)
 (bin P .eql 9 false true a0 (.string ⟨#[97, 98, 115]⟩) e fun A =>
 cnd A
 (ld P 68 b e fun B =>
 call P DU [B] e fun C D =>
 call P BD [C] D fun E F =>
 bin P .lss 3 false true E (.int .i64 0) F fun G =>
 cnd G
 (ld P 68 b F fun H =>
 call P CN [H] F fun L M =>
 sto P 68 d L M fun N =>
 ldc P 68 d N fun O =>
 K (.tuple #[O, (.int .i64 0)]) N)
 (ld P 68 b F fun Q =>
 sto P 68 d Q F fun R =>
 ldc P 68 d R fun S =>
 K (.tuple #[S, (.int .i64 0)]) R))
 (bld P 68 [] e fun T =>
 sto P 68 d T e fun U =>
 ldc P 68 d U fun V =>
 K (.tuple #[V, (.int .i64 5)]) U)))
def Rs : Plan := (.seq rg47 (.seq (.seq rg3 (.blk (.seq rg0 (.cond (.seq rg34 .leaf) (.seq rg0 (.cond (.seq rg26 .leaf) (.seq rg0 (.cond (.seq (.seq rg34 (.cond (.seq rg34 .leaf) .leaf)) (.seq rg2 .leaf)) .leaf)))))))) (.seq rg2 .leaf)))
theorem XL {a0 a1 : Value} {w : World} {K : Value → World → Prop} (h : Kr a0 a1 w K) : call P Df [a0, a1] w K :=
 Aa mixed Tryz.func95 (c := codeOf Tryz.f95) (by kernel_rfl) (by kernel_rfl) (p := Rs) (by kernel_rfl) (by rw [Tryz.ntmps95]; simp) (by
  have e : Kr a0 a1 w K = vc P Rs (codeOf Tryz.f95) (env0 [a0, a1]) w (retX P Tryz.f95.results.toList K) := by kernel_rfl
  exact e ▸ h)
def KG (a0 a1 a2 : Value) (w : World) (K : Value → World → Prop) : Prop :=
 bx P 68 a1 w fun b c =>
 bx P 68 a2 c fun d e =>
 alc P 68 e fun g h =>
 bin P .eql 9 false true a0 (.string ⟨#[43]⟩) h fun i =>
 cnd i
 (ld P 68 b h fun j =>
 ld P 68 d h fun k =>
 call P CF [j, k] h fun l m =>
 xtr P l 0 m fun n =>
 xtr P l 1 m fun o =>
 call P CC [n, o] m fun p q =>
 xtr P p 0 q fun r =>
 xtr P p 1 q fun s =>
 sto P 68 g r q fun t =>
 ldc P 68 g t fun u =>
 K (.tuple #[u, s]) t)
 (bin P .eql 9 false true a0 (.string ⟨#[45]⟩) h fun v =>
 cnd v
 (ld P 68 b h fun x =>
 ld P 68 d h fun y =>
 call P CN [y] h fun z A =>
 Ext h A ∧ call P CF [x, z] A fun B C =>
 xtr P B 0 C fun D =>
 xtr P B 1 C fun E =>
 call P CC [D, E] C fun F G =>
 xtr P F 0 G fun H =>
 xtr P F 1 G fun L =>
 sto P 68 g H G fun M =>
 ldc P 68 g M fun N =>
 K (.tuple #[N, L]) M)
 (bin P .eql 9 false true a0 (.string ⟨#[42]⟩) h fun O =>
 cnd O
 (ld P 68 b h fun Q =>
 ld P 68 d h fun R =>
 call P Ew [Q, R] h fun S T =>
 xtr P S 0 T fun U =>
 xtr P S 1 T fun V =>
 call P CC [U, V] T fun W X =>
 xtr P W 0 X fun Y =>
 xtr P W 1 X fun Z =>
 sto P 68 g Y X fun b0 =>
 ldc P 68 g b0 fun c0 =>
 K (.tuple #[c0, Z]) b0)
 (bin P .eql 9 false true a0 (.string ⟨#[47]⟩) h fun d0 =>
 cnd d0
 (fda P 68 d 0 h fun e0 =>
 ld P 66 e0 h fun g0 =>
 bin P .eql 66 false true g0 (.float .f32 0) h fun h0 =>
 cnd h0
 (bld P 68 [] h fun i0 =>
 sto P 68 g i0 h fun j0 =>
 ldc P 68 g j0 fun k0 =>
 K (.tuple #[k0, (.int .i64 5)]) j0)
 (ld P 68 b h fun l0 =>
 ld P 68 d h fun m0 =>
 call P Kb [l0, m0] h fun n0 o0 =>
 xtr P n0 0 o0 fun p0 =>
 xtr P n0 1 o0 fun q0 =>
 call P CC [p0, q0] o0 fun r0 s0 =>
 xtr P r0 0 s0 fun t0 =>
 xtr P r0 1 s0 fun u0 =>
 sto P 68 g t0 s0 fun v0 =>
 ldc P 68 g v0 fun x0 =>
 K (.tuple #[x0, u0]) v0))
 (ld P 68 b h fun y0 =>
 ld P 68 d h fun z0 =>
 call P DU [y0] h fun A0 B0 =>
 Ext h B0 ∧ call P DU [z0] B0 fun C0 D0 =>
 call P Ls [A0, C0] D0 fun E0 F0 =>
 bin P .gtr 3 false true E0 (.int .i64 0) F0 fun G0 =>
 ∃ H0 : Value → World → Prop, (∀ (L0 : Value) (_ : Env) (M0 : World), H0 L0 M0 →
 pick G0 L0 (.bool false) fun N0 =>
 ∃ O0 : Value → World → Prop, (∀ (Q0 : Value) (_ : Env) (R0 : World), O0 Q0 R0 →
 ∃ S0 : Value → World → Prop, (∀ (T0 : Value) (_ : Env) (U0 : World), S0 T0 U0 →
 ∃ V0 : Value → World → Prop, (∀ (W0 : Value) (_ : Env) (X0 : World), V0 W0 X0 →
 pick N0 (.bool true) W0 fun Y0 =>
 cnd Y0
 (ld P 68 d X0 fun Z0 =>
 sto P 68 g Z0 X0 fun b1 =>
 ldc P 68 g b1 fun c1 =>
 K (.tuple #[c1, (.int .i64 0)]) b1)
 (ld P 68 b X0 fun d1 =>
 sto P 68 g d1 X0 fun e1 =>
 ldc P 68 g e1 fun g1 =>
 K (.tuple #[g1, (.int .i64 0)]) e1)) ∧
 grd N0 false
 (pick Q0 T0 (.bool false) fun h1 =>
 V0 h1 U0)
 (V0 undef U0)) ∧
 grd Q0 true
 (bin P .eql 9 false true a0 (.string ⟨#[109, 97, 120]⟩) R0 fun i1 =>
 S0 i1 R0)
 (S0 undef R0)) ∧
 grd N0 false
 (bin P .lss 3 false true E0 (.int .i64 0) M0 fun j1 =>
 O0 j1 M0)
 (O0 undef M0)) ∧
 grd G0 true
 (bin P .eql 9 false true a0 (.string ⟨#[109, 105, 110]⟩) F0 fun k1 =>
 H0 k1 F0)
 (H0 undef F0)))))
def Ru : Plan := (.seq rg28 (.seq (.seq rg3 (.blk (.seq rg0 (.cond (.seq rg26 .leaf) (.seq rg0 (.cond (.seq (.reg [.op (0, 0, false), .op (1, 0, false), .op (2, 2, true), .op (3, 2, false), .op (4, 0, false), .op (5, 0, false), .op (6, 2, false), .op (7, 0, false), .op (8, 0, false), .op (9, 2, false), .op (10, 0, false)]) .leaf) (.seq rg0 (.cond (.seq rg26 .leaf) (.seq rg0 (.cond (.seq (.seq rg1 (.cond (.seq rg2 .leaf) .leaf)) (.seq rg26 .leaf)) .leaf)))))))))) (.seq (.reg [.op (0, 0, false), .op (2, 0, false), .op (1, 2, true), .op (3, 2, false), .op (4, 2, false), .op (5, 0, false)]) (.seq (.seq (.reg [.op (0, 0, false), .op (1, 0, false), .op (2, 0, false), .grp 2 true [(3, 0, false), (4, 0, false)] [64] 27670116110564327424, .op (5, 0, false), .op (6, 0, false), .grp 6 false [(7, 0, false), (8, 0, false), (9, 0, false)] [69] 1033017668127734890496, .grp 9 true [(10, 0, false), (11, 0, false)] [71] 3541774862152233910272, .grp 6 false [(12, 0, false)] [72] 4722366482869645213696, .op (13, 0, false)]) (.cond (.seq rg2 .leaf) .leaf)) (.seq rg2 .leaf)))))
theorem Yr {a0 a1 a2 : Value} {w : World} {K : Value → World → Prop} (h : KG a0 a1 a2 w K) : call P Dg [a0, a1, a2] w K :=
 Aa mixed Tryz.func96 (c := codeOf Tryz.f96) (by kernel_rfl) (by kernel_rfl) (p := Ru) (by kernel_rfl) (by rw [Tryz.ntmps96]; simp) (by
  have e : KG a0 a1 a2 w K = vc P Ru (codeOf Tryz.f96) (env0 [a0, a1, a2]) w (retX P Tryz.f96.results.toList K) := by kernel_rfl
  exact e ▸ h)
def Qe (a0 : Value) (w : World) (K : Value → World → Prop) : Prop :=
 ∃ b : World → Prop, (∀ (_ : Env) (c : World), b c →
 call P Fd [a0] c fun d e =>
 xtr P d 0 e fun g =>
 xtr P d 1 e fun h =>
 cnd h
 (K (.int .i64 0) e)
 (K (.int .i64 (-1)) e)) ∧
 (∃ i : Value → World → Prop, (∀ (j : Value) (_ : Env) (k : World), i j k →
 cnd j
 (K (.int .i64 0) k)
 (∃ l : Value → World → Prop, (∀ (m : Value) (_ : Env) (n : World), l m n →
 cnd m
 (K (.int .i64 1) n)
 (bin P .eql 9 false true a0 (.string ⟨#[43]⟩) n fun o =>
 cnd o
 (cnd o
 (K (.int .i64 2) n)
 (b n))
 (bin P .eql 9 false true a0 (.string ⟨#[45]⟩) n fun p =>
 cnd p
 (cnd p
 (K (.int .i64 2) n)
 (b n))
 (bin P .eql 9 false true a0 (.string ⟨#[42]⟩) n fun q =>
 cnd q
 (cnd q
 (K (.int .i64 2) n)
 (b n))
 (bin P .eql 9 false true a0 (.string ⟨#[47]⟩) n fun r =>
 cnd r
 (cnd r
 (K (.int .i64 2) n)
 (b n))
 (bin P .eql 9 false true a0 (.string ⟨#[109, 105, 110]⟩) n fun s =>
 cnd s
 (cnd s
 (K (.int .i64 2) n)
 (b n))
 (bin P .eql 9 false true a0 (.string ⟨#[109, 97, 120]⟩) n fun t =>
 cnd t
 (K (.int .i64 2) n)
 (b n)))))))) ∧
 (bin P .eql 9 false true a0 (.string ⟨#[110, 101, 103]⟩) k fun u =>
 cnd u
 (l u k)
 (bin P .eql 9 false true a0 (.string ⟨#[115, 113, 114]⟩) k fun v =>
 cnd v
 (l v k)
 (bin P .eql 9 false true a0 (.string ⟨#[97, 98, 115]⟩) k fun x =>
 cnd x
 (l x k)
 (bin P .eql 9 false true a0 (.string ⟨#[114, 111, 111, 116]⟩) k fun y =>
 cnd y
 (l y k)
 (bin P .eql 9 false true a0 (.string ⟨#[101, 120, 112]⟩) k fun z =>
 cnd z
 (l z k)
 (bin P .eql 9 false true a0 (.string ⟨#[108, 111, 103]⟩) k fun A =>
 cnd A
 (l A k)
 (bin P .eql 9 false true a0 (.string ⟨#[97, 116, 97, 110]⟩) k fun B =>
 cnd B
 (l B k)
 (bin P .eql 9 false true a0 (.string ⟨#[115, 105, 110]⟩) k fun C =>
 l C k)))))))))) ∧
 (bin P .eql 9 false true a0 (.string ⟨#[120]⟩) w fun D =>
 cnd D
 (i D w)
 (bin P .eql 9 false true a0 (.string ⟨#[121]⟩) w fun E =>
 cnd E
 (i E w)
 (bin P .eql 9 false true a0 (.string ⟨#[122]⟩) w fun F =>
 i F w))))
def Vt : Plan := (.seq rg3 (.cut [] 67108836 (.seq rg3 (.blk (.cut [6] 960 (.seq rg0 (.cond .leaf (.seq rg0 (.cond .leaf rg0)))) (.cond (.seq rg3 .leaf) (.cut [10] 523264 (.seq rg0 (.cond .leaf (.seq rg0 (.cond .leaf (.seq rg0 (.cond .leaf (.seq rg0 (.cond .leaf (.seq rg0 (.cond .leaf (.seq rg0 (.cond .leaf (.seq rg0 (.cond .leaf rg0)))))))))))))) (.cond (.seq rg3 .leaf) (.seq (.seq rg0 (.cond .leaf (.seq rg0 (.cond .leaf (.seq rg0 (.cond .leaf (.seq rg0 (.cond .leaf (.seq rg0 (.cond .leaf rg0)))))))))) (.cond (.seq rg3 .leaf) .leaf)))))))) (.seq (.seq rg7 (.seq rg3 (.cond (.seq rg3 .leaf) .leaf))) (.seq rg3 .leaf))))
theorem AcG {a0 : Value} {w : World} {K : Value → World → Prop} (h : Qe a0 w K) : call P LN [a0] w K :=
 Aa mixed Tryz.func103 (c := codeOf Tryz.f103) (by kernel_rfl) (by kernel_rfl) (p := Vt) (by kernel_rfl) (by rw [Tryz.ntmps103]; simp) (by
  have e : Qe a0 w K = vc P Vt (codeOf Tryz.f103) (env0 [a0]) w (retX P Tryz.f103.results.toList K) := by kernel_rfl
  exact e ▸ h)
def JZ (a0 : Value) (w : World) (K : Value → World → Prop) : Prop :=
 bin P .eql 9 false true a0 (.string ⟨#[120]⟩) w fun b =>
 cnd b
 (K (.int .i64 0) w)
 (bin P .eql 9 false true a0 (.string ⟨#[121]⟩) w fun c =>
 cnd c
 (K (.int .i64 1) w)
 (bin P .eql 9 false true a0 (.string ⟨#[122]⟩) w fun d =>
 cnd d
 (K (.int .i64 2) w)
 (K (.int .i64 (-1)) w)))
def PP : Plan := (.seq rg3 (.seq (.seq rg3 (.blk (.seq rg0 (.cond (.seq rg3 .leaf) (.seq rg0 (.cond (.seq rg3 .leaf) (.seq rg0 (.cond (.seq rg3 .leaf) .leaf)))))))) (.seq rg3 .leaf)))
theorem Wv {a0 : Value} {w : World} {K : Value → World → Prop} (h : JZ a0 w K) : call P Gy [a0] w K :=
 Aa mixed Tryz.func105 (c := codeOf Tryz.f105) (by kernel_rfl) (by kernel_rfl) (p := PP) (by kernel_rfl) (by rw [Tryz.ntmps105]; simp) (by
  have e : JZ a0 w K = vc P PP (codeOf Tryz.f105) (env0 [a0]) w (retX P Tryz.f105.results.toList K) := by kernel_rfl
  exact e ▸ h)
end


set_option maxRecDepth 20000
section
open Go Go.Vc
def IC (a0 : Value) (w : World) (K : Value → World → Prop) : Prop :=
 bx P 27 a0 w fun b c =>
 ld P 27 b c fun d =>
 call P Dq [d] c fun e g =>
 K e g
def Ov : Plan := (.seq rg6 (.seq rg2 .leaf))
theorem VX {a0 : Value} {w : World} {K : Value → World → Prop} (h : IC a0 w K) : call P IL [a0] w K :=
 Aa mixed Tryz.func13 (c := codeOf Tryz.f13) (by kernel_rfl) (by kernel_rfl) (p := Ov) (by kernel_rfl) (by rw [Tryz.ntmps13]; simp) (by
  have e : IC a0 w K = vc P Ov (codeOf Tryz.f13) (env0 [a0]) w (retX P Tryz.f13.results.toList K) := by kernel_rfl
  exact e ▸ h)
def Lz (a0 : Value) (w : World) (K : Value → World → Prop) : Prop :=
 bx P 27 a0 w fun b c =>
 ld P 27 b c fun d =>
 call P Dq [d] c fun e g =>
 una P .not e g fun h =>
 cnd h
 (K (.tuple #[(.int .i64 0), (.int .i64 1)]) g)
 (ld P 27 b g fun i =>
 call P Gz [i] g fun j k =>
 K (.tuple #[j, (.int .i64 0)]) k)
def Rj : Plan := (.seq rg22 (.seq (.seq rg2 (.cond (.seq rg0 .leaf) .leaf)) (.seq rg14 .leaf)))
theorem YP {a0 : Value} {w : World} {K : Value → World → Prop} (h : Lz a0 w K) : call P Lo [a0] w K :=
 Aa mixed Tryz.func17 (c := codeOf Tryz.f17) (by kernel_rfl) (by kernel_rfl) (p := Rj) (by kernel_rfl) (by rw [Tryz.ntmps17]; simp) (by
  have e : Lz a0 w K = vc P Rj (codeOf Tryz.f17) (env0 [a0]) w (retX P Tryz.f17.results.toList K) := by kernel_rfl
  exact e ▸ h)
def GL (a0 : Value) (w : World) (K : Value → World → Prop) : Prop :=
 bx P 27 a0 w fun b c =>
 ld P 27 b c fun d =>
 call P Dq [d] c fun e g =>
 una P .not e g fun h =>
 cnd h
 (K (.tuple #[(.int .i64 0), (.int .i64 1)]) g)
 (ld P 27 b g fun i =>
 call P Cx [i] g fun j k =>
 K (.tuple #[j, (.int .i64 0)]) k)
def My : Plan := (.seq rg22 (.seq (.seq rg2 (.cond (.seq rg0 .leaf) .leaf)) (.seq rg14 .leaf)))
theorem TX {a0 : Value} {w : World} {K : Value → World → Prop} (h : GL a0 w K) : call P GG [a0] w K :=
 Aa mixed Tryz.func19 (c := codeOf Tryz.f19) (by kernel_rfl) (by kernel_rfl) (p := My) (by kernel_rfl) (by rw [Tryz.ntmps19]; simp) (by
  have e : GL a0 w K = vc P My (codeOf Tryz.f19) (env0 [a0]) w (retX P Tryz.f19.results.toList K) := by kernel_rfl
  exact e ▸ h)
def GI (a0 : Value) (w : World) (K : Value → World → Prop) : Prop :=
 bx P 27 a0 w fun b c =>
 ld P 27 b c fun d =>
 call P Dq [d] c fun e g =>
 una P .not e g fun h =>
 cnd h
 (K (.tuple #[(.string ⟨#[]⟩), (.int .i64 1)]) g)
 (ld P 27 b g fun i =>
 call P H9 [i] g fun j k =>
 K (.tuple #[j, (.int .i64 0)]) k)
def Mk : Plan := (.seq rg22 (.seq (.seq rg2 (.cond (.seq rg0 .leaf) .leaf)) (.seq rg14 .leaf)))
theorem TR {a0 : Value} {w : World} {K : Value → World → Prop} (h : GI a0 w K) : call P GC [a0] w K :=
 Aa mixed Tryz.func21 (c := codeOf Tryz.f21) (by kernel_rfl) (by kernel_rfl) (p := Mk) (by kernel_rfl) (by rw [Tryz.ntmps21]; simp) (by
  have e : GI a0 w K = vc P Mk (codeOf Tryz.f21) (env0 [a0]) w (retX P Tryz.f21.results.toList K) := by kernel_rfl
  exact e ▸ h)
def Gj (a0 : Value) (w : World) (K : Value → World → Prop) : Prop :=
 alc P 27 w fun b c =>
 call P Jw [a0, (.int .u8 32)] c fun d e =>
 bld P 27 [(0, d)] e fun g =>
 alc P 27 e fun h i =>
 sto P 27 h g i fun j =>
 ld P 27 h j fun k =>
 call P Dq [k] j fun l m =>
 una P .not l m fun n =>
 cnd n
 (bld P 27 [] m fun o =>
 sto P 27 b o m fun p =>
 ldc P 27 b p fun q =>
 K (.tuple #[q, (.int .i64 6)]) p)
 (ld P 27 h m fun r =>
 sto P 27 b r m fun s =>
 ldc P 27 b s fun t =>
 K (.tuple #[t, (.int .i64 0)]) s)
def Ki : Plan := (.seq rg6 (.seq rg50 (.seq (.seq rg2 (.cond (.seq rg2 .leaf) .leaf)) (.seq rg2 .leaf))))
theorem SN {a0 : Value} {w : World} {K : Value → World → Prop} (h : Gj a0 w K) : call P Gk [a0] w K :=
 Aa mixed Tryz.func23 (c := codeOf Tryz.f23) (by kernel_rfl) (by kernel_rfl) (p := Ki) (by kernel_rfl) (by rw [Tryz.ntmps23]; simp) (by
  have e : Gj a0 w K = vc P Ki (codeOf Tryz.f23) (env0 [a0]) w (retX P Tryz.f23.results.toList K) := by kernel_rfl
  exact e ▸ h)
def LE (a0 a1 : Value) (w : World) (K : Value → World → Prop) : Prop :=
 bx P 27 a0 w fun b c =>
 alc P 68 c fun d e =>
 ld P 27 b e fun g =>
 call P KI [g, a1] e fun h i =>
 bin P .neq 2 false true h (.int .i64 0) i fun j =>
 cnd j
 (bld P 68 [] i fun k =>
 sto P 68 d k i fun l =>
 ldc P 68 d l fun m =>
 K (.tuple #[m, h]) l)
 (bsl P 119 0 [] i fun n o =>
 ∃ p : Nat → Value → Value → World → Prop, (∃ q, p q n (.int .i64 0) o) ∧ ∀ (r : Nat) (s : Value) (t : Value) (_ : Env) (u : World), p r s t u →
 fda P 27 b 0 u fun v =>
 ld P 22 v u fun x =>
 bl0 P .len #[22] 3 [x] u fun y =>
 bin P .lss 3 false false t y u fun z =>
 cnd z
 (fda P 27 b 0 u fun A =>
 ld P 22 A u fun B =>
 ixa P 22 B t u fun C =>
 ld P 9 C u fun D =>
 bl0 P .len #[119] 3 [s] u fun E =>
 call P Gr [D] u fun F G =>
 bin P .eql 2 false true F (.int .i64 0) G fun H =>
 cnd H
 (call P LB [D, a1] G fun L M =>
 bld P 68 [(0, L)] M fun N =>
 bsl P 119 1 [(0, N)] M fun O Q =>
 bl2 P .append #[119, 119] 119 [s, O] Q fun R S =>
 bin P .add 3 false true t (.int .i64 1) S fun T =>
 ∃ U, U < r ∧ p U R T S)
 (bin P .eql 2 false true F (.int .i64 1) G fun V =>
 cnd V
 (bin P .sub 3 false true E (.int .i64 1) G fun W =>
 ixa P 119 s W G fun X =>
 ld P 68 X G fun Y =>
 call P HV [D, Y] G fun Z b0 =>
 xtr P Z 0 b0 fun c0 =>
 xtr P Z 1 b0 fun d0 =>
 alc P 68 b0 fun e0 g0 =>
 sto P 68 e0 c0 g0 fun h0 =>
 bin P .neq 2 false true d0 (.int .i64 0) h0 fun i0 =>
 cnd i0
 (bld P 68 [] h0 fun j0 =>
 sto P 68 d j0 h0 fun k0 =>
 ldc P 68 d k0 fun l0 =>
 K (.tuple #[l0, d0]) k0)
 (bin P .sub 3 false true E (.int .i64 1) h0 fun m0 =>
 sli P 119 s none (some m0) none h0 fun n0 =>
 ld P 68 e0 h0 fun o0 =>
 bsl P 119 1 [(0, o0)] h0 fun p0 q0 =>
 Ext h0 q0 ∧ bl2 P .append #[119, 119] 119 [n0, p0] q0 fun r0 s0 =>
 bin P .add 3 false true t (.int .i64 1) s0 fun t0 =>
 ∃ u0, u0 < r ∧ p u0 r0 t0 s0))
 (∃ v0 : Value → Value → World → Prop, (∀ (x0 : Value) (y0 : Value) (_ : Env) (z0 : World), v0 x0 y0 z0 →
 bin P .neq 2 false true y0 (.int .i64 0) z0 fun A0 =>
 cnd A0
 (bld P 68 [] z0 fun B0 =>
 sto P 68 d B0 z0 fun C0 =>
 ldc P 68 d C0 fun D0 =>
 K (.tuple #[D0, y0]) C0)
 (bin P .sub 3 false true E (.int .i64 2) z0 fun E0 =>
 sli P 119 s none (some E0) none z0 fun F0 =>
 ld P 68 x0 z0 fun G0 =>
 bsl P 119 1 [(0, G0)] z0 fun H0 L0 =>
 Ext z0 L0 ∧ bl2 P .append #[119, 119] 119 [F0, H0] L0 fun M0 N0 =>
 bin P .add 3 false true t (.int .i64 1) N0 fun O0 =>
 ∃ Q0, Q0 < r ∧ p Q0 M0 O0 N0)) ∧
 (bin P .sub 3 false true E (.int .i64 2) G fun R0 =>
 ixa P 119 s R0 G fun S0 =>
 ld P 68 S0 G fun T0 =>
 bin P .sub 3 false true E (.int .i64 1) G fun U0 =>
 ixa P 119 s U0 G fun V0 =>
 ld P 68 V0 G fun W0 =>
 (call P Fe [D, T0, W0] G fun X0 Y0 =>
 xtr P X0 0 Y0 fun Z0 =>
 xtr P X0 1 Y0 fun b1 =>
 alc P 68 Y0 fun c1 d1 =>
 Ext Y0 d1 ∧ sto P 68 c1 Z0 d1 fun e1 =>
 (xtr P X0 1 e1 fun z => z = b1) ∧ v0 c1 b1 e1) ∧
 (alc P 68 G fun g1 h1 =>
 Ext G h1 ∧ call P Fe [D, T0, W0] h1 fun i1 j1 =>
 xtr P i1 0 j1 fun k1 =>
 xtr P i1 1 j1 fun l1 =>
 sto P 68 g1 k1 j1 fun m1 =>
 (xtr P i1 1 m1 fun z => z = l1) ∧ v0 g1 l1 m1)))))
 (ixa P 119 s (.int .i64 0) u fun n1 =>
 ld P 68 n1 u fun o1 =>
 sto P 68 d o1 u fun p1 =>
 ldc P 68 d p1 fun q1 =>
 K (.tuple #[q1, (.int .i64 0)]) p1))
def QQ : Plan := (.seq rg47 (.seq (.seq rg8 (.seq rg0 (.cond (.seq rg8 .leaf) .leaf))) (.seq rg6 (.seq (.seq rg3 (.blk (.loop [7, 8] 158456325028528675187079544736 (.seq (.seq rg4 (.cond .leaf .leaf)) (.seq (.blk (.seq rg13 (.seq rg31 (.blk (.seq rg0 (.cond (.reg [.op (0, 0, false), .op (1, 0, false), .op (2, 0, false), .op (3, 2, false), .op (4, 0, false), .op (5, 2, false), .op (6, 2, false), .op (7, 0, false)]) (.seq rg0 (.cond (.seq (.reg [.op (0, 0, false), .op (1, 0, false), .op (2, 0, false), .op (3, 0, false), .op (4, 0, false), .op (5, 0, false), .op (6, 2, false), .op (7, 0, false), .op (8, 0, false), .op (9, 0, false), .op (10, 2, false), .op (11, 2, false), .op (12, 0, false)]) (.seq (.seq rg0 (.cond (.seq rg8 .leaf) .leaf)) (.reg [.op (0, 0, false), .op (1, 0, false), .op (2, 0, false), .op (3, 0, false), .op (4, 0, false), .op (5, 2, true), .op (6, 2, false), .op (7, 0, false)]))) (.seq (.tree [13, 14] 18013848753692672 (.op (0, 0, false) (.op (1, 0, false) (.op (2, 0, false) (.op (3, 0, false) (.op (4, 0, false) (.op (5, 0, false) (.op (6, 0, false) (.op (7, 0, false) (.op (8, 0, false) (.op (9, 0, false) (.op (10, 0, false) (.fork (11, 2, false) (.op (12, 0, false) (.op (13, 0, false) (.op (14, 0, false) (.fork (15, 2, true) (.fork (16, 16386, false) (.op (17, 0, false) .done) .stop) .stop)))) (.fork (15, 2, true) (.fork (11, 2, false) (.op (12, 0, false) (.op (13, 0, false) (.op (14, 0, false) (.fork (16, 16386, false) (.op (17, 0, false) .done) .stop)))) .stop) .stop)))))))))))))) (.seq (.seq rg0 (.cond (.seq rg8 .leaf) .leaf)) (.reg [.op (0, 0, false), .op (1, 0, false), .op (2, 0, false), .op (3, 0, false), .op (4, 0, false), .op (5, 2, true), .op (6, 2, false), .op (7, 0, false)]))))))))))) rg1))))) (.seq rg21 .leaf)))))
theorem Yq {a0 a1 : Value} {w : World} {K : Value → World → Prop} (h : LE a0 a1 w K) : call P H8 [a0, a1] w K :=
 Aa mixed Tryz.func40 (c := codeOf Tryz.f40) (by kernel_rfl) (by kernel_rfl) (p := QQ) (by kernel_rfl) (by rw [Tryz.ntmps40]; simp) (by
  have e : LE a0 a1 w K = vc P QQ (codeOf Tryz.f40) (env0 [a0, a1]) w (retX P Tryz.f40.results.toList K) := by kernel_rfl
  exact e ▸ h)
def EY (a0 : Value) (w : World) (K : Value → World → Prop) : Prop :=
 alc P 27 w fun b c =>
 call P Dd [a0] c fun d e =>
 call P Ds [d] e fun g h =>
 sto P 27 b g h fun i =>
 ldc P 27 b i fun j =>
 K j i
def Io : Plan := (.seq rg55 (.seq rg41 .leaf))
theorem PW {a0 : Value} {w : World} {K : Value → World → Prop} (h : EY a0 w K) : call P EU [a0] w K :=
 Aa mixed Tryz.func44 (c := codeOf Tryz.f44) (by kernel_rfl) (by kernel_rfl) (p := Io) (by kernel_rfl) (by rw [Tryz.ntmps44]; simp) (by
  have e : EY a0 w K = vc P Io (codeOf Tryz.f44) (env0 [a0]) w (retX P Tryz.f44.results.toList K) := by kernel_rfl
  exact e ▸ h)
def Eh (a0 : Value) (w : World) (K : Value → World → Prop) : Prop :=
 call P Dd [a0] w fun b c =>
 call P HB [b] c fun d e =>
 call P H9 [d] e fun g h =>
 ∃ i : Nat → Value → World → Prop, (∃ j, i j g h) ∧ ∀ (k : Nat) (l : Value) (_ : Env) (m : World), i k l m →
 call P Am [b, (.int .i64 3)] m fun n o =>
 bin P .eql 2 false true n (.int .i64 0) o fun p =>
 cnd p
 (call P I3 [b, l] o fun q r =>
 ∃ s, s < k ∧ i s q r)
 (K l o)
def HQ : Plan := (.seq rg3 (.seq rg2 (.seq rg34 (.seq (.blk (.loop [4] 64528 (.seq (.seq rg2 (.cond .leaf .leaf)) (.blk rg8)))) (.seq rg0 .leaf)))))
theorem Pi {a0 : Value} {w : World} {K : Value → World → Prop} (h : Eh a0 w K) : call P Eg [a0] w K :=
 Aa mixed Tryz.func46 (c := codeOf Tryz.f46) (by kernel_rfl) (by kernel_rfl) (p := HQ) (by kernel_rfl) (by rw [Tryz.ntmps46]; simp) (by
  have e : Eh a0 w K = vc P HQ (codeOf Tryz.f46) (env0 [a0]) w (retX P Tryz.f46.results.toList K) := by kernel_rfl
  exact e ▸ h)
def EZ (a0 : Value) (w : World) (K : Value → World → Prop) : Prop :=
 alc P 27 w fun b c =>
 call P Dd [a0] c fun d e =>
 call P Ds [d] e fun g h =>
 sto P 27 b g h fun i =>
 ldc P 27 b i fun j =>
 K j i
def Iq : Plan := (.seq rg55 (.seq rg41 .leaf))
theorem PY {a0 : Value} {w : World} {K : Value → World → Prop} (h : EZ a0 w K) : call P EV [a0] w K :=
 Aa mixed Tryz.func47 (c := codeOf Tryz.f47) (by kernel_rfl) (by kernel_rfl) (p := Iq) (by kernel_rfl) (by rw [Tryz.ntmps47]; simp) (by
  have e : EZ a0 w K = vc P Iq (codeOf Tryz.f47) (env0 [a0]) w (retX P Tryz.f47.results.toList K) := by kernel_rfl
  exact e ▸ h)
def H7 (a0 : Value) (w : World) (K : Value → World → Prop) : Prop :=
 alc P 27 w fun b c =>
 call P JA [a0] c fun d e =>
 xtr P d 0 e fun g =>
 xtr P d 1 e fun h =>
 alc P 27 e fun i j =>
 sto P 27 i g j fun k =>
 ld P 27 i k fun l =>
 sto P 27 b l k fun m =>
 ldc P 27 b m fun n =>
 K (.tuple #[n, h]) m
def M9 : Plan := (.seq rg6 (.seq rg12 (.seq rg8 .leaf)))
theorem Tp {a0 : Value} {w : World} {K : Value → World → Prop} (h : H7 a0 w K) : call P EQ [a0] w K :=
 Aa mixed Tryz.func48 (c := codeOf Tryz.f48) (by kernel_rfl) (by kernel_rfl) (p := M9) (by kernel_rfl) (by rw [Tryz.ntmps48]; simp) (by
  have e : H7 a0 w K = vc P M9 (codeOf Tryz.f48) (env0 [a0]) w (retX P Tryz.f48.results.toList K) := by kernel_rfl
  exact e ▸ h)
def Ok (a0 : Value) (w : World) (K : Value → World → Prop) : Prop :=
 bx P 27 a0 w fun b c =>
 ld P 27 b c fun d =>
 call P Gz [d] c fun e g =>
 bin P .gtr 2 false true e (.int .i64 0) g fun h =>
 K h g
def TS : Plan := (.seq rg6 (.seq rg14 .leaf))
theorem Aby {a0 : Value} {w : World} {K : Value → World → Prop} (h : Ok a0 w K) : call P Dq [a0] w K :=
 Aa mixed Tryz.func52 (c := codeOf Tryz.f52) (by kernel_rfl) (by kernel_rfl) (p := TS) (by kernel_rfl) (by rw [Tryz.ntmps52]; simp) (by
  have e : Ok a0 w K = vc P TS (codeOf Tryz.f52) (env0 [a0]) w (retX P Tryz.f52.results.toList K) := by kernel_rfl
  exact e ▸ h)
def JW (a0 : Value) (w : World) (K : Value → World → Prop) : Prop :=
 bx P 27 a0 w fun b c =>
 fda P 27 b 0 c fun d =>
 ld P 22 d c fun e =>
 bl0 P .len #[22] 3 [e] c fun g =>
 bin P .lss 3 false true g (.int .i64 1) c fun h =>
 ∃ i : Value → World → Prop, (∀ (j : Value) (_ : Env) (k : World), i j k →
 pick h (.bool true) j fun l =>
 cnd l
 (K (.int .i64 0) k)
 (∃ m : Nat → Value → Value → Value → World → Prop, (∃ n, m n (.int .i64 0) (.int .i64 0) (.int .i64 0) k) ∧ ∀ (o : Nat) (p : Value) (q : Value) (r : Value) (_ : Env) (s : World), m o p q r s →
 fda P 27 b 0 s fun t =>
 ld P 22 t s fun u =>
 bl0 P .len #[22] 3 [u] s fun v =>
 bin P .lss 3 false false r v s fun x =>
 cnd x
 (fda P 27 b 0 s fun y =>
 ld P 22 y s fun z =>
 ixa P 22 z r s fun A =>
 ld P 9 A s fun B =>
 call P Gr [B] s fun C D =>
 bin P .lss 2 false true C (.int .i64 0) D fun E =>
 ∃ F : Value → World → Prop, (∀ (G : Value) (_ : Env) (H : World), F G H →
 pick E (.bool true) G fun L =>
 cnd L
 (K (.int .i64 0) H)
 (bin P .sub 2 false false p C H fun M =>
 bin P .add 2 false true M (.int .i64 1) H fun N =>
 bl0 P .max #[2, 2] 2 [q, N] H fun O =>
 bin P .add 3 false true r (.int .i64 1) H fun Q =>
 ∃ R, R < o ∧ m R N O Q H)) ∧
 grd E false
 (bin P .lss 2 false false p C D fun S =>
 F S D)
 (F undef D))
 (bin P .neq 2 false true p (.int .i64 1) s fun T =>
 ∃ U : Value → World → Prop, (∀ (V : Value) (_ : Env) (W : World), U V W →
 pick T (.bool true) V fun X =>
 cnd X
 (K (.int .i64 0) W)
 (K q W)) ∧
 grd T false
 (bin P .gtr 2 false true q (.int .i64 16) s fun Y =>
 U Y s)
 (U undef s)))) ∧
 grd h false
 (fda P 27 b 0 c fun Z =>
 ld P 22 Z c fun b0 =>
 bl0 P .len #[22] 3 [b0] c fun c0 =>
 bin P .gtr 3 false true c0 (.int .i64 60) c fun d0 =>
 i d0 c)
 (i undef c)
def P0 : Plan := (.seq rg6 (.seq (.seq (.reg [.op (0, 0, false), .op (1, 0, false), .op (2, 0, false), .op (3, 0, false), .op (4, 0, false), .grp 4 false [(5, 0, false), (6, 0, false), (7, 0, false), (8, 0, false)] [15] 61440, .op (9, 0, false)]) (.cond (.seq rg3 .leaf) .leaf)) (.seq rg0 (.seq (.seq rg3 (.blk (.loop [3, 4, 5] 17592185913468 (.seq (.seq rg4 (.cond .leaf .leaf)) (.seq (.blk (.seq rg48 (.seq (.seq (.reg [.op (0, 0, false), .op (1, 0, false), .op (2, 0, false), .grp 2 false [(3, 0, false), (4, 0, false), (5, 0, false)] [35] 60129542144, .op (6, 0, false)]) (.cond (.seq rg3 .leaf) .leaf)) (.seq rg4 rg5)))) rg1))))) (.seq (.seq (.reg [.op (0, 0, false), .op (1, 0, false), .op (2, 0, false), .grp 2 false [(3, 0, false), (4, 0, false)] [48] 422212465065984, .op (5, 0, false)]) (.cond (.seq rg3 .leaf) .leaf)) (.seq rg0 .leaf))))))
theorem Xu {a0 : Value} {w : World} {K : Value → World → Prop} (h : JW a0 w K) : call P Gz [a0] w K :=
 Aa mixed Tryz.func56 (c := codeOf Tryz.f56) (by kernel_rfl) (by kernel_rfl) (p := P0) (by kernel_rfl) (by rw [Tryz.ntmps56]; simp) (by
  have e : JW a0 w K = vc P P0 (codeOf Tryz.f56) (env0 [a0]) w (retX P Tryz.f56.results.toList K) := by kernel_rfl
  exact e ▸ h)
def Gp (a0 : Value) (w : World) (K : Value → World → Prop) : Prop :=
 bx P 27 a0 w fun b c =>
 ∃ d : Nat → Value → Value → World → Prop, (∃ e, d e (.int .i64 0) (.int .i64 0) c) ∧ ∀ (g : Nat) (h : Value) (i : Value) (_ : Env) (j : World), d g h i j →
 fda P 27 b 0 j fun k =>
 ld P 22 k j fun l =>
 bl0 P .len #[22] 3 [l] j fun m =>
 bin P .lss 3 false false i m j fun n =>
 cnd n
 (fda P 27 b 0 j fun o =>
 ld P 22 o j fun p =>
 ixa P 22 p i j fun q =>
 ld P 9 q j fun r =>
 call P ED [r] j fun s t =>
 bin P .add 2 false true s (.int .i64 1) t fun u =>
 bl0 P .max #[2, 2] 2 [h, u] t fun v =>
 bin P .add 3 false true i (.int .i64 1) t fun x =>
 ∃ y, y < g ∧ d y v x t)
 (K h j)
def Kl : Plan := (.seq rg6 (.seq rg3 (.seq (.seq rg3 (.blk (.loop [3, 4] 2097144 (.seq (.seq rg4 (.cond .leaf .leaf)) (.seq (.blk (.reg [.op (0, 0, false), .op (1, 0, false), .op (2, 0, false), .op (3, 0, false), .op (4, 0, false), .op (5, 0, false), .op (6, 2, false), .op (7, 0, false), .op (8, 0, false), .op (9, 0, false)])) rg1))))) (.seq rg0 .leaf))))
theorem SK {a0 : Value} {w : World} {K : Value → World → Prop} (h : Gp a0 w K) : call P Cx [a0] w K :=
 Aa mixed Tryz.func57 (c := codeOf Tryz.f57) (by kernel_rfl) (by kernel_rfl) (p := Kl) (by kernel_rfl) (by rw [Tryz.ntmps57]; simp) (by
  have e : Gp a0 w K = vc P Kl (codeOf Tryz.f57) (env0 [a0]) w (retX P Tryz.f57.results.toList K) := by kernel_rfl
  exact e ▸ h)
def KM (a0 : Value) (w : World) (K : Value → World → Prop) : Prop :=
 bx P 27 a0 w fun b c =>
 ∃ d : Nat → Value → Value → World → Prop, (∃ e, d e (.string ⟨#[]⟩) (.int .i64 0) c) ∧ ∀ (g : Nat) (h : Value) (i : Value) (_ : Env) (j : World), d g h i j →
 fda P 27 b 0 j fun k =>
 ld P 22 k j fun l =>
 bl0 P .len #[22] 3 [l] j fun m =>
 bin P .lss 3 false false i m j fun n =>
 cnd n
 (∃ o : Value → World → Prop, (∀ (p : Value) (_ : Env) (q : World), o p q →
 fda P 27 b 0 q fun r =>
 ld P 22 r q fun s =>
 ixa P 22 s i q fun t =>
 ld P 9 t q fun u =>
 bin P .add 9 false false p u q fun v =>
 bin P .add 3 false true i (.int .i64 1) q fun x =>
 ∃ y, y < g ∧ d y v x q) ∧
 (bin P .gtr 3 false true i (.int .i64 0) j fun z =>
 cnd z
 (bin P .add 9 false true h (.string ⟨#[32]⟩) j fun A =>
 o A j)
 (o h j)))
 (K h j)
def Rf : Plan := (.seq rg6 (.seq rg3 (.seq (.seq rg3 (.blk (.loop [3, 4] 8388600 (.seq (.seq rg4 (.cond .leaf .leaf)) (.seq (.blk (.cut [3] 61448 (.seq rg0 (.cond rg1 .leaf)) rg11)) rg1))))) (.seq rg0 .leaf))))
theorem Y7 {a0 : Value} {w : World} {K : Value → World → Prop} (h : KM a0 w K) : call P H9 [a0] w K :=
 Aa mixed Tryz.func59 (c := codeOf Tryz.f59) (by kernel_rfl) (by kernel_rfl) (p := Rf) (by kernel_rfl) (by rw [Tryz.ntmps59]; simp) (by
  have e : KM a0 w K = vc P Rf (codeOf Tryz.f59) (env0 [a0]) w (retX P Tryz.f59.results.toList K) := by kernel_rfl
  exact e ▸ h)
def Lw (a0 a1 : Value) (w : World) (K : Value → World → Prop) : Prop :=
 bx P 27 a0 w fun b c =>
 ld P 27 b c fun d =>
 call P Dq [d] c fun e g =>
 una P .not e g fun h =>
 cnd h
 (K (.int .i64 1) g)
 (∃ i : Nat → Value → World → Prop, (∃ j, i j (.int .i64 0) g) ∧ ∀ (k : Nat) (l : Value) (_ : Env) (m : World), i k l m →
 bl0 P .len #[52] 3 [a1] m fun n =>
 bin P .lss 3 false false l n m fun o =>
 cnd o
 (ixa P 52 a1 l m fun p =>
 ld P 66 p m fun q =>
 call P AU [q] m fun r s =>
 una P .not r s fun t =>
 cnd t
 (K (.int .i64 1) s)
 (bin P .add 3 false true l (.int .i64 1) s fun u =>
 ∃ v, v < k ∧ i v u s))
 (bl0 P .len #[52] 3 [a1] m fun x =>
 ld P 27 b m fun y =>
 call P Cx [y] m fun z A =>
 call P GF [x, z, (.int .i64 3)] A fun B C =>
 una P .not B C fun D =>
 cnd D
 (K (.int .i64 2) C)
 (K (.int .i64 0) C)))
def Qi : Plan := (.seq rg6 (.seq (.seq rg2 (.cond (.seq rg3 .leaf) .leaf)) (.seq (.seq rg3 (.blk (.loop [5] 2096688 (.seq (.seq rg5 (.cond .leaf .leaf)) (.seq (.blk (.seq rg29 (.cond (.seq rg3 .leaf) .leaf))) rg1))))) (.seq (.seq rg30 (.cond (.seq rg3 .leaf) .leaf)) (.seq rg3 .leaf)))))
theorem XP {a0 a1 : Value} {w : World} {K : Value → World → Prop} (h : Lw a0 a1 w K) : call P KI [a0, a1] w K :=
 Aa mixed Tryz.func74 (c := codeOf Tryz.f74) (by kernel_rfl) (by kernel_rfl) (p := Qi) (by kernel_rfl) (by rw [Tryz.ntmps74]; simp) (by
  have e : Lw a0 a1 w K = vc P Qi (codeOf Tryz.f74) (env0 [a0, a1]) w (retX P Tryz.f74.results.toList K) := by kernel_rfl
  exact e ▸ h)
def Ke (a0 : Value) (w : World) (K : Value → World → Prop) : Prop :=
 ∃ b : World → Prop, (∀ (_ : Env) (c : World), b c →
 call P Gx [a0] c fun d e =>
 xtr P d 0 e fun g =>
 xtr P d 1 e fun h =>
 cnd h
 (K (.int .i64 0) e)
 (K (.int .i64 (-1)) e)) ∧
 (∃ i : Value → World → Prop, (∀ (j : Value) (_ : Env) (k : World), i j k →
 cnd j
 (K (.int .i64 0) k)
 (∃ l : Value → World → Prop, (∀ (m : Value) (_ : Env) (n : World), l m n →
 cnd m
 (K (.int .i64 1) n)
 (bin P .eql 9 false true a0 (.string ⟨#[43]⟩) n fun o =>
 cnd o
 (cnd o
 (K (.int .i64 2) n)
 (b n))
 (bin P .eql 9 false true a0 (.string ⟨#[45]⟩) n fun p =>
 cnd p
 (cnd p
 (K (.int .i64 2) n)
 (b n))
 (bin P .eql 9 false true a0 (.string ⟨#[42]⟩) n fun q =>
 cnd q
 (cnd q
 (K (.int .i64 2) n)
 (b n))
 (bin P .eql 9 false true a0 (.string ⟨#[47]⟩) n fun r =>
 cnd r
 (cnd r
 (K (.int .i64 2) n)
 (b n))
 (bin P .eql 9 false true a0 (.string ⟨#[109, 105, 110]⟩) n fun s =>
 cnd s
 (cnd s
 (K (.int .i64 2) n)
 (b n))
 (bin P .eql 9 false true a0 (.string ⟨#[109, 97, 120]⟩) n fun t =>
 cnd t
 (K (.int .i64 2) n)
 (b n)))))))) ∧
 (bin P .eql 9 false true a0 (.string ⟨#[110, 101, 103]⟩) k fun u =>
 cnd u
 (l u k)
 (bin P .eql 9 false true a0 (.string ⟨#[115, 113, 114]⟩) k fun v =>
 cnd v
 (l v k)
 (bin P .eql 9 false true a0 (.string ⟨#[97, 98, 115]⟩) k fun x =>
 cnd x
 (l x k)
 (bin P .eql 9 false true a0 (.string ⟨#[114, 111, 111, 116]⟩) k fun y =>
 cnd y
 (l y k)
 (bin P .eql 9 false true a0 (.string ⟨#[101, 120, 112]⟩) k fun z =>
 cnd z
 (l z k)
 (bin P .eql 9 false true a0 (.string ⟨#[108, 111, 103]⟩) k fun A =>
 cnd A
 (l A k)
 (bin P .eql 9 false true a0 (.string ⟨#[97, 116, 97, 110]⟩) k fun B =>
 cnd B
 (l B k)
 (bin P .eql 9 false true a0 (.string ⟨#[115, 105, 110]⟩) k fun C =>
 l C k)))))))))) ∧
 (bin P .eql 9 false true a0 (.string ⟨#[120]⟩) w fun D =>
 cnd D
 (i D w)
 (bin P .eql 9 false true a0 (.string ⟨#[121]⟩) w fun E =>
 cnd E
 (i E w)
 (bin P .eql 9 false true a0 (.string ⟨#[122]⟩) w fun F =>
 i F w))))
def Pu : Plan := (.seq rg3 (.cut [] 67108836 (.seq rg3 (.blk (.cut [6] 960 (.seq rg0 (.cond .leaf (.seq rg0 (.cond .leaf rg0)))) (.cond (.seq rg3 .leaf) (.cut [10] 523264 (.seq rg0 (.cond .leaf (.seq rg0 (.cond .leaf (.seq rg0 (.cond .leaf (.seq rg0 (.cond .leaf (.seq rg0 (.cond .leaf (.seq rg0 (.cond .leaf (.seq rg0 (.cond .leaf rg0)))))))))))))) (.cond (.seq rg3 .leaf) (.seq (.seq rg0 (.cond .leaf (.seq rg0 (.cond .leaf (.seq rg0 (.cond .leaf (.seq rg0 (.cond .leaf (.seq rg0 (.cond .leaf rg0)))))))))) (.cond (.seq rg3 .leaf) .leaf)))))))) (.seq (.seq rg7 (.seq rg3 (.cond (.seq rg3 .leaf) .leaf))) (.seq rg3 .leaf))))
theorem W9 {a0 : Value} {w : World} {K : Value → World → Prop} (h : Ke a0 w K) : call P Gr [a0] w K :=
 Aa mixed Tryz.func89 (c := codeOf Tryz.f89) (by kernel_rfl) (by kernel_rfl) (p := Pu) (by kernel_rfl) (by rw [Tryz.ntmps89]; simp) (by
  have e : Ke a0 w K = vc P Pu (codeOf Tryz.f89) (env0 [a0]) w (retX P Tryz.f89.results.toList K) := by kernel_rfl
  exact e ▸ h)
def K9 (a0 a1 : Value) (w : World) (K : Value → World → Prop) : Prop :=
 call P ED [a0] w fun b c =>
 bin P .geq 2 false true b (.int .i64 0) c fun d =>
 cnd d
 (ixa P 52 a1 b c fun e =>
 ld P 66 e c fun g =>
 K g c)
 (call P Gx [a0] c fun h i =>
 xtr P h 0 i fun j =>
 xtr P h 1 i fun k =>
 K j i)
def Rq : Plan := (.seq rg3 (.seq (.seq rg2 (.seq rg0 (.cond (.seq rg4 .leaf) .leaf))) (.seq rg7 (.seq rg0 .leaf))))
theorem Yu {a0 a1 : Value} {w : World} {K : Value → World → Prop} (h : K9 a0 a1 w K) : call P LB [a0, a1] w K :=
 Aa mixed Tryz.func90 (c := codeOf Tryz.f90) (by kernel_rfl) (by kernel_rfl) (p := Rq) (by kernel_rfl) (by rw [Tryz.ntmps90]; simp) (by
  have e : K9 a0 a1 w K = vc P Rq (codeOf Tryz.f90) (env0 [a0, a1]) w (retX P Tryz.f90.results.toList K) := by kernel_rfl
  exact e ▸ h)
def HU (a0 a1 : Value) (w : World) (K : Value → World → Prop) : Prop :=
 bx P 68 a1 w fun b c =>
 alc P 68 c fun d e =>
 bin P .eql 9 false true a0 (.string ⟨#[110, 101, 103]⟩) e fun g =>
 cnd g
 (ld P 68 b e fun h =>
 call P Fj [h] e fun i j =>
 sto P 68 d i j fun k =>
 ldc P 68 d k fun l =>
 K (.tuple #[l, (.int .i64 0)]) k)
 (bin P .eql 9 false true a0 (.string ⟨#[97, 98, 115]⟩) e fun m =>
 cnd m
 (ld P 68 b e fun n =>
 call P Ex [n] e fun o p =>
 fld P 57 o 0 p fun q =>
 fld P 55 q 0 p fun r =>
 bin P .lss 2 false true r (.int .i64 0) p fun s =>
 cnd s
 (ld P 68 b p fun t =>
 call P Fj [t] p fun u v =>
 sto P 68 d u v fun x =>
 ldc P 68 d x fun y =>
 K (.tuple #[y, (.int .i64 0)]) x)
 (ld P 68 b p fun z =>
 sto P 68 d z p fun A =>
 ldc P 68 d A fun B =>
 K (.tuple #[B, (.int .i64 0)]) A))
 (bin P .eql 9 false true a0 (.string ⟨#[115, 113, 114]⟩) e fun C =>
 cnd C
 (ld P 68 b e fun D =>
 ld P 68 b e fun E =>
 call P EP [D, E] e fun F G =>
 xtr P F 0 G fun H =>
 xtr P F 1 G fun L =>
 alc P 68 G fun M N =>
 sto P 68 M H N fun O =>
 una P .not L O fun Q =>
 cnd Q
 (bld P 68 [] O fun R =>
 sto P 68 d R O fun S =>
 ldc P 68 d S fun T =>
 K (.tuple #[T, (.int .i64 3)]) S)
 (ld P 68 M O fun U =>
 sto P 68 d U O fun V =>
 ldc P 68 d V fun W =>
 K (.tuple #[W, (.int .i64 0)]) V))
 (bld P 68 [] e fun X =>
 sto P 68 d X e fun Y =>
 ldc P 68 d Y fun Z =>
 K (.tuple #[Z, (.int .i64 5)]) Y)))
def N5 : Plan := (.seq rg47 (.seq (.seq rg3 (.blk (.seq rg0 (.cond (.seq rg34 .leaf) (.seq rg0 (.cond (.seq (.seq rg35 (.cond (.seq rg34 .leaf) .leaf)) (.seq rg2 .leaf)) (.seq rg0 (.cond (.seq rg32 (.seq (.seq rg0 (.cond (.seq rg2 .leaf) .leaf)) (.seq rg2 .leaf))) .leaf)))))))) (.seq rg2 .leaf)))
theorem UJ {a0 a1 : Value} {w : World} {K : Value → World → Prop} (h : HU a0 a1 w K) : call P HV [a0, a1] w K :=
 Aa mixed Tryz.func91 (c := codeOf Tryz.f91) (by kernel_rfl) (by kernel_rfl) (p := N5) (by kernel_rfl) (by rw [Tryz.ntmps91]; simp) (by
  have e : HU a0 a1 w K = vc P N5 (codeOf Tryz.f91) (env0 [a0, a1]) w (retX P Tryz.f91.results.toList K) := by kernel_rfl
  exact e ▸ h)
def Ih (a0 a1 a2 : Value) (w : World) (K : Value → World → Prop) : Prop :=
 bx P 68 a1 w fun b c =>
 bx P 68 a2 c fun d e =>
 alc P 68 e fun g h =>
 bld P 68 [] h fun i =>
 alc P 68 h fun j k =>
 sto P 68 j i k fun l =>
 ∃ m : Value → World → Prop, (∀ (n : Value) (_ : Env) (o : World), m n o →
 una P .not n o fun p =>
 cnd p
 (bld P 68 [] o fun q =>
 sto P 68 g q o fun r =>
 ldc P 68 g r fun s =>
 K (.tuple #[s, (.int .i64 3)]) r)
 (ld P 68 j o fun t =>
 sto P 68 g t o fun u =>
 ldc P 68 g u fun v =>
 K (.tuple #[v, (.int .i64 0)]) u)) ∧
 (bin P .eql 9 false true a0 (.string ⟨#[43]⟩) l fun x =>
 cnd x
 (ld P 68 b l fun y =>
 ld P 68 d l fun z =>
 call P CU [y, z] l fun A B =>
 xtr P A 0 B fun C =>
 xtr P A 1 B fun D =>
 sto P 68 j C B fun E =>
 m D E)
 (bin P .eql 9 false true a0 (.string ⟨#[45]⟩) l fun F =>
 cnd F
 (ld P 68 b l fun G =>
 ld P 68 d l fun H =>
 call P Fj [H] l fun L M =>
 Ext l M ∧ call P CU [G, L] M fun N O =>
 xtr P N 0 O fun Q =>
 xtr P N 1 O fun R =>
 sto P 68 j Q O fun S =>
 (xtr P N 1 S fun z => z = R) ∧ m R S)
 (bin P .eql 9 false true a0 (.string ⟨#[42]⟩) l fun T =>
 cnd T
 (ld P 68 b l fun U =>
 ld P 68 d l fun V =>
 call P EP [U, V] l fun W X =>
 xtr P W 0 X fun Y =>
 xtr P W 1 X fun Z =>
 sto P 68 j Y X fun b0 =>
 m Z b0)
 (bin P .eql 9 false true a0 (.string ⟨#[47]⟩) l fun c0 =>
 cnd c0
 (fda P 68 d 0 l fun d0 =>
 ld P 66 d0 l fun e0 =>
 bin P .eql 66 false true e0 (.float .f32 0) l fun g0 =>
 cnd g0
 (bld P 68 [] l fun h0 =>
 sto P 68 g h0 l fun i0 =>
 ldc P 68 g i0 fun j0 =>
 K (.tuple #[j0, (.int .i64 5)]) i0)
 (ld P 68 b l fun k0 =>
 ld P 68 d l fun l0 =>
 call P Lk [k0, l0] l fun m0 n0 =>
 xtr P m0 0 n0 fun o0 =>
 xtr P m0 1 n0 fun p0 =>
 sto P 68 j o0 n0 fun q0 =>
 m p0 q0))
 (ld P 68 b l fun r0 =>
 ld P 68 d l fun s0 =>
 call P Ex [r0] l fun t0 u0 =>
 Ext l u0 ∧ call P Ex [s0] u0 fun v0 x0 =>
 call P Ff [t0, v0] x0 fun y0 z0 =>
 bin P .eql 9 false true a0 (.string ⟨#[109, 105, 110]⟩) z0 fun A0 =>
 ∃ B0 : Value → World → Prop, (∀ (C0 : Value) (_ : Env) (D0 : World), B0 C0 D0 →
 pick A0 C0 (.bool false) fun E0 =>
 ∃ F0 : Value → World → Prop, (∀ (G0 : Value) (_ : Env) (H0 : World), F0 G0 H0 →
 ∃ L0 : Value → World → Prop, (∀ (M0 : Value) (_ : Env) (N0 : World), L0 M0 N0 →
 ∃ O0 : Value → World → Prop, (∀ (Q0 : Value) (_ : Env) (R0 : World), O0 Q0 R0 →
 pick E0 (.bool true) Q0 fun S0 =>
 cnd S0
 (ld P 68 d R0 fun T0 =>
 sto P 68 g T0 R0 fun U0 =>
 ldc P 68 g U0 fun V0 =>
 K (.tuple #[V0, (.int .i64 0)]) U0)
 (ld P 68 b R0 fun W0 =>
 sto P 68 g W0 R0 fun X0 =>
 ldc P 68 g X0 fun Y0 =>
 K (.tuple #[Y0, (.int .i64 0)]) X0)) ∧
 grd E0 false
 (pick G0 M0 (.bool false) fun Z0 =>
 O0 Z0 N0)
 (O0 undef N0)) ∧
 grd G0 true
 (bin P .lss 2 false true y0 (.int .i64 0) H0 fun b1 =>
 L0 b1 H0)
 (L0 undef H0)) ∧
 grd E0 false
 (bin P .eql 9 false true a0 (.string ⟨#[109, 97, 120]⟩) D0 fun c1 =>
 F0 c1 D0)
 (F0 undef D0)) ∧
 grd A0 true
 (bin P .gtr 2 false true y0 (.int .i64 0) z0 fun d1 =>
 B0 d1 z0)
 (B0 undef z0))))))
def Ny : Plan := (.seq rg28 (.seq rg34 (.cut [9] 2361183241434822604416 (.seq rg3 (.blk (.seq rg0 (.cond rg46 (.seq rg0 (.cond (.reg [.op (0, 0, false), .op (1, 0, false), .op (2, 2, true), .op (3, 2, false), .op (4, 0, false), .op (5, 0, false), .op (6, 0, false), .op (7, 66, false), .op (8, 0, false)]) (.seq rg0 (.cond rg46 (.seq rg0 (.cond (.seq (.seq rg1 (.cond (.seq rg2 .leaf) .leaf)) rg46) (.seq (.reg [.op (0, 0, false), .op (2, 0, false), .op (1, 2, true), .op (3, 2, false), .op (4, 2, false), .op (5, 0, false)]) (.seq (.seq (.reg [.op (0, 0, false), .op (1, 0, false), .op (2, 0, false), .grp 2 true [(3, 0, false), (4, 0, false)] [22] 6291456, .op (5, 0, false), .op (6, 0, false), .grp 6 false [(7, 0, false), (8, 0, false), (9, 0, false)] [27] 234881024, .grp 9 true [(10, 0, false), (11, 0, false)] [29] 805306368, .grp 6 false [(12, 0, false)] [30] 1073741824, .op (13, 0, false)]) (.cond (.seq rg2 .leaf) .leaf)) (.seq rg2 .leaf))))))))))))) (.seq (.seq rg0 (.cond (.seq rg2 .leaf) .leaf)) (.seq rg2 .leaf)))))
theorem UO {a0 a1 a2 : Value} {w : World} {K : Value → World → Prop} (h : Ih a0 a1 a2 w K) : call P Fe [a0, a1, a2] w K :=
 Aa mixed Tryz.func92 (c := codeOf Tryz.f92) (by kernel_rfl) (by kernel_rfl) (p := Ny) (by kernel_rfl) (by rw [Tryz.ntmps92]; simp) (by
  have e : Ih a0 a1 a2 w K = vc P Ny (codeOf Tryz.f92) (env0 [a0, a1, a2]) w (retX P Tryz.f92.results.toList K) := by kernel_rfl
  exact e ▸ h)
def Jy (a0 : Value) (w : World) (K : Value → World → Prop) : Prop :=
 alc P 27 w fun b c =>
 call P HB [a0] c fun d e =>
 alc P 27 e fun g h =>
 sto P 27 g d h fun i =>
 call P Am [a0, (.int .i64 40)] i fun j k =>
 bin P .eql 2 false true j (.int .i64 0) k fun l =>
 cnd l
 (fda P 27 g 0 k fun m =>
 ld P 22 m k fun n =>
 bsl P 22 1 [(0, (.string ⟨#[120]⟩))] k fun o p =>
 bl2 P .append #[22, 22] 22 [n, o] p fun q r =>
 fda P 27 g 0 r fun s =>
 sto P 22 s q r fun t =>
 ld P 27 g t fun u =>
 sto P 27 b u t fun v =>
 ldc P 27 b v fun x =>
 K x v)
 (bin P .eql 2 false true j (.int .i64 1) k fun y =>
 cnd y
 (∃ z : World → Prop, (∀ (_ : Env) (A : World), z A →
 ld P 27 g A fun B =>
 sto P 27 b B A fun C =>
 ldc P 27 b C fun D =>
 K D C) ∧
 (fda P 27 g 0 k fun E =>
 ld P 22 E k fun F =>
 fda P 27 g 0 k fun G =>
 ld P 22 G k fun H =>
 bl0 P .len #[22] 3 [H] k fun L =>
 (call P Am [a0, L] k fun M N =>
 (fda P 27 g 0 N fun z => z = E) ∧ (ld P 22 E N fun z => z = F) ∧ (bsl P 22 5 [(0, (.string ⟨#[43]⟩)), (1, (.string ⟨#[]⟩)), (2, (.string ⟨#[112, 105]⟩)), (3, (.string ⟨#[50, 112, 48]⟩)), (4, (.string ⟨#[49, 54, 55, 55, 55, 50, 49, 55, 112, 48]⟩))] N fun O Q =>
 Ext N Q ∧ call P Am [a0, (.int .i64 5)] Q fun R S =>
 (fda P 27 g 0 S fun z => z = E) ∧ (ld P 22 E S fun z => z = F) ∧ ixa P 22 O R S fun T =>
 ld P 9 T S fun U =>
 ixa P 22 F M S fun V =>
 sto P 9 V U S fun W =>
 z W) ∧
 (call P Am [a0, (.int .i64 5)] N fun X Y =>
 (fda P 27 g 0 Y fun z => z = E) ∧ (ld P 22 E Y fun z => z = F) ∧ bsl P 22 5 [(0, (.string ⟨#[43]⟩)), (1, (.string ⟨#[]⟩)), (2, (.string ⟨#[112, 105]⟩)), (3, (.string ⟨#[50, 112, 48]⟩)), (4, (.string ⟨#[49, 54, 55, 55, 55, 50, 49, 55, 112, 48]⟩))] Y fun Z b0 =>
 Ext Y b0 ∧ ixa P 22 Z X b0 fun c0 =>
 ld P 9 c0 b0 fun d0 =>
 ixa P 22 F M b0 fun e0 =>
 sto P 9 e0 d0 b0 fun g0 =>
 z g0)) ∧
 (bsl P 22 5 [(0, (.string ⟨#[43]⟩)), (1, (.string ⟨#[]⟩)), (2, (.string ⟨#[112, 105]⟩)), (3, (.string ⟨#[50, 112, 48]⟩)), (4, (.string ⟨#[49, 54, 55, 55, 55, 50, 49, 55, 112, 48]⟩))] k fun h0 i0 =>
 Ext k i0 ∧ call P Am [a0, L] i0 fun j0 k0 =>
 (fda P 27 g 0 k0 fun z => z = E) ∧ (ld P 22 E k0 fun z => z = F) ∧ call P Am [a0, (.int .i64 5)] k0 fun l0 m0 =>
 (fda P 27 g 0 m0 fun z => z = E) ∧ (ld P 22 E m0 fun z => z = F) ∧ ixa P 22 h0 l0 m0 fun n0 =>
 ld P 9 n0 m0 fun o0 =>
 ixa P 22 F j0 m0 fun p0 =>
 sto P 9 p0 o0 m0 fun q0 =>
 z q0)))
 (bin P .eql 2 false true j (.int .i64 2) k fun r0 =>
 cnd r0
 (fda P 27 g 0 k fun s0 =>
 sto P 22 s0 (.slice none 0 0) k fun t0 =>
 ld P 27 g t0 fun u0 =>
 sto P 27 b u0 t0 fun v0 =>
 ldc P 27 b v0 fun x0 =>
 K x0 v0)
 (ld P 27 g k fun y0 =>
 sto P 27 b y0 k fun z0 =>
 ldc P 27 b z0 fun A0 =>
 K A0 z0)))
def PE : Plan := (.seq rg55 (.seq rg41 (.seq (.seq rg31 (.blk (.seq rg0 (.cond (.reg [.op (0, 0, false), .op (1, 0, false), .op (2, 2, false), .op (3, 2, false), .op (4, 0, false), .op (5, 2, false)]) (.seq rg0 (.cond (.tree [] 1073610752 (.op (0, 0, false) (.op (1, 0, false) (.op (2, 0, false) (.op (3, 0, false) (.op (4, 0, false) (.op (5, 0, false) (.op (8, 0, false) (.fork (6, 5, false) (.fork (7, 2, true) (.fork (9, 5, false) (.op (10, 0, false) (.op (11, 0, false) (.op (12, 0, false) (.fork (13, 2, false) .done .stop)))) .stop) (.fork (9, 5, false) (.fork (7, 2, true) (.op (10, 0, false) (.op (11, 0, false) (.op (12, 0, false) (.fork (13, 2, false) .done .stop)))) .stop) .stop)) (.fork (7, 2, true) (.fork (6, 5, false) (.fork (9, 5, false) (.op (10, 0, false) (.op (11, 0, false) (.op (12, 0, false) (.fork (13, 2, false) .done .stop)))) .stop) .stop) .stop)))))))))) (.seq rg0 (.cond rg31 .leaf)))))))) (.seq rg31 .leaf))))
theorem X9 {a0 : Value} {w : World} {K : Value → World → Prop} (h : Jy a0 w K) : call P Ds [a0] w K :=
 Aa mixed Tryz.func97 (c := codeOf Tryz.f97) (by kernel_rfl) (by kernel_rfl) (p := PE) (by kernel_rfl) (by rw [Tryz.ntmps97]; simp) (by
  have e : Jy a0 w K = vc P PE (codeOf Tryz.f97) (env0 [a0]) w (retX P Tryz.f97.results.toList K) := by kernel_rfl
  exact e ▸ h)
def L8 (a0 : Value) (w : World) (K : Value → World → Prop) : Prop :=
 alc P 27 w fun b c =>
 bsl P 53 4 [(0, (.int .i64 1)), (1, (.int .i64 1)), (2, (.int .i64 2)), (3, (.int .i64 3))] c fun d e =>
 call P Ca [a0, d] e fun g h =>
 call P Am [a0, (.int .i64 2)] h fun i j =>
 bin P .eql 2 false true i (.int .i64 0) j fun k =>
 call P HN [a0, g, k] j fun l m =>
 sto P 27 b l m fun n =>
 ldc P 27 b n fun o =>
 K o n
def Qr : Plan := (.seq rg55 (.seq (.reg [.op (0, 0, false), .op (1, 0, false), .op (2, 2, false), .op (3, 2, false), .op (4, 0, false), .op (5, 2, false), .op (6, 0, false), .op (7, 2, false), .op (8, 2, false)]) .leaf))
theorem Yx {a0 : Value} {w : World} {K : Value → World → Prop} (h : L8 a0 w K) : call P HB [a0] w K :=
 Aa mixed Tryz.func99 (c := codeOf Tryz.f99) (by kernel_rfl) (by kernel_rfl) (p := Qr) (by kernel_rfl) (by rw [Tryz.ntmps99]; simp) (by
  have e : L8 a0 w K = vc P Qr (codeOf Tryz.f99) (env0 [a0]) w (retX P Tryz.f99.results.toList K) := by kernel_rfl
  exact e ▸ h)
def Jr (a0 : Value) (w : World) (K : Value → World → Prop) : Prop :=
 alc P 27 w fun b c =>
 call P Dd [a0] c fun d e =>
 call P Ds [d] e fun g h =>
 alc P 27 h fun i j =>
 sto P 27 i g j fun k =>
 ∃ l : World → Prop, (∀ (_ : Env) (m : World), l m →
 ld P 27 i m fun n =>
 ld P 27 i m fun o =>
 call P GY [d, o] m fun p q =>
 (ld P 27 i q fun z => z = n) ∧ sto P 27 b n q fun r =>
 ldc P 27 b r fun s =>
 K (.tuple #[s, p]) r) ∧
 (call P Am [d, (.int .i64 4)] k fun t u =>
 bin P .gtr 2 false true t (.int .i64 0) u fun v =>
 cnd v
 (bsl P 53 3 [(0, (.int .i64 1)), (1, (.int .i64 2)), (2, (.int .i64 3))] u fun x y =>
 call P Ca [d, x] y fun z A =>
 call P HN [d, z, (.bool true)] A fun B C =>
 sto P 27 i B C fun D =>
 l D)
 (l u))
def Pq : Plan := (.seq rg6 (.seq rg2 (.seq rg41 (.cut [] 261120 (.seq rg2 (.cond (.reg [.op (0, 0, false), .op (1, 0, false), .op (2, 2, false), .op (3, 2, false), .op (4, 2, false), .op (5, 2, false)]) .leaf)) (.seq (.reg [.op (0, 0, false), .op (1, 0, false), .op (2, 0, false), .op (3, 3, false), .op (4, 2, false), .op (5, 0, false)]) .leaf)))))
theorem XH {a0 : Value} {w : World} {K : Value → World → Prop} (h : Jr a0 w K) : call P JA [a0] w K :=
 Aa mixed Tryz.func102 (c := codeOf Tryz.f102) (by kernel_rfl) (by kernel_rfl) (p := Pq) (by kernel_rfl) (by rw [Tryz.ntmps102]; simp) (by
  have e : Jr a0 w K = vc P Pq (codeOf Tryz.f102) (env0 [a0]) w (retX P Tryz.f102.results.toList K) := by kernel_rfl
  exact e ▸ h)
def Hj (a0 : Value) (w : World) (K : Value → World → Prop) : Prop :=
 bin P .eql 9 false true a0 (.string ⟨#[120]⟩) w fun b =>
 cnd b
 (K (.int .i64 0) w)
 (bin P .eql 9 false true a0 (.string ⟨#[121]⟩) w fun c =>
 cnd c
 (K (.int .i64 1) w)
 (bin P .eql 9 false true a0 (.string ⟨#[122]⟩) w fun d =>
 cnd d
 (K (.int .i64 2) w)
 (K (.int .i64 (-1)) w)))
def LU : Plan := (.seq rg3 (.seq (.seq rg3 (.blk (.seq rg0 (.cond (.seq rg3 .leaf) (.seq rg0 (.cond (.seq rg3 .leaf) (.seq rg0 (.cond (.seq rg3 .leaf) .leaf)))))))) (.seq rg3 .leaf)))
theorem Td {a0 : Value} {w : World} {K : Value → World → Prop} (h : Hj a0 w K) : call P ED [a0] w K :=
 Aa mixed Tryz.func104 (c := codeOf Tryz.f104) (by kernel_rfl) (by kernel_rfl) (p := LU) (by kernel_rfl) (by rw [Tryz.ntmps104]; simp) (by
  have e : Hj a0 w K = vc P LU (codeOf Tryz.f104) (env0 [a0]) w (retX P Tryz.f104.results.toList K) := by kernel_rfl
  exact e ▸ h)
def LD (a0 : Value) (w : World) (K : Value → World → Prop) : Prop :=
 bx P 68 a0 w fun b c =>
 alc P 68 c fun d e =>
 fda P 68 b 0 e fun g =>
 ld P 66 g e fun h =>
 fda P 68 b 1 e fun i =>
 ld P 66 i e fun j =>
 call P Bn [h] e fun k l =>
 Ext e l ∧ call P Bn [j] l fun m n =>
 bld P 68 [(0, k), (1, m)] n fun o =>
 sto P 68 d o n fun p =>
 ldc P 68 d p fun q =>
 K q p
def Qs : Plan := (.seq rg38 (.seq (.reg [.op (0, 0, false), .op (1, 0, false), .op (3, 0, false), .op (4, 0, false), .op (2, 2, true), .op (5, 2, false), .op (6, 0, false), .op (7, 2, false)]) .leaf))
theorem Yp {a0 : Value} {w : World} {K : Value → World → Prop} (h : LD a0 w K) : call P Fj [a0] w K :=
 Aa mixed Tryz.func142 (c := codeOf Tryz.f142) (by kernel_rfl) (by kernel_rfl) (p := Qs) (by kernel_rfl) (by rw [Tryz.ntmps142]; simp) (by
  have e : LD a0 w K = vc P Qs (codeOf Tryz.f142) (env0 [a0]) w (retX P Tryz.f142.results.toList K) := by kernel_rfl
  exact e ▸ h)
def Lf (a0 a1 a2 : Value) (w : World) (K : Value → World → Prop) : Prop :=
 alc P 27 w fun b c =>
 bsl P 22 0 [] c fun d e =>
 call P Am [a0, (.int .i64 6)] e fun g h =>
 call P Am [a0, (.int .i64 12)] h fun i j =>
 call P Am [a0, (.int .i64 30)] j fun k l =>
 bsl P 53 3 [(0, g), (1, i), (2, k)] l fun m n =>
 call P Ca [a0, m] n fun o p =>
 bin P .add 2 true false (.int .i64 1) o p fun q =>
 ∃ r : Nat → Value → Value → Value → World → Prop, (∃ s, r s d (.int .i64 0) q p) ∧ ∀ (t : Nat) (u : Value) (v : Value) (x : Value) (_ : Env) (y : World), r t u v x y →
 bin P .gtr 2 false true x (.int .i64 0) y fun z =>
 ∃ A : Value → World → Prop, (∀ (B : Value) (_ : Env) (C : World), A B C →
 pick z (.bool true) B fun D =>
 cnd D
 (call P Am [a0, (.int .i64 3)] C fun E F =>
 ∃ G : Value → Value → World → Prop, (∀ (H : Value) (L : Value) (_ : Env) (M : World), G H L M →
 bl0 P .len #[22] 3 [H] M fun N =>
 bin P .geq 3 false true N (.int .i64 60) M fun O =>
 cnd O
 (bsl P 22 4 [(0, (.string ⟨#[120]⟩)), (1, (.string ⟨#[115, 113, 114]⟩)), (2, (.string ⟨#[49, 112, 48]⟩)), (3, (.string ⟨#[45]⟩))] M fun Q R =>
 bld P 27 [(0, Q)] R fun S =>
 sto P 27 b S R fun T =>
 ldc P 27 b T fun U =>
 K U T)
 (bin P .sub 2 false true x (.int .i64 1) M fun V =>
 ∃ W, W < t ∧ r W H L V M)) ∧
 (bin P .eql 2 false true v (.int .i64 0) F fun X =>
 ∃ Y : Value → World → Prop, (∀ (Z : Value) (_ : Env) (b0 : World), Y Z b0 →
 ∃ c0 : Value → World → Prop, (∀ (d0 : Value) (_ : Env) (e0 : World), c0 d0 e0 →
 ∃ g0 : Value → World → Prop, (∀ (h0 : Value) (_ : Env) (i0 : World), g0 h0 i0 →
 ∃ j0 : Value → World → Prop, (∀ (k0 : Value) (_ : Env) (l0 : World), j0 k0 l0 →
 ∃ m0 : Value → World → Prop, (∀ (n0 : Value) (_ : Env) (o0 : World), m0 n0 o0 →
 pick X (.bool true) n0 fun p0 =>
 cnd p0
 (bsl P 22 3 [(0, (.string ⟨#[120]⟩)), (1, (.string ⟨#[121]⟩)), (2, (.string ⟨#[122]⟩))] o0 fun q0 r0 =>
 bl0 P .max #[2, 2] 2 [a1, (.int .i64 1)] r0 fun s0 =>
 call P Am [a0, s0] r0 fun t0 u0 =>
 ixa P 22 q0 t0 u0 fun v0 =>
 ld P 9 v0 u0 fun x0 =>
 ∃ y0 : Value → World → Prop, (∀ (z0 : Value) (_ : Env) (A0 : World), y0 z0 A0 →
 bsl P 22 1 [(0, z0)] A0 fun B0 C0 =>
 bl2 P .append #[22, 22] 22 [u, B0] C0 fun D0 E0 =>
 bin P .add 2 false true v (.int .i64 1) E0 fun F0 =>
 G D0 F0 E0) ∧
 (bin P .eql 2 false true a1 (.int .i64 0) u0 fun G0 =>
 ∃ H0 : Value → World → Prop, (∀ (L0 : Value) (_ : Env) (M0 : World), H0 L0 M0 →
 pick G0 (.bool true) L0 fun N0 =>
 cnd N0
 (call P Am [a0, (.int .i64 2001)] M0 fun O0 Q0 =>
 bin P .sub 2 false true O0 (.int .i64 1000) Q0 fun R0 =>
 cnv P 2 66 R0 Q0 fun S0 =>
 rbin P .quo 66 false true S0 (.float .f32 1115684864) Q0 fun T0 =>
 call P HA [a0] Q0 fun U0 V0 =>
 bsl P 52 6 [(0, (.float .f32 1065353216)), (1, (.float .f32 1073741824)), (2, (.float .f32 1056964608)), (3, (.float .f32 3225419776)), (4, T0), (5, U0)] V0 fun W0 X0 =>
 call P IB [a0, W0] X0 fun Y0 Z0 =>
 call P BW [Y0] Z0 fun b1 c1 =>
 call P La [b1] c1 fun d1 e1 =>
 y0 d1 e1)
 (y0 x0 M0)) ∧
 grd G0 false
 (call P Am [a0, (.int .i64 3)] u0 fun g1 h1 =>
 bin P .eql 2 false true g1 (.int .i64 0) h1 fun i1 =>
 H0 i1 h1)
 (H0 undef u0)))
 (bin P .geq 2 false true v (.int .i64 2) o0 fun j1 =>
 ∃ k1 : Value → World → Prop, (∀ (l1 : Value) (_ : Env) (m1 : World), k1 l1 m1 →
 ∃ n1 : Value → World → Prop, (∀ (o1 : Value) (_ : Env) (p1 : World), n1 o1 p1 →
 ∃ q1 : Value → World → Prop, (∀ (r1 : Value) (_ : Env) (s1 : World), q1 r1 s1 →
 pick j1 r1 (.bool false) fun t1 =>
 cnd t1
 (bsl P 22 10 [(0, (.string ⟨#[43]⟩)), (1, (.string ⟨#[45]⟩)), (2, (.string ⟨#[42]⟩)), (3, (.string ⟨#[43]⟩)), (4, (.string ⟨#[42]⟩)), (5, (.string ⟨#[45]⟩)), (6, (.string ⟨#[109, 105, 110]⟩)), (7, (.string ⟨#[109, 97, 120]⟩)), (8, (.string ⟨#[47]⟩)), (9, (.string ⟨#[47]⟩))] s1 fun u1 v1 =>
 ∃ x1 : Value → World → Prop, (∀ (y1 : Value) (_ : Env) (z1 : World), x1 y1 z1 →
 bl0 P .len #[22] 3 [y1] z1 fun A1 =>
 call P Am [a0, A1] z1 fun B1 C1 =>
 ixa P 22 y1 B1 C1 fun D1 =>
 ld P 9 D1 C1 fun E1 =>
 bsl P 22 1 [(0, E1)] C1 fun F1 G1 =>
 bl2 P .append #[22, 22] 22 [u, F1] G1 fun H1 L1 =>
 bin P .sub 2 false true v (.int .i64 1) L1 fun M1 =>
 G H1 M1 L1) ∧
 (cnd a2
 (sli P 22 u1 none (some (.int .i64 8)) none v1 fun N1 =>
 x1 N1 v1)
 (x1 u1 v1)))
 (bsl P 22 8 [(0, (.string ⟨#[110, 101, 103]⟩)), (1, (.string ⟨#[115, 113, 114]⟩)), (2, (.string ⟨#[97, 98, 115]⟩)), (3, (.string ⟨#[114, 111, 111, 116]⟩)), (4, (.string ⟨#[101, 120, 112]⟩)), (5, (.string ⟨#[108, 111, 103]⟩)), (6, (.string ⟨#[97, 116, 97, 110]⟩)), (7, (.string ⟨#[115, 105, 110]⟩))] s1 fun O1 Q1 =>
 ∃ R1 : Value → World → Prop, (∀ (S1 : Value) (_ : Env) (T1 : World), R1 S1 T1 →
 bl0 P .len #[22] 3 [S1] T1 fun U1 =>
 call P Am [a0, U1] T1 fun V1 W1 =>
 ixa P 22 S1 V1 W1 fun X1 =>
 ld P 9 X1 W1 fun Y1 =>
 bsl P 22 1 [(0, Y1)] W1 fun Z1 b2 =>
 bl2 P .append #[22, 22] 22 [u, Z1] b2 fun c2 d2 =>
 G c2 v d2) ∧
 (cnd a2
 (sli P 22 O1 none (some (.int .i64 3)) none Q1 fun e2 =>
 R1 e2 Q1)
 (R1 O1 Q1)))) ∧
 grd j1 true
 (pick l1 (.bool true) o1 fun g2 =>
 q1 g2 p1)
 (q1 undef p1)) ∧
 grd l1 false
 (bin P .eql 2 false true E (.int .i64 1) m1 fun h2 =>
 n1 h2 m1)
 (n1 undef m1)) ∧
 grd j1 true
 (bin P .leq 2 false true x (.int .i64 0) o0 fun i2 =>
 k1 i2 o0)
 (k1 undef o0))) ∧
 grd X false
 (pick h0 k0 (.bool false) fun j2 =>
 m0 j2 l0)
 (m0 undef l0)) ∧
 grd h0 true
 (bin P .eql 2 false true E (.int .i64 0) i0 fun k2 =>
 j0 k2 i0)
 (j0 undef i0)) ∧
 grd X false
 (pick Z d0 (.bool false) fun l2 =>
 g0 l2 e0)
 (g0 undef e0)) ∧
 grd Z true
 (bin P .gtr 2 false true x (.int .i64 0) b0 fun m2 =>
 c0 m2 b0)
 (c0 undef b0)) ∧
 grd X false
 (bin P .lss 2 false true v (.int .i64 6) F fun n2 =>
 Y n2 F)
 (Y undef F)))
 (bld P 27 [(0, u)] C fun o2 =>
 sto P 27 b o2 C fun p2 =>
 ldc P 27 b p2 fun q2 =>
 K q2 p2)) ∧
 grd z false
 (bin P .neq 2 false true v (.int .i64 1) y fun r2 =>
 A r2 y)
 (A undef y)
def Qj : Plan := (.seq rg55 (.seq rg22 (.seq (.seq (.reg [.op (0, 0, false), .op (1, 0, false), .op (2, 2, false), .op (3, 0, false), .op (4, 2, false), .op (5, 0, false), .op (6, 2, false), .op (7, 2, false), .op (8, 2, false), .op (9, 0, false), .op (10, 0, false)]) (.blk (.loop [7, 8, 9] 340282366920938463463374607431734673280 (.seq (.seq (.reg [.op (0, 0, false), .op (1, 0, false), .op (2, 0, false), .grp 2 false [(3, 0, false), (4, 0, false)] [29] 805306368, .op (5, 0, false)]) (.cond .leaf .leaf)) (.seq (.blk (.seq rg2 (.cut [7, 8] 10633823966279326983230456447883032960 (.blk (.seq (.reg [.op (0, 0, false), .op (1, 0, false), .op (2, 0, false), .grp 2 false [(3, 0, false), (4, 0, false), (5, 0, false)] [55] 63050394783186944, .grp 5 true [(6, 0, false), (7, 0, false)] [57] 216172782113783808, .grp 2 false [(8, 0, false), (9, 0, false)] [59] 864691128455135232, .grp 9 true [(10, 0, false), (11, 0, false)] [61] 3458764513820540928, .grp 2 false [(12, 0, false)] [62] 4611686018427387904, .op (13, 0, false), .op (14, 0, false)]) (.cond (.seq (.reg [.op (0, 2, false), .op (1, 0, false), .op (2, 0, false), .op (3, 0, false), .op (4, 2, false), .op (5, 0, false), .op (6, 0, false), .op (7, 0, false)]) (.cut [11] 1237937678102138840076519424 (.seq (.reg [.op (0, 0, false), .op (1, 0, false), .op (2, 0, false), .grp 2 false [(3, 0, false), (4, 2, false), (5, 0, false)] [76] 132226261520350065983488, .op (6, 0, false)]) (.cond (.reg [.op (0, 0, false), .op (1, 0, false), .op (2, 2, false), .op (3, 0, false), .op (4, 0, false), .op (5, 1, false), .op (6, 0, false), .op (7, 2, false), .op (8, 2, false), .op (9, 2, false), .op (10, 2, false), .op (11, 2, false), .op (12, 0, false)]) .leaf)) (.seq rg33 rg1))) (.seq (.reg [.op (0, 0, false), .op (1, 0, false), .op (2, 0, false), .grp 2 true [(3, 0, false), (4, 0, false), (5, 0, false)] [102] 8873554201597605810476922437632, .grp 5 false [(6, 0, false), (7, 0, false)] [104] 30423614405477505635920876929024, .grp 2 true [(8, 0, false)] [105] 40564819207303340847894502572032, .op (9, 0, false), .op (10, 0, false)]) (.cond (.seq rg6 (.cut [12] 2271629875608987087482092144037888 (.seq rg3 (.cond rg1 .leaf)) (.seq (.reg [.op (0, 0, false), .op (1, 0, false), .op (2, 0, false), .op (3, 0, false), .op (4, 0, false), .op (5, 2, false), .op (6, 0, false), .op (7, 0, false), .op (8, 2, false), .op (9, 2, false), .op (10, 0, false)]) rg1))) (.seq rg6 (.cut [13] 481036345344 (.seq rg3 (.cond rg1 .leaf)) (.reg [.op (0, 0, false), .op (1, 0, false), .op (2, 0, false), .op (3, 0, false), .op (4, 0, false), .op (5, 2, false), .op (6, 0, false), .op (7, 0, false), .op (8, 2, false), .op (9, 2, false), .op (10, 0, false)])))))))) (.seq rg1 (.cond (.seq (.reg [.op (0, 2, false), .op (1, 0, false), .op (2, 2, false)]) .leaf) .leaf))))) rg1))))) (.seq rg54 .leaf))))
theorem Yb {a0 a1 a2 : Value} {w : World} {K : Value → World → Prop} (h : Lf a0 a1 a2 w K) : call P HN [a0, a1, a2] w K :=
 Aa mixed Tryz.func154 (c := codeOf Tryz.f154) (by kernel_rfl) (by kernel_rfl) (p := Qj) (by kernel_rfl) (by rw [Tryz.ntmps154]; simp) (by
  have e : Lf a0 a1 a2 w K = vc P Qj (codeOf Tryz.f154) (env0 [a0, a1, a2]) w (retX P Tryz.f154.results.toList K) := by kernel_rfl
  exact e ▸ h)
def Hf (a0 a1 : Value) (w : World) (K : Value → World → Prop) : Prop :=
 bx P 27 a1 w fun b c =>
 bsl P 52 0 [] c fun d e =>
 ld P 27 b e fun g =>
 ld P 27 b e fun h =>
 call P Cx [g] e fun i j =>
 Ext e j ∧ call P Cx [h] j fun k l =>
 call P JJ [a0, (.int .i64 3)] l fun m n =>
 bsl P 53 5 [(0, i), (1, k), (2, (.int .i64 3)), (3, (.int .i64 3)), (4, m)] n fun o p =>
 call P Ca [a0, o] p fun q r =>
 ∃ s : Nat → Value → Value → World → Prop, (∃ t, s t d q r) ∧ ∀ (u : Nat) (v : Value) (x : Value) (_ : Env) (y : World), s u v x y →
 bin P .gtr 2 false true x (.int .i64 0) y fun z =>
 ∃ A : Value → World → Prop, (∀ (B : Value) (_ : Env) (C : World), A B C →
 pick z B (.bool false) fun D =>
 cnd D
 (call P Am [a0, (.int .i64 3)] C fun E F =>
 bin P .eql 2 false true E (.int .i64 0) F fun G =>
 cnd G
 (call P Jn [a0] F fun H L =>
 bsl P 52 1 [(0, H)] L fun M N =>
 bl2 P .append #[52, 52] 52 [v, M] N fun O Q =>
 bin P .sub 2 false true x (.int .i64 1) Q fun R =>
 ∃ S, S < u ∧ s S O R Q)
 (call P Am [a0, (.int .i64 401)] F fun T U =>
 bin P .sub 2 false true T (.int .i64 200) U fun V =>
 cnv P 2 66 V U fun W =>
 bsl P 53 4 [(0, (.int .i64 1)), (1, (.int .i64 8)), (2, (.int .i64 10)), (3, (.int .i64 64))] U fun X Y =>
 call P Ca [a0, X] Y fun Z b0 =>
 cnv P 2 66 Z b0 fun c0 =>
 rbin P .quo 66 false false W c0 b0 fun d0 =>
 bsl P 52 1 [(0, d0)] b0 fun e0 g0 =>
 bl2 P .append #[52, 52] 52 [v, e0] g0 fun h0 i0 =>
 bin P .sub 2 false true x (.int .i64 1) i0 fun j0 =>
 ∃ k0, k0 < u ∧ s k0 h0 j0 i0))
 (K v C)) ∧
 grd z true
 (bin P .lss 2 false true x (.int .i64 9) y fun l0 =>
 A l0 y)
 (A undef y)
def LV : Plan := (.seq rg6 (.seq rg6 (.seq (.seq (.reg [.op (0, 0, false), .op (1, 0, false), .op (3, 0, false), .op (5, 0, false), .op (2, 2, true), .op (4, 2, false), .op (6, 2, false), .op (7, 2, false), .op (8, 2, false), .op (9, 0, false)]) (.blk (.loop [5, 6] 35184371957856 (.seq (.seq (.reg [.op (0, 0, false), .op (1, 0, false), .op (2, 0, false), .grp 2 true [(3, 0, false), (4, 0, false)] [21] 3145728, .op (5, 0, false)]) (.cond .leaf .leaf)) (.seq (.blk (.seq rg2 (.cond (.reg [.op (0, 0, false), .op (1, 0, false), .op (2, 2, false), .op (3, 2, false), .op (4, 2, false), .op (5, 0, false)]) (.reg [.op (0, 0, false), .op (1, 0, false), .op (2, 2, false), .op (3, 0, false), .op (4, 0, false), .op (5, 0, false), .op (6, 2, false), .op (7, 2, false), .op (8, 0, false), .op (9, 1, false), .op (10, 2, false), .op (11, 2, false), .op (12, 0, false)])))) rg1))))) (.seq rg0 .leaf))))
theorem Uh {a0 a1 : Value} {w : World} {K : Value → World → Prop} (h : Hf a0 a1 w K) : call P GY [a0, a1] w K :=
 Aa mixed Tryz.func156 (c := codeOf Tryz.f156) (by kernel_rfl) (by kernel_rfl) (p := LV) (by kernel_rfl) (by rw [Tryz.ntmps156]; simp) (by
  have e : Hf a0 a1 w K = vc P LV (codeOf Tryz.f156) (env0 [a0, a1]) w (retX P Tryz.f156.results.toList K) := by kernel_rfl
  exact e ▸ h)
end


set_option maxRecDepth 20000
section
open Go Go.Vc
end


set_option maxRecDepth 20000
section
open Go Go.Vc
end


set_option maxRecDepth 20000
section
open Go Go.Vc
def MN (a0 : Value) (w : World) (K : Value → World → Prop) : Prop :=
 bx P 68 a0 w fun b c =>
 fda P 68 b 0 c fun d =>
 ld P 66 d c fun e =>
 fda P 68 b 1 c fun g =>
 ld P 66 g c fun h =>
 bsl P 52 2 [(0, e), (1, h)] c fun i j =>
 call P C9 [i] j fun k l =>
 ∃ m : Value → World → Prop, (∀ (n : Value) (_ : Env) (o : World), m n o →
 pick k n (.bool false) fun p =>
 K p o) ∧
 grd k true
 (fda P 68 b 0 l fun q =>
 ld P 66 q l fun r =>
 fda P 68 b 1 l fun s =>
 ld P 66 s l fun t =>
 rbin P .add 66 false false r t l fun u =>
 fda P 68 b 0 l fun v =>
 ld P 66 v l fun x =>
 bin P .eql 66 false false u x l fun y =>
 m y l)
 (m undef l)
def So : Plan := (.seq rg6 (.seq (.reg [.op (0, 0, false), .op (1, 0, false), .op (2, 0, false), .op (3, 0, false), .op (4, 2, false), .op (5, 2, false), .op (6, 0, false), .grp 6 true [(7, 0, false), (8, 0, false), (9, 0, false), (10, 0, false), (11, 1, false), (12, 0, false), (13, 0, false), (14, 0, false)] [17] 261120, .op (15, 0, false), .op (16, 0, false)]) .leaf))
theorem ZW {a0 : Value} {w : World} {K : Value → World → Prop} (h : MN a0 w K) : call P DB [a0] w K :=
 Aa mixed Tryz.func50 (c := codeOf Tryz.f50) (by kernel_rfl) (by kernel_rfl) (p := So) (by kernel_rfl) (by rw [Tryz.ntmps50]; simp) (by
  have e : MN a0 w K = vc P So (codeOf Tryz.f50) (env0 [a0]) w (retX P Tryz.f50.results.toList K) := by kernel_rfl
  exact e ▸ h)
def JG (a0 : Value) (w : World) (K : Value → World → Prop) : Prop :=
 bx P 68 a0 w fun b c =>
 alc P 68 c fun d e =>
 fda P 68 b 0 e fun g =>
 ld P 66 g e fun h =>
 una P .neg h e fun i =>
 fda P 68 b 1 e fun j =>
 ld P 66 j e fun k =>
 una P .neg k e fun l =>
 bld P 68 [(0, i), (1, l)] e fun m =>
 sto P 68 d m e fun n =>
 ldc P 68 d n fun o =>
 K o n
def Pv : Plan := (.seq rg38 (.seq rg23 .leaf))
theorem WY {a0 : Value} {w : World} {K : Value → World → Prop} (h : JG a0 w K) : call P CN [a0] w K :=
 Aa mixed Tryz.func148 (c := codeOf Tryz.f148) (by kernel_rfl) (by kernel_rfl) (p := Pv) (by kernel_rfl) (by rw [Tryz.ntmps148]; simp) (by
  have e : JG a0 w K = vc P Pv (codeOf Tryz.f148) (env0 [a0]) w (retX P Tryz.f148.results.toList K) := by kernel_rfl
  exact e ▸ h)
def Lc (a0 a1 : Value) (w : World) (K : Value → World → Prop) : Prop :=
 bx P 68 a0 w fun b c =>
 alc P 68 c fun d e =>
 una P .not a1 e fun g =>
 cnd g
 (bld P 68 [] e fun h =>
 sto P 68 d h e fun i =>
 ldc P 68 d i fun j =>
 K (.tuple #[j, (.int .i64 3)]) i)
 (ld P 68 b e fun k =>
 sto P 68 d k e fun l =>
 ldc P 68 d l fun m =>
 K (.tuple #[m, (.int .i64 0)]) l)
def QT : Plan := (.seq rg47 (.seq (.seq rg0 (.cond (.seq rg2 .leaf) .leaf)) (.seq rg2 .leaf)))
theorem XS {a0 a1 : Value} {w : World} {K : Value → World → Prop} (h : Lc a0 a1 w K) : call P CC [a0, a1] w K :=
 Aa mixed Tryz.func149 (c := codeOf Tryz.f149) (by kernel_rfl) (by kernel_rfl) (p := QT) (by kernel_rfl) (by rw [Tryz.ntmps149]; simp) (by
  have e : Lc a0 a1 w K = vc P QT (codeOf Tryz.f149) (env0 [a0, a1]) w (retX P Tryz.f149.results.toList K) := by kernel_rfl
  exact e ▸ h)
def Jd (a0 a1 : Value) (w : World) (K : Value → World → Prop) : Prop :=
 bx P 68 a0 w fun b c =>
 bx P 68 a1 c fun d e =>
 alc P 68 e fun g h =>
 fda P 68 b 0 h fun i =>
 ld P 66 i h fun j =>
 fda P 68 d 0 h fun k =>
 ld P 66 k h fun l =>
 call P Gn [j, l] h fun m n =>
 xtr P m 0 n fun o =>
 xtr P m 1 n fun p =>
 xtr P m 2 n fun q =>
 alc P 68 n fun r s =>
 sto P 68 r o s fun t =>
 una P .not p t fun u =>
 cnd u
 (bld P 68 [] t fun v =>
 sto P 68 g v t fun x =>
 ldc P 68 g x fun y =>
 K (.tuple #[y, (.bool false)]) x)
 (fda P 68 b 0 t fun z =>
 ld P 66 z t fun A =>
 fda P 68 d 1 t fun B =>
 ld P 66 B t fun C =>
 rbin P .mul 66 false false A C t fun D =>
 fda P 68 b 1 t fun E =>
 ld P 66 E t fun F =>
 fda P 68 d 0 t fun G =>
 ld P 66 G t fun H =>
 rbin P .mul 66 false false F H t fun L =>
 rbin P .add 66 false false D L t fun M =>
 fda P 68 r 1 t fun N =>
 ld P 66 N t fun O =>
 rbin P .add 66 false false O M t fun Q =>
 fda P 68 r 0 t fun R =>
 ld P 66 R t fun S =>
 call P Fp [S, Q] t fun T U =>
 xtr P T 0 U fun V =>
 xtr P T 1 U fun W =>
 alc P 68 U fun X Y =>
 sto P 68 X V Y fun Z =>
 bsl P 52 4 [(0, D), (1, L), (2, M), (3, Q)] Z fun b0 c0 =>
 call P C9 [b0] c0 fun d0 e0 =>
 una P .not d0 e0 fun g0 =>
 ∃ h0 : Value → World → Prop, (∀ (i0 : Value) (_ : Env) (j0 : World), h0 i0 j0 →
 pick g0 (.bool true) i0 fun k0 =>
 ∃ l0 : Value → World → Prop, (∀ (m0 : Value) (_ : Env) (n0 : World), l0 m0 n0 →
 pick k0 (.bool true) m0 fun o0 =>
 cnd o0
 (bld P 68 [] n0 fun p0 =>
 sto P 68 g p0 n0 fun q0 =>
 ldc P 68 g q0 fun r0 =>
 K (.tuple #[r0, (.bool false)]) q0)
 (ld P 68 X n0 fun s0 =>
 sto P 68 g s0 n0 fun t0 =>
 ldc P 68 g t0 fun u0 =>
 K (.tuple #[u0, (.bool true)]) t0)) ∧
 grd k0 false
 (ld P 68 X j0 fun v0 =>
 call P DB [v0] j0 fun x0 y0 =>
 una P .not x0 y0 fun z0 =>
 l0 z0 y0)
 (l0 undef j0)) ∧
 grd g0 false
 (una P .not W e0 fun A0 =>
 h0 A0 e0)
 (h0 undef e0))
def P7 : Plan := (.seq rg28 (.seq (.reg [.op (0, 0, false), .op (1, 0, false), .op (2, 0, false), .op (3, 0, false), .op (4, 2, false), .op (5, 0, false), .op (6, 0, false), .op (7, 0, false), .op (8, 0, false), .op (9, 2, false), .op (10, 2, false), .op (11, 0, false), .op (12, 0, false)]) (.seq (.seq rg0 (.cond (.seq rg2 .leaf) .leaf)) (.seq rg15 (.seq rg15 (.seq rg20 (.seq (.reg [.op (0, 0, false), .op (1, 0, false), .op (2, 0, false), .op (3, 1, false), .op (4, 0, false)]) (.seq rg17 (.seq (.seq (.reg [.op (0, 0, false), .op (1, 0, false), .op (2, 0, false), .op (3, 0, false), .op (4, 2, false), .op (5, 2, false), .op (6, 0, false), .op (7, 0, false), .grp 7 false [(8, 0, false), (9, 0, false)] [60] 1729382256910270464, .op (10, 0, false), .op (11, 0, false), .grp 11 false [(12, 0, false), (13, 2, false), (14, 0, false)] [65] 64563604257983430656, .op (15, 0, false)]) (.cond (.seq rg2 .leaf) .leaf)) (.seq rg2 .leaf))))))))))
theorem Xe {a0 a1 : Value} {w : World} {K : Value → World → Prop} (h : Jd a0 a1 w K) : call P Ew [a0, a1] w K :=
 Aa mixed Tryz.func150 (c := codeOf Tryz.f150) (by kernel_rfl) (by kernel_rfl) (p := P7) (by kernel_rfl) (by rw [Tryz.ntmps150]; simp) (by
  have e : Jd a0 a1 w K = vc P P7 (codeOf Tryz.f150) (env0 [a0, a1]) w (retX P Tryz.f150.results.toList K) := by kernel_rfl
  exact e ▸ h)
def IF (a0 : Value) (w : World) (K : Value → World → Prop) : Prop :=
 bx P 68 a0 w fun b c =>
 alc P 105 c fun d e =>
 fda P 68 b 0 e fun g =>
 ld P 66 g e fun h =>
 fda P 68 b 1 e fun i =>
 ld P 66 i e fun j =>
 call P C4 [h] e fun k l =>
 Ext e l ∧ call P C4 [j] l fun m n =>
 call P Ft [k, m] n fun o p =>
 sto P 105 d o p fun q =>
 ldc P 105 d q fun r =>
 K r q
def OV : Plan := (.seq rg38 (.seq (.reg [.op (0, 0, false), .op (1, 0, false), .op (3, 0, false), .op (4, 0, false), .op (2, 2, true), .op (5, 2, false), .op (6, 2, false), .op (7, 2, false)]) .leaf))
theorem VR {a0 : Value} {w : World} {K : Value → World → Prop} (h : IF a0 w K) : call P DU [a0] w K :=
 Aa mixed Tryz.func151 (c := codeOf Tryz.f151) (by kernel_rfl) (by kernel_rfl) (p := OV) (by kernel_rfl) (by rw [Tryz.ntmps151]; simp) (by
  have e : IF a0 w K = vc P OV (codeOf Tryz.f151) (env0 [a0]) w (retX P Tryz.f151.results.toList K) := by kernel_rfl
  exact e ▸ h)
def JU (a0 a1 : Value) (w : World) (K : Value → World → Prop) : Prop :=
 bx P 68 a0 w fun b c =>
 bx P 68 a1 c fun d e =>
 alc P 68 e fun g h =>
 fda P 68 b 0 h fun i =>
 ld P 66 i h fun j =>
 fda P 68 d 0 h fun k =>
 ld P 66 k h fun l =>
 call P Gw [j, l] h fun m n =>
 xtr P m 0 n fun o =>
 xtr P m 1 n fun p =>
 alc P 68 n fun q r =>
 sto P 68 q o r fun s =>
 fda P 68 b 1 s fun t =>
 ld P 66 t s fun u =>
 fda P 68 d 1 s fun v =>
 ld P 66 v s fun x =>
 call P Gw [u, x] s fun y z =>
 xtr P y 0 z fun A =>
 xtr P y 1 z fun B =>
 alc P 68 z fun C D =>
 sto P 68 C A D fun E =>
 una P .not p E fun F =>
 ∃ G : Value → World → Prop, (∀ (H : Value) (_ : Env) (L : World), G H L →
 pick F (.bool true) H fun M =>
 cnd M
 (bld P 68 [] L fun N =>
 sto P 68 g N L fun O =>
 ldc P 68 g O fun Q =>
 K (.tuple #[Q, (.bool false)]) O)
 (fda P 68 q 1 L fun R =>
 ld P 66 R L fun S =>
 fda P 68 C 0 L fun T =>
 ld P 66 T L fun U =>
 rbin P .add 66 false false S U L fun V =>
 fda P 68 q 0 L fun W =>
 ld P 66 W L fun X =>
 call P Fp [X, V] L fun Y Z =>
 xtr P Y 0 Z fun b0 =>
 xtr P Y 1 Z fun c0 =>
 alc P 68 Z fun d0 e0 =>
 sto P 68 d0 b0 e0 fun g0 =>
 fda P 68 C 1 g0 fun h0 =>
 ld P 66 h0 g0 fun i0 =>
 fda P 68 d0 1 g0 fun j0 =>
 ld P 66 j0 g0 fun k0 =>
 rbin P .add 66 false false i0 k0 g0 fun l0 =>
 fda P 68 d0 0 g0 fun m0 =>
 ld P 66 m0 g0 fun n0 =>
 call P Fp [n0, l0] g0 fun o0 p0 =>
 xtr P o0 0 p0 fun q0 =>
 xtr P o0 1 p0 fun r0 =>
 alc P 68 p0 fun s0 t0 =>
 sto P 68 s0 q0 t0 fun u0 =>
 bsl P 52 2 [(0, V), (1, l0)] u0 fun v0 x0 =>
 call P C9 [v0] x0 fun y0 z0 =>
 una P .not y0 z0 fun A0 =>
 ∃ B0 : Value → World → Prop, (∀ (C0 : Value) (_ : Env) (D0 : World), B0 C0 D0 →
 pick A0 (.bool true) C0 fun E0 =>
 ∃ F0 : Value → World → Prop, (∀ (G0 : Value) (_ : Env) (H0 : World), F0 G0 H0 →
 pick E0 (.bool true) G0 fun L0 =>
 ∃ M0 : Value → World → Prop, (∀ (N0 : Value) (_ : Env) (O0 : World), M0 N0 O0 →
 pick L0 (.bool true) N0 fun Q0 =>
 cnd Q0
 (bld P 68 [] O0 fun R0 =>
 sto P 68 g R0 O0 fun S0 =>
 ldc P 68 g S0 fun T0 =>
 K (.tuple #[T0, (.bool false)]) S0)
 (ld P 68 s0 O0 fun U0 =>
 sto P 68 g U0 O0 fun V0 =>
 ldc P 68 g V0 fun W0 =>
 K (.tuple #[W0, (.bool true)]) V0)) ∧
 grd L0 false
 (ld P 68 s0 H0 fun X0 =>
 call P DB [X0] H0 fun Y0 Z0 =>
 una P .not Y0 Z0 fun b1 =>
 M0 b1 Z0)
 (M0 undef H0)) ∧
 grd E0 false
 (una P .not r0 D0 fun c1 =>
 F0 c1 D0)
 (F0 undef D0)) ∧
 grd A0 false
 (una P .not c0 z0 fun d1 =>
 B0 d1 z0)
 (B0 undef z0))) ∧
 grd F false
 (una P .not B E fun e1 =>
 G e1 E)
 (G undef E)
def Ps : Plan := (.seq rg28 (.seq rg18 (.seq rg18 (.seq (.seq (.reg [.op (0, 0, false), .op (1, 0, false), .op (2, 0, false), .grp 2 false [(3, 0, false), (4, 0, false)] [36] 103079215104, .op (5, 0, false)]) (.cond (.seq rg2 .leaf) .leaf)) (.seq rg15 (.seq rg17 (.seq rg15 (.seq rg17 (.seq (.seq (.reg [.op (0, 0, false), .op (1, 0, false), .op (2, 2, false), .op (3, 2, false), .op (4, 0, false), .op (5, 0, false), .grp 5 false [(6, 0, false), (7, 0, false)] [70] 1770887431076116955136, .op (8, 0, false), .op (9, 0, false), .grp 9 false [(10, 0, false), (11, 0, false)] [74] 28334198897217871282176, .op (12, 0, false), .op (13, 0, false), .grp 13 false [(14, 0, false), (15, 2, false), (16, 0, false)] [79] 1057810092162800527867904, .op (17, 0, false)]) (.cond (.seq rg2 .leaf) .leaf)) (.seq rg2 .leaf))))))))))
theorem WS {a0 a1 : Value} {w : World} {K : Value → World → Prop} (h : JU a0 a1 w K) : call P CF [a0, a1] w K :=
 Aa mixed Tryz.func152 (c := codeOf Tryz.f152) (by kernel_rfl) (by kernel_rfl) (p := Ps) (by kernel_rfl) (by rw [Tryz.ntmps152]; simp) (by
  have e : JU a0 a1 w K = vc P Ps (codeOf Tryz.f152) (env0 [a0, a1]) w (retX P Tryz.f152.results.toList K) := by kernel_rfl
  exact e ▸ h)
def J0 (a0 a1 : Value) (w : World) (K : Value → World → Prop) : Prop :=
 bx P 68 a0 w fun b c =>
 bx P 68 a1 c fun d e =>
 alc P 68 e fun g h =>
 fda P 68 b 0 h fun i =>
 ld P 66 i h fun j =>
 fda P 68 d 0 h fun k =>
 ld P 66 k h fun l =>
 rbin P .quo 66 false false j l h fun m =>
 call P CP [m] h fun n o =>
 una P .not n o fun p =>
 cnd p
 (bld P 68 [] o fun q =>
 sto P 68 g q o fun r =>
 ldc P 68 g r fun s =>
 K (.tuple #[s, (.bool false)]) r)
 (ld P 68 d o fun t =>
 bld P 68 [(0, m)] o fun u =>
 call P Ew [t, u] o fun v x =>
 xtr P v 0 x fun y =>
 xtr P v 1 x fun z =>
 alc P 68 x fun A B =>
 sto P 68 A y B fun C =>
 una P .not z C fun D =>
 cnd D
 (bld P 68 [] C fun E =>
 sto P 68 g E C fun F =>
 ldc P 68 g F fun G =>
 K (.tuple #[G, (.bool false)]) F)
 (∃ H : Value → Value → World → Prop, (∀ (L : Value) (M : Value) (_ : Env) (N : World), H L M N →
 una P .not M N fun O =>
 cnd O
 (bld P 68 [] N fun Q =>
 sto P 68 g Q N fun R =>
 ldc P 68 g R fun S =>
 K (.tuple #[S, (.bool false)]) R)
 (fda P 68 L 0 N fun T =>
 ld P 66 T N fun U =>
 fda P 68 d 0 N fun V =>
 ld P 66 V N fun W =>
 rbin P .quo 66 false false U W N fun X =>
 call P CP [X] N fun Y Z =>
 una P .not Y Z fun b0 =>
 cnd b0
 (bld P 68 [] Z fun c0 =>
 sto P 68 g c0 Z fun d0 =>
 ldc P 68 g d0 fun e0 =>
 K (.tuple #[e0, (.bool false)]) d0)
 (call P Fp [m, X] Z fun g0 h0 =>
 xtr P g0 0 h0 fun i0 =>
 xtr P g0 1 h0 fun j0 =>
 alc P 68 h0 fun k0 l0 =>
 sto P 68 k0 i0 l0 fun m0 =>
 una P .not j0 m0 fun n0 =>
 ∃ o0 : Value → World → Prop, (∀ (p0 : Value) (_ : Env) (q0 : World), o0 p0 q0 →
 pick n0 (.bool true) p0 fun r0 =>
 cnd r0
 (bld P 68 [] q0 fun s0 =>
 sto P 68 g s0 q0 fun t0 =>
 ldc P 68 g t0 fun u0 =>
 K (.tuple #[u0, (.bool false)]) t0)
 (ld P 68 k0 q0 fun v0 =>
 sto P 68 g v0 q0 fun x0 =>
 ldc P 68 g x0 fun y0 =>
 K (.tuple #[y0, (.bool true)]) x0)) ∧
 grd n0 false
 (ld P 68 k0 m0 fun z0 =>
 call P DB [z0] m0 fun A0 B0 =>
 una P .not A0 B0 fun C0 =>
 o0 C0 B0)
 (o0 undef m0)))) ∧
 (ld P 68 b C fun D0 =>
 ld P 68 A C fun E0 =>
 (call P CN [E0] C fun F0 G0 =>
 Ext C G0 ∧ (call P CF [D0, F0] G0 fun H0 L0 =>
 xtr P H0 0 L0 fun M0 =>
 xtr P H0 1 L0 fun N0 =>
 alc P 68 L0 fun O0 Q0 =>
 Ext L0 Q0 ∧ sto P 68 O0 M0 Q0 fun R0 =>
 (xtr P H0 1 R0 fun z => z = N0) ∧ H O0 N0 R0) ∧
 (alc P 68 G0 fun S0 T0 =>
 Ext G0 T0 ∧ call P CF [D0, F0] T0 fun U0 V0 =>
 xtr P U0 0 V0 fun W0 =>
 xtr P U0 1 V0 fun X0 =>
 sto P 68 S0 W0 V0 fun Y0 =>
 (xtr P U0 1 Y0 fun z => z = X0) ∧ H S0 X0 Y0)) ∧
 (alc P 68 C fun Z0 b1 =>
 Ext C b1 ∧ call P CN [E0] b1 fun c1 d1 =>
 Ext b1 d1 ∧ call P CF [D0, c1] d1 fun e1 g1 =>
 xtr P e1 0 g1 fun h1 =>
 xtr P e1 1 g1 fun i1 =>
 sto P 68 Z0 h1 g1 fun j1 =>
 (xtr P e1 1 j1 fun z => z = i1) ∧ H Z0 i1 j1))))
def P2 : Plan := (.seq rg28 (.seq rg15 (.seq (.seq rg2 (.cond (.seq rg2 .leaf) .leaf)) (.seq rg17 (.seq (.seq rg0 (.cond (.seq rg2 .leaf) .leaf)) (.seq (.tree [9, 10] 1090921694720 (.op (0, 0, false) (.op (1, 0, false) (.fork (2, 2, true) (.fork (3, 2, false) (.op (4, 0, false) (.op (5, 0, false) (.op (6, 0, false) (.fork (7, 2, true) (.fork (8, 66, false) (.op (9, 0, false) .done) .stop) .stop)))) (.fork (7, 2, true) (.fork (3, 2, false) (.op (4, 0, false) (.op (5, 0, false) (.op (6, 0, false) (.fork (8, 66, false) (.op (9, 0, false) .done) .stop)))) .stop) .stop)) (.fork (7, 2, true) (.fork (2, 2, true) (.fork (3, 2, false) (.op (4, 0, false) (.op (5, 0, false) (.op (6, 0, false) (.fork (8, 66, false) (.op (9, 0, false) .done) .stop)))) .stop) .stop) .stop))))) (.seq (.seq rg0 (.cond (.seq rg2 .leaf) .leaf)) (.seq rg15 (.seq (.seq rg2 (.cond (.seq rg2 .leaf) .leaf)) (.seq rg32 (.seq (.seq (.reg [.op (0, 0, false), .op (1, 0, false), .op (2, 0, false), .grp 2 false [(3, 0, false), (4, 2, false), (5, 0, false)] [63] 16140901064495857664, .op (6, 0, false)]) (.cond (.seq rg2 .leaf) .leaf)) (.seq rg2 .leaf))))))))))))
theorem Xw {a0 a1 : Value} {w : World} {K : Value → World → Prop} (h : J0 a0 a1 w K) : call P Kb [a0, a1] w K :=
 Aa mixed Tryz.func153 (c := codeOf Tryz.f153) (by kernel_rfl) (by kernel_rfl) (p := P2) (by kernel_rfl) (by rw [Tryz.ntmps153]; simp) (by
  have e : J0 a0 a1 w K = vc P P2 (codeOf Tryz.f153) (env0 [a0, a1]) w (retX P Tryz.f153.results.toList K) := by kernel_rfl
  exact e ▸ h)
def Gi (a0 a1 : Value) (w : World) (K : Value → World → Prop) : Prop :=
 alc P 68 w fun b c =>
 rbin P .mul 66 false false a0 a1 c fun d =>
 call P CP [d] c fun e g =>
 una P .not e g fun h =>
 cnd h
 (bld P 68 [] g fun i =>
 sto P 68 b i g fun j =>
 ldc P 68 b j fun k =>
 K (.tuple #[k, (.bool false), (.bool false)]) j)
 (call P C4 [a0] g fun l m =>
 call P C4 [a1] m fun n o =>
 call P KQ [l, n] o fun p q =>
 call P LQ [p, d] q fun r s =>
 xtr P r 0 s fun t =>
 xtr P r 1 s fun u =>
 bld P 68 [(0, d), (1, t)] s fun v =>
 sto P 68 b v s fun x =>
 ldc P 68 b x fun y =>
 K (.tuple #[y, (.bool true), u]) x)
def Kn : Plan := (.seq rg22 (.seq rg20 (.seq (.seq rg2 (.cond (.seq rg14 .leaf) .leaf)) (.seq (.reg [.op (0, 0, false), .op (1, 2, false), .op (2, 0, false), .op (3, 2, false), .op (4, 2, false), .op (5, 0, false), .op (6, 2, false), .op (7, 0, false), .op (8, 0, false), .op (9, 0, false), .op (10, 0, false), .op (11, 0, false)]) (.seq rg49 .leaf)))))
theorem SH {a0 a1 : Value} {w : World} {K : Value → World → Prop} (h : Gi a0 a1 w K) : call P Gn [a0, a1] w K :=
 Aa mixed Tryz.func198 (c := codeOf Tryz.f198) (by kernel_rfl) (by kernel_rfl) (p := Kn) (by kernel_rfl) (by rw [Tryz.ntmps198]; simp) (by
  have e : Gi a0 a1 w K = vc P Kn (codeOf Tryz.f198) (env0 [a0, a1]) w (retX P Tryz.f198.results.toList K) := by kernel_rfl
  exact e ▸ h)
def Pc (a0 a1 : Value) (w : World) (K : Value → World → Prop) : Prop :=
 alc P 68 w fun b c =>
 rbin P .add 66 false false a0 a1 c fun d =>
 rbin P .sub 66 false false d a0 c fun e =>
 rbin P .sub 66 false false a1 e c fun g =>
 bld P 68 [(0, d), (1, g)] c fun h =>
 bsl P 52 3 [(0, d), (1, e), (2, g)] c fun i j =>
 call P C9 [i] j fun k l =>
 sto P 68 b h l fun m =>
 ldc P 68 b m fun n =>
 K (.tuple #[n, k]) m
def TH : Plan := (.seq rg6 (.seq rg20 (.seq rg20 (.seq rg20 (.seq (.reg [.op (0, 0, false), .op (1, 0, false), .op (2, 0, false), .op (3, 0, false), .op (4, 0, false), .op (5, 0, false), .op (6, 2, false), .op (7, 2, false), .op (8, 2, false), .op (9, 0, false)]) .leaf)))))
theorem AbT {a0 a1 : Value} {w : World} {K : Value → World → Prop} (h : Pc a0 a1 w K) : call P Fp [a0, a1] w K :=
 Aa mixed Tryz.func199 (c := codeOf Tryz.f199) (by kernel_rfl) (by kernel_rfl) (p := TH) (by kernel_rfl) (by rw [Tryz.ntmps199]; simp) (by
  have e : Pc a0 a1 w K = vc P TH (codeOf Tryz.f199) (env0 [a0, a1]) w (retX P Tryz.f199.results.toList K) := by kernel_rfl
  exact e ▸ h)
def JR (a0 a1 : Value) (w : World) (K : Value → World → Prop) : Prop :=
 alc P 68 w fun b c =>
 rbin P .add 66 false false a0 a1 c fun d =>
 call P CP [d] c fun e g =>
 una P .not e g fun h =>
 cnd h
 (bld P 68 [] g fun i =>
 sto P 68 b i g fun j =>
 ldc P 68 b j fun k =>
 K (.tuple #[k, (.bool false)]) j)
 (call P C4 [a0] g fun l m =>
 call P C4 [a1] m fun n o =>
 call P Ft [l, n] o fun p q =>
 call P LQ [p, d] q fun r s =>
 xtr P r 0 s fun t =>
 xtr P r 1 s fun u =>
 bld P 68 [(0, d), (1, t)] s fun v =>
 sto P 68 b v s fun x =>
 ldc P 68 b x fun y =>
 K (.tuple #[y, (.bool true)]) x)
def Py : Plan := (.seq rg6 (.seq rg20 (.seq (.seq rg2 (.cond (.seq rg2 .leaf) .leaf)) (.seq (.reg [.op (0, 0, false), .op (1, 2, false), .op (2, 0, false), .op (3, 2, false), .op (4, 2, false), .op (5, 0, false), .op (6, 2, false), .op (7, 0, false), .op (8, 0, false), .op (9, 0, false), .op (10, 0, false), .op (11, 0, false)]) (.seq rg21 .leaf)))))
theorem Xq {a0 a1 : Value} {w : World} {K : Value → World → Prop} (h : JR a0 a1 w K) : call P Gw [a0, a1] w K :=
 Aa mixed Tryz.func200 (c := codeOf Tryz.f200) (by kernel_rfl) (by kernel_rfl) (p := Py) (by kernel_rfl) (by rw [Tryz.ntmps200]; simp) (by
  have e : JR a0 a1 w K = vc P Py (codeOf Tryz.f200) (env0 [a0, a1]) w (retX P Tryz.f200.results.toList K) := by kernel_rfl
  exact e ▸ h)
def PS (a0 a1 : Value) (w : World) (K : Value → World → Prop) : Prop :=
 bx P 105 a0 w fun b c =>
 ld P 105 b c fun d =>
 call P C4 [a1] c fun e g =>
 Ext c g ∧ call P HM [d, e] g fun h i =>
 call P FL [h, (.int .i64 0)] i fun j k =>
 xtr P j 0 k fun l =>
 xtr P j 1 k fun m =>
 call P OT [l] k fun n o =>
 bin P .eql 2 false true m (.int .i64 0) o fun p =>
 K (.tuple #[n, p]) o
def UV : Plan := (.seq rg22 (.seq (.reg [.op (0, 0, false), .op (1, 0, false), .op (2, 2, true), .op (3, 2, false), .op (4, 2, false), .op (5, 0, false), .op (6, 0, false), .op (7, 0, false), .op (8, 0, false), .op (9, 0, false)]) (.seq rg42 .leaf)))
theorem Ac0 {a0 a1 : Value} {w : World} {K : Value → World → Prop} (h : PS a0 a1 w K) : call P LQ [a0, a1] w K :=
 Aa mixed Tryz.func240 (c := codeOf Tryz.f240) (by kernel_rfl) (by kernel_rfl) (p := UV) (by kernel_rfl) (by rw [Tryz.ntmps240]; simp) (by
  have e : PS a0 a1 w K = vc P UV (codeOf Tryz.f240) (env0 [a0, a1]) w (retX P Tryz.f240.results.toList K) := by kernel_rfl
  exact e ▸ h)
end


set_option maxRecDepth 20000
section
open Go Go.Vc
def J6 (a0 : Value) (w : World) (K : Value → World → Prop) : Prop :=
 bx P 68 a0 w fun b c =>
 alc P 57 c fun d e =>
 fda P 68 b 0 e fun g =>
 ld P 66 g e fun h =>
 fda P 68 b 1 e fun i =>
 ld P 66 i e fun j =>
 call P BW [h] e fun k l =>
 Ext e l ∧ call P BW [j] l fun m n =>
 call P FT [k, m] n fun o p =>
 sto P 57 d o p fun q =>
 ldc P 57 d q fun r =>
 K r q
def PI : Plan := (.seq rg38 (.seq (.reg [.op (0, 0, false), .op (1, 0, false), .op (3, 0, false), .op (4, 0, false), .op (2, 2, true), .op (5, 2, false), .op (6, 2, false), .op (7, 2, false)]) .leaf))
theorem Xa {a0 : Value} {w : World} {K : Value → World → Prop} (h : J6 a0 w K) : call P Ex [a0] w K :=
 Aa mixed Tryz.func143 (c := codeOf Tryz.f143) (by kernel_rfl) (by kernel_rfl) (p := PI) (by kernel_rfl) (by rw [Tryz.ntmps143]; simp) (by
  have e : J6 a0 w K = vc P PI (codeOf Tryz.f143) (env0 [a0]) w (retX P Tryz.f143.results.toList K) := by kernel_rfl
  exact e ▸ h)
def Kd (a0 a1 : Value) (w : World) (K : Value → World → Prop) : Prop :=
 bx P 68 a0 w fun b c =>
 bx P 68 a1 c fun d e =>
 alc P 68 e fun g h =>
 fda P 68 b 0 h fun i =>
 ld P 66 i h fun j =>
 fda P 68 d 0 h fun k =>
 ld P 66 k h fun l =>
 call P Ia [j, l] h fun m n =>
 xtr P m 0 n fun o =>
 xtr P m 1 n fun p =>
 xtr P m 2 n fun q =>
 alc P 68 n fun r s =>
 sto P 68 r o s fun t =>
 una P .not q t fun u =>
 cnd u
 (bld P 68 [] t fun v =>
 sto P 68 g v t fun x =>
 ldc P 68 g x fun y =>
 K (.tuple #[y, (.bool false)]) x)
 (fda P 68 b 0 t fun z =>
 ld P 66 z t fun A =>
 fda P 68 d 1 t fun B =>
 ld P 66 B t fun C =>
 fda P 68 b 1 t fun D =>
 ld P 66 D t fun E =>
 fda P 68 d 0 t fun F =>
 ld P 66 F t fun G =>
 rbin P .mul 66 false false A C t fun H =>
 rbin P .mul 66 false false E G t fun L =>
 rbin P .add 66 false false H L t fun M =>
 fda P 68 r 1 t fun N =>
 ld P 66 N t fun O =>
 rbin P .add 66 false false O M t fun Q =>
 fda P 68 r 0 t fun R =>
 ld P 66 R t fun S =>
 call P Dt [S, Q] t fun T U =>
 alc P 68 U fun V W =>
 sto P 68 V T W fun X =>
 ld P 68 V X fun Y =>
 call P AU [H] X fun Z b0 =>
 Ext X b0 ∧ ∃ c0 : Value → World → Prop, (∀ (d0 : Value) (_ : Env) (e0 : World), c0 d0 e0 →
 pick Z d0 (.bool false) fun g0 =>
 ∃ h0 : Value → World → Prop, (∀ (i0 : Value) (_ : Env) (j0 : World), h0 i0 j0 →
 pick g0 i0 (.bool false) fun k0 =>
 ∃ l0 : Value → World → Prop, (∀ (m0 : Value) (_ : Env) (n0 : World), l0 m0 n0 →
 pick k0 m0 (.bool false) fun o0 =>
 ∃ p0 : Value → World → Prop, (∀ (q0 : Value) (_ : Env) (r0 : World), p0 q0 r0 →
 pick o0 q0 (.bool false) fun s0 =>
 sto P 68 g Y r0 fun t0 =>
 (pick o0 q0 (.bool false) fun z => z = s0) ∧ ldc P 68 g t0 fun u0 =>
 K (.tuple #[u0, s0]) t0) ∧
 grd o0 true
 (ld P 68 V n0 fun v0 =>
 call P GQ [v0] n0 fun x0 y0 =>
 Ext n0 y0 ∧ p0 x0 y0)
 (p0 undef n0)) ∧
 grd k0 true
 (call P AU [Q] j0 fun z0 A0 =>
 Ext j0 A0 ∧ l0 z0 A0)
 (l0 undef j0)) ∧
 grd g0 true
 (call P AU [M] e0 fun B0 C0 =>
 Ext e0 C0 ∧ h0 B0 C0)
 (h0 undef e0)) ∧
 grd Z true
 (call P AU [L] b0 fun D0 E0 =>
 Ext b0 E0 ∧ c0 D0 E0)
 (c0 undef b0))
def P3 : Plan := (.seq rg28 (.seq (.reg [.op (0, 0, false), .op (1, 0, false), .op (2, 0, false), .op (3, 0, false), .op (4, 2, false), .op (5, 0, false), .op (6, 0, false), .op (7, 0, false), .op (8, 0, false), .op (9, 2, false), .op (10, 2, false), .op (11, 0, false), .op (12, 0, false)]) (.seq (.seq rg0 (.cond (.seq rg2 .leaf) .leaf)) (.seq (.reg [.op (0, 0, false), .op (1, 0, false), .op (2, 0, false), .op (3, 0, false), .op (5, 0, false), .op (6, 0, false), .op (7, 0, false), .op (8, 0, false), .op (4, 1, false), .op (10, 0, false), .op (9, 1, false), .op (11, 0, false)]) (.seq rg20 (.seq (.reg [.op (0, 0, false), .op (1, 0, false), .op (2, 0, false), .op (3, 1, false), .op (4, 0, false)]) (.seq rg51 (.seq (.reg [.op (0, 0, false), .op (1, 0, false), .op (2, 2, true), .op (3, 0, false), .grp 3 true [(4, 0, false), (5, 2, true)] [52] 6755399441055744, .op (6, 0, false), .op (7, 0, false), .grp 7 true [(8, 0, false), (9, 2, true)] [56] 108086391056891904, .op (10, 0, false), .op (11, 0, false), .grp 11 true [(12, 0, false), (13, 2, true)] [60] 1729382256910270464, .op (14, 0, false), .op (15, 0, false), .grp 15 true [(16, 0, false), (17, 2, true)] [64] 27670116110564327424, .op (18, 0, false), .op (19, 262146, false), .op (20, 0, false)]) .leaf))))))))
theorem Xi {a0 a1 : Value} {w : World} {K : Value → World → Prop} (h : Kd a0 a1 w K) : call P EP [a0, a1] w K :=
 Aa mixed Tryz.func144 (c := codeOf Tryz.f144) (by kernel_rfl) (by kernel_rfl) (p := P3) (by kernel_rfl) (by rw [Tryz.ntmps144]; simp) (by
  have e : Kd a0 a1 w K = vc P P3 (codeOf Tryz.f144) (env0 [a0, a1]) w (retX P Tryz.f144.results.toList K) := by kernel_rfl
  exact e ▸ h)
def Ni (a0 a1 : Value) (w : World) (K : Value → World → Prop) : Prop :=
 bx P 68 a0 w fun b c =>
 bx P 68 a1 c fun d e =>
 alc P 68 e fun g h =>
 fda P 68 b 0 h fun i =>
 ld P 66 i h fun j =>
 fda P 68 d 0 h fun k =>
 ld P 66 k h fun l =>
 call P Iu [j, l] h fun m n =>
 xtr P m 0 n fun o =>
 xtr P m 1 n fun p =>
 alc P 68 n fun q r =>
 sto P 68 q o r fun s =>
 fda P 68 b 1 s fun t =>
 ld P 66 t s fun u =>
 fda P 68 d 1 s fun v =>
 ld P 66 v s fun x =>
 call P Iu [u, x] s fun y z =>
 xtr P y 0 z fun A =>
 xtr P y 1 z fun B =>
 alc P 68 z fun C D =>
 sto P 68 C A D fun E =>
 una P .not p E fun F =>
 ∃ G : Value → World → Prop, (∀ (H : Value) (_ : Env) (L : World), G H L →
 pick F (.bool true) H fun M =>
 cnd M
 (bld P 68 [] L fun N =>
 sto P 68 g N L fun O =>
 ldc P 68 g O fun Q =>
 K (.tuple #[Q, (.bool false)]) O)
 (fda P 68 q 1 L fun R =>
 ld P 66 R L fun S =>
 fda P 68 C 0 L fun T =>
 ld P 66 T L fun U =>
 rbin P .add 66 false false S U L fun V =>
 fda P 68 q 0 L fun W =>
 ld P 66 W L fun X =>
 call P Dt [X, V] L fun Y Z =>
 alc P 68 Z fun b0 c0 =>
 sto P 68 b0 Y c0 fun d0 =>
 fda P 68 C 1 d0 fun e0 =>
 ld P 66 e0 d0 fun g0 =>
 fda P 68 b0 1 d0 fun h0 =>
 ld P 66 h0 d0 fun i0 =>
 rbin P .add 66 false false g0 i0 d0 fun j0 =>
 fda P 68 b0 0 d0 fun k0 =>
 ld P 66 k0 d0 fun l0 =>
 call P Dt [l0, j0] d0 fun m0 n0 =>
 alc P 68 n0 fun o0 p0 =>
 sto P 68 o0 m0 p0 fun q0 =>
 ld P 68 o0 q0 fun r0 =>
 call P AU [V] q0 fun s0 t0 =>
 Ext q0 t0 ∧ ∃ u0 : Value → World → Prop, (∀ (v0 : Value) (_ : Env) (x0 : World), u0 v0 x0 →
 pick s0 v0 (.bool false) fun y0 =>
 ∃ z0 : Value → World → Prop, (∀ (A0 : Value) (_ : Env) (B0 : World), z0 A0 B0 →
 pick y0 A0 (.bool false) fun C0 =>
 ∃ D0 : Value → World → Prop, (∀ (E0 : Value) (_ : Env) (F0 : World), D0 E0 F0 →
 pick C0 E0 (.bool false) fun G0 =>
 ∃ H0 : Value → World → Prop, (∀ (L0 : Value) (_ : Env) (M0 : World), H0 L0 M0 →
 pick G0 L0 (.bool false) fun N0 =>
 sto P 68 g r0 M0 fun O0 =>
 (pick G0 L0 (.bool false) fun z => z = N0) ∧ ldc P 68 g O0 fun Q0 =>
 K (.tuple #[Q0, N0]) O0) ∧
 grd G0 true
 (ld P 68 o0 F0 fun R0 =>
 call P GQ [R0] F0 fun S0 T0 =>
 Ext F0 T0 ∧ H0 S0 T0)
 (H0 undef F0)) ∧
 grd C0 true
 (call P AU [j0] B0 fun U0 V0 =>
 Ext B0 V0 ∧ D0 U0 V0)
 (D0 undef B0)) ∧
 grd y0 true
 (fda P 68 b0 1 x0 fun W0 =>
 ld P 66 W0 x0 fun X0 =>
 call P AU [X0] x0 fun Y0 Z0 =>
 Ext x0 Z0 ∧ z0 Y0 Z0)
 (z0 undef x0)) ∧
 grd s0 true
 (fda P 68 b0 0 t0 fun b1 =>
 ld P 66 b1 t0 fun c1 =>
 call P AU [c1] t0 fun d1 e1 =>
 Ext t0 e1 ∧ u0 d1 e1)
 (u0 undef t0))) ∧
 grd F false
 (una P .not B E fun g1 =>
 G g1 E)
 (G undef E)
def SA : Plan := (.seq rg28 (.seq rg18 (.seq rg18 (.seq (.seq (.reg [.op (0, 0, false), .op (1, 0, false), .op (2, 0, false), .grp 2 false [(3, 0, false), (4, 0, false)] [34] 25769803776, .op (5, 0, false)]) (.cond (.seq rg2 .leaf) .leaf)) (.seq rg15 (.seq rg51 (.seq rg15 (.seq rg51 (.seq (.reg [.op (0, 0, false), .op (1, 0, false), .op (2, 2, true), .op (3, 0, false), .grp 3 true [(4, 0, false), (5, 0, false), (6, 2, true)] [61] 4035225266123964416, .op (7, 0, false), .op (8, 0, false), .grp 8 true [(9, 0, false), (10, 0, false), (11, 2, true)] [66] 129127208515966861312, .op (12, 0, false), .op (13, 0, false), .grp 13 true [(14, 0, false), (15, 2, true)] [70] 1770887431076116955136, .op (16, 0, false), .op (17, 0, false), .grp 17 true [(18, 0, false), (19, 2, true)] [74] 28334198897217871282176, .op (20, 0, false), .op (21, 1048578, false), .op (22, 0, false)]) .leaf)))))))))
theorem Aav {a0 a1 : Value} {w : World} {K : Value → World → Prop} (h : Ni a0 a1 w K) : call P CU [a0, a1] w K :=
 Aa mixed Tryz.func145 (c := codeOf Tryz.f145) (by kernel_rfl) (by kernel_rfl) (p := SA) (by kernel_rfl) (by rw [Tryz.ntmps145]; simp) (by
  have e : Ni a0 a1 w K = vc P SA (codeOf Tryz.f145) (env0 [a0, a1]) w (retX P Tryz.f145.results.toList K) := by kernel_rfl
  exact e ▸ h)
def KT (a0 a1 : Value) (w : World) (K : Value → World → Prop) : Prop :=
 bx P 68 a0 w fun b c =>
 bx P 68 a1 c fun d e =>
 alc P 68 e fun g h =>
 fda P 68 b 0 h fun i =>
 ld P 66 i h fun j =>
 fda P 68 d 0 h fun k =>
 ld P 66 k h fun l =>
 rbin P .quo 66 false false j l h fun m =>
 call P AU [m] h fun n o =>
 una P .not n o fun p =>
 cnd p
 (bld P 68 [] o fun q =>
 sto P 68 g q o fun r =>
 ldc P 68 g r fun s =>
 K (.tuple #[s, (.bool false)]) r)
 (ld P 68 d o fun t =>
 bld P 68 [(0, m)] o fun u =>
 call P EP [t, u] o fun v x =>
 xtr P v 0 x fun y =>
 xtr P v 1 x fun z =>
 alc P 68 x fun A B =>
 sto P 68 A y B fun C =>
 una P .not z C fun D =>
 cnd D
 (bld P 68 [] C fun E =>
 sto P 68 g E C fun F =>
 ldc P 68 g F fun G =>
 K (.tuple #[G, (.bool false)]) F)
 (∃ H : Value → Value → World → Prop, (∀ (L : Value) (M : Value) (_ : Env) (N : World), H L M N →
 una P .not M N fun O =>
 cnd O
 (bld P 68 [] N fun Q =>
 sto P 68 g Q N fun R =>
 ldc P 68 g R fun S =>
 K (.tuple #[S, (.bool false)]) R)
 (fda P 68 L 0 N fun T =>
 ld P 66 T N fun U =>
 fda P 68 d 0 N fun V =>
 ld P 66 V N fun W =>
 rbin P .quo 66 false false U W N fun X =>
 call P Dt [m, X] N fun Y Z =>
 alc P 68 Z fun b0 c0 =>
 sto P 68 b0 Y c0 fun d0 =>
 ld P 68 b0 d0 fun e0 =>
 call P AU [X] d0 fun g0 h0 =>
 Ext d0 h0 ∧ ∃ i0 : Value → World → Prop, (∀ (j0 : Value) (_ : Env) (k0 : World), i0 j0 k0 →
 pick g0 j0 (.bool false) fun l0 =>
 sto P 68 g e0 k0 fun m0 =>
 (pick g0 j0 (.bool false) fun z => z = l0) ∧ ldc P 68 g m0 fun n0 =>
 K (.tuple #[n0, l0]) m0) ∧
 grd g0 true
 (ld P 68 b0 h0 fun o0 =>
 call P GQ [o0] h0 fun p0 q0 =>
 Ext h0 q0 ∧ i0 p0 q0)
 (i0 undef h0))) ∧
 (ld P 68 b C fun r0 =>
 fda P 68 A 0 C fun s0 =>
 ld P 66 s0 C fun t0 =>
 fda P 68 A 1 C fun u0 =>
 ld P 66 u0 C fun v0 =>
 (call P Bn [t0] C fun x0 y0 =>
 Ext C y0 ∧ (call P Bn [v0] y0 fun z0 A0 =>
 Ext y0 A0 ∧ bld P 68 [(0, x0), (1, z0)] A0 fun B0 =>
 (call P CU [r0, B0] A0 fun C0 D0 =>
 xtr P C0 0 D0 fun E0 =>
 xtr P C0 1 D0 fun F0 =>
 alc P 68 D0 fun G0 H0 =>
 Ext D0 H0 ∧ sto P 68 G0 E0 H0 fun L0 =>
 (xtr P C0 1 L0 fun z => z = F0) ∧ H G0 F0 L0) ∧
 (alc P 68 A0 fun M0 N0 =>
 Ext A0 N0 ∧ call P CU [r0, B0] N0 fun O0 Q0 =>
 xtr P O0 0 Q0 fun R0 =>
 xtr P O0 1 Q0 fun S0 =>
 sto P 68 M0 R0 Q0 fun T0 =>
 (xtr P O0 1 T0 fun z => z = S0) ∧ H M0 S0 T0)) ∧
 (alc P 68 y0 fun U0 V0 =>
 Ext y0 V0 ∧ call P Bn [v0] V0 fun W0 X0 =>
 Ext V0 X0 ∧ bld P 68 [(0, x0), (1, W0)] X0 fun Y0 =>
 call P CU [r0, Y0] X0 fun Z0 b1 =>
 xtr P Z0 0 b1 fun c1 =>
 xtr P Z0 1 b1 fun d1 =>
 sto P 68 U0 c1 b1 fun e1 =>
 (xtr P Z0 1 e1 fun z => z = d1) ∧ H U0 d1 e1)) ∧
 (alc P 68 C fun g1 h1 =>
 Ext C h1 ∧ call P Bn [t0] h1 fun i1 j1 =>
 Ext h1 j1 ∧ call P Bn [v0] j1 fun k1 l1 =>
 Ext j1 l1 ∧ bld P 68 [(0, i1), (1, k1)] l1 fun m1 =>
 call P CU [r0, m1] l1 fun n1 o1 =>
 xtr P n1 0 o1 fun p1 =>
 xtr P n1 1 o1 fun q1 =>
 sto P 68 g1 p1 o1 fun r1 =>
 (xtr P n1 1 r1 fun z => z = q1) ∧ H g1 q1 r1))))
def Rr : Plan := (.seq rg28 (.seq rg15 (.seq (.seq rg2 (.cond (.seq rg2 .leaf) .leaf)) (.seq rg17 (.seq (.seq rg0 (.cond (.seq rg2 .leaf) .leaf)) (.seq (.tree [9, 10] 17587891078656 (.op (0, 0, false) (.op (1, 0, false) (.op (2, 0, false) (.op (4, 0, false) (.op (5, 0, false) (.fork (3, 2, true) (.fork (6, 2, true) (.op (7, 0, false) (.fork (8, 2, false) (.op (9, 0, false) (.op (10, 0, false) (.op (11, 0, false) (.fork (12, 2, true) (.fork (13, 2050, false) (.op (14, 0, false) .done) .stop) .stop)))) (.fork (12, 2, true) (.fork (8, 2, false) (.op (9, 0, false) (.op (10, 0, false) (.op (11, 0, false) (.fork (13, 2050, false) (.op (14, 0, false) .done) .stop)))) .stop) .stop))) (.fork (12, 2, true) (.fork (6, 2, true) (.op (7, 0, false) (.fork (8, 2, false) (.op (9, 0, false) (.op (10, 0, false) (.op (11, 0, false) (.fork (13, 2050, false) (.op (14, 0, false) .done) .stop)))) .stop)) .stop) .stop)) (.fork (12, 2, true) (.fork (3, 2, true) (.fork (6, 2, true) (.op (7, 0, false) (.fork (8, 2, false) (.op (9, 0, false) (.op (10, 0, false) (.op (11, 0, false) (.fork (13, 2050, false) (.op (14, 0, false) .done) .stop)))) .stop)) .stop) .stop) .stop)))))))) (.seq (.seq rg0 (.cond (.seq rg2 .leaf) .leaf)) (.seq rg15 (.seq (.reg [.op (0, 0, false), .op (1, 0, false), .op (2, 2, false), .op (3, 2, false), .op (4, 2, false)]) (.seq (.reg [.op (0, 0, false), .op (1, 0, false), .op (2, 2, true), .op (3, 0, false), .grp 3 true [(4, 0, false), (5, 2, true)] [60] 1729382256910270464, .op (6, 0, false), .op (7, 66, false), .op (8, 0, false)]) .leaf))))))))))
theorem Yf {a0 a1 : Value} {w : World} {K : Value → World → Prop} (h : KT a0 a1 w K) : call P Lk [a0, a1] w K :=
 Aa mixed Tryz.func146 (c := codeOf Tryz.f146) (by kernel_rfl) (by kernel_rfl) (p := Rr) (by kernel_rfl) (by rw [Tryz.ntmps146]; simp) (by
  have e : KT a0 a1 w K = vc P Rr (codeOf Tryz.f146) (env0 [a0, a1]) w (retX P Tryz.f146.results.toList K) := by kernel_rfl
  exact e ▸ h)
def HT (a0 a1 : Value) (w : World) (K : Value → World → Prop) : Prop :=
 alc P 68 w fun b c =>
 rbin P .mul 66 false false a0 a1 c fun d =>
 call P AU [d] c fun e g =>
 una P .not e g fun h =>
 cnd h
 (bld P 68 [] g fun i =>
 sto P 68 b i g fun j =>
 ldc P 68 b j fun k =>
 K (.tuple #[k, (.bool false), (.bool false)]) j)
 (call P BW [a0] g fun l m =>
 call P BW [a1] m fun n o =>
 call P Nf [l, n] o fun p q =>
 call P BW [d] q fun r s =>
 call P FZ [p, r] s fun t u =>
 alc P 57 u fun v x =>
 sto P 57 v t x fun y =>
 ld P 57 v y fun z =>
 call P HD [z] y fun A B =>
 bld P 68 [(0, d), (1, A)] B fun C =>
 ld P 57 v B fun D =>
 call P BW [A] B fun E F =>
 Ext B F ∧ call P Ff [E, D] F fun G H =>
 Ext F H ∧ bin P .eql 2 false true G (.int .i64 0) H fun L =>
 sto P 68 b C H fun M =>
 (bin P .eql 2 false true G (.int .i64 0) M fun z => z = L) ∧ ldc P 68 b M fun N =>
 K (.tuple #[N, L, (.bool true)]) M)
def N6 : Plan := (.seq rg22 (.seq rg20 (.seq (.seq rg2 (.cond (.seq rg14 .leaf) .leaf)) (.seq (.reg [.op (0, 0, false), .op (1, 2, false), .op (2, 0, false), .op (3, 2, false), .op (4, 2, false), .op (5, 0, false), .op (6, 2, false), .op (7, 2, false), .op (8, 2, false), .op (9, 2, false)]) (.seq rg2 (.seq (.reg [.op (0, 0, false), .op (1, 0, false), .op (2, 0, false), .op (3, 0, false), .op (5, 0, false), .op (4, 2, true), .op (6, 2, true), .op (7, 0, false), .op (8, 130, false), .op (9, 0, false), .op (10, 0, false)]) .leaf))))))
theorem UL {a0 a1 : Value} {w : World} {K : Value → World → Prop} (h : HT a0 a1 w K) : call P Ia [a0, a1] w K :=
 Aa mixed Tryz.func194 (c := codeOf Tryz.f194) (by kernel_rfl) (by kernel_rfl) (p := N6) (by kernel_rfl) (by rw [Tryz.ntmps194]; simp) (by
  have e : HT a0 a1 w K = vc P N6 (codeOf Tryz.f194) (env0 [a0, a1]) w (retX P Tryz.f194.results.toList K) := by kernel_rfl
  exact e ▸ h)
def Jj (a0 a1 : Value) (w : World) (K : Value → World → Prop) : Prop :=
 alc P 68 w fun b c =>
 rbin P .add 66 false false a0 a1 c fun d =>
 rbin P .sub 66 false false d a0 c fun e =>
 rbin P .sub 66 false false a1 e c fun g =>
 bld P 68 [(0, d), (1, g)] c fun h =>
 sto P 68 b h c fun i =>
 ldc P 68 b i fun j =>
 K j i
def Pn : Plan := (.seq rg55 (.seq rg20 (.seq rg20 (.seq (.reg [.op (0, 0, false), .op (1, 0, false), .op (2, 0, false), .op (3, 1, false), .op (4, 0, false), .op (5, 2, false)]) .leaf))))
theorem Xk {a0 a1 : Value} {w : World} {K : Value → World → Prop} (h : Jj a0 a1 w K) : call P Dt [a0, a1] w K :=
 Aa mixed Tryz.func195 (c := codeOf Tryz.f195) (by kernel_rfl) (by kernel_rfl) (p := Pn) (by kernel_rfl) (by rw [Tryz.ntmps195]; simp) (by
  have e : Jj a0 a1 w K = vc P Pn (codeOf Tryz.f195) (env0 [a0, a1]) w (retX P Tryz.f195.results.toList K) := by kernel_rfl
  exact e ▸ h)
def OU (a0 : Value) (w : World) (K : Value → World → Prop) : Prop :=
 bx P 68 a0 w fun b c =>
 fda P 68 b 0 c fun d =>
 ld P 66 d c fun e =>
 call P AU [e] c fun g h =>
 ∃ i : Value → World → Prop, (∀ (j : Value) (_ : Env) (k : World), i j k →
 pick g j (.bool false) fun l =>
 ∃ m : Value → World → Prop, (∀ (n : Value) (_ : Env) (o : World), m n o →
 pick l n (.bool false) fun p =>
 K p o) ∧
 grd l true
 (fda P 68 b 0 k fun q =>
 ld P 66 q k fun r =>
 fda P 68 b 1 k fun s =>
 ld P 66 s k fun t =>
 rbin P .add 66 false false r t k fun u =>
 fda P 68 b 0 k fun v =>
 ld P 66 v k fun x =>
 bin P .eql 66 false false u x k fun y =>
 m y k)
 (m undef k)) ∧
 grd g true
 (fda P 68 b 1 h fun z =>
 ld P 66 z h fun A =>
 call P AU [A] h fun B C =>
 i B C)
 (i undef h)
def Uq : Plan := (.seq rg6 (.seq (.reg [.op (0, 0, false), .op (1, 0, false), .op (2, 2, false), .op (3, 0, false), .grp 3 true [(4, 0, false), (5, 0, false), (6, 2, false)] [9] 896, .op (7, 0, false), .op (8, 0, false), .grp 8 true [(9, 0, false), (10, 0, false), (11, 0, false), (12, 0, false), (13, 1, false), (14, 0, false), (15, 0, false), (16, 0, false)] [19] 1044480, .op (17, 0, false), .op (18, 0, false)]) .leaf))
theorem Acd {a0 : Value} {w : World} {K : Value → World → Prop} (h : OU a0 w K) : call P GQ [a0] w K :=
 Aa mixed Tryz.func196 (c := codeOf Tryz.f196) (by kernel_rfl) (by kernel_rfl) (p := Uq) (by kernel_rfl) (by rw [Tryz.ntmps196]; simp) (by
  have e : OU a0 w K = vc P Uq (codeOf Tryz.f196) (env0 [a0]) w (retX P Tryz.f196.results.toList K) := by kernel_rfl
  exact e ▸ h)
def MZ (a0 a1 : Value) (w : World) (K : Value → World → Prop) : Prop :=
 alc P 68 w fun b c =>
 rbin P .add 66 false false a0 a1 c fun d =>
 call P AU [d] c fun e g =>
 una P .not e g fun h =>
 cnd h
 (bld P 68 [] g fun i =>
 sto P 68 b i g fun j =>
 ldc P 68 b j fun k =>
 K (.tuple #[k, (.bool false)]) j)
 (call P BW [a0] g fun l m =>
 call P BW [a1] m fun n o =>
 call P FT [l, n] o fun p q =>
 call P BW [d] q fun r s =>
 call P FZ [p, r] s fun t u =>
 call P HD [t] u fun v x =>
 bld P 68 [(0, d), (1, v)] x fun y =>
 sto P 68 b y x fun z =>
 ldc P 68 b z fun A =>
 K (.tuple #[A, (.bool true)]) z)
def Sg : Plan := (.seq rg6 (.seq rg20 (.seq (.seq rg2 (.cond (.seq rg2 .leaf) .leaf)) (.seq (.reg [.op (0, 0, false), .op (1, 2, false), .op (2, 0, false), .op (3, 2, false), .op (4, 2, false), .op (5, 0, false), .op (6, 2, false), .op (7, 2, false), .op (8, 2, false), .op (9, 0, false)]) (.seq rg21 .leaf)))))
theorem Aa1 {a0 a1 : Value} {w : World} {K : Value → World → Prop} (h : MZ a0 a1 w K) : call P Iu [a0, a1] w K :=
 Aa mixed Tryz.func197 (c := codeOf Tryz.f197) (by kernel_rfl) (by kernel_rfl) (p := Sg) (by kernel_rfl) (by rw [Tryz.ntmps197]; simp) (by
  have e : MZ a0 a1 w K = vc P Sg (codeOf Tryz.f197) (env0 [a0, a1]) w (retX P Tryz.f197.results.toList K) := by kernel_rfl
  exact e ▸ h)
def Li (a0 : Value) (w : World) (K : Value → World → Prop) : Prop :=
 bx P 57 a0 w fun b c =>
 ld P 57 b c fun d =>
 call P Ev [d, (.int .i64 0)] c fun e g =>
 xtr P e 0 g fun h =>
 xtr P e 1 g fun i =>
 bin P .eql 66 false true h (.float .f32 0) g fun j =>
 cnd j
 (K (.float .f32 0) g)
 (K h g)
def Rn : Plan := (.seq rg6 (.seq rg7 (.seq (.seq rg0 (.cond (.seq rg3 .leaf) .leaf)) (.seq rg0 .leaf))))
theorem YG {a0 : Value} {w : World} {K : Value → World → Prop} (h : Li a0 w K) : call P HD [a0] w K :=
 Aa mixed Tryz.func239 (c := codeOf Tryz.f239) (by kernel_rfl) (by kernel_rfl) (p := Rn) (by kernel_rfl) (by rw [Tryz.ntmps239]; simp) (by
  have e : Li a0 w K = vc P Rn (codeOf Tryz.f239) (env0 [a0]) w (retX P Tryz.f239.results.toList K) := by kernel_rfl
  exact e ▸ h)
end


set_option maxRecDepth 20000
section
open Go Go.Vc
def Fm (a0 : Value) (w : World) (K : Value → World → Prop) : Prop :=
 call P RK [a0] w fun b c =>
 cnd b
 (K (.bool true) c)
 (call P EU [a0] c fun d e =>
 alc P 27 e fun g h =>
 sto P 27 g d h fun i =>
 ld P 27 g i fun j =>
 call P EL [j] i fun k l =>
 xtr P k 0 l fun m =>
 xtr P k 1 l fun n =>
 ld P 27 g l fun o =>
 call P GC [o] l fun p q =>
 xtr P p 0 q fun r =>
 xtr P p 1 q fun s =>
 bin P .neq 2 false false n s q fun t =>
 ∃ u : Value → World → Prop, (∀ (v : Value) (_ : Env) (x : World), u v x →
 pick t (.bool true) v fun y =>
 ∃ z : Value → World → Prop, (∀ (A : Value) (_ : Env) (B : World), z A B →
 pick y (.bool true) A fun C =>
 cnd C
 (K (.bool false) B)
 (∃ D : World → Prop, (∀ (_ : Env) (E : World), D E →
 call P Eg [a0] E fun F G =>
 call P Ec [F] G fun H L =>
 xtr P H 0 L fun M =>
 xtr P H 1 L fun N =>
 alc P 27 L fun O Q =>
 sto P 27 O M Q fun R =>
 call P Gk [F] R fun S T =>
 xtr P S 0 T fun U =>
 xtr P S 1 T fun V =>
 alc P 27 T fun W X =>
 sto P 27 W U X fun Y =>
 bin P .neq 2 false false N V Y fun Z =>
 ∃ b0 : Value → World → Prop, (∀ (c0 : Value) (_ : Env) (d0 : World), b0 c0 d0 →
 pick Z (.bool true) c0 fun e0 =>
 cnd e0
 (K (.bool false) d0)
 (∃ g0 : World → Prop, (∀ (_ : Env) (h0 : World), g0 h0 →
 call P EV [a0] h0 fun i0 j0 =>
 alc P 27 j0 fun k0 l0 =>
 sto P 27 k0 i0 l0 fun m0 =>
 ld P 27 k0 m0 fun n0 =>
 call P G8 [n0] m0 fun o0 p0 =>
 xtr P o0 0 p0 fun q0 =>
 xtr P o0 1 p0 fun r0 =>
 ld P 27 k0 p0 fun s0 =>
 call P GG [s0] p0 fun t0 u0 =>
 xtr P t0 0 u0 fun v0 =>
 xtr P t0 1 u0 fun x0 =>
 ld P 27 k0 u0 fun y0 =>
 call P HL [y0] u0 fun z0 A0 =>
 xtr P z0 0 A0 fun B0 =>
 xtr P z0 1 A0 fun C0 =>
 ld P 27 k0 A0 fun D0 =>
 call P Lo [D0] A0 fun E0 F0 =>
 xtr P E0 0 F0 fun G0 =>
 xtr P E0 1 F0 fun H0 =>
 bin P .neq 2 false false r0 x0 F0 fun L0 =>
 ∃ M0 : Value → World → Prop, (∀ (N0 : Value) (_ : Env) (O0 : World), M0 N0 O0 →
 pick L0 (.bool true) N0 fun Q0 =>
 ∃ R0 : Value → World → Prop, (∀ (S0 : Value) (_ : Env) (T0 : World), R0 S0 T0 →
 pick Q0 (.bool true) S0 fun U0 =>
 ∃ V0 : Value → World → Prop, (∀ (W0 : Value) (_ : Env) (X0 : World), V0 W0 X0 →
 pick U0 (.bool true) W0 fun Y0 =>
 cnd Y0
 (K (.bool false) X0)
 (call P EQ [a0] X0 fun Z0 b1 =>
 xtr P Z0 0 b1 fun c1 =>
 xtr P Z0 1 b1 fun d1 =>
 alc P 27 b1 fun e1 g1 =>
 sto P 27 e1 c1 g1 fun h1 =>
 ld P 27 e1 h1 fun i1 =>
 call P HP [i1, d1] h1 fun j1 k1 =>
 xtr P j1 0 k1 fun l1 =>
 xtr P j1 1 k1 fun m1 =>
 alc P 68 k1 fun n1 o1 =>
 sto P 68 n1 l1 o1 fun p1 =>
 ld P 27 e1 p1 fun q1 =>
 call P H8 [q1, d1] p1 fun r1 s1 =>
 xtr P r1 0 s1 fun t1 =>
 xtr P r1 1 s1 fun u1 =>
 alc P 68 s1 fun v1 x1 =>
 sto P 68 v1 t1 x1 fun y1 =>
 bin P .eql 2 false false m1 u1 y1 fun z1 =>
 ∃ A1 : Value → World → Prop, (∀ (B1 : Value) (_ : Env) (C1 : World), A1 B1 C1 →
 pick z1 B1 (.bool false) fun D1 =>
 ∃ E1 : Value → World → Prop, (∀ (F1 : Value) (_ : Env) (G1 : World), E1 F1 G1 →
 pick D1 F1 (.bool false) fun H1 =>
 ∃ L1 : Value → World → Prop, (∀ (M1 : Value) (_ : Env) (N1 : World), L1 M1 N1 →
 ∃ O1 : Value → World → Prop, (∀ (Q1 : Value) (_ : Env) (R1 : World), O1 Q1 R1 →
 ∃ S1 : Value → World → Prop, (∀ (T1 : Value) (_ : Env) (U1 : World), S1 T1 U1 →
 pick H1 T1 (.bool false) fun V1 =>
 K V1 U1) ∧
 grd H1 true
 (pick M1 (.bool true) Q1 fun W1 =>
 S1 W1 R1)
 (S1 undef R1)) ∧
 grd M1 false
 (ld P 68 n1 N1 fun X1 =>
 call P DB [X1] N1 fun Y1 Z1 =>
 O1 Y1 Z1)
 (O1 undef N1)) ∧
 grd H1 true
 (bin P .neq 2 false true m1 (.int .i64 0) G1 fun b2 =>
 L1 b2 G1)
 (L1 undef G1)) ∧
 grd D1 true
 (fda P 68 n1 1 C1 fun c2 =>
 ld P 66 c2 C1 fun d2 =>
 fda P 68 v1 1 C1 fun e2 =>
 ld P 66 e2 C1 fun g2 =>
 call P Eo [d2, g2] C1 fun h2 i2 =>
 E1 h2 i2)
 (E1 undef C1)) ∧
 grd z1 true
 (fda P 68 n1 0 y1 fun j2 =>
 ld P 66 j2 y1 fun k2 =>
 fda P 68 v1 0 y1 fun l2 =>
 ld P 66 l2 y1 fun m2 =>
 call P Eo [k2, m2] y1 fun n2 o2 =>
 A1 n2 o2)
 (A1 undef y1))) ∧
 grd U0 false
 (bin P .neq 2 false false B0 G0 T0 fun p2 =>
 V0 p2 T0)
 (V0 undef T0)) ∧
 grd Q0 false
 (bin P .neq 2 false false C0 H0 O0 fun q2 =>
 R0 q2 O0)
 (R0 undef O0)) ∧
 grd L0 false
 (bin P .neq 2 false false q0 v0 F0 fun r2 =>
 M0 r2 F0)
 (M0 undef F0)) ∧
 (bin P .eql 2 false true N (.int .i64 0) d0 fun s2 =>
 cnd s2
 (ld P 27 O d0 fun t2 =>
 call P EL [t2] d0 fun u2 v2 =>
 xtr P u2 0 v2 fun x2 =>
 xtr P u2 1 v2 fun y2 =>
 bin P .neq 2 false true y2 (.int .i64 0) v2 fun z2 =>
 ∃ A2 : Value → World → Prop, (∀ (B2 : Value) (_ : Env) (C2 : World), A2 B2 C2 →
 pick z2 (.bool true) B2 fun D2 =>
 cnd D2
 (K (.bool false) C2)
 (g0 C2)) ∧
 grd z2 false
 (bin P .neq 9 false false x2 F v2 fun E2 =>
 A2 E2 v2)
 (A2 undef v2))
 (g0 d0)))) ∧
 grd Z false
 (fda P 27 O 0 Y fun F2 =>
 ld P 22 F2 Y fun G2 =>
 fda P 27 W 0 Y fun H2 =>
 ld P 22 H2 Y fun L2 =>
 call P Iz [G2, L2] Y fun M2 N2 =>
 una P .not M2 N2 fun O2 =>
 b0 O2 N2)
 (b0 undef Y)) ∧
 (bin P .eql 2 false true n (.int .i64 0) B fun Q2 =>
 cnd Q2
 (call P Ec [m] B fun R2 S2 =>
 xtr P R2 0 S2 fun T2 =>
 xtr P R2 1 S2 fun U2 =>
 alc P 27 S2 fun V2 W2 =>
 sto P 27 V2 T2 W2 fun X2 =>
 ld P 27 g X2 fun Y2 =>
 call P HL [Y2] X2 fun Z2 b3 =>
 xtr P Z2 0 b3 fun c3 =>
 xtr P Z2 1 b3 fun d3 =>
 bin P .neq 2 false true U2 (.int .i64 0) b3 fun e3 =>
 ∃ g3 : Value → World → Prop, (∀ (h3 : Value) (_ : Env) (i3 : World), g3 h3 i3 →
 pick e3 (.bool true) h3 fun j3 =>
 ∃ k3 : Value → World → Prop, (∀ (l3 : Value) (_ : Env) (m3 : World), k3 l3 m3 →
 pick j3 (.bool true) l3 fun n3 =>
 ∃ o3 : Value → World → Prop, (∀ (p3 : Value) (_ : Env) (q3 : World), o3 p3 q3 →
 pick n3 (.bool true) p3 fun r3 =>
 ∃ s3 : Value → World → Prop, (∀ (t3 : Value) (_ : Env) (u3 : World), s3 t3 u3 →
 pick r3 (.bool true) t3 fun v3 =>
 cnd v3
 (K (.bool false) u3)
 (D u3)) ∧
 grd r3 false
 (fda P 27 g 0 q3 fun x3 =>
 ld P 22 x3 q3 fun y3 =>
 bl0 P .len #[22] 3 [y3] q3 fun z3 =>
 bin P .gtr 2 false false c3 z3 q3 fun A3 =>
 s3 A3 q3)
 (s3 undef q3)) ∧
 grd n3 false
 (bin P .lss 2 false true c3 (.int .i64 1) m3 fun B3 =>
 o3 B3 m3)
 (o3 undef m3)) ∧
 grd j3 false
 (fda P 27 V2 0 i3 fun C3 =>
 ld P 22 C3 i3 fun D3 =>
 fda P 27 g 0 i3 fun E3 =>
 ld P 22 E3 i3 fun F3 =>
 call P Iz [D3, F3] i3 fun G3 H3 =>
 una P .not G3 H3 fun L3 =>
 k3 L3 H3)
 (k3 undef i3)) ∧
 grd e3 false
 (bin P .neq 2 false true d3 (.int .i64 0) b3 fun M3 =>
 g3 M3 b3)
 (g3 undef b3))
 (D B)))) ∧
 grd y false
 (ld P 27 g x fun N3 =>
 ld P 27 g x fun O3 =>
 call P Ci [N3] x fun Q3 R3 =>
 Ext x R3 ∧ call P IL [O3] R3 fun S3 T3 =>
 bin P .neq 4 false false Q3 S3 T3 fun U3 =>
 z U3 T3)
 (z undef x)) ∧
 grd t false
 (bin P .neq 9 false false m r q fun V3 =>
 u V3 q)
 (u undef q))
def IS : Plan := (.seq rg3 (.seq (.seq rg31 (.cond (.seq rg3 .leaf) .leaf)) (.seq rg41 (.seq rg7 (.seq rg7 (.seq (.seq (.reg [.op (0, 0, false), .op (1, 0, false), .op (2, 0, false), .op (3, 0, false), .grp 3 false [(4, 0, false), (5, 0, false), (6, 0, false)] [54] 31525197391593472, .op (7, 0, false), .op (8, 0, false), .grp 8 false [(9, 0, false), (11, 0, false), (10, 2, true), (12, 2, false), (13, 0, false)] [61] 4467570830351532032, .op (14, 0, false)]) (.cond (.seq rg3 .leaf) .leaf)) (.cut [] 1267650600219006029459848433412 (.seq rg0 (.cond (.seq rg12 (.seq rg7 (.seq (.reg [.op (0, 0, false), .op (1, 0, false), .op (2, 0, false), .grp 2 false [(3, 0, false), (4, 0, false)] [79] 906694364710971881029632, .op (5, 0, false), .op (6, 0, false), .grp 6 false [(7, 0, false), (8, 0, false), (9, 0, false), (10, 0, false), (11, 2, false), (12, 0, false)] [87] 304649306542886552025956352, .op (13, 0, false), .op (14, 0, false), .grp 14 false [(15, 0, false), (16, 0, false)] [91] 3713820117856140824697372672, .op (17, 0, false), .op (18, 0, false), .grp 18 false [(19, 0, false), (20, 0, false), (21, 0, false), (22, 0, false), (23, 0, false)] [98] 614018259485548616349965615104, .op (24, 0, false)]) (.cond (.seq rg3 .leaf) .leaf)))) .leaf)) (.seq rg2 (.seq rg12 (.seq rg12 (.seq (.seq (.reg [.op (0, 0, false), .op (1, 0, false), .op (2, 0, false), .op (3, 0, false), .grp 3 false [(4, 0, false), (5, 0, false), (6, 0, false), (7, 0, false), (8, 2, false), (9, 0, false)] [121] 5233835233403106249558740299853856768, .op (10, 0, false)]) (.cond (.seq rg3 .leaf) .leaf)) (.cut [] 174213938039554213966264568548583081902084 (.seq rg0 (.cond (.seq rg7 (.seq (.reg [.op (0, 0, false), .op (1, 0, false), .op (2, 0, false), .grp 2 false [(3, 0, false), (4, 0, false), (5, 0, false)] [135] 76223250190290215815795912064716079366144, .op (6, 0, false)]) (.cond (.seq rg3 .leaf) .leaf))) .leaf)) (.seq rg41 (.seq rg7 (.seq rg7 (.seq rg7 (.seq rg7 (.seq (.seq (.reg [.op (0, 0, false), .op (1, 0, false), .op (2, 0, false), .op (3, 0, false), .grp 3 false [(4, 0, false), (5, 0, false), (6, 0, false)] [165] 81844091690530563419406350632111849100732222406656, .op (7, 0, false), .op (8, 0, false), .grp 8 false [(9, 0, false), (10, 0, false), (11, 0, false)] [170] 2619010934096978029421003220227579171223431117012992, .op (12, 0, false), .op (13, 0, false), .grp 13 false [(14, 0, false), (15, 0, false), (16, 0, false)] [175] 83808349891103296941472103047282533479149795744415744, .op (17, 0, false)]) (.cond (.seq rg3 .leaf) .leaf)) (.seq rg12 (.seq rg32 (.seq rg32 (.seq (.reg [.op (0, 0, false), .op (1, 0, false), .op (2, 0, false), .op (3, 0, false), .grp 3 true [(4, 0, false), (5, 0, false), (6, 0, false), (7, 0, false), (8, 2, false)] [202] 12453769843007174635450206215644010169547073201816644473585664, .op (9, 0, false), .op (10, 0, false), .grp 10 true [(11, 0, false), (12, 0, false), (13, 0, false), (14, 0, false), (15, 2, false)] [209] 1594082539904918353337626395602433301702025369832530492618964992, .op (16, 0, false), .op (17, 0, false), .grp 17 true [(18, 0, false), (19, 0, false), (20, 0, false)] [214] 46074127604993769180339137111605814139516604237740236173761052672, .grp 20 false [(21, 0, false), (22, 2, false)] [216] 157968437502835780046877041525505648478342643100823666881466466304, .grp 17 true [(23, 0, false)] [217] 210624583337114373395836055367340864637790190801098222508621955072, .op (24, 0, false), .op (25, 0, false)]) .leaf))))))))))))))))))))))
theorem Rl {a0 : Value} {w : World} {K : Value → World → Prop} (h : Fm a0 w K) : call P Fx [a0] w K :=
 Aa mixed Tryz.func11 (c := codeOf Tryz.f11) (by kernel_rfl) (by kernel_rfl) (p := IS) (by kernel_rfl) (by rw [Tryz.ntmps11]; simp) (by
  have e : Fm a0 w K = vc P IS (codeOf Tryz.f11) (env0 [a0]) w (retX P Tryz.f11.results.toList K) := by kernel_rfl
  exact e ▸ h)
end


section
open Go Go.Vc
abbrev fl (b : Nat) : Value := .float .f32 b
def finB (b : Nat) : Bool := decide (Fin Ieee.single b)
structure FS (w : World) (v : Value) (l : List Nat) : Prop where
 row : Row 1 w v l.length (l.map fl)
 lt : ∀ b ∈ l, b < 4294967296
theorem FS.ext {w w' : World} {v : Value} {l : List Nat} (h : FS w v l) (he : Ext w w') : FS w' v l := ⟨h.row.ext he, h.lt⟩
theorem FS.bound {w : World} {v : Value} {l : List Nat} (h : FS w v l) : l.length ≤ 9223372036854775807 := by have := h.row.bound; simp only [maxLen] at this; omega
variable {w : World} {K : Value → World → Prop}
theorem Gh {g : FuncId} {fn : Func} {e : Array Value → Sem Value} (hf : P.funcs[g]? = some fn) (hn : (fn.name == "runtime.NumGoroutine") = false) (hb : fn.body = none) (h1 : Extern.findNext fn = none) (h2 : Extern.find fn = some e)
  {args : List Value} (H : SemA P (e args.toArray) w K) : call P g args w K := by
 intro c hc
 obtain ⟨v, c', hr, hk⟩ := H c hc
 refine ⟨.value v, c', ?_, hk⟩
 have hn' : ¬ fn.name = "runtime.NumGoroutine" := by simpa using hn
 simp [callFunc, program, Sem.run, hf, hn', hb, h1, h2, mark, hr]
theorem Sn {b : Nat} (H : K (.int .u32 b) w) : call P EI [fl b] w K :=
 Gh R5 (by kernel_rfl) rfl (by kernel_rfl) (e := Extern.MathFloatBits.float32bits) (by kernel_rfl) (AS H)
theorem JO {b : Nat} (hb : b < 4294967296) (H : K (.bool (finB b)) w) : call P CP [fl b] w K := by
 refine W8 ?_
 unfold Jm
 refine Sn ?_
 rw [AcV _ _ _ _ _ _ _ _ (by decide)]
 have e1 : Int.fdiv (b : Int) (2 ^ min (Int.toNat 23) IntKind.u32.bits) = ((b / 8388608 : Nat) : Int) := by
  rw [Int.fdiv_eq_ediv_of_nonneg _ (by simp [IntKind.bits])]
  simp [IntKind.bits]
 rw [e1, Kz]
 have e2 : IntKind.u32.wrap ((BitVec.ofInt IntKind.u32.bits ((b / 8388608 : Nat) : Int) &&& BitVec.ofInt IntKind.u32.bits 255).toNat) = ((b / 8388608 % 256 : Nat) : Int) := by
  have h1 : (BitVec.ofInt IntKind.u32.bits ((b / 8388608 : Nat) : Int) &&& BitVec.ofInt IntKind.u32.bits 255).toNat = b / 8388608 % 256 := by
   rw [BitVec.toNat_and]
   have a1 : (BitVec.ofInt IntKind.u32.bits ((b / 8388608 : Nat) : Int)).toNat = b / 8388608 := by
    simp [IntKind.bits]; omega
   have a2 : (BitVec.ofInt IntKind.u32.bits 255).toNat = 2 ^ 8 - 1 := rfl
   rw [a1, a2, Nat.and_two_pow_sub_one_eq_mod]
  rw [h1]
  exact NP (by simp [IntKind.min, IntKind.signed]; omega) (by simp [IntKind.max, IntKind.signed, IntKind.bits]; omega)
 rw [e2]
 simp only [B5]
 have e3 : decide (((b / 8388608 % 256 : Nat) : Int) ≠ 255) = finB b := by
  unfold finB
  rw [decide_eq_decide, Ow]; omega
 rw [e3]
 exact H
theorem BH {b : Nat} (H : K (.bool (finB b)) w) : call P AU [fl b] w K := by
 refine Wc ?_
 unfold I6
 refine AA (by simp) fun r hr => ?_
 simp only [DO]
 have e : (FloatKind.f32.format.order r 0 == some .eq) = finB b := by
  unfold finB
  by_cases hf : Fin Ieee.single b
  ·rw [decide_eq_true hf]
   have := Dw hr (show floatBits .sub .f32 b b = some 0 from sub_self hf)
   subst this; rfl
  ·rw [decide_eq_false hf]
   rcases hr with hr | hr
   ·rw [show floatBits .sub .f32 b b = none from Aau hs1 hf] at hr; cases hr
   ·rw [show FloatKind.f32.format.order r 0 = none from KF hs1 0 hr.2.1]; rfl
 rw [e]; exact H
theorem Ja {α β : Type} {f : α → β} {l : List α} {i : Nat} (hi : i < l.length) : (l.map f)[i]? = some (f l[i]) := by simp [hi]
theorem Ik {v : Value} {l : List Nat} (h : FS w v l) (H : K (.bool (l.all finB)) w) : call P C9 [v] w K := by
 refine V6 ?_
 unfold IE
 rw [h.row.len B7]
 have hb := h.bound
 refine ⟨fun m x w' => w' = w ∧ ∃ i : Nat, x = .int .i64 i ∧ m + i = l.length ∧ (l.take i).all finB = true, ⟨l.length, rfl, 0, rfl, by omega, by simp⟩, ?_⟩
 rintro m x junk w' ⟨rfl, i, rfl, hm, hall⟩
 rw [Ai]
 refine Ac (fun hlt => ?_) (fun hge => ?_)
 ·have hi : i < l.length := by omega
  refine h.row.at1 (Ja hi) B7 CD BC rfl ?_
  refine JO (h.lt _ (List.getElem_mem hi)) ?_
  rw [A5]
  refine Az (fun hf => ?_) (fun hf => ?_)
  ·have : l.all finB = false := by
    refine Bool.eq_false_iff.2 fun hall' => ?_
    have := List.all_eq_true.1 hall' l[i] (List.getElem_mem hi)
    rw [this] at hf; cases hf
   rw [this] at H; exact H
  ·rw [Aw]
   refine ⟨m - 1, by omega, rfl, i + 1, ?_, by omega, ?_⟩
   ·rw [Ad (by omega) (by omega)]; rfl
   ·rw [List.take_succ_eq_append_getElem hi, List.all_append, hall]
    simpa using hf
 ·have : l.take i = l := List.take_of_length_le (by omega)
  rw [this] at hall
  rw [hall] at H; exact H
end


section
open Go Go.Vc
variable {w : World} {K : Value → World → Prop}
structure FSS (w : World) (v : Value) (m : List (List Nat)) : Prop where
 ex : ∃ vs : List Value, Row 1 w v m.length vs ∧ ∀ i (hi : i < m.length), ∃ x, vs[i]? = some x ∧ FS w x m[i]
def total (m : List (List Nat)) : Nat := (m.map List.length).sum
end


section
open Go Go.Vc
variable {w : World} {K : Value → World → Prop}
abbrev OS (w : World) (base : Nat) (v : Value) (l : List Nat) : Prop := w.ownsRow base BQ 1 v l.length (l.map fl)
end


section
open Go Go.Vc
variable {w : World} {K : Value → World → Prop}
structure OM (w : World) (lo hi : Nat) (v : Value) (m : List (List Nat)) (vs : List Value) : Prop where
 outer : w.ownsRow lo BN 1 v m.length vs
 rows : ∀ (i : Nat) (hl : i < m.length), ∃ x : Value, vs[i]? = some x ∧ OS w lo x m[i] ∧ ∀ k, x.ownBlock = some k → k < hi
 apart : ∀ (i j : Nat) (x y : Value), i < j → vs[i]? = some x → vs[j]? = some y → x.ownBlock = none ∨ x.ownBlock ≠ y.ownBlock
 top : ∀ k, v.ownBlock = some k → k < hi
def bits (m : List (List Nat)) : Prop := ∀ r ∈ m, ∀ b ∈ r, b < 4294967296
def mk (k : Int) (n : Nat) : List Nat := (List.range n).map (fun j => floatOfInt .f32 (k + (j : Nat)))
@[simp] theorem Alv (k : Int) (n : Nat) : (mk k n).length = n := by simp [mk]
def mkM (k : Int) (m : List (List Nat)) : List (List Nat) := (List.range m.length).map (fun i => mk (k + total (m.take i)) (m.getD i []).length)
@[simp] theorem AkP (k : Int) (m : List (List Nat)) : (mkM k m).length = m.length := by simp [mkM]
end


section
open Go Go.Vc
variable {w : World} {K : Value → World → Prop}
def mid (k : Int) (m : List (List Nat)) (i : Nat) : List (List Nat) := (List.range m.length).map (fun j => if j < i then mk (k + total (m.take j)) (m.getD j []).length else m.getD j [])
@[simp] theorem Ala (k : Int) (m : List (List Nat)) (i : Nat) : (mid k m i).length = m.length := by simp [mid]
end


section
open Go Go.Vc
variable {w : World} {K : Value → World → Prop}
theorem BU {b : Nat} : finB b = true ↔ Fin Ieee.single b := by unfold finB; exact decide_eq_true_iff
theorem AbB {b : Nat} : finB b = false ↔ ¬ Fin Ieee.single b := by unfold finB; exact decide_eq_false_iff_not
theorem FS.at {v : Value} {l : List Nat} (h : FS w v l) {i : Nat} (hi : i < l.length) {K : Value → Prop} (H : K (fl l[i])) : ixa P BN v (.int .i64 (i : Int)) w (fun a => ld P BQ a w K) :=
 h.row.at1 (Ja hi) B7 CD BC rfl H
structure MV (w : World) (a v : Value) (m : List (List Nat)) (x : List Nat) : Prop where
 fa : FSS w a m
 fv : FS w v x
 len : ∀ r ∈ m, r.length = x.length
 fm : ∀ r ∈ m, r.all finB = true
 fx : x.all finB = true
 small : m.length ≤ 8
theorem AjX {b1 b2 : Nat} (h1 : b1 < 4294967296) (h2 : b2 < 4294967296) (w : World) : FS (w.alloc (.cells #[fl b1, fl b2] BQ)) (.slice (some ⟨w.heap.size, 0, none⟩) 2 2) [b1, b2] :=
 ⟨Bc (B9 w [fl b1, fl b2] BQ (by simp [maxLen])), by intro b hb; simp at hb; rcases hb with rfl | rfl <;> assumption⟩
theorem bslF2 {b1 b2 : Nat} {KW : Value → World → Prop} (h1 : b1 < 4294967296) (h2 : b2 < 4294967296) (H : ∀ v w', Ext w w' → FS w' v [b1, b2] → KW v w') : bsl P BN 2 [(0, fl b1), (1, fl b2)] w KW :=
 Adb B7 CD rfl rfl rfl (H _ _ (Bg _ _) (AjX h1 h2 w))
end


section
open Go Go.Vc
variable {w : World} {K : Value → World → Prop}
end


section
open Go Go.Vc
variable {w : World} {K : Value → World → Prop}
section
variable {lo hi : Nat} {v : Value} {m : List (List Nat)} {vs : List Value}
end
def tab (n : Nat) (f : Nat → Nat → Nat) : List (List Nat) := (List.range n).map fun i => (List.range n).map fun j => f i j
@[simp] theorem AkN (n : Nat) (f : Nat → Nat → Nat) : (tab n f).length = n := by simp [tab]
def upd (f : Nat → Nat → Nat) (i j x : Nat) : Nat → Nat → Nat := fun p q => if p = i ∧ q = j then x else f p q
def cell (m : List (List Nat)) (i j : Nat) : Nat := (m.getD i []).getD j 0
def square (n : Nat) (m : List (List Nat)) : Prop := m.length = n ∧ ∀ r ∈ m, r.length = n
end


section
open Go Go.Vc
variable {w : World} {K : Value → World → Prop}
end


section
open Go Go.Vc
variable {w : World} {K : Value → World → Prop} {lo hi : Nat} {v : Value}
structure BxR (w : World) (lo hi : Nat) (t : TypeId) (p : Value) (cs : List Value) : Prop where
 own : Bx w lo t p cs
 top : ∀ k, blk p = some k → k < hi
abbrev Xx := FS
end


section
open Go Go.Vc
open Go.ChangeShapes Go.WideShapes Go.ChangeAt
section
variable {H : Type} {enc : TypeId × Value → H} {w : World} {base : Nat} {spare : Nat → Bool} {held : Bool} {fuel : Nat}
theorem AgG {t e : TypeId} {v : Value} {x : DataW H × List MemPlace} (hu : P.underlying t = some (.slice e)) (hc : P.cellsOf e = 1) (h : DataW.trod enc P w base (fun _ => true) held fuel t [v] = some x) :
  ∃ (n : Nat) (vs : List Value), Row 1 w v n vs ∧ ∀ (i : Nat) (u : Value), vs[i]? = some u → ∃ m y, DataW.trod enc P w base (fun _ => true) held m e [u] = some y := by
 rcases Deep.open_slice1 hu hc h with ⟨hcs, _⟩ | ⟨a, len, cap, m, k, V, D, Pl, hcs, hb, hl, hm, hmm, _, hx⟩
 ·obtain rfl : v = .slice none 0 0 := by simpa using hcs
  exact ⟨0, [], Row.nil 1 w, fun i u hu => by simp at hu⟩
 ·obtain rfl : v = .slice (some a) len cap := by simpa using hcs
  simp only [if_true] at hmm
  subst hmm
  refine ⟨len, (List.range len).map V, ⟨by simp, by omega, some a, _, rfl, fun hn => ?_⟩, fun i u hu => ?_⟩
  ·have h0 := (hx 0 (by omega)).1
   obtain ⟨b, o, sp⟩ := a
   have hsp : sp = none := by
    have := World.cell?_spot h0
    simpa [Addr.add] using this
   subst hsp
   refine ⟨b, o, rfl, fun j u hu => ?_⟩
   have hj : j < len := by
    have := (List.getElem?_eq_some_iff.1 hu).1
    simpa using this
   have := (hx j (by omega)).1
   rw [Addr.add_lit] at this
   rw [this]
   simp [hj] at hu
   rw [hu]
  ·have hj : i < len := by
    have := (List.getElem?_eq_some_iff.1 hu).1
    simpa using this
   simp [hj] at hu
   subst hu
   exact ⟨k, _, (hx i (by omega)).2⟩
theorem Ad1 {α β : Type} {p : α → β → Prop} : ∀ {l : List α}, (∀ (i : Nat) (u : α), l[i]? = some u → ∃ b, p u b) → ∃ bs : List β, bs.length = l.length ∧ ∀ (i : Nat) (u : α), l[i]? = some u → ∃ b, bs[i]? = some b ∧ p u b
 | [], _ => ⟨[], rfl, fun i u h => by simp at h⟩
 | a :: l, h => by
  obtain ⟨b, hb⟩ := h 0 a rfl
  obtain ⟨bs, h1, h2⟩ := Ad1 (l := l) (fun i u hu => h (i + 1) u (by simpa using hu))
  refine ⟨b :: bs, by simp [h1], fun i u hu => ?_⟩
  cases i with
  | zero => simp at hu; subst hu; exact ⟨b, rfl, hb⟩
  | succ i => obtain ⟨c, hc1, hc2⟩ := h2 i u (by simpa using hu); exact ⟨c, by simpa using hc1, hc2⟩
end
theorem AiT {w c : World} (h : Ext (Vc.N w) (Vc.N c)) : RowKit.Below w.heap.size w c := by
 have h1 := RowKit.Below.os h
 have h2 := RowKit.Below.tape h
 have h3 := RowKit.Below.output h
 have h4 := Ext.size h
 have h5 := Ext.block h
 exact ⟨h1, h2, h3, h4, h5⟩
theorem own : ownKnob P.godebug = none := by kernel_rfl
theorem laidOut : laidOutB P = true := by kernel_rfl
theorem AgY {f : FuncId} {fn : Func} {args : List Value} {w : World} {K : Value → World → Prop} (hf : P.funcs[f]? = some fn) (hn : (fn.name == "runtime.NumGoroutine") = false) (hb : fn.body.isSome = true) (h : call P f args (N w) K) :
  Calls P f args.toArray w (fun e w' => ∃ v, e = .returned v ∧ K v (N w')) := by
 obtain ⟨n, c', hr, hk⟩ := h w rfl
 have hn' : ¬ fn.name = "runtime.NumGoroutine" := by simpa using hn
 cases hbb : fn.body with
 | none => rw [hbb] at hb; cases hb
 | some c =>
  have : (callFunc f args.toArray).run P w = .ok (.enter f args.toArray) w := by simp [callFunc, program, Sem.run, hf, hn', hbb]
  rw [this] at hr
  cases hr
  exact hk w rfl
end
end Go.Proofs.YtjompmflommadaaGreatDoor
