import Derived.Laws.FloatArith
import Derived.Laws.OwnMore
import Derived.Laws.Slices
import Derived.WalkKit
import Derived.Test.YtjompmflommadaaGreatDoorQFnProgramTextsVVcD
set_option linter.unusedSimpArgs false
set_option linter.unusedVariables false
namespace Go.Vc
open Go
variable {P : Program} {w : World}
@[congr] theorem AkW {c c' x x' y y' : Value} {K : Value → Prop} (h : c = c') (hx : x = x') (hy : y = y') : pick c x y K = pick c' x' y' K := by rw [h, hx, hy]
@[congr] theorem AlH {t : TypeId} {a a' : Value} {K : Value → Prop} (h : a = a') : ld P t a w K = ld P t a' w K := by rw [h]
@[congr] theorem Al2 {t : TypeId} {a a' i i' : Value} {K : Value → Prop} (h : a = a') (hi : i = i') : ixa P t a i w K = ixa P t a' i' w K := by rw [h, hi]
@[congr] theorem AlB {t : TypeId} {a a' i i' : Value} {K : Value → Prop} (h : a = a') (hi : i = i') : idx P t a i w K = idx P t a' i' w K := by rw [h, hi]
@[congr] theorem Alr {t : TypeId} {a a' : Value} {f : Nat} {K : Value → Prop} (h : a = a') : fda P t a f w K = fda P t a' f w K := by rw [h]
@[congr] theorem All {t : TypeId} {a a' : Value} {f : Nat} {K : Value → Prop} (h : a = a') : fld P t a f w K = fld P t a' f w K := by rw [h]
@[congr] theorem Al4 {op : BinOp} {t : TypeId} {cx cy : Bool} {x x' y y' : Value} {K : Value → Prop} (hx : x = x') (hy : y = y') : bin P op t cx cy x y w K = bin P op t cx cy x' y' w K := by rw [hx, hy]
@[congr] theorem Ale {op : BinOp} {t : TypeId} {cx cy : Bool} {x x' y y' : Value} {K : Value → Prop} (hx : x = x') (hy : y = y') : rbin P op t cx cy x y w K = rbin P op t cx cy x' y' w K := by rw [hx, hy]
@[congr] theorem Alp {op : UnOp} {x x' : Value} {K : Value → Prop} (hx : x = x') : una P op x w K = una P op x' w K := by rw [hx]
@[congr] theorem Al1 {s d : TypeId} {x x' : Value} {K : Value → Prop} (hx : x = x') : cnv P s d x w K = cnv P s d x' w K := by rw [hx]
@[congr] theorem AkR {s d : TypeId} {x x' : Value} {K : Value → Prop} (hx : x = x') : rcnv P s d x w K = rcnv P s d x' w K := by rw [hx]
@[congr] theorem AkO {s d : TypeId} {x x' : Value} {K : Value → World → Prop} (hx : x = x') : cnv2 P s d x w K = cnv2 P s d x' w K := by rw [hx]
@[congr] theorem AlA {x x' : Value} {i : Nat} {K : Value → Prop} (hx : x = x') : xtr P x i w K = xtr P x' i w K := by rw [hx]
@[congr] theorem Als {x x' : Value} {K : Value → Prop} (hx : x = x') : nch x K = nch x' K := by rw [hx]
@[congr] theorem Al9 {t : TypeId} {x x' : Value} {lo lo' hi hi' mx mx' : Option Value} {K : Value → Prop} (hx : x = x') (h1 : lo = lo') (h2 : hi = hi') (h3 : mx = mx') : sli P t x lo hi mx w K = sli P t x' lo' hi' mx' w K := by rw [hx, h1, h2, h3]
@[congr] theorem Al6 {t : TypeId} {ps ps' : List (Nat × Value)} {K : Value → Prop} (h : ps = ps') : bld P t ps w K = bld P t ps' w K := by rw [h]
@[congr] theorem Alh {t : TypeId} {x x' : Value} {K : Value → Prop} (h : x = x') : mki P t x w K = mki P t x' w K := by rw [h]
@[congr] theorem Alj {b : Builtin} {ats : Array TypeId} {t : TypeId} {l l' : List Value} {K : Value → Prop} (h : l = l') : bl0 P b ats t l w K = bl0 P b ats t l' w K := by rw [h]
@[congr] theorem Al3 {b : Builtin} {ats : Array TypeId} {t : TypeId} {l l' : List Value} {K : Value → Prop} (h : l = l') : rbl P b ats t l w K = rbl P b ats t l' w K := by rw [h]
@[congr] theorem Alw {b : Builtin} {ats : Array TypeId} {t : TypeId} {l l' : List Value} {K : Value → World → Prop} (h : l = l') : bl2 P b ats t l w K = bl2 P b ats t l' w K := by rw [h]
@[congr] theorem Alb {f : FuncId} {l l' : List Value} {K : Value → World → Prop} (h : l = l') : call P f l w K = call P f l' w K := by rw [h]
@[congr] theorem Ak9 {f f' : Value} {l l' : List Value} {K : Value → World → Prop} (hf : f = f') (h : l = l') : callv P f l w K = callv P f' l' w K := by rw [hf, h]
@[congr] theorem Al7 {t : TypeId} {a a' x x' : Value} {K : World → Prop} (ha : a = a') (hx : x = x') : sto P t a x w K = sto P t a' x' w K := by rw [ha, hx]
@[congr] theorem Al5 {t : TypeId} {K : Value → World → Prop} : alc P t w K = alc P t w K := rfl
@[congr] theorem AlG {t : TypeId} {x x' : Value} {K : Value → World → Prop} (hx : x = x') : bx P t x w K = bx P t x' w K := by rw [hx]
@[congr] theorem Aln {t : TypeId} {n : Nat} {ps ps' : List (Nat × Value)} {K : Value → World → Prop} (h : ps = ps') : bsl P t n ps w K = bsl P t n ps' w K := by rw [h]
@[congr] theorem Alq {t : TypeId} {l l' c c' : Value} {K : Value → World → Prop} (hl : l = l') (hc : c = c') : mks P t l c w K = mks P t l' c' w K := by rw [hl, hc]
@[congr] theorem Alm {v v' : Value} {A B : Prop} (h : v = v') : cnd v A B = cnd v' A B := by rw [h]
@[congr] theorem Aly {v v' : Value} {b : Bool} {A B : Prop} (h : v = v') : grd v b A B = grd v' b A B := by rw [h]
@[congr] theorem Alz {t : TypeId} {a a' : Value} {K : Value → Prop} (h : a = a') : ldc P t a w K = ldc P t a' w K := by rw [h]
@[simp] theorem A6 (A B : Prop) : cnd (.bool true) A B = A := rfl
@[simp] theorem Ao (A B : Prop) : cnd (.bool false) A B = B := rfl
theorem Az {b : Bool} {A B : Prop} (h1 : b = true → A) (h2 : b = false → B) : cnd (.bool b) A B := by
 cases b
 ·exact h2 rfl
 ·exact h1 rfl
theorem Ac {p : Prop} [Decidable p] {A B : Prop} (h1 : p → A) (h2 : ¬p → B) : cnd (.bool (decide p)) A B := by
 by_cases h : p
 ·rw [decide_eq_true h]; exact h1 h
 ·rw [decide_eq_false h]; exact h2 h
theorem A9 {b : Bool} {A B : Prop} (h : b = true) (hA : A) : cnd (.bool b) A B := by rw [h]; exact hA
theorem AD {b : Bool} {A B : Prop} (h : b = false) (hB : B) : cnd (.bool b) A B := by rw [h]; exact hB
@[simp] theorem Au (A B : Prop) : grd (.bool true) true A B = A := rfl
@[simp] theorem At (A B : Prop) : grd (.bool true) false A B = B := rfl
@[simp] theorem Ak (A B : Prop) : grd (.bool false) false A B = A := rfl
@[simp] theorem Ap (A B : Prop) : grd (.bool false) true A B = B := rfl
theorem Dn {b want : Bool} {A B : Prop} (h1 : b = want → A) (h2 : b = !want → B) : grd (.bool b) want A B := by
 cases b <;> cases want <;> first | exact h1 rfl | exact h2 rfl
@[simp] theorem An (b : Bool) (x y : Value) (K : Value → Prop) : pick (.bool b) x y K = K (cond b x y) := rfl
theorem BB {op : BinOp} {t : TypeId} {cx cy : Bool} {x y v : Value} {K : Value → Prop} (h1 : rv P (eqg op t cx cy x y) w = some ()) (h2 : rv P (binOp op t x y) w = some v) : bin P op t cx cy x y w K = K v := by
 unfold bin dv
 rw [AR, h1]
 simp [h2]
theorem CS (op : BinOp) (t : TypeId) (cx cy : Bool) (k k' : IntKind) (a b : Int) : rv P (eqg op t cx cy (.int k a) (.int k' b)) w = some () := by
 unfold eqg eqGuard; cases op <;> rfl
theorem GJ (op : BinOp) (t : TypeId) (cx cy : Bool) (k k' : FloatKind) (a b : Nat) : rv P (eqg op t cx cy (.float k a) (.float k' b)) w = some () := by
 unfold eqg eqGuard; cases op <;> rfl
theorem Abt (op : BinOp) (t : TypeId) (cx cy : Bool) (a b : Bool) : rv P (eqg op t cx cy (.bool a) (.bool b)) w = some () := by
 unfold eqg eqGuard; cases op <;> rfl
theorem RE (op : BinOp) (t : TypeId) (cx cy : Bool) (a b : ByteArray) : rv P (eqg op t cx cy (.string a) (.string b)) w = some () := by
 unfold eqg eqGuard; cases op <;> rfl
section ints
variable (t : TypeId) (cx cy : Bool) (k : IntKind) (a b : Int) (K : Value → Prop)
@[simp] theorem Aw : bin P .add t cx cy (.int k a) (.int k b) w K = K (.int k (k.wrap (a + b))) := BB (CS ..) (by simp [binOp, Op.intArith])
@[simp] theorem AC : bin P .sub t cx cy (.int k a) (.int k b) w K = K (.int k (k.wrap (a - b))) := BB (CS ..) (by simp [binOp, Op.intArith])
@[simp] theorem CR : bin P .mul t cx cy (.int k a) (.int k b) w K = K (.int k (k.wrap (a * b))) := BB (CS ..) (by simp [binOp, Op.intArith])
theorem Ad9 (hb : b ≠ 0) : bin P .quo t cx cy (.int k a) (.int k b) w K = K (.int k (k.wrap (a.tdiv b))) := BB (CS ..) (by simp [binOp, Op.intDiv, hb])
theorem Adx (hb : b ≠ 0) : bin P .rem t cx cy (.int k a) (.int k b) w K = K (.int k (a.tmod b)) := BB (CS ..) (by simp [binOp, Op.intDiv, hb])
@[simp] theorem Ai : bin P .lss t cx cy (.int k a) (.int k b) w K = K (.bool (decide (a < b))) := BB (CS ..) (by simp [binOp, Op.intCmp])
@[simp] theorem Dx : bin P .leq t cx cy (.int k a) (.int k b) w K = K (.bool (decide (a ≤ b))) := BB (CS ..) (by simp [binOp, Op.intCmp])
@[simp] theorem Aq : bin P .gtr t cx cy (.int k a) (.int k b) w K = K (.bool (decide (b < a))) := BB (CS ..) (by simp [binOp, Op.intCmp])
@[simp] theorem B6 : bin P .geq t cx cy (.int k a) (.int k b) w K = K (.bool (decide (b ≤ a))) := BB (CS ..) (by simp [binOp, Op.intCmp])
@[simp] theorem Ae : bin P .eql t cx cy (.int k a) (.int k b) w K = K (.bool (decide (a = b))) := BB (CS ..) (by
 have : (a == b) = decide (a = b) := by by_cases h : a = b <;> simp [h]
 simp [binOp, Op.intCmp, this])
@[simp] theorem B5 : bin P .neq t cx cy (.int k a) (.int k b) w K = K (.bool (decide (a ≠ b))) := BB (CS ..) (by
 have : (a != b) = decide (a ≠ b) := by by_cases h : a = b <;> simp [h]
 simp [binOp, Op.intCmp, this])
theorem Kz : bin P .and t cx cy (.int k a) (.int k b) w K = K (.int k (k.wrap (BitVec.ofInt k.bits a &&& BitVec.ofInt k.bits b).toNat)) := BB (CS ..) (by simp [binOp, Op.intBits])
theorem Agm : bin P .or t cx cy (.int k a) (.int k b) w K = K (.int k (k.wrap (BitVec.ofInt k.bits a ||| BitVec.ofInt k.bits b).toNat)) := BB (CS ..) (by simp [binOp, Op.intBits])
theorem Ys (yk : IntKind) (hb : 0 ≤ b) : bin P .shl t cx cy (.int k a) (.int yk b) w K = K (.int k (k.wrap (a * 2 ^ (min b.toNat k.bits)))) := BB (CS ..) (by
 have : ¬ b < 0 := by omega
 simp [binOp, Op.shift, this])
theorem AcV (yk : IntKind) (hb : 0 ≤ b) : bin P .shr t cx cy (.int k a) (.int yk b) w K = K (.int k (a.fdiv (2 ^ (min b.toNat k.bits)))) := BB (CS ..) (by
 have : ¬ b < 0 := by omega
 simp [binOp, Op.shift, this])
end ints
@[simp] theorem A5 (b : Bool) (K : Value → Prop) : una P .not (.bool b) w K = K (.bool (!b)) := by simp [una, dv, Op.unary]
@[simp] theorem Cz (k : IntKind) (n : Int) (K : Value → Prop) : una P .neg (.int k n) w K = K (.int k (k.wrap (0 - n))) := by simp [una, dv, Op.unary, Op.intArith]
@[simp] theorem Dz (k : FloatKind) (b : Nat) (K : Value → Prop) : una P .neg (.float k b) w K = K (.float k (Op.negFloat k b)) := by simp [una, dv, Op.unary]
section floats
variable (t : TypeId) (cx cy : Bool) (k : FloatKind) (a b : Nat) (K : Value → Prop)
@[simp] theorem DO : bin P .eql t cx cy (.float k a) (.float k b) w K = K (.bool (k.format.order a b == some .eq)) := BB (GJ ..) (by simp [binOp, Op.floatCmp])
@[simp] theorem K2 : bin P .neq t cx cy (.float k a) (.float k b) w K = K (.bool (k.format.order a b != some .eq)) := BB (GJ ..) (by simp [binOp, Op.floatCmp])
@[simp] theorem VG : bin P .lss t cx cy (.float k a) (.float k b) w K = K (.bool (k.format.order a b == some .lt)) := BB (GJ ..) (by simp [binOp, Op.floatCmp])
@[simp] theorem AlF : bin P .leq t cx cy (.float k a) (.float k b) w K = K (.bool (k.format.order a b == some .lt || k.format.order a b == some .eq)) := BB (GJ ..) (by simp [binOp, Op.floatCmp])
@[simp] theorem Ahi : bin P .gtr t cx cy (.float k a) (.float k b) w K = K (.bool (k.format.order a b == some .gt)) := BB (GJ ..) (by simp [binOp, Op.floatCmp])
@[simp] theorem AgB : bin P .geq t cx cy (.float k a) (.float k b) w K = K (.bool (k.format.order a b == some .gt || k.format.order a b == some .eq)) := BB (GJ ..) (by simp [binOp, Op.floatCmp])
end floats
theorem A4 {t : TypeId} {d : TypeDesc} (h : P.underlying t = some d) : rv P (underlying t) w = some d := by
 simp [underlying, program, Bind.bind, Sem.bind, rv, h]
section bools
variable (t : TypeId) (cx cy : Bool) (a b : Bool) (K : Value → Prop)
theorem S9 (ht : P.underlying t = some .bool) : rv P (Op.equal t (.bool a) (.bool b)) w = some (a == b) := by
 show rv P (Op.equalIn (9999 + 1) t (.bool a) (.bool b)) w = _
 rw [Op.equalIn, AR, A4 ht]
 rfl
theorem Ahc (ht : P.underlying t = some .bool) : bin P .eql t cx cy (.bool a) (.bool b) w K = K (.bool (a == b)) := BB (Abt ..) (by
 show rv P (do pure (Value.bool (← Op.equal t (.bool a) (.bool b)))) w = _
 rw [AR, S9 t a b ht]; rfl)
theorem VI (ht : P.underlying t = some .bool) : bin P .neq t cx cy (.bool a) (.bool b) w K = K (.bool (!(a == b))) := BB (Abt ..) (by
 show rv P (do pure (Value.bool (!(← Op.equal t (.bool a) (.bool b))))) w = _
 rw [AR, S9 t a b ht]; rfl)
end bools
section strings
variable (t : TypeId) (cx cy : Bool) (a b : ByteArray) (K : Value → Prop)
theorem AgD (h : a.size + b.size ≤ 9223372036854775807) : bin P .add t cx cy (.string a) (.string b) w K = K (.string (a ++ b)) := BB (RE ..) (by
 have h' : ¬ (((a.size + b.size : Nat) : Int) > IntKind.i64.max) := by rw [IntKind.max_i64]; omega
 simp only [binOp, Op.stringOp]
 rw [if_neg h']; rfl)
@[simp] theorem AhM : bin P .eql t cx cy (.string a) (.string b) w K = K (.bool (a.toList == b.toList)) := BB (RE ..) (by simp [binOp, Op.stringOp])
@[simp] theorem AbN : bin P .neq t cx cy (.string a) (.string b) w K = K (.bool (!(a.toList == b.toList))) := BB (RE ..) (by simp [binOp, Op.stringOp])
end strings
theorem NP {k : IntKind} {x : Int} (h1 : k.min ≤ x) (h2 : x ≤ k.max) : k.wrap x = x := by
 cases k <;> simp only [IntKind.min, IntKind.max, IntKind.wrap, IntKind.bits, IntKind.signed] at * <;> simp at * <;> omega
theorem Ad {x : Int} (h1 : -9223372036854775808 ≤ x) (h2 : x ≤ 9223372036854775807) : IntKind.i64.wrap x = x := NP (by simpa [IntKind.min, IntKind.bits, IntKind.signed] using h1) (by simpa [IntKind.max, IntKind.bits, IntKind.signed] using h2)
def TI (P : Program) (t : TypeId) (z : Value) (s b : Nat) : Prop := ∃ i, P.info? t = some i ∧ i.zero = some z ∧ i.size = s ∧ i.bytes = b
theorem AZ {t : TypeId} {z : Value} {s b : Nat} (h : (P.info? t).map (fun i => (i.zero, i.size, i.bytes)) = some (some z, s, b)) : TI P t z s b := info_parts h
section
variable {t e : TypeId} {z : Value} {s b : Nat} {d : TypeDesc} {K : Value → Prop} {KW : Value → World → Prop}
theorem Vj {i : TypeInfo} (h : P.info? t = some i) : rv P (typeInfo t) w = some i := by
 simp [typeInfo, program, Bind.bind, Sem.bind, rv, h]
theorem Ch (h : TI P t z s b) : rv P (sizeOf t) w = some s := by
 obtain ⟨i, h1, h2, h3, h4⟩ := h
 unfold sizeOf
 rw [AR, Vj h1]
 simp [h3]
theorem DS (h : TI P t z s b) : rv P (zeroValue t) w = some z := by
 obtain ⟨i, h1, h2, h3, h4⟩ := h
 unfold zeroValue
 rw [AR, Vj h1]
 simp [h2]
def aggB : TypeDesc → Bool
 | .struct _ | .array _ _ => true
 | _ => false
theorem VW (h : P.underlying t = some d) : rv P (isAgg t) w = some (aggB d) := by
 unfold isAgg
 rw [AR, A4 h]
 cases d <;> rfl
theorem DI {ty : TypeId} {a : Option Addr} {n c : Nat} (hu : P.underlying t = some (.slice e)) : bl0 P .len #[t] ty [.slice a n c] w K = K (.int .i64 n) := by
 unfold bl0 builtin
 simp only [Builtin.len_]
 simp [A4 hu, goInt, valK]
theorem Agl {ty : TypeId} {x : ByteArray} (hu : P.underlying t = some .string) : bl0 P .len #[t] ty [.string x] w K = K (.int .i64 x.size) := by
 unfold bl0 builtin
 simp only [Builtin.len_]
 simp [A4 hu, goInt, valK]
theorem Ug {bl o n c : Nat} {k : IntKind} {i : Int} (hu : P.underlying t = some (.slice e)) (ht : TI P e z s b) (h0 : 0 ≤ i) (h1 : i < n) :
  ixa P t (.slice (some ⟨bl, o, none⟩) n c) (.int k i) w K = K (.pointer (some ⟨bl, o + i.toNat * s, none⟩)) := by
 unfold ixa dv Instr.indexAt
 simp [A4 hu, asIntOf, h0, h1, Ch ht, Addr.add_lit]
theorem F4 {a : Addr} {v : Value} (hu : P.underlying t = some d) (hd : aggB d = false) (hc : w.cell? a = some v) : ld P t (.pointer (some a)) w K = K v := by
 unfold ld dv Instr.loadAt
 simp [Instr.sureAddr, loadVar, VW hu, hd, load, rv, hc]
theorem I0 {a : Addr} : ∀ (n i : Nat) (cs : List Value) (acc : Array Value), cs.length = n → (∀ j u, cs[j]? = some u → w.cell? (a.add (i + j)) = some u) → rv P (loadCellsFrom a i n acc) w = some (acc ++ cs.toArray)
 | 0, i, cs, acc, hl, h => by
  obtain rfl : cs = [] := List.eq_nil_of_length_eq_zero hl
  simp [loadCellsFrom]
 | n + 1, i, cs, acc, hl, h => by
  cases cs with
  | nil => simp at hl
  | cons c cs =>
   have h0 := h 0 c rfl
   simp only [Nat.add_zero] at h0
   have hr : rv P (load (a.add i)) w = some c := by simp [load, rv, h0]
   simp only [loadCellsFrom, AR, hr, Option.bind_some]
   rw [I0 n (i + 1) cs (acc.push c) (by simpa using hl) (fun j u hj => by
    have := h (j + 1) u (by simpa using hj)
    rw [show i + 1 + j = i + (j + 1) by omega]; exact this)]
   simp
theorem Ace {a : Addr} {cs : List Value} (hu : P.underlying t = some d) (hd : aggB d = true) (ht : TI P t z s b) (hl : cs.length = s) (hc : ∀ j u, cs[j]? = some u → w.cell? (a.add j) = some u) : ld P t (.pointer (some a)) w K = K (.agg cs.toArray) := by
 unfold ld dv Instr.loadAt
 have := I0 (P := P) (w := w) (a := a) s 0 cs #[] hl (by simpa using hc)
 simp [Instr.sureAddr, loadVar, VW hu, hd, Ch ht, loadCells, this]
theorem Ajw {a : Addr} {cs : List Value} (hu : P.underlying t = some d) (hd : aggB d = true) (ht : TI P t z s b) (hl : cs.length = s) (hc : ∀ j u, cs[j]? = some u → w.cell? (a.add j) = some u) : ldc P t (.pointer (some a)) w K = K (.agg cs.toArray) := by
 unfold ldc dv
 have := I0 (P := P) (w := w) (a := a) s 0 cs #[] hl (by simpa using hc)
 simp [asAddr, loadVar, VW hu, hd, Ch ht, loadCells, this]
theorem Aky {a : Addr} {f : Nat} {fs : Array Field} {fd : Field} (hu : P.underlying t = some (.struct fs)) (hf : fs[f]? = some fd) (ht : TI P fd.type z s b) (hs : s ≠ 0) : fda P t (.pointer (some a)) f w K = K (.pointer (some (a.add fd.offset))) := by
 unfold fda dv Instr.fieldAt
 simp [A4 hu, hf, Instr.sureAddr, fieldPlace, Ch ht, hs]
theorem Bu {a : Addr} {f off : Nat} {ty : TypeId} {fs : Array Field} (hu : P.underlying t = some (.struct fs)) (hf : (fs[f]?).map (fun x => (x.type, x.offset)) = some (ty, off)) (ht : TI P ty z s b) (hs : s ≠ 0) :
  fda P t (.pointer (some a)) f w K = K (.pointer (some (a.add off))) := by
 obtain ⟨fd, h1, h2⟩ := Option.map_eq_some_iff.1 hf
 simp only [Prod.mk.injEq] at h2
 obtain ⟨rfl, rfl⟩ := h2
 exact Aky hu h1 ht hs
@[simp] theorem AgQ (a : Addr) : nch (.pointer (some a)) K = K (.pointer (some a)) := rfl
theorem P5 {vs : Array Value} {i : Nat} {v : Value} (h : vs[i]? = some v) : xtr P (.tuple vs) i w K = K v := by
 simp [xtr, dv, Instr.extract, h]
@[simp] theorem A8 (a : Value) (r : List Value) : xtr P (.tuple (a :: r).toArray) 0 w K = K a := P5 (by simp)
@[simp] theorem Ax (a b : Value) (r : List Value) : xtr P (.tuple (a :: b :: r).toArray) 1 w K = K b := P5 (by simp)
@[simp] theorem P9 (a b c : Value) (r : List Value) : xtr P (.tuple (a :: b :: c :: r).toArray) 2 w K = K c := P5 (by simp)
@[simp] theorem AlO (a b c d : Value) (r : List Value) : xtr P (.tuple (a :: b :: c :: d :: r).toArray) 3 w K = K d := P5 (by simp)
theorem Cs {α β : Type} {sm : Sem α} {f : α → Sem β} {v : α} {K : β → World → Prop} (h : rv P sm w = some v) (hf : SemA P (f v) w K) : SemA P (sm >>= f) w K :=
 AL (EO (Cl _ h hf))
theorem FJ {o : Obj} {K : Nat → World → Prop} (h : K w.heap.size (w.alloc o)) : SemA P (newObj o) w K := fun c hc => by
 subst hc
 exact ⟨_, _, rfl, h⟩
theorem Ae6 {a : Addr} {v u : Value} {K : Unit → World → Prop} (h1 : v.oneCell' = true) (hc : w.cell? a = some u) (hf : w.frozen? a = false) (h : K () (w.setCell a v)) : SemA P (store a v) w K := fun c hcw => by
 subst hcw
 refine ⟨(), c.setCell a v, ?_, h⟩
 have hc' : c.cell? a = some u := hc
 have hf' : c.frozen? a = false := hf
 unfold store
 cases v <;> first | (simp [Value.oneCell'] at h1; done) | simp [Sem.run, hc', hf']
theorem AfD (ht : TI P t z s b) (h : KW (.pointer (some ⟨w.heap.size, 0, none⟩)) (w.alloc (.cells z.cells t))) : alc P t w KW := by
 unfold alc Instr.alloc
 refine Cs (DS ht) ?_
 exact AL (AL (FJ (AS (AS h))))
theorem Ah8 {v : Value} (h : KW (.pointer (some ⟨w.heap.size, 0, none⟩)) (w.alloc (.cells v.cells t))) : bx P t v w KW := by
 unfold bx Instr.box
 exact AL (AL (FJ (AS (AS h))))
theorem J5 {a : Addr} : ∀ (vs : List Value) (i : Nat) {w : World} {K : Unit → World → Prop}, (∀ v ∈ vs, v.oneCell' = true) → (∀ j, j < vs.length → ∃ u, w.cell? (a.add (i + j)) = some u ∧ w.frozen? (a.add (i + j)) = false) →
  K () ((vs.zipIdx i).foldl (fun w x => w.setCell (a.add x.2) x.1) w) → SemA P (storeCells a vs i) w K
 | [], i, w, K, h1, h2, h => by simp only [storeCells]; exact AS h
 | v :: vs, i, w, K, h1, h2, h => by
  simp only [storeCells]
  obtain ⟨u, hu, hf⟩ := h2 0 (by simp)
  simp only [Nat.add_zero] at hu hf
  refine AL (Ae6 (h1 v (by simp)) hu hf ?_)
  refine J5 vs (i + 1) (fun v hv => h1 v (by simp [hv])) ?_ (by simpa using h)
  intro j hj
  obtain ⟨u', hu', hf'⟩ := h2 (j + 1) (by simpa using hj)
  rw [show i + 1 + j = i + (j + 1) by omega]
  by_cases he : a.add i = a.add (i + (j + 1))
  ·exact ⟨v, by rw [← he]; exact World.cell?_setCell_same _ _ _ hu, by simpa using hf'⟩
  ·exact ⟨u', by rw [World.cell?_setCell_other _ _ _ _ he]; exact hu', by simpa using hf'⟩
theorem NM {a : Addr} {v u : Value} {K : World → Prop} (ht : TI P t z 1 b) (h1 : v.oneCell' = true) (hc : w.cell? a = some u) (hf : w.frozen? a = false) (h : K (w.setCell a v)) : sto P t (.pointer (some a)) v w K := by
 unfold sto Instr.storeAt
 refine Cs (v := a) (by simp [Instr.sureAddr]) ?_
 unfold storeVar
 refine Cs (Ch ht) ?_
 have hcells : v.cells = #[v] := by cases v <;> first | rfl | (simp [Value.oneCell'] at h1; done)
 rw [hcells]
 simp only [List.size_toArray, List.length_cons, List.length_nil, ne_eq, not_true_eq_false, if_false]
 refine J5 [v] 0 (by simpa using h1) ?_ ?_
 ·intro j hj
  obtain rfl : j = 0 := by simpa using hj
  exact ⟨u, by simpa [Addr.add] using hc, by simpa [Addr.add] using hf⟩
 ·simpa [Addr.add] using h
theorem AiW {a : Addr} {cs : List Value} {K : World → Prop} (ht : TI P t z s b) (hl : cs.length = s) (h1 : ∀ v ∈ cs, v.oneCell' = true) (hc : ∀ j, j < s → ∃ u, w.cell? (a.add j) = some u ∧ w.frozen? (a.add j) = false)
  (h : K ((cs.zipIdx 0).foldl (fun w x => w.setCell (a.add x.2) x.1) w)) : sto P t (.pointer (some a)) (.agg cs.toArray) w K := by
 unfold sto Instr.storeAt
 refine Cs (v := a) (by simp [Instr.sureAddr]) ?_
 unfold storeVar
 refine Cs (Ch ht) ?_
 simp only [Value.cells, List.size_toArray, hl, ne_eq, not_true_eq_false, if_false]
 exact J5 cs 0 h1 (fun j hj => by simpa using hc j (by omega)) h
theorem DG (hu : P.underlying t = some (.slice e)) (ht : TI P e z s b) (h : KW (.slice (some ⟨w.heap.size, 0, none⟩) 0 0) (w.alloc (.cells #[] e))) : bsl P t 0 [] w KW := by
 unfold bsl Instr.buildSlice
 refine Cs (A4 hu) ?_
 refine Cs (sm := sizeOf e) (Ch ht) ?_
 simp only [Nat.zero_mul, Instr.fill, Array.range_zero']
 exact AL (AS (AL (AL (FJ (AS (AS (by simpa using h)))))))
theorem Qx {v : Value} (hu : P.underlying t = some (.slice e)) (ht : TI P e z 1 b) (h1 : v.oneCell' = true) (hz : z.oneCell' = true) (h : KW (.slice (some ⟨w.heap.size, 0, none⟩) 1 1) (w.alloc (.cells #[v] e))) : bsl P t 1 [(0, v)] w KW := by
 have hcells : ∀ v : Value, v.oneCell' = true → v.cells = #[v] := by intro v h1; cases v <;> first | rfl | (simp [Value.oneCell'] at h1; done)
 unfold bsl Instr.buildSlice
 refine Cs (A4 hu) ?_
 refine Cs (sm := sizeOf e) (Ch ht) ?_
 simp only [Nat.one_mul]
 rw [if_neg (by omega), if_neg (by omega)]
 refine AL (s := zeroValue e) ?_
 refine EO (Cl _ (DS ht) ?_)
 refine AL (AS ?_)
 have : Instr.fill (fun i => some (i * 1, 1)) ((Array.range 1).map (fun i => z.cells[i % z.cells.size]!)) [(0, v)].toArray.toList = some #[v] := by
  rw [hcells z hz]
  have hr : Array.range 1 = #[0] := rfl
  simp [Instr.fill, hcells v h1, hr]
 simp only [this]
 exact AL (AL (FJ (AS (AS h))))
end
end Go.Vc
