/- Proved here: what the operations do; no condition. -/
import Derived.Test.YtbpeidblbebjpaaGreatWc
namespace Go.Mw
set_option linter.unusedVariables false
set_option linter.unusedSimpArgs false
open Go
section
variable {P : Program} {n : Nat} {e : Env} {h : Heap} {d : Option Tmp} {t : TypeId} {p : String} {af : Array Edge} {gd : Option (Nat × Bool)} {x y c : Operand} {T U : TypeId}

theorem beqD {α : Type} [DecidableEq α] [BEq α] [LawfulBEq α] (i j : α) : (i == j) = decide (i = j) := by by_cases h : i = j <;> simp [h]

theorem yMove {v : Value} (hx : ev e x = some v) : Yl P n e ⟨d, .move x, t, p, af, gd⟩ v h := fun a w ha _ => by simp [execOp, ha.ev hx]
theorem yAssign {v : Value} (hx : ev e x = some v) : Yl P n e ⟨d, .assign x, t, p, af, gd⟩ v h := fun a w ha _ => by simp [execOp, ha.ev hx]
theorem yPickT {v : Value} (hc : ev e c = some (.bool true)) (hx : ev e x = some v) : Yl P n e ⟨d, .pick c x y, t, p, af, gd⟩ v h :=
  fun a w ha _ => by simp [execOp, ha.ev hc, ha.ev hx, asBool]
theorem yPickF {v : Value} (hc : ev e c = some (.bool false)) (hy : ev e y = some v) : Yl P n e ⟨d, .pick c x y, t, p, af, gd⟩ v h :=
  fun a w ha _ => by simp [execOp, ha.ev hc, ha.ev hy, asBool]
theorem yExtract {vs : Array Value} {i : Nat} {v : Value} (hx : ev e x = some (.tuple vs)) (hv : vs[i]? = some v) : Yl P n e ⟨d, .extract x i, t, p, af, gd⟩ v h :=
  fun a w ha _ => by simp [execOp, ha.ev hx, Instr.extract, hv]
theorem yNil {q : Addr} (hx : ev e x = some (.pointer (some q))) : Yl P n e ⟨d, .nilCheck x, t, p, af, gd⟩ (.pointer (some q)) h :=
  fun a w ha _ => by simp [execOp, ha.ev hx]
theorem yFunc {fn : Go.Fn} {first cap : Array Operand} {vs us : List Value} (h1 : evs e first.toList = some vs) (h2 : evs e cap.toList = some us) :
    Yl P n e ⟨d, .makeFunc fn first cap, t, p, af, gd⟩ (.func fn vs.toArray us.toArray) h := fun a w ha _ => by
  have e1 : first.map a.eval = vs.toArray := by apply Array.ext'; simpa using ha.evs h1
  have e2 : cap.map a.eval = us.toArray := by apply Array.ext'; simpa using ha.evs h2
  simp [execOp, Instr.makeFunc, e1, e2]

/-! ints -/
section
variable {k : IntKind} {i j : Int}
theorem yAdd (hx : ev e x = some (.int k i)) (hy : ev e y = some (.int k j)) : Yl P n e ⟨d, .binOp .add T x y U, t, p, af, gd⟩ (.int k (k.wrap (i + j))) h :=
  fun a w ha _ => by simp [execOp, ha.ev hx, ha.ev hy, eqGuard, binOp, Op.intArith]
theorem ySub (hx : ev e x = some (.int k i)) (hy : ev e y = some (.int k j)) : Yl P n e ⟨d, .binOp .sub T x y U, t, p, af, gd⟩ (.int k (k.wrap (i - j))) h :=
  fun a w ha _ => by simp [execOp, ha.ev hx, ha.ev hy, eqGuard, binOp, Op.intArith]
theorem yMul (hx : ev e x = some (.int k i)) (hy : ev e y = some (.int k j)) : Yl P n e ⟨d, .binOp .mul T x y U, t, p, af, gd⟩ (.int k (k.wrap (i * j))) h :=
  fun a w ha _ => by simp [execOp, ha.ev hx, ha.ev hy, eqGuard, binOp, Op.intArith]
theorem yEql (hx : ev e x = some (.int k i)) (hy : ev e y = some (.int k j)) : Yl P n e ⟨d, .binOp .eql T x y U, t, p, af, gd⟩ (.bool (decide (i = j))) h :=
  fun a w ha _ => by simp [execOp, ha.ev hx, ha.ev hy, eqGuard, binOp, Op.intCmp, beqD]
theorem yNeq (hx : ev e x = some (.int k i)) (hy : ev e y = some (.int k j)) : Yl P n e ⟨d, .binOp .neq T x y U, t, p, af, gd⟩ (.bool (decide (i ≠ j))) h :=
  fun a w ha _ => by
    simp only [execOp, ha.ev hx, ha.ev hy, eqGuard, binOp, Op.intCmp]
    by_cases hij : i = j <;> simp [hij]
theorem yLss (hx : ev e x = some (.int k i)) (hy : ev e y = some (.int k j)) : Yl P n e ⟨d, .binOp .lss T x y U, t, p, af, gd⟩ (.bool (decide (i < j))) h :=
  fun a w ha _ => by simp [execOp, ha.ev hx, ha.ev hy, eqGuard, binOp, Op.intCmp]
theorem yLeq (hx : ev e x = some (.int k i)) (hy : ev e y = some (.int k j)) : Yl P n e ⟨d, .binOp .leq T x y U, t, p, af, gd⟩ (.bool (decide (i ≤ j))) h :=
  fun a w ha _ => by simp [execOp, ha.ev hx, ha.ev hy, eqGuard, binOp, Op.intCmp]
theorem yGtr (hx : ev e x = some (.int k i)) (hy : ev e y = some (.int k j)) : Yl P n e ⟨d, .binOp .gtr T x y U, t, p, af, gd⟩ (.bool (decide (i > j))) h :=
  fun a w ha _ => by simp [execOp, ha.ev hx, ha.ev hy, eqGuard, binOp, Op.intCmp]
theorem yGeq (hx : ev e x = some (.int k i)) (hy : ev e y = some (.int k j)) : Yl P n e ⟨d, .binOp .geq T x y U, t, p, af, gd⟩ (.bool (decide (i ≥ j))) h :=
  fun a w ha _ => by simp [execOp, ha.ev hx, ha.ev hy, eqGuard, binOp, Op.intCmp]
def iand (k : IntKind) (i j : Int) : Int := k.wrap ((BitVec.ofInt k.bits i &&& BitVec.ofInt k.bits j).toNat : Int)
def ior (k : IntKind) (i j : Int) : Int := k.wrap ((BitVec.ofInt k.bits i ||| BitVec.ofInt k.bits j).toNat : Int)
def ixor (k : IntKind) (i j : Int) : Int := k.wrap ((BitVec.ofInt k.bits i ^^^ BitVec.ofInt k.bits j).toNat : Int)
def ishl (k : IntKind) (i j : Int) : Int := k.wrap (i * 2 ^ (min j.toNat k.bits))
def ishr (k : IntKind) (i j : Int) : Int := i.fdiv (2 ^ (min j.toNat k.bits))
theorem yAnd (hx : ev e x = some (.int k i)) (hy : ev e y = some (.int k j)) : Yl P n e ⟨d, .binOp .and T x y U, t, p, af, gd⟩ (.int k (iand k i j)) h :=
  fun a w ha _ => by simp [execOp, ha.ev hx, ha.ev hy, eqGuard, binOp, Op.intBits, iand]
theorem yOr (hx : ev e x = some (.int k i)) (hy : ev e y = some (.int k j)) : Yl P n e ⟨d, .binOp .or T x y U, t, p, af, gd⟩ (.int k (ior k i j)) h :=
  fun a w ha _ => by simp [execOp, ha.ev hx, ha.ev hy, eqGuard, binOp, Op.intBits, ior]
theorem yXor (hx : ev e x = some (.int k i)) (hy : ev e y = some (.int k j)) : Yl P n e ⟨d, .binOp .xor T x y U, t, p, af, gd⟩ (.int k (ixor k i j)) h :=
  fun a w ha _ => by simp [execOp, ha.ev hx, ha.ev hy, eqGuard, binOp, Op.intBits, ixor]
theorem yShl {k' : IntKind} (hx : ev e x = some (.int k i)) (hy : ev e y = some (.int k' j)) (h0 : 0 ≤ j) : Yl P n e ⟨d, .binOp .shl T x y U, t, p, af, gd⟩ (.int k (ishl k i j)) h :=
  fun a w ha _ => by
    have : ¬ j < 0 := by omega
    simp [execOp, ha.ev hx, ha.ev hy, eqGuard, binOp, Op.shift, ishl, this]
theorem yShr {k' : IntKind} (hx : ev e x = some (.int k i)) (hy : ev e y = some (.int k' j)) (h0 : 0 ≤ j) : Yl P n e ⟨d, .binOp .shr T x y U, t, p, af, gd⟩ (.int k (ishr k i j)) h :=
  fun a w ha _ => by
    have : ¬ j < 0 := by omega
    simp [execOp, ha.ev hx, ha.ev hy, eqGuard, binOp, Op.shift, ishr, this]
theorem yMax (hx : ev e x = some (.int k i)) (hy : ev e y = some (.int k j)) {ats : Array TypeId} : Yl P n e ⟨d, .call ⟨.builtin .max, #[x, y], ats⟩, t, p, af, gd⟩ (.int k (max i j)) h :=
  fun a w ha _ => by
    simp [execOp, resolve, invoke, builtin, Builtin.max_, Builtin.max2, ha.ev hx, ha.ev hy]
    by_cases hij : i < j
    · simp [hij]; omega
    · simp [hij]; omega
theorem yMin (hx : ev e x = some (.int k i)) (hy : ev e y = some (.int k j)) {ats : Array TypeId} : Yl P n e ⟨d, .call ⟨.builtin .min, #[x, y], ats⟩, t, p, af, gd⟩ (.int k (min i j)) h :=
  fun a w ha _ => by
    simp [execOp, resolve, invoke, builtin, Builtin.min_, Builtin.min2, ha.ev hx, ha.ev hy]
    by_cases hij : j < i
    · simp [hij]; omega
    · simp [hij]; omega
theorem yConv {k' : IntKind} {S D : TypeId} {sd : TypeDesc} (hs : P.underlying S = some sd) (hd : P.underlying D = some (.int k')) (hx : ev e x = some (.int k i)) : Yl P n e ⟨d, .convert S D x, t, p, af, gd⟩ (.int k' (k'.wrap i)) h :=
  fun a w ha _ => by
    have h1 := run_underlying hs w
    have h2 := run_underlying hd w
    simp [execOp, convert, ha.ev hx, h1, h2, Conv.intToInt]
theorem yNeg (hx : ev e x = some (.int k i)) : Yl P n e ⟨d, .unOp .neg T x, t, p, af, gd⟩ (.int k (k.wrap (0 - i))) h :=
  fun a w ha _ => by simp [execOp, ha.ev hx, Op.unary, Op.intArith]
theorem yCom (hx : ev e x = some (.int k i)) : Yl P n e ⟨d, .unOp .xor T x, t, p, af, gd⟩ (.int k (ixor k (if k.signed then -1 else k.max) i)) h :=
  fun a w ha _ => by simp [execOp, ha.ev hx, Op.unary, Op.intBits, ixor]
end
theorem yNot {b : Bool} (hx : ev e x = some (.bool b)) : Yl P n e ⟨d, .unOp .not T x, t, p, af, gd⟩ (.bool (!b)) h :=
  fun a w ha _ => by simp [execOp, ha.ev hx, Op.unary]

/-! strings -/
section
variable {s u : List UInt8}
theorem byteLoop (bs : ByteArray) : ∀ (m i : Nat) (r : List UInt8), bs.size - i = m → ByteArray.toList.loop bs i r = r.reverse ++ bs.data.toList.drop i := by
  intro m
  induction m with
  | zero =>
    intro i r hm
    unfold ByteArray.toList.loop
    have : ¬ i < bs.size := by omega
    simp only [this, if_false]
    rw [List.drop_of_length_le]; · simp
    · have : bs.data.toList.length = bs.size := Array.length_toList
      omega
  | succ m ih =>
    intro i r hm
    unfold ByteArray.toList.loop
    have hlt : i < bs.size := by omega
    simp only [hlt, if_true]
    rw [ih (i + 1) _ (by omega)]
    have hl : i < bs.data.toList.length := by rw [Array.length_toList]; exact hlt
    rw [List.drop_eq_getElem_cons hl]
    have hg : bs.get! i = bs.data.toList[i] := by
      show bs.data.get!Internal i = _
      simp only [Array.get!Internal, Array.getD]
      rw [dif_pos (show i < bs.data.size from hlt)]
      simp
    rw [hg]; simp
theorem strList (s : List UInt8) : (⟨s.toArray⟩ : ByteArray).toList = s := by
  unfold ByteArray.toList
  rw [byteLoop _ _ 0 [] rfl]; simp
theorem ySEql (hx : ev e x = some (.string ⟨s.toArray⟩)) (hy : ev e y = some (.string ⟨u.toArray⟩)) : Yl P n e ⟨d, .binOp .eql T x y U, t, p, af, gd⟩ (.bool (decide (s = u))) h :=
  fun a w ha _ => by simp [execOp, ha.ev hx, ha.ev hy, eqGuard, binOp, Op.stringOp, strList, beqD]
theorem yLenS (hu : P.underlying T = some .string) (hx : ev e x = some (.string ⟨s.toArray⟩)) : Yl P n e ⟨d, .call ⟨.builtin .len, #[x], #[T]⟩, t, p, af, gd⟩ (.int .i64 s.length) h :=
  fun a w ha _ => by
    simp [execOp, resolve, invoke, builtin, Builtin.len_, ha.ev hx, run_underlying hu w, goInt]
    rfl
end
theorem yLen {E : TypeId} {q : Option Addr} {l c : Nat} (hu : P.underlying T = some (.slice E)) (hx : ev e x = some (.slice q l c)) : Yl P n e ⟨d, .call ⟨.builtin .len, #[x], #[T]⟩, t, p, af, gd⟩ (.int .i64 l) h :=
  fun a w ha _ => by simp [execOp, resolve, invoke, builtin, Builtin.len_, ha.ev hx, run_underlying hu w, goInt]

/-! addresses -/
theorem Addr.add_at (b o j : Nat) : (⟨b, o, none⟩ : Addr).add j = ⟨b, o + j, none⟩ := by
  unfold Addr.add; split
  · rename_i hj; subst hj; rfl
  · rfl
theorem yField (ft off : Nat) {fs : Array Field} {f : Nat} {b o z : Nat} (hu : P.underlying T = some (.struct fs)) (hz : ∀ w, (sizeOf ft).run P w = .ok z w) (hf : (fs[f]?).map (fun d => (d.type, d.offset)) = some (ft, off)) (hz0 : Nat.beq z 0 = false)
    (hx : ev e x = some (.pointer (some ⟨b, o, none⟩))) : Yl P n e ⟨d, .fieldAddr T x f, t, p, af, gd⟩ (.pointer (some ⟨b, o + off, none⟩)) h :=
  fun a w ha _ => by
    have hne : z ≠ 0 := fun e => by subst e; simp at hz0
    cases hfd : fs[f]? with
    | none => rw [hfd] at hf; cases hf
    | some fd =>
      rw [hfd] at hf
      simp only [Option.map_some, Option.some.injEq, Prod.mk.injEq] at hf
      obtain ⟨rfl, rfl⟩ := hf
      simp [execOp, Instr.fieldAt, Instr.sureAddr, ha.ev hx, run_underlying hu w, hfd, fieldPlace, hz w, hne, Addr.add_at]
theorem yIdxA {m E z b o : Nat} {k : IntKind} {i : Int} (hu : P.underlying T = some (.array m E)) (hz : ∀ w, (sizeOf E).run P w = .ok z w)
    (hx : ev e x = some (.pointer (some ⟨b, o, none⟩))) (hy : ev e y = some (.int k i)) (h0 : 0 ≤ i) (hi : i < m) :
    Yl P n e ⟨d, .indexAddr T x y, t, p, af, gd⟩ (.pointer (some ⟨b, o + i.toNat * z, none⟩)) h :=
  fun a w ha _ => by simp [execOp, Instr.indexAt, Instr.sureAddr, asIntOf, ha.ev hx, ha.ev hy, run_underlying hu w, hz w, h0, hi, Addr.add_at]
theorem yIdxS {E z b o l c : Nat} {k : IntKind} {i : Int} (hu : P.underlying T = some (.slice E)) (hz : ∀ w, (sizeOf E).run P w = .ok z w)
    (hx : ev e x = some (.slice (some ⟨b, o, none⟩) l c)) (hy : ev e y = some (.int k i)) (h0 : 0 ≤ i) (hi : i < l) :
    Yl P n e ⟨d, .indexAddr T x y, t, p, af, gd⟩ (.pointer (some ⟨b, o + i.toNat * z, none⟩)) h :=
  fun a w ha _ => by simp [execOp, Instr.indexAt, asIntOf, ha.ev hx, ha.ev hy, run_underlying hu w, hz w, h0, hi, Addr.add_at]

/-! loads -/
theorem cell_of {w : World} {b o : Nat} {c : Array Value} {T : TypeId} {fr : Nat × Nat} {v : Value} (hb : w.heap[b]? = some (.cells c T fr)) (hv : c[o]? = some v) : w.cell? ⟨b, o, none⟩ = some v := by
  simp [World.cell?, hb, hv]
/-- On b from o on these cells are read. -/
def Rd (h : Heap) (b o : Nat) (cs : List Value) : Prop := ∀ j v, cs[j]? = some v → ∃ c T fr, h[b]? = some (.cells c T fr) ∧ c[o + j]? = some v
theorem Cells.rd {I : Nat → Prop} {b o : Nat} {cs : List Value} (k : Cells I h b o cs) : Rd h b o cs := fun j v hj => (k j v hj).2
theorem Box.rd {b : Nat} {B : TypeId} {cs pre mid post : List Value} {o : Nat} (k : Box h b B cs) (hc : cs = pre ++ (mid ++ post)) (hp : pre.length = o) : Rd h b o mid := by
  intro j v hj
  refine ⟨_, _, _, k, ?_⟩
  subst hc; subst hp
  have hlt := (List.getElem?_eq_some_iff.1 hj).1
  simp only [List.getElem?_toArray]
  rw [List.getElem?_append_right (by omega), List.getElem?_append_left (by omega)]
  simpa using hj
theorem Rd.cell {w : World} {b o : Nat} {cs : List Value} (k : Rd w.heap b o cs) {j : Nat} {v : Value} (hj : cs[j]? = some v) : w.cell? ⟨b, o + j, none⟩ = some v := by
  obtain ⟨c, T, fr, hb, hv⟩ := k j v hj
  exact cell_of hb hv
theorem Rd.sub {b o : Nat} {cs pre mid post : List Value} {j : Nat} (k : Rd h b o cs) (hc : cs = pre ++ (mid ++ post)) (hp : pre.length = j) : Rd h b (o + j) mid := by
  intro i v hi
  subst hc; subst hp
  have hlt := (List.getElem?_eq_some_iff.1 hi).1
  have := k (pre.length + i) v (by rw [List.getElem?_append_right (by omega), List.getElem?_append_left (by omega)]; simpa using hi)
  simpa [Nat.add_assoc] using this
theorem run_loadCellsFrom {w : World} {b o : Nat} {cs : List Value} (k : Rd w.heap b o cs) : ∀ (m i : Nat) (acc : Array Value), i + m = cs.length → (loadCellsFrom ⟨b, o, none⟩ i m acc).run P w = .ok (acc ++ (cs.drop i).toArray) w
  | 0, i, acc, hm => by simp [loadCellsFrom, List.drop_of_length_le (by omega : cs.length ≤ i)]
  | m + 1, i, acc, hm => by
    have hlt : i < cs.length := by omega
    have hc := k.cell (w := w) (List.getElem?_eq_getElem hlt)
    simp only [loadCellsFrom, Addr.add_at, Sem.run_bind, run_load, hc, Result.andThen_ok]
    rw [run_loadCellsFrom k m (i + 1) _ (by omega)]
    congr 1
    rw [List.drop_eq_getElem_cons hlt]
    apply Array.ext'; simp
theorem run_loadCells {w : World} {b o : Nat} {cs : List Value} {m : Nat} (k : Rd w.heap b o cs) (hm : cs.length = m) : (loadCells ⟨b, o, none⟩ m).run P w = .ok cs.toArray w := by
  unfold loadCells
  rw [run_loadCellsFrom k m 0 #[] (by omega)]; simp
theorem yLoadS {b o j o' : Nat} {cs : List Value} {v : Value} (hg : ∀ w, (isAgg T).run P w = .ok false w) (hx : ev e x = some (.pointer (some ⟨b, o', none⟩))) (k : Rd h b o cs) (ho : o + j = o') (hv : cs[j]? = some v) :
    Yl P n e ⟨d, .load T x, t, p, af, gd⟩ v h := fun a w ha hw => by
  subst hw; subst ho
  have hc := k.cell (w := w) hv
  simp [execOp, Instr.loadAt, Instr.sureAddr, ha.ev hx, loadVar, hg w, hc]
theorem Rd.cut {b o : Nat} {cs : List Value} (k : Rd h b o cs) (j m : Nat) : Rd h b (o + j) ((cs.drop j).take m) := by
  intro i v hi
  rw [List.getElem?_take] at hi
  split at hi
  · rw [List.getElem?_drop] at hi
    have := k (j + i) v hi
    simpa [Nat.add_assoc] using this
  · cases hi
theorem Box.all {b : Nat} {B : TypeId} {cs : List Value} (k : Box h b B cs) : Rd h b 0 cs := k.rd (pre := []) (post := []) (by simp) rfl
theorem yLoadW {b o z : Nat} {cs : List Value} (hg : ∀ w, (isAgg T).run P w = .ok true w) (hz : ∀ w, (sizeOf T).run P w = .ok z w) (hx : ev e x = some (.pointer (some ⟨b, o, none⟩))) (k : Rd h b o cs) (hl : cs.length = z) :
    Yl P n e ⟨d, .load T x, t, p, af, gd⟩ (.agg cs.toArray) h := fun a w ha hw => by
  subst hw
  have hc := run_loadCells (P := P) k hl
  simp [execOp, Instr.loadAt, Instr.sureAddr, ha.ev hx, loadVar, hg w, hz w, hc]
theorem yLoadA {b o j o' z : Nat} {cs mid : List Value} (hg : ∀ w, (isAgg T).run P w = .ok true w) (hz : ∀ w, (sizeOf T).run P w = .ok z w) (hx : ev e x = some (.pointer (some ⟨b, o', none⟩))) (k : Rd h b o cs) (ho : o + j = o')
    (hm : (cs.drop j).take z = mid) (hl : mid.length = z) :
    Yl P n e ⟨d, .load T x, t, p, af, gd⟩ (.agg mid.toArray) h := by
  subst hm; subst ho
  exact yLoadW hg hz hx (k.cut j z) hl
theorem Rv.cell {q b z : Nat} {cs : List Value} (hg : ∀ w, (isAgg T).run P w = .ok true w) (hz : ∀ w, (sizeOf T).run P w = .ok z w) (hx : get e q = some (.pointer (some ⟨b, 0, none⟩))) (k : Box h b T cs) (hl : cs.length = z) :
    Rv P n e h (.cell q T) (.agg cs.toArray) := fun a w ha hw => by
  subst hw
  have hv := ha.val q _ hx
  have hc := run_loadCells (P := P) k.all hl
  simp [Array.getD_eq_getD_getElem?, hv, asAddr, loadVar, hg w, hz w, hc]
theorem Rv.cellS {q b : Nat} {v : Value} {cs : List Value} (hg : ∀ w, (isAgg T).run P w = .ok false w) (hx : get e q = some (.pointer (some ⟨b, 0, none⟩))) (k : Box h b T cs) (hl : cs[0]? = some v) :
    Rv P n e h (.cell q T) v := fun a w ha hw => by
  subst hw
  have hv := ha.val q _ hx
  have hc := k.all.cell (w := w) hl
  simp at hc
  simp [Array.getD_eq_getD_getElem?, hv, asAddr, loadVar, hg w, hc]
/-- What stands at a place, by an int. -/
theorem rdArr {α : Type} [Inhabited α] {k : Kd α} {I : Nat → Prop} {m b o : Nat} {c : List Value} {xs : List α} {i : Int} (r : Rd h b o c) (a : (kArr m k).rp I h c xs) (h0 : 0 ≤ i) (hi : i < m) :
    ∃ mid, k.rp I h mid (rd xs i) ∧ Rd h b (o + i.toNat * k.sz) mid := by
  obtain ⟨pre, mid, post, hc, hp, hm⟩ := a.1.get i.toNat (by rw [a.2]; omega)
  exact ⟨mid, hm, r.sub hc hp⟩
theorem rdSl {α : Type} [Inhabited α] {k : Kd α} {I : Nat → Prop} {v : Value} {xs : List α} {i : Int} (r : SlR k I h v xs) (h0 : 0 ≤ i) (hi : i < xs.length) :
    ∃ b off cap mid, v = .slice (some ⟨b, off, none⟩) xs.length cap ∧ k.rp I h mid (rd xs i) ∧ Rd h b (off + i.toNat * k.sz) mid := by
  obtain ⟨b, off, cap, mid, e, hm, hc⟩ := r.get h0 hi
  exact ⟨b, off, cap, mid, e, hm, hc.rd⟩
theorem yLenR {α : Type} {k : Kd α} {I : Nat → Prop} {hh : Heap} {v : Value} {xs : List α} {E : TypeId} (hu : P.underlying T = some (.slice E)) (hx : ev e x = some v) (r : SlR k I hh v xs) :
    Yl P n e ⟨d, .call ⟨.builtin .len, #[x], #[T]⟩, t, p, af, gd⟩ (.int .i64 xs.length) h := by
  rcases r with ⟨a, rfl, rfl⟩ | ⟨b, off, cap, cs, rfl, _⟩
  · exact yLen hu hx
  · exact yLen hu hx
theorem yLenO {α : Type} {k : Kd α} {I : Nat → Prop} {v : Value} {xs : List α} {E : TypeId} (hu : P.underlying T = some (.slice E)) (hx : ev e x = some v) {T' : TypeId} {hh : Heap} (r : Own k T' hh I v xs) :
    Yl P n e ⟨d, .call ⟨.builtin .len, #[x], #[T]⟩, t, p, af, gd⟩ (.int .i64 xs.length) h := by
  obtain ⟨cs, _, ⟨rfl, rfl⟩ | ⟨g, cap, cur, rfl, _⟩⟩ := r
  · exact yLen hu hx
  · exact yLen hu hx
theorem yBT {c : Prop} [Decidable c] {o : Oper} (hc : c) (k : Yl P n e o (.bool (decide c)) h) : Yl P n e o (.bool true) h := by
  have : decide c = true := by simpa using hc
  rwa [this] at k
theorem yBF {c : Prop} [Decidable c] {o : Oper} (hc : ¬ c) (k : Yl P n e o (.bool (decide c)) h) : Yl P n e o (.bool false) h := by
  have : decide c = false := by simpa using hc
  rwa [this] at k

/-! new blocks -/
theorem eAlloc {z : Value} {zs : List Value} (hz : ∀ w, (zeroValue T).run P w = .ok z w) (hzs : z.cells = zs.toArray) :
    Ef P n e ⟨d, .alloc T, t, p, af, gd⟩ (fun v h' => v = .pointer (some ⟨h.size, 0, none⟩) ∧ h' = h.push (.cells zs.toArray T (0, 0))) h := fun a w ha hw => by
  subst hw
  exact .inl ⟨.pointer (some ⟨w.heap.size, 0, none⟩), { w with heap := w.heap.push (.cells zs.toArray T (0, 0)) }, by simp [execOp, Instr.alloc, hz w, newVar, newRow, hzs], ⟨rfl, rfl⟩, rfl, rfl⟩
theorem eBox {v : Value} {cs : List Value} (hx : ev e x = some v) (hv : v.cells = cs.toArray) :
    Ef P n e ⟨d, .box T x, t, p, af, gd⟩ (fun v h' => v = .pointer (some ⟨h.size, 0, none⟩) ∧ h' = h.push (.cells cs.toArray T (0, 0))) h := fun a w ha hw => by
  subst hw
  exact .inl ⟨.pointer (some ⟨w.heap.size, 0, none⟩), { w with heap := w.heap.push (.cells cs.toArray T (0, 0)) }, by simp [execOp, Instr.box, ha.ev hx, newVar, newRow, hv], ⟨rfl, rfl⟩, rfl, rfl⟩

/-! stores -/
theorem setCell_box {w : World} {b T : Nat} {cs : List Value} {j : Nat} {v : Value} (k : Box w.heap b T cs) : (w.setCell ⟨b, j, none⟩ v).heap = w.heap.setIfInBounds b (.cells (cs.set j v).toArray T (0, 0)) := by
  have hlt := k.lt
  unfold World.setCell
  simp only
  apply Array.ext_getElem?; intro i
  rw [Array.getElem?_modify, Array.getElem?_setIfInBounds]
  by_cases hi : b = i
  · subst hi
    unfold Box at k
    rw [k]
    simp [hlt]
  · simp [hi]
theorem frozen_box {w : World} {b T : Nat} {cs : List Value} {j : Nat} (k : Box w.heap b T cs) : w.frozen? ⟨b, j, none⟩ = false := by
  unfold Box at k
  simp [World.frozen?, k]
theorem Box.set {b T : Nat} {cs ds : List Value} (k : Box h b T cs) : Box (h.setIfInBounds b (.cells ds.toArray T (0, 0))) b T ds := by
  have hlt := k.lt
  simp [Box, hlt]
theorem setSet {b : Nat} (o o' : Obj) : (h.setIfInBounds b o).setIfInBounds b o' = h.setIfInBounds b o' := by
  apply Array.ext_getElem?; intro i
  simp only [Array.getElem?_setIfInBounds]
  split <;> simp
/-- Cells written over others. -/
def splice (cs : List Value) (o : Nat) : List Value → List Value
  | [] => cs
  | v :: vs => splice (cs.set o v) (o + 1) vs
theorem splice_length : ∀ (vs cs : List Value) (o : Nat), (splice cs o vs).length = cs.length
  | [], _, _ => rfl
  | v :: vs, cs, o => by simp [splice, splice_length vs]
theorem splice_mid : ∀ (new mid pre post : List Value), new.length = mid.length → splice (pre ++ (mid ++ post)) pre.length new = pre ++ (new ++ post)
  | [], mid, pre, post, hl => by
    have : mid = [] := List.length_eq_zero_iff.1 hl.symm
    subst this; rfl
  | v :: new, [], pre, post, hl => by simp at hl
  | v :: new, u :: mid, pre, post, hl => by
    simp only [splice]
    have h1 : (pre ++ (u :: mid ++ post)).set pre.length v = (pre ++ [v]) ++ (mid ++ post) := by
      rw [List.set_append_right _ _ (Nat.le_refl _)]; simp
    rw [h1]
    have := splice_mid new mid (pre ++ [v]) post (by simpa using hl)
    simp only [List.length_append, List.length_cons, List.length_nil] at this
    rw [this]; simp
theorem run_storeCells {b T : Nat} {o : Nat} : ∀ (vs : List Value) (i : Nat) (w : World) (cs : List Value), Box w.heap b T cs → ones vs = true → o + i + vs.length ≤ cs.length →
    ∃ w', (storeCells ⟨b, o, none⟩ vs i).run P w = .ok () w' ∧ w'.heap = w.heap.setIfInBounds b (.cells (splice cs (o + i) vs).toArray T (0, 0)) ∧ Same w w'
  | [], i, w, cs, k, _, _ => ⟨w, by simp [storeCells], by
      have hlt := k.lt
      apply Array.ext_getElem?; intro j
      rw [Array.getElem?_setIfInBounds]
      split
      · rename_i e; subst e; unfold Box at k; rw [k]; simp [splice]
      · rfl, rfl, rfl⟩
  | v :: vs, i, w, cs, k, h1, hl => by
    simp only [ones, Bool.and_eq_true] at h1
    simp only [List.length_cons] at hl
    have hlt : o + i < cs.length := by omega
    have hc : w.cell? ⟨b, o + i, none⟩ = some cs[o + i] := by
      unfold Box at k
      simp [World.cell?, k]
    have hs := run_store P w ⟨b, o + i, none⟩ v .plain (by rw [← one_eq]; exact h1.1)
    rw [hc] at hs
    simp only [frozen_box k, Bool.false_eq_true, if_false] at hs
    have hb := setCell_box (j := o + i) (v := v) k
    have k' : Box (w.setCell ⟨b, o + i, none⟩ v).heap b T (cs.set (o + i) v) := by rw [hb]; exact k.set
    obtain ⟨w', hr, hh, hsm⟩ := run_storeCells (o := o) vs (i + 1) _ _ k' h1.2 (by simp; omega)
    refine ⟨w', ?_, ?_, hsm.1.trans rfl, hsm.2.trans rfl⟩
    · simp only [storeCells, Addr.add_at, Sem.run_bind, hs, Result.andThen_ok, hr]
    · rw [hh, hb, setSet]; rfl
theorem eStore {b B z o : Nat} {v : Value} {cs vs : List Value} (hz : ∀ w, (sizeOf T).run P w = .ok z w) (hx : ev e x = some (.pointer (some ⟨b, o, none⟩))) (hy : ev e y = some v) (hv : v.cells = vs.toArray) (hl : vs.length = z) (h1 : ones vs = true)
    (k : Box h b B cs) (hle : o + z ≤ cs.length) :
    Ef P n e ⟨d, .store T x y, t, p, af, gd⟩ (fun u h' => u = undef ∧ h' = h.setIfInBounds b (.cells (splice cs o vs).toArray B (0, 0))) h := fun a w ha hw => by
  subst hw
  obtain ⟨w', hr, hh, hsm⟩ := run_storeCells (P := P) (o := o) vs 0 w cs k h1 (by omega)
  refine .inr ⟨w', ?_, ⟨rfl, hh⟩, hsm⟩
  have : ¬ (vs.toArray.size ≠ z) := by simpa using hl
  simp [execOp, Instr.storeAt, Instr.sureAddr, ha.ev hx, ha.ev hy, storeVar, hz w, hv, hl, hr]
theorem Stp.set {b : Nat} (o : Obj) : Stp [some b] h (h.setIfInBounds b o) :=
  ⟨by simp, fun j _ hn => by
    rw [Array.getElem?_setIfInBounds_ne]; intro e; subst e; simp at hn⟩
end

/-! across steps -/
section
variable {h h' : Heap} {b b' T : Nat} {cs : List Value}
theorem Box.stp1 (k : Box h b T cs) (p : Stp [some b'] h h') (hn : b ≠ b') : Box h' b T cs := k.stp p (by simp; exact hn)
theorem Box.stpO {o : Option Nat} (k : Box h b T cs) (p : Stp [o] h h') (hn : some b ≠ o) : Box h' b T cs := k.stp p (by simp; exact hn)
theorem Stp.refl0 (X : List (Option Nat)) (h : Heap) : Stp X h h := ⟨Nat.le_refl _, fun _ _ _ => rfl⟩
theorem Stp.cat {X Y : List (Option Nat)} {h'' : Heap} (a : Stp X h h') (c : Stp Y h' h'') (hy : ∀ y ∈ Y, y ∈ X) : Stp X h h'' :=
  ⟨Nat.le_trans a.1 c.1, fun x hx hn => (c.2 x (Nat.lt_of_lt_of_le hx a.1) (fun hm => hn (hy _ hm))).trans (a.2 x hx hn)⟩
theorem notIn1 {o o' : Option Nat} (h : o ≠ o') : o ∉ [o'] := by simp; exact h
theorem Box.reset {ds es : List Value} (k : Box h b T cs) (e : ds = es) : Box (h.setIfInBounds b (.cells ds.toArray T (0, 0))) b T es := by subst e; exact k.set
end
theorem zArr {α : Type} {d : Kd α} {I : Nat → Prop} {h : Heap} {c : Value} {z : α} {n : Nat} (r : d.rp I h (List.replicate n c) z) (hn : n = d.sz) : ∀ m, (kArr m d).rp I h (List.replicate (m * n) c) (List.replicate m z) := by
  intro m
  refine ⟨?_, by simp⟩
  induction m with
  | zero => simp [rows]
  | succ m ih =>
    refine ⟨List.replicate n c, List.replicate (m * n) c, ?_, r, ih⟩
    rw [List.replicate_append_replicate]; congr 1; rw [Nat.succ_mul, Nat.add_comm]

/-! the plain side, in step -/
theorem bnd {α β : Type} {x : Option α} {f : α → Option β} {r : β} (H : x.bind f = some r) : ∃ t, x = some t ∧ f t = some r := by
  cases x with
  | none => cases H
  | some t => exact ⟨t, rfl, H⟩
theorem ifT {c : Prop} [Decidable c] {β : Type} {a b : Option β} {r : β} (hc : c) (H : (if c then a else b) = some r) : a = some r := by rwa [if_pos hc] at H
theorem ifF {c : Prop} [Decidable c] {β : Type} {a b : Option β} {r : β} (hc : ¬ c) (H : (if c then a else b) = some r) : b = some r := by rwa [if_neg hc] at H
theorem ifS {c : Prop} [Decidable c] {β : Type} {a : Option β} {r : β} (H : (if c then a else none) = some r) : c ∧ a = some r := by
  by_cases hc : c
  · exact ⟨hc, ifT hc H⟩
  · rw [if_neg hc] at H; cases H
theorem biT {β : Type} {a b : Option β} {r : β} (H : (bif true then a else b) = some r) : a = some r := H
theorem biF {β : Type} {a b : Option β} {r : β} (H : (bif false then a else b) = some r) : b = some r := H
theorem sm {β : Type} {a r : β} (H : some a = some r) : a = r := Option.some.inj H
end Go.Mw
