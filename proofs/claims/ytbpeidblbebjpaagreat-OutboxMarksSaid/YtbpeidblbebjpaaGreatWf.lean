/- Proved here: what comparisons do; no condition. -/
import Derived.Test.YtbpeidblbebjpaaGreatWe
import Derived.Laws.StructEq
namespace Go.Mw
set_option linter.unusedVariables false
set_option linter.unusedSimpArgs false
open Go
/-! ## '==' on composites -/
def mkv (g : Bool) (cs : List Value) : Value := if g then .agg cs.toArray else cs.headD undef
def EqV {α : Type} (P : Program) (t : TypeId) (g : Bool) (k : Kd α) (N : Nat) : Prop :=
  ∀ {I I' : Nat → Prop} {h h' : Heap} {c1 c2 : List Value} {x y : α} (w : World) (d : Nat), N ≤ d → k.rp I h c1 x → k.rp I' h' c2 y →
    ∃ b, (Op.equalIn d t (mkv g c1) (mkv g c2)).run P w = .ok b w ∧ (b = true ↔ x = y)
theorem EqV.mono {α : Type} {P : Program} {t : TypeId} {g : Bool} {k : Kd α} {N M : Nat} (q : EqV P t g k N) (h : N ≤ M) : EqV P t g k M := fun w d hd r1 r2 => q w d (Nat.le_trans h hd) r1 r2
section
variable {P : Program}
theorem eqInt {t : TypeId} {k k' : IntKind} (hu : P.underlying t = some (.int k')) : EqV P t false (kI k) 1 := by
  rintro I I' h h' c1 c2 x y w d hd rfl rfl
  obtain ⟨d, rfl⟩ : ∃ e, d = e + 1 := ⟨d - 1, by omega⟩
  exact ⟨x == y, run_equalIn_int w d t k k' x y hu, by simp⟩
theorem eqBool {t : TypeId} (hu : P.underlying t = some .bool) : EqV P t false kB 1 := by
  rintro I I' h h' c1 c2 x y w d hd rfl rfl
  obtain ⟨d, rfl⟩ : ∃ e, d = e + 1 := ⟨d - 1, by omega⟩
  exact ⟨x == y, run_equalIn_bool w d t x y hu, by simp⟩
theorem eqStr {t : TypeId} (hu : P.underlying t = some .string) : EqV P t false kStr 1 := by
  rintro I I' h h' c1 c2 x y w d hd rfl rfl
  obtain ⟨d, rfl⟩ : ∃ e, d = e + 1 := ⟨d - 1, by omega⟩
  refine ⟨_, run_equalIn_string w d t _ _ hu, ?_⟩
  rw [strList, strList]; simp
/-- A part of a row of cells. -/
theorem run_part {E : TypeId} {g : Bool} {z : Nat} (hg : ∀ w, (isAgg E).run P w = .ok g w) (hz : ∀ w, (sizeOf E).run P w = .ok z w) {pre mid post : List Value} {o : Nat} (hp : pre.length = o) (hm : mid.length = z) (h1 : g = false → z = 1) (w : World) :
    (part E (pre ++ (mid ++ post)).toArray o).run P w = .ok (mkv g mid) w := by
  subst hp; subst hm
  cases g with
  | true =>
    simp only [part, Sem.run_bind, hg w, Result.andThen_ok, if_true, hz w, Sem.run_pure, mkv]
    congr 2
    apply Array.ext'; simp
  | false =>
    have hz1 := h1 rfl
    match mid, hz1 with
    | [v], _ => simp [part, hg w, mkv]
theorem eqArr {α : Type} {k : Kd α} {t E : TypeId} {m N : Nat} {g : Bool} (hu : P.underlying t = some (.array m E)) (hg : ∀ w, (isAgg E).run P w = .ok g w) (hz : ∀ w, (sizeOf E).run P w = .ok k.sz w) (h1 : g = false → k.sz = 1) (q : EqV P E g k N) : EqV P t true (kArr m k) (N + 1) := by
  rintro I I' h h' c1 c2 xs ys w d hd ⟨r1, l1⟩ ⟨r2, l2⟩
  obtain ⟨d, rfl⟩ : ∃ e, d = e + 1 := ⟨d - 1, by omega⟩
  have hN : N ≤ d := by omega
  have key : ∀ (n i : Nat) (p1 p2 c1 c2 : List Value) (xs ys : List α), p1.length = i * k.sz → p2.length = i * k.sz → rows k I h c1 xs → rows k I' h' c2 ys → xs.length = n → ys.length = n →
      ∃ b, Sem.run P (forIn (List.range' i n) ((none, ()) : Option Bool × Unit) fun i r => do
        let a ← part E (p1 ++ c1).toArray (i * k.sz)
        let a2 ← part E (p2 ++ c2).toArray (i * k.sz)
        let r ← Op.equalIn d E a a2
        if (!r) = true then pure (ForInStep.done (some false, ())) else pure (ForInStep.yield (none, ()))) w = .ok (if b then none else some false, ()) w ∧ (b = true ↔ xs = ys) := by
    intro n
    induction n with
    | zero =>
      intro i p1 p2 c1 c2 xs ys _ _ _ _ hx hy
      have hx0 := List.length_eq_zero_iff.1 hx
      have hy0 := List.length_eq_zero_iff.1 hy
      exact ⟨true, by simp, by simp [hx0, hy0]⟩
    | succ n ih =>
      intro i p1 p2 c1 c2 xs ys hp1 hp2 hr1 hr2 hx hy
      match xs, ys, hx, hy with
      | x :: xs, y :: ys, hx, hy =>
        obtain ⟨a1, b1, rfl, ha1, hb1⟩ := hr1
        obtain ⟨a2, b2, rfl, ha2, hb2⟩ := hr2
        obtain ⟨b, hb, hiff⟩ := q w d hN ha1 ha2
        rw [List.range'_succ, List.forIn_cons]
        simp only [Sem.run_bind, run_part hg hz hp1 (k.len ha1) h1 w, run_part hg hz hp2 (k.len ha2) h1 w, Result.andThen_ok, hb]
        cases b with
        | false =>
          refine ⟨false, by simp, ?_⟩
          simp only [Bool.false_eq_true, false_iff]
          intro e
          simp only [List.cons.injEq] at e
          exact absurd (hiff.2 e.1) (by simp)
        | true =>
          have := ih (i + 1) (p1 ++ a1) (p2 ++ a2) b1 b2 xs ys (by simp [hp1, k.len ha1, Nat.succ_mul]) (by simp [hp2, k.len ha2, Nat.succ_mul]) hb1 hb2 (by simpa using hx) (by simpa using hy)
          obtain ⟨b, hb, hiff'⟩ := this
          refine ⟨b, ?_, ?_⟩
          · simp only [List.append_assoc] at hb
            simp only [Bool.not_true, Bool.false_eq_true, if_false, Sem.run_pure, Result.andThen_ok]
            exact hb
          · rw [hiff']; simp [hiff.1 rfl]
  obtain ⟨b, hb, hiff⟩ := key m 0 [] [] c1 c2 xs ys (by simp) (by simp) r1 r2 l1 l2
  refine ⟨b, ?_, hiff⟩
  simp only [List.nil_append] at hb
  simp only [mkv, if_true, Op.equalIn, Sem.run_bind, run_underlying hu w, Result.andThen_ok, hz w]
  have hr : ∀ (f : Nat → Option Bool × Unit → Sem (ForInStep (Option Bool × Unit))), (forIn [:m] (none, ()) f : Sem (Option Bool × Unit)) = forIn (List.range' 0 m) (none, ()) f := by
    intro f
    simp [Std.Legacy.Range.forIn_eq_forIn_range', Std.Legacy.Range.size]
  rw [hr, hb]
  cases b <;> simp
/-- The fields of a struct, one behind the other. -/
def EqF {α : Type} (P : Program) (fs : List Field) (o : Nat) (k : Kd α) (N : Nat) : Prop :=
  ∀ {I I' : Nat → Prop} {h h' : Heap} {p1 p2 c1 c2 : List Value} {x y : α} (w : World) (d : Nat), N ≤ d → p1.length = o → p2.length = o → k.rp I h c1 x → k.rp I' h' c2 y →
    ∃ b, (Op.eqFields d (p1 ++ c1).toArray (p2 ++ c2).toArray fs).run P w = .ok b w ∧ (b = true ↔ x = y)
theorem eqFnil {o N : Nat} : EqF P [] o kU N := by
  rintro I I' h h' p1 p2 c1 c2 x y w d hd _ _ rfl rfl
  exact ⟨true, rfl, by simp⟩
theorem eqFcons {α β : Type} {k : Kd α} {f : Kd β} {fd : Field} {fs : List Field} {o N : Nat} {t : TypeId} {g : Bool} (ht : fd.type = t) (ho : fd.offset = o) (hn : (fd.name ≠ "_")) (hg : ∀ w, (isAgg t).run P w = .ok g w) (hz : ∀ w, (sizeOf t).run P w = .ok k.sz w)
    (h1 : g = false → k.sz = 1) (q : EqV P t g k N) (qs : EqF P fs (o + k.sz) f N) : EqF P (fd :: fs) o (kP k f) N := by
  rintro I I' h h' p1 p2 c1 c2 x y w d hd hp1 hp2 ⟨a1, b1, rfl, ha1, hb1⟩ ⟨a2, b2, rfl, ha2, hb2⟩
  subst ht; subst ho
  obtain ⟨b, hb, hiff⟩ := q w d hd ha1 ha2
  obtain ⟨b', hb', hiff'⟩ := qs (p1 := p1 ++ a1) (p2 := p2 ++ a2) w d hd (by simp [hp1, k.len ha1]) (by simp [hp2, k.len ha2]) hb1 hb2
  simp only [List.append_assoc] at hb'
  have e1 := run_part (P := P) hg hz hp1 (k.len ha1) h1 (post := b1) w
  have e2 := run_part (P := P) hg hz hp2 (k.len ha2) h1 (post := b2) w
  refine ⟨b && b', ?_, ?_⟩
  · simp only [Op.eqFields, hn, ne_eq, not_false_eq_true, if_true, Sem.run_bind, e1, e2, Result.andThen_ok, hb]
    cases b
    · simp
    · simpa using hb'
  · obtain ⟨x1, x2⟩ := x; obtain ⟨y1, y2⟩ := y
    simp only [Bool.and_eq_true, Prod.mk.injEq, hiff, hiff']
theorem eqStruct {α β : Type} {k : Kd α} {to : β → α} {t : TypeId} {fs : Array Field} {N : Nat} (hu : P.underlying t = some (.struct fs)) (hp : P.stoodInHeld t = false) (hinj : ∀ x y, to x = to y → x = y) (q : EqF P fs.toList 0 k N) : EqV P t true (kM k to) (N + 1) := by
  rintro I I' h h' c1 c2 x y w d hd r1 r2
  obtain ⟨d, rfl⟩ : ∃ e, d = e + 1 := ⟨d - 1, by omega⟩
  obtain ⟨b, hb, hiff⟩ := q (p1 := []) (p2 := []) w d (by omega) rfl rfl r1 r2
  have hf : P.fieldsOf t = fs := by simp [Program.fieldsOf, hu]
  refine ⟨b, ?_, hiff.trans ⟨fun e => hinj _ _ e, fun e => by rw [e]⟩⟩
  simp only [mkv, if_true]
  rw [run_equalIn_struct w d t _ _ (by rw [hf]; exact hu) hp, hf]
  simpa using hb
end
section
variable {P : Program} {n : Nat} {e : Env} {h : Heap} {d : Option Tmp} {t : TypeId} {p : String} {af : Array Edge} {gd : Option (Nat × Bool)} {x y : Operand} {T U : TypeId}
theorem yEqA {α : Type} {k : Kd α} {N : Nat} {I I' : Nat → Prop} {h1 h2 : Heap} {c1 c2 : List Value} {a b : α} [Decidable (a = b)] (q : EqV P T true k N) (hN : Nat.ble N 10000 = true) (hg : P.eqGuardType P.depth T = false)
    (hx : ev e x = some (.agg c1.toArray)) (hy : ev e y = some (.agg c2.toArray)) (r1 : k.rp I h1 c1 a) (r2 : k.rp I' h2 c2 b) :
    Yl P n e ⟨d, .binOp .eql T x y U, t, p, af, gd⟩ (.bool (decide (a = b))) h := fun s w ha _ => by
  obtain ⟨v, hv, hiff⟩ := q w 10000 (Nat.le_of_ble_eq_true hN) r1 r2
  have hd : decide (a = b) = v := by cases v <;> simp_all
  have hgd : Sem.run P (eqGuard .eql T x y (.agg c1.toArray) (.agg c2.toArray)) w = .ok () w := by simp [eqGuard, hg]
  simp only [execOp, ha.ev hx, ha.ev hy, Sem.run_bind, hgd, Result.andThen_ok, run_eql_struct]
  simp only [mkv, if_true] at hv
  rw [hv, hd]
  simp
theorem yNeA {α : Type} {k : Kd α} {N : Nat} {I I' : Nat → Prop} {h1 h2 : Heap} {c1 c2 : List Value} {a b : α} [Decidable (a = b)] (q : EqV P T true k N) (hN : Nat.ble N 10000 = true) (hg : P.eqGuardType P.depth T = false)
    (hx : ev e x = some (.agg c1.toArray)) (hy : ev e y = some (.agg c2.toArray)) (r1 : k.rp I h1 c1 a) (r2 : k.rp I' h2 c2 b) :
    Yl P n e ⟨d, .binOp .neq T x y U, t, p, af, gd⟩ (.bool (decide (a ≠ b))) h := fun s w ha _ => by
  obtain ⟨v, hv, hiff⟩ := q w 10000 (Nat.le_of_ble_eq_true hN) r1 r2
  have hd : decide (a ≠ b) = !v := by cases v <;> simp_all
  have hgd : Sem.run P (eqGuard .neq T x y (.agg c1.toArray) (.agg c2.toArray)) w = .ok () w := by simp [eqGuard, hg]
  simp only [execOp, ha.ev hx, ha.ev hy, Sem.run_bind, hgd, Result.andThen_ok, run_neq_struct]
  simp only [mkv, if_true] at hv
  rw [hv, hd]
  simp
/-- An array's part, whoever holds it. -/
theorem arrAt {α : Type} [Inhabited α] {k : Kd α} {I : Nat → Prop} {m : Nat} {c : List Value} {xs : List α} {i : Int} (a : (kArr m k).rp I h c xs) (h0 : 0 ≤ i) (hi : i < m) :
    ∃ mid, k.rp I h mid (rd xs i) ∧ (c.drop (i.toNat * k.sz)).take k.sz = mid ∧ ∀ h' b o, Rd h' b o c → Rd h' b (o + i.toNat * k.sz) mid := by
  obtain ⟨pre, mid, post, hc, hp, hm⟩ := a.1.get i.toNat (by rw [a.2]; omega)
  refine ⟨mid, hm, ?_, fun h' b o r => r.sub hc hp⟩
  subst hc
  rw [← hp, List.drop_left, List.take_append_of_le_length (by rw [k.len hm]; exact Nat.le_refl _), ← k.len hm]
  simp
theorem yIdxArr {m E z : Nat} {k : IntKind} {i : Int} {c mid : List Value} {g : Bool} (hu : P.underlying T = some (.array m E)) (hg : ∀ w, (isAgg E).run P w = .ok g w) (hz : ∀ w, (sizeOf E).run P w = .ok z w) (h1 : g = false → z = 1)
    (hx : ev e x = some (.agg c.toArray)) (hy : ev e y = some (.int k i)) (h0 : 0 ≤ i) (hi : i < m) (hc : (c.drop (i.toNat * z)).take z = mid) (hl : mid.length = z) : Yl P n e ⟨d, .index T x y, t, p, af, gd⟩ (mkv g mid) h := fun a w ha _ => by
  have hlen : i.toNat * z + z ≤ c.length ∨ z = 0 := by
    subst hc
    rw [List.length_take, List.length_drop] at hl
    omega
  have hcut : c = c.take (i.toNat * z) ++ (mid ++ c.drop (i.toNat * z + z)) := by
    subst hc
    rw [← List.drop_drop, List.take_append_drop, List.take_append_drop]
  have hp : (c.take (i.toNat * z)).length = i.toNat * z ∨ z = 0 := by
    rcases hlen with hlen | hlen
    · left; rw [List.length_take]; omega
    · right; exact hlen
  have hpart : (part E c.toArray (i.toNat * z)).run P w = .ok (mkv g mid) w := by
    rcases hp with hp | hp
    · have := run_part (P := P) hg hz hp hl h1 (post := c.drop (i.toNat * z + z)) w
      rw [← hcut] at this; exact this
    · subst hp
      cases g with
      | false => exact absurd (h1 rfl) (by decide)
      | true =>
        have hm : mid = [] := List.length_eq_zero_iff.1 hl
        subst hm
        simp [part, hg w, hz w, mkv]
  simp [execOp, Instr.index, asIntOf, ha.ev hx, ha.ev hy, run_underlying hu w, h0, hi, hz w, hpart]
theorem yEqlB {a b : Bool} (hu : P.underlying T = some .bool) (hx : ev e x = some (.bool a)) (hy : ev e y = some (.bool b)) : Yl P n e ⟨d, .binOp .eql T x y U, t, p, af, gd⟩ (.bool (a == b)) h := fun s w ha _ => by
  simp [execOp, ha.ev hx, ha.ev hy, eqGuard, binOp, run_equal_bool w T a b hu]
theorem yNeqB {a b : Bool} (hu : P.underlying T = some .bool) (hx : ev e x = some (.bool a)) (hy : ev e y = some (.bool b)) : Yl P n e ⟨d, .binOp .neq T x y U, t, p, af, gd⟩ (.bool (!(a == b))) h := fun s w ha _ => by
  simp [execOp, ha.ev hx, ha.ev hy, eqGuard, binOp, run_equal_bool w T a b hu]
theorem yBE {b b' : Bool} {o : Oper} (hb : b = b') (k : Yl P n e o (.bool b) h) : Yl P n e o (.bool b') h := hb ▸ k
theorem biTe {β : Type} {a b : Option β} {r : β} {t : Bool} (g : t = true) (H : (bif t then a else b) = some r) : a = some r := by subst g; exact H
theorem biFe {β : Type} {a b : Option β} {r : β} {t : Bool} (g : t = false) (H : (bif t then a else b) = some r) : b = some r := by subst g; exact H
/-! strings and bytes -/
def strLt : List UInt8 → List UInt8 → Bool := Op.bytesLess
theorem ySNeq {s u : List UInt8} (hx : ev e x = some (.string ⟨s.toArray⟩)) (hy : ev e y = some (.string ⟨u.toArray⟩)) : Yl P n e ⟨d, .binOp .neq T x y U, t, p, af, gd⟩ (.bool (decide (s ≠ u))) h :=
  fun a w ha _ => by
    simp only [execOp, ha.ev hx, ha.ev hy, eqGuard, binOp, Op.stringOp, strList]
    by_cases hs : s = u <;> simp [hs]
theorem ySLss {s u : List UInt8} (hx : ev e x = some (.string ⟨s.toArray⟩)) (hy : ev e y = some (.string ⟨u.toArray⟩)) : Yl P n e ⟨d, .binOp .lss T x y U, t, p, af, gd⟩ (.bool (strLt s u)) h :=
  fun a w ha _ => by simp [execOp, ha.ev hx, ha.ev hy, eqGuard, binOp, Op.stringOp, strList, strLt]
theorem ySGeq {s u : List UInt8} (hx : ev e x = some (.string ⟨s.toArray⟩)) (hy : ev e y = some (.string ⟨u.toArray⟩)) : Yl P n e ⟨d, .binOp .geq T x y U, t, p, af, gd⟩ (.bool (!(strLt s u))) h :=
  fun a w ha _ => by simp [execOp, ha.ev hx, ha.ev hy, eqGuard, binOp, Op.stringOp, strList, strLt]
theorem ySGtr {s u : List UInt8} (hx : ev e x = some (.string ⟨s.toArray⟩)) (hy : ev e y = some (.string ⟨u.toArray⟩)) : Yl P n e ⟨d, .binOp .gtr T x y U, t, p, af, gd⟩ (.bool (!(strLt s u || decide (s = u)))) h :=
  fun a w ha _ => by
    simp only [execOp, ha.ev hx, ha.ev hy, eqGuard, binOp, Op.stringOp, strList, strLt]
    by_cases hs : s = u <;> simp [hs]
theorem ySLeq {s u : List UInt8} (hx : ev e x = some (.string ⟨s.toArray⟩)) (hy : ev e y = some (.string ⟨u.toArray⟩)) : Yl P n e ⟨d, .binOp .leq T x y U, t, p, af, gd⟩ (.bool (strLt s u || decide (s = u))) h :=
  fun a w ha _ => by
    simp only [execOp, ha.ev hx, ha.ev hy, eqGuard, binOp, Op.stringOp, strList, strLt]
    by_cases hs : s = u <;> simp [hs]
end
end Go.Mw
