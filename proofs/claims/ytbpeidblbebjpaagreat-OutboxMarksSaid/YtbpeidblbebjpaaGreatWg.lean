/- Proved here: what parts of slices, pointers and rows of one's own do; no condition. -/
import Derived.Test.YtbpeidblbebjpaaGreatWf
import Derived.Laws.Pointers
import Derived.Laws.Cover3
namespace Go.Mw
set_option linter.unusedVariables false
set_option linter.unusedSimpArgs false
open Go
variable {P : Program} {n : Nat} {e : Env} {h : Heap} {d : Option Tmp} {t : TypeId} {p : String} {af : Array Edge} {gd : Option (Nat × Bool)} {x y : Operand} {T U : TypeId}
/-! ## Pointers and nil -/
theorem yPEq {q : Addr} {E : TypeId} (hu : P.underlying T = some (.pointer E)) (hx : ev e x = some (.pointer (some q))) (hy : ev e y = some (.pointer none)) :
    Yl P n e ⟨d, .binOp .eql T x y U, t, p, af, gd⟩ (.bool false) h := fun s w ha _ => by
  simp [execOp, ha.ev hx, ha.ev hy, eqGuard, run_eql_pointer_nil (P := P) w T (some q) (by simp [Program.pointee, hu])]
theorem yPNe {q : Addr} {E : TypeId} (hu : P.underlying T = some (.pointer E)) (hx : ev e x = some (.pointer (some q))) (hy : ev e y = some (.pointer none)) :
    Yl P n e ⟨d, .binOp .neq T x y U, t, p, af, gd⟩ (.bool true) h := fun s w ha _ => by
  simp [execOp, ha.ev hx, ha.ev hy, eqGuard, run_neq_pointer_nil (P := P) w T (some q) (by simp [Program.pointee, hu])]
theorem ySlNilT {E : TypeId} (hu : P.underlying T = some (.slice E)) (hx : ev e x = some (.slice none 0 0)) (hy : ev e y = some (.slice none 0 0)) :
    Yl P n e ⟨d, .binOp .eql T x y U, t, p, af, gd⟩ (.bool true) h := fun s w ha _ => by
  simp [execOp, ha.ev hx, ha.ev hy, eqGuard, binOp, run_equal_slice_nil (P := P) w T E none 0 0 hu]
theorem ySlNilF {E : TypeId} {q : Addr} {l c : Nat} (hu : P.underlying T = some (.slice E)) (hx : ev e x = some (.slice (some q) l c)) (hy : ev e y = some (.slice none 0 0)) :
    Yl P n e ⟨d, .binOp .eql T x y U, t, p, af, gd⟩ (.bool false) h := fun s w ha _ => by
  simp [execOp, ha.ev hx, ha.ev hy, eqGuard, binOp, run_equal_slice_nil (P := P) w T E (some q) l c hu]

/-! ## A part of a slice -/
def cut (v : Value) (l h : Nat) (m : Option Nat) (z : Nat) : Value := match v with
  | .slice a _ cap => .slice (if m.getD cap = l then a else a.map (·.add (l * z))) (h - l) (m.getD cap - l)
  | _ => undef
theorem run_sliceBound {k : IntKind} {i : Int} {m : Nat} {c : BoundsCode} {w : World} (h0 : 0 ≤ i) (hi : i ≤ m) : (Instr.sliceBound (.int k i) m c).run P w = .ok i.toNat w := by
  simp [Instr.sliceBound, asIntOf, h0, hi]
/-- x[lo:hi:mx], the parts given or not. -/
theorem ySlice {α : Type} {k : Kd α} {I : Nat → Prop} {hh : Heap} {v : Value} {xs : List α} {E : TypeId} {lo hi mx : Option Operand} {l u : Nat} {m : Option Nat}
    (hu : P.underlying T = some (.slice E)) (hz : ∀ w, (sizeOf E).run P w = .ok k.sz w) (hx : ev e x = some v) (r : SlR k I hh v xs)
    (hlo : match lo with | none => l = 0 | some y => ∃ kk i, ev e y = some (.int kk i) ∧ 0 ≤ i ∧ l = i.toNat)
    (hhi : match hi with | none => u = xs.length | some y => ∃ kk i, ev e y = some (.int kk i) ∧ 0 ≤ i ∧ u = i.toNat)
    (hmx : match mx with | none => m = none | some y => hi.isSome = true ∧ ∃ kk i, ev e y = some (.int kk i) ∧ 0 ≤ i ∧ m = some i.toNat)
    (h1 : l ≤ u) (h2 : u ≤ m.getD xs.length) (h3 : m.getD xs.length ≤ xs.length) :
    Yl P n e ⟨d, .slice T x lo hi mx, t, p, af, gd⟩ (cut v l u m k.sz) h := fun a w ha _ => by
  have key : ∀ (A : Option Addr) (cap : Nat), xs.length ≤ cap → v = .slice A xs.length cap →
      (Instr.slice T v (lo.map a.eval) (hi.map a.eval) (mx.map a.eval)).run P w = .ok (cut v l u m k.sz) w := by
    rintro A cap hcap rfl
    cases mx with
    | none =>
      simp only at hmx; subst hmx
      simp only [Option.getD_none] at h2 h3
      cases hi with
      | none =>
        simp only at hhi; subst hhi
        cases lo with
        | none => simp only at hlo; subst hlo; simp [Instr.slice, Instr.sliceBounds, run_underlying hu w, hz w, cut]
        | some yl =>
          obtain ⟨kl, il, el, z1, rfl⟩ := hlo
          simp [Instr.slice, Instr.sliceBounds, run_underlying hu w, hz w, cut, ha.ev el, run_sliceBound (P := P) (w := w) (k := kl) z1 (show il ≤ (xs.length : Int) by omega)]
      | some yh =>
        obtain ⟨kh, ih, eh, z2, rfl⟩ := hhi
        have b2 := fun c => run_sliceBound (P := P) (w := w) (k := kh) (c := c) z2 (show ih ≤ (cap : Int) by omega)
        cases lo with
        | none => simp only at hlo; subst hlo; simp [Instr.slice, Instr.sliceBounds, run_underlying hu w, hz w, cut, ha.ev eh, b2]
        | some yl =>
          obtain ⟨kl, il, el, z1, rfl⟩ := hlo
          simp [Instr.slice, Instr.sliceBounds, run_underlying hu w, hz w, cut, ha.ev eh, ha.ev el, b2, run_sliceBound (P := P) (w := w) (k := kl) z1 (show il ≤ (ih.toNat : Int) by omega)]
    | some ym =>
      obtain ⟨hs, km, im, em, z3, rfl⟩ := hmx
      simp only [Option.getD_some] at h2 h3
      have b3 := fun c => run_sliceBound (P := P) (w := w) (k := km) (c := c) z3 (show im ≤ (cap : Int) by omega)
      cases hi with
      | none => cases hs
      | some yh =>
        obtain ⟨kh, ih, eh, z2, rfl⟩ := hhi
        have b2 := fun c => run_sliceBound (P := P) (w := w) (k := kh) (c := c) z2 (show ih ≤ (im.toNat : Int) by omega)
        cases lo with
        | none => simp only at hlo; subst hlo; simp [Instr.slice, Instr.sliceBounds, run_underlying hu w, hz w, cut, ha.ev eh, ha.ev em, b2, b3]
        | some yl =>
          obtain ⟨kl, il, el, z1, rfl⟩ := hlo
          simp [Instr.slice, Instr.sliceBounds, run_underlying hu w, hz w, cut, ha.ev eh, ha.ev em, ha.ev el, b2, b3, run_sliceBound (P := P) (w := w) (k := kl) z1 (show il ≤ (ih.toNat : Int) by omega)]
  have hrun : (Instr.sliceAt T v (lo.map a.eval) (hi.map a.eval) (mx.map a.eval)).run P w = .ok (cut v l u m k.sz) w := by
    have : (Instr.sliceAt T v (lo.map a.eval) (hi.map a.eval) (mx.map a.eval)).run P w = (Instr.slice T v (lo.map a.eval) (hi.map a.eval) (mx.map a.eval)).run P w := by
      simp [Instr.sliceAt, run_underlying hu w]
    rw [this]
    rcases r with ⟨a, rfl, rfl⟩ | ⟨b, off, cap, cs, e, h4, _⟩
    · exact key a 0 (Nat.le_refl _) rfl
    · exact key _ cap h4 e
  simp only [execOp, ha.ev hx, Sem.run_bind, Sem.run_pure, hrun, Result.andThen_ok]
/-- What a part of a slice is. -/
theorem SlR.cut {α : Type} {k : Kd α} {I : Nat → Prop} {hh : Heap} {v : Value} {xs : List α} (r : SlR k I hh v xs) {l u : Nat} {m : Option Nat} (h1 : l ≤ u) (h2 : u ≤ m.getD xs.length) (h3 : m.getD xs.length ≤ xs.length) :
    SlR k I hh (Mw.cut v l u m k.sz) ((xs.drop l).take (u - l)) := by
  rcases r with ⟨a, rfl, rfl⟩ | ⟨b, off, cap, cs, rfl, h4, h5, h6, h7⟩
  · simp only [List.length_nil] at h2 h3
    have hm : m.getD 0 = 0 := by omega
    have : l = 0 := by omega
    subst this
    have : u = 0 := by omega
    subst this
    left
    exact ⟨a, by simp [Mw.cut, hm], by simp⟩
  · right
    have hcap : m.getD xs.length ≤ m.getD cap := by cases m <;> simp [h4]
    have hcap2 : m.getD cap ≤ cap := by cases m <;> simp at h3 ⊢; omega
    have drop : ∀ (l : Nat) (xs : List α) (cs : List Value), l ≤ xs.length → rows k I hh cs xs → ∃ c1 c2, cs = c1 ++ c2 ∧ c1.length = l * k.sz ∧ rows k I hh c2 (xs.drop l) := by
      intro l
      induction l with
      | zero => intro xs cs _ hr; exact ⟨[], cs, rfl, by simp, by simpa using hr⟩
      | succ l ih =>
        intro xs cs hl hr
        cases xs with
        | nil => simp at hl
        | cons x xs =>
          obtain ⟨c1, c2, rfl, q1, q2⟩ := hr
          obtain ⟨d1, d2, rfl, e1, e2⟩ := ih xs c2 (by simpa using hl) q2
          exact ⟨c1 ++ d1, d2, by simp, by simp [k.len q1, e1, Nat.succ_mul, Nat.add_comm], by simpa using e2⟩
    have take : ∀ (l : Nat) (xs : List α) (cs : List Value), rows k I hh cs xs → ∃ c1 c2, cs = c1 ++ c2 ∧ rows k I hh c1 (xs.take l) := by
      intro l
      induction l with
      | zero => intro xs cs hr; exact ⟨[], cs, rfl, by simp [rows]⟩
      | succ l ih =>
        intro xs cs hr
        cases xs with
        | nil => exact ⟨cs, [], by simp, by simpa using hr⟩
        | cons x xs =>
          obtain ⟨c1, c2, rfl, q1, q2⟩ := hr
          obtain ⟨d1, d2, rfl, e1⟩ := ih xs c2 q2
          exact ⟨c1 ++ d1, d2, by simp, c1, d1, rfl, q1, e1⟩
    obtain ⟨c1, c2, rfl, e1, e2⟩ := drop l xs cs (by omega) h6
    obtain ⟨d1, d2, rfl, e3⟩ := take (u - l) _ c2 e2
    have hlen : ((xs.drop l).take (u - l)).length = u - l := by simp; omega
    have hc := h7.right.left
    rw [e1] at hc
    by_cases hml : m.getD cap = l
    · have hul : u - l = 0 := by omega
      refine ⟨b, off, 0, [], ?_, ?_, by omega, ?_, ?_⟩
      · simp [Mw.cut, hml, hul]
      · simp [hul]
      · simp [hul, rows]
      · intro j v hj; simp at hj
    · refine ⟨b, off + l * k.sz, m.getD cap - l, d1, ?_, by rw [hlen]; omega, by omega, e3, hc⟩
      simp [Mw.cut, hml, hlen, Addr.add_at]

/-! ## A row of one's own, element by element -/
theorem Own.at {α : Type} [Inhabited α] {k : Kd α} {T : Nat} {I : Nat → Prop} {v : Value} {xs : List α} {i : Int} (r : Own k T h I v xs) (h0 : 0 ≤ i) (hi : i < (xs.length : Int)) :
    ∃ g cap pre mid post, v = .slice (some ⟨g, 0, none⟩) xs.length cap ∧ Box h g T (pre ++ (mid ++ post)) ∧ pre.length = i.toNat * k.sz ∧ mid.length = k.sz ∧ k.rp I h mid (rd xs i) ∧
      ∀ h' I' new y, Tr I h I' h' → k.rp I' h' new y → Box h' g T (pre ++ (new ++ post)) → Own k T h' I' v (wr xs i y) := by
  obtain ⟨cs, hr, ⟨rfl, rfl⟩ | ⟨g, cap, cur, rfl, h1, h2, h3, h4, h5⟩⟩ := r
  · simp at hi; omega
  · have hlt : i.toNat < xs.length := by omega
    obtain ⟨pre, mid, post, hc, hp, hm⟩ := hr.get i.toNat hlt
    obtain ⟨tl, hcur⟩ : ∃ tl, cur.toList = cs ++ tl := ⟨cur.toList.drop (xs.length * k.sz), by rw [← h5]; exact (List.take_append_drop _ _).symm⟩
    have hml := k.len hm
    refine ⟨g, cap, pre, mid, post ++ tl, rfl, ?_, hp, hml, hm, ?_⟩
    · unfold Box
      rw [h1]
      congr 2
      apply Array.ext'
      rw [hcur, hc]; simp
    · intro h' I' new y tr hy hb
      have hnl := k.len hy
      have hrows : rows k I' h' (pre ++ (new ++ post)) (xs.set i.toNat y) := by
        refine rows.set hy i.toNat ?_ hlt hp hml
        rw [← hc]; exact hr.mono tr
      refine ⟨_, hrows, .inr ⟨g, cap, _, by simp [wr], hb, by simpa [wr] using h2, h3, ?_, ?_⟩⟩
      · have : cur.size = cur.toList.length := by simp
        rw [← h4, this, hcur, hc]; simp [hnl, hml]
      · have hl := hrows.len
        simp only [wr, List.length_set] at hl ⊢
        rw [show pre ++ (new ++ (post ++ tl)) = (pre ++ (new ++ post)) ++ tl by simp]
        rw [List.take_append_of_le_length (by omega), ← hl, List.take_length]
theorem SlR.one {α : Type} {k : Kd α} {I : Nat → Prop} {v : Value} {xs : List α} (r : SlR k I h v xs) : Mw.one v = true := by
  rcases r with ⟨a, rfl, _⟩ | ⟨b, off, cap, cs, rfl, _⟩ <;> rfl
theorem SlR.nilOr {α : Type} {k : Kd α} {I : Nat → Prop} {v : Value} {xs : List α} (r : SlR k I h v xs) : (v = .slice none 0 0 ∧ xs = []) ∨ ∃ q l c, v = .slice (some q) l c := by
  rcases r with ⟨a, rfl, rfl⟩ | ⟨b, off, cap, cs, rfl, _⟩
  · cases a with
    | none => exact .inl ⟨rfl, rfl⟩
    | some q => exact .inr ⟨q, 0, 0, rfl⟩
  · exact .inr ⟨_, _, _, rfl⟩
theorem Own.one {α : Type} {k : Kd α} {T : Nat} {I : Nat → Prop} {v : Value} {xs : List α} (r : Own k T h I v xs) : Mw.one v = true := by
  obtain ⟨cs, hr, ⟨rfl, rfl⟩ | ⟨g, cap, cur, rfl, _⟩⟩ := r <;> rfl
theorem yBuildArr {parts : Array (Nat × Operand)} {z : Value} {out : List Value} {ps : List (Nat × Value)} {len E size : Nat} (zs : List (List Value)) (hz : ∀ w, (zeroValue T).run P w = .ok z w) (hzc : z.cells = zs.flatten.toArray)
    (hu : P.underlying T = some (.array len E)) (hsz : ∀ w, (sizeOf E).run P w = .ok size w) (hs : zs.map (·.length) = List.replicate len size)
    (hev : evp e parts.toList = some ps) (hk : okp (List.replicate len size) ps) (hc : (setAll zs ps).flatten = out) : Yl P n e ⟨d, .build T parts, t, p, af, gd⟩ (.agg out.toArray) h := fun a w ha _ => by
  have hparts : (parts.map fun (i, x) => (i, a.eval x)) = ps.toArray := by apply Array.ext'; simpa using ha.evp hev
  have hsum : ∀ i, ((List.replicate len size).take i).sum = min i len * size := fun i => by
    rw [List.take_replicate, List.sum_replicate_nat]
  have hf := fill_flat (szs := List.replicate len size) (place := fun i => some (i * size, size)) (fun i z hi => by
    have hlt := (List.getElem?_eq_some_iff.1 hi).1
    simp at hlt
    rw [hsum, Nat.min_eq_left (Nat.le_of_lt hlt)]
    simp [hlt] at hi
    subst hi; rfl) ps zs hs hk
  subst hc
  simp only [execOp, hparts, Instr.build, Sem.run_bind, hz w, Result.andThen_ok, hzc, run_underlying hu w, hsz w, Sem.run_pure]
  rw [hf]
  rfl
theorem eqH {β : Type} {a b : Option β} {r : β} (e : a = b) (H : a = some r) : b = some r := e ▸ H
theorem oInt {k : IntKind} {i : Int} : Mw.one (.int k i) = true := rfl
theorem oBool {b : Bool} : Mw.one (.bool b) = true := rfl
theorem oStr {b : ByteArray} : Mw.one (.string b) = true := rfl
theorem oSl {a : Option Addr} {l c : Nat} : Mw.one (.slice a l c) = true := rfl
theorem oPtr {a : Option Addr} : Mw.one (.pointer a) = true := rfl
theorem cellsOne {v : Value} (h : Mw.one v = true) : v.cells = [v].toArray := by cases v <;> first | rfl | cases h
theorem vOne {v : Value} (h : Mw.one v = true) : vcells v = [v] := by cases v <;> first | rfl | cases h
theorem vInt {k : IntKind} {i : Int} : vcells (.int k i) = [.int k i] := rfl
theorem vBool {b : Bool} : vcells (.bool b) = [.bool b] := rfl
theorem vStr {b : ByteArray} : vcells (.string b) = [.string b] := rfl
theorem vSl {a : Option Addr} {l c : Nat} : vcells (.slice a l c) = [.slice a l c] := rfl
theorem vPtr {a : Option Addr} : vcells (.pointer a) = [.pointer a] := rfl
theorem vAgg {c : List Value} : vcells (.agg c.toArray) = c := by simp [vcells]
theorem wr_length {α : Type} (xs : List α) (i : Int) (y : α) : (wr xs i y).length = xs.length := by simp [wr]
end Go.Mw
