/- Proved here: what is read as data is what the kinds say; no condition. -/
import Derived.Test.YtbpeidblbebjpaaGreatWg
import Derived.ChangeArms
import Derived.ProofKit
import Derived.OpenShut
import Derived.Below
import Derived.DataReads
import Derived.Carry
import Derived.SizedLaws
import Derived.WalkKit
namespace Go.Mw
set_option linter.unusedVariables false
set_option linter.unusedSimpArgs false
open Go
/-! ## What is read as data is what the kinds say -/
/-- All blocks that are there. -/
def Old (h : Heap) : Nat → Prop := fun b => b < h.size
def Opens {α : Type} (P : Program) (t : TypeId) (k : Kd α) : Prop :=
  P.cellsOf t = k.sz ∧ ∀ (H : Type) (enc : TypeId × Value → H) (w : World) (fuel : Nat) (cs : List Value) (x : DataW H × List MemPlace), DataW.trod enc P w 0 (fun _ => true) true fuel t cs = some x → ∃ a, k.rp (Old w.heap) w.heap cs a
variable {P : Program}
theorem opInt {t : TypeId} {q : IntKind} (hz : P.cellsOf t = 1) (hu : P.underlying t = some (.int q)) : Opens P t (kI q) :=
  ⟨hz, fun H enc w fuel cs x h => by obtain ⟨n, rfl, _⟩ := DataW.trod_int hu h; exact ⟨n, rfl⟩⟩
theorem opBool {t : TypeId} (hz : P.cellsOf t = 1) (hu : P.underlying t = some .bool) : Opens P t kB :=
  ⟨hz, fun H enc w fuel cs x h => by obtain ⟨n, rfl, _⟩ := DataW.trod_bool hu h; exact ⟨n, rfl⟩⟩
theorem opStr {t : TypeId} (hz : P.cellsOf t = 1) (hu : P.underlying t = some .string) : Opens P t kStr :=
  ⟨hz, fun H enc w fuel cs x h => by obtain ⟨s, rfl, _⟩ := DataW.trod_string hu h; exact ⟨s.data.toList, by simp [kStr]⟩⟩
/-- The fields from the place o on. -/
def OpF {α : Type} (P : Program) (fs : List Field) (o : Nat) (k : Kd α) : Prop :=
  ∀ (H : Type) (enc : TypeId × Value → H) (w : World) (n : Nat) (cs : List Value), cs.length = o + k.sz →
    (∀ f ∈ fs, ∃ x, DataW.trod enc P w 0 (fun _ => true) true n f.type ((cs.drop f.offset).take (P.cellsOf f.type)) = some x) → ∃ a, k.rp (Old w.heap) w.heap (cs.drop o) a
theorem opFnil {o : Nat} : OpF P [] o kU := fun H enc w n cs hl _ => ⟨(), by
  show cs.drop o = []
  rw [List.drop_eq_nil_iff]; simp only [kU] at hl; omega⟩
theorem opFcons {α β : Type} {k : Kd α} {f : Kd β} {fd : Field} {fs : List Field} {o : Nat} {t : TypeId} (ht : fd.type = t) (ho : fd.offset = o) (q : Opens P t k) (r : OpF P fs (o + k.sz) f) : OpF P (fd :: fs) o (kP k f) := by
  intro H enc w n cs hl hf
  obtain ⟨x, hx⟩ := hf fd (List.mem_cons_self ..)
  rw [ht, ho, q.1] at hx
  obtain ⟨a, ha⟩ := q.2 H enc w n _ x hx
  obtain ⟨b, hb⟩ := r H enc w n cs (by simp only [kP] at hl; omega) (fun g hg => hf g (List.mem_cons_of_mem _ hg))
  exact ⟨(a, b), _, _, (by rw [← List.drop_drop]; exact (List.take_append_drop _ _).symm), ha, hb⟩
theorem opStruct {α β : Type} {k : Kd α} {to : β → α} {back : α → β} {t : TypeId} {fs : Array Field} (hz : P.cellsOf t = k.sz) (hu : P.underlying t = some (.struct fs)) (hb : ∀ x, to (back x) = x) (q : OpF P fs.toList 0 k) : Opens P t (kM k to) :=
  ⟨hz, fun H enc w fuel cs x h => by
    obtain ⟨xs, n, _, _, hl, hxl, hx⟩ := DataW.trod_struct hu h
    obtain ⟨a, ha⟩ := q H enc w n cs (by rw [hl, hz]; omega) (fun f hf => by
      obtain ⟨i, hi⟩ := List.getElem?_of_mem hf
      have hi' : fs[i]? = some f := by simpa using hi
      have hlt : i < xs.length := by
        have := (List.getElem?_eq_some_iff.1 hi).1
        rw [hxl]; simpa using this
      exact ⟨xs[i], by rw [hx i f hi']; exact List.getElem?_eq_getElem hlt⟩)
    exact ⟨back a, by show k.rp _ _ _ (to (back a)); rw [hb]; simpa using ha⟩⟩
theorem rowsOf {α : Type} {k : Kd α} {I : Nat → Prop} {h : Heap} : ∀ (m : Nat) (cs : List Value), cs.length = m * k.sz → (∀ i, i < m → ∃ a, k.rp I h ((cs.drop (i * k.sz)).take k.sz) a) → ∃ xs : List α, xs.length = m ∧ rows k I h cs xs
  | 0, cs, hl, _ => ⟨[], rfl, by show cs = []; exact List.length_eq_zero_iff.1 (by simpa using hl)⟩
  | m + 1, cs, hl, hf => by
    obtain ⟨a, ha⟩ := hf 0 (Nat.succ_pos _)
    obtain ⟨xs, h1, h2⟩ := rowsOf (k := k) (I := I) (h := h) m (cs.drop k.sz) (by simp [hl, Nat.succ_mul]) (fun i hi => by
      obtain ⟨b, hb⟩ := hf (i + 1) (Nat.succ_lt_succ hi)
      refine ⟨b, ?_⟩
      rw [List.drop_drop]
      rw [Nat.succ_mul, Nat.add_comm] at hb
      exact hb)
    exact ⟨a :: xs, by simp [h1], _, _, (List.take_append_drop k.sz cs).symm, by simpa using ha, h2⟩
theorem opArr {α : Type} {k : Kd α} {t e : TypeId} {m : Nat} (hz : P.cellsOf t = m * k.sz) (hu : P.underlying t = some (.array m e)) (q : Opens P e k) : Opens P t (kArr m k) :=
  ⟨hz, fun H enc w fuel cs x h => by
    obtain ⟨xs, n, _, _, hl, hxl, hx⟩ := DataW.trod_array hu h
    obtain ⟨ys, h1, h2⟩ := rowsOf (k := k) (I := Old w.heap) (h := w.heap) m cs (by rw [hl, hz]) (fun i hi => by
      have h3 := hx i hi
      rw [List.getElem?_eq_getElem (by omega), q.1] at h3
      exact q.2 H enc w n _ _ h3)
    exact ⟨ys, h2, h1⟩⟩
theorem cells_of {w : World} {a : Addr} {n : Nat} {cs : List Value} (h : w.cells? 0 a n = some cs) (hn : 0 < n) : a.spot = none ∧ cs.length = n ∧ ∀ j v, cs[j]? = some v → a.block < w.heap.size ∧ ∃ c T fr, w.heap[a.block]? = some (.cells c T fr) ∧ c[a.off + j]? = some v := by
  obtain ⟨_, hl, hc⟩ := World.cells?_some h
  have each : ∀ j v, cs[j]? = some v → (a.add j).spot = none ∧ a.block < w.heap.size ∧ ∃ c T fr, w.heap[a.block]? = some (.cells c T fr) ∧ c[a.off + j]? = some v := by
    intro j v hj
    have hlt : j < n := by rw [← hl]; exact (List.getElem?_eq_some_iff.1 hj).1
    have h1 := hc j hlt
    rw [hj] at h1
    unfold World.cell? at h1
    have hb : (a.add j).block = a.block := by unfold Addr.add; split <;> rfl
    have ho : (a.add j).off = a.off + j := by unfold Addr.add; split <;> simp_all
    rw [hb, ho] at h1
    split at h1
    · rename_i c T fr hh
      split at h1
      · cases h1
      · rename_i hs
        refine ⟨by simpa using hs, ?_, c, T, fr, hh, h1⟩
        rcases Nat.lt_or_ge a.block w.heap.size with h2 | h2
        · exact h2
        · rw [Array.getElem?_eq_none h2] at hh; cases hh
    · cases h1
  refine ⟨?_, hl, fun j v hj => (each j v hj).2⟩
  have := (each 0 _ (List.getElem?_eq_getElem (by omega : 0 < cs.length))).1
  simpa [Addr.add] using this
theorem opSl {α : Type} {k : Kd α} {t e : TypeId} (hz : P.cellsOf t = 1) (hu : P.underlying t = some (.slice e)) (hk : Nat.ble 1 k.sz = true) (q : Opens P e k) : Opens P t (kSl k) :=
  ⟨hz, fun H enc w fuel cs x h => by
    have hk' : 0 < k.sz := Nat.le_of_ble_eq_true hk
    rcases DataW.trod_slice hu h with ⟨rfl, _⟩ | ⟨a, len, cap, elems, rest, n, _, rfl, _, _, hlc, hcm, hel, hE, hR, _⟩
    · exact ⟨[], _, rfl, .nil⟩
    · obtain ⟨hrl, hR⟩ := hR rfl
      -- each of the elements
      have each : ∀ i, i < len → ∃ cs y, w.cells? 0 (a.add (i * k.sz)) k.sz = some cs ∧ k.rp (Old w.heap) w.heap cs y := by
        intro i hi
        have h1 := hE i hi
        rw [List.getElem?_eq_getElem (by omega), Option.bind_eq_some_iff, q.1] at h1
        obtain ⟨cs, h2, h3⟩ := h1
        obtain ⟨y, hy⟩ := q.2 H enc w n cs _ h3
        exact ⟨cs, y, h2, hy⟩
      by_cases hcap : cap = 0
      · subst hcap
        have : len = 0 := by omega
        subst this
        exact ⟨[], _, rfl, .inl ⟨some a, rfl, rfl⟩⟩
      · have hsp : a.spot = none := by
          by_cases h0 : len = 0
          · subst h0
            have h1 := hR 0 (by omega)
            rw [List.getElem?_eq_getElem (by omega), Option.bind_eq_some_iff, q.1] at h1
            obtain ⟨cs, h2, _⟩ := h1
            have := (cells_of h2 hk').1
            simpa [Addr.add] using this
          · obtain ⟨cs, y, h2, _⟩ := each 0 (by omega)
            have := (cells_of h2 hk').1
            simpa [Addr.add] using this
        obtain ⟨b, off, sp⟩ := a
        simp only at hsp
        subst hsp
        -- all of them
        have all : ∀ m, m ≤ len → ∃ (cs : List Value) (ys : List α), ys.length = m ∧ rows k (Old w.heap) w.heap cs ys ∧ Cells (Old w.heap) w.heap b off cs := by
          intro m
          induction m with
          | zero => intro _; exact ⟨[], [], rfl, rfl, fun j v hj => by simp at hj⟩
          | succ m ih =>
            intro hm
            obtain ⟨cs, ys, h1, h2, h3⟩ := ih (by omega)
            obtain ⟨ds, y, h4, h5⟩ := each m (by omega)
            obtain ⟨_, h6, h7⟩ := cells_of h4 hk'
            refine ⟨cs ++ ds, ys ++ [y], by simp [h1], rows.append (rows.single h5) h2, ?_⟩
            intro j v hj
            by_cases hlt : j < cs.length
            · rw [List.getElem?_append_left hlt] at hj; exact h3 j v hj
            · rw [List.getElem?_append_right (by omega)] at hj
              have h8 := h7 _ v hj
              rw [Addr.add_at] at h8
              have hcl := h2.len
              rw [h1] at hcl
              simp only at h8
              rw [show off + m * k.sz + (j - cs.length) = off + j by omega] at h8
              exact h8
        obtain ⟨cs, ys, h1, h2, h3⟩ := all len (Nat.le_refl _)
        refine ⟨ys, _, rfl, .inr ⟨b, off, cap, cs, by rw [h1], by omega, by simpa [maxLen] using hcm, h2, h3⟩⟩⟩
/-! ## The end of a law -/
theorem Stp.same {W W' : World} (p : Stp [] W.heap W'.heap) {q : MemPlace} (hq : q.block < W.heap.size) : W.sameAt W' q := by
  cases q with
  | cell b o => exact World.cell?_of_block (w := W) (p.2 b hq (by simp))
  | map b => exact p.2 b hq (by simp)
theorem Stp.trod {H : Type} {enc : TypeId × Value → H} {t : TypeId} (hl : laidOutB P = true) (hr : P.readableRec t = true) (hrow : t < P.types.size) {W W' : World} {v : Value} {d : DataW H} {ps : List MemPlace}
    (h : DataW.Trod enc P W 0 (fun _ => true) true t v d ps) (hb : Stp [] W.heap W'.heap) (hlt : ∀ x ∈ ps, x.block < W.heap.size) :
    DataW.Trod enc P W' 0 (fun b => decide (b < W.heap.size)) true t v d ps :=
  WideElems.Trod_stays hl hr hrow h (fun x hx => hb.same (hlt x hx)) (fun x hx => by simpa using hlt x hx)
theorem Stp.frame {W W' : World} (h : Stp [] W.heap W'.heap) (s : Same W W') (may : MemPlace → Prop) : W.keptBut W' may := by
  refine ⟨s.1, s.2, fun i hi => ?_⟩
  rw [h.2 i hi (by simp)]
  split <;> simp_all
end Go.Mw
