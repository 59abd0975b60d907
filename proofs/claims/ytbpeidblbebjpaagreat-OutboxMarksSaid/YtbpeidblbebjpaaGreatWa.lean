/- Proved here: how code is walked at a frame and a heap that are known; no condition. -/
import Derived.Calls
import Derived.OrdersHeld
import Derived.LoopTactic
namespace Go.Mw
set_option linter.unusedVariables false
set_option linter.unusedSimpArgs false
open Go

/-! Frames as lists. -/
def get : List (Nat × Value) → Nat → Option Value
  | [], _ => none
  | (k, v) :: e, t => bif Nat.beq k t then some v else get e t

abbrev Env := List (Nat × Value)

structure Sat (n : Nat) (e : Env) (a : Act) : Prop where
  defers : a.defers = []
  size : n ≤ a.tmps.size
  val : ∀ t v, get e t = some v → a.tmps[t]? = some v

theorem Sat.nil {n : Nat} {e : Env} {a : Act} (h : Sat n e a) : Sat n [] a := ⟨h.defers, h.size, fun _ _ h => by cases h⟩
theorem Sat.cons {n : Nat} {e e' : Env} {a : Act} {t : Nat} {v : Value} (h : Sat n e a) (hv : get e t = some v) (h' : Sat n e' a) : Sat n ((t, v) :: e') a :=
  ⟨h.defers, h.size, fun t' v' hg => by
    unfold get at hg
    cases hb : Nat.beq t t' with
    | true =>
      rw [hb] at hg
      have : t = t' := Nat.eq_of_beq_eq_true hb
      subst this
      simp only [cond_true, Option.some.injEq] at hg
      subst hg
      exact h.val _ _ hv
    | false => rw [hb] at hg; exact h'.val _ _ hg⟩

def putE : Option Nat → Value → Env → Env
  | some d, v, e => (d, v) :: e
  | none, _, e => e

/-- A destination that fits into the frame. -/
def fits (n : Nat) : Option Nat → Bool
  | some d => Nat.ble (d + 1) n
  | none => true

theorem Sat.put {n : Nat} {e : Env} {a : Act} (h : Sat n e a) {d : Option Nat} (v : Value) (hd : fits n d = true) : Sat n (putE d v e) (a.put d v) := by
  cases d with
  | none => exact h
  | some d =>
    have hlt : d < n := Nat.le_of_ble_eq_true hd
    have hs := h.size
    refine ⟨h.defers, by simpa [Act.put] using hs, fun t v' hg => ?_⟩
    simp only [putE, get] at hg
    simp only [Act.put]
    cases hb : Nat.beq d t with
    | true =>
      rw [hb] at hg
      have : d = t := Nat.eq_of_beq_eq_true hb
      subst this
      simp only [cond_true, Option.some.injEq] at hg
      subst hg
      have : d < a.tmps.size := Nat.lt_of_lt_of_le hlt hs
      simp [this]
    | false =>
      rw [hb] at hg
      have : d ≠ t := fun e => by subst e; simp at hb
      rw [Array.getElem?_setIfInBounds_ne this]
      exact h.val _ _ hg

def ev (e : Env) : Operand → Option Value
  | .tmp t => get e t
  | .const v => some v
  | .global g => some (.pointer (some ⟨g, 0, none⟩))
  | .func f => some (.func (.func f) #[] #[])

theorem Sat.ev {n : Nat} {e : Env} {a : Act} (h : Sat n e a) {x : Operand} {v : Value} (hv : Mw.ev e x = some v) : a.eval x = v := by
  cases x with
  | tmp t =>
    have := h.val t v hv
    simp [Act.eval, Array.getD_eq_getD_getElem?, this]
  | const u => simpa [Mw.ev, Act.eval] using hv
  | global g => simpa [Mw.ev, Act.eval] using hv
  | func f => simpa [Mw.ev, Act.eval] using hv

/-! What a post lets by. -/
class NP (Q : Exit → Act → World → Prop) : Prop where
  no : ∀ c a w, ¬ Q (.panic c) a w
instance {K : Act → World → Prop} {Q : Exit → Act → World → Prop} [h : NP Q] : NP (Exit.then K Q) := ⟨fun c a w => h.no c a w⟩
instance {i : Nat} {Q : Exit → Act → World → Prop} [h : NP Q] : NP (Exit.inBlock i Q) := ⟨fun c a w => h.no c a w⟩

/-- What no step of these functions turns: the system, and what was printed. -/
class Sky where
  w0 : World
def Fix [Sky] (w : World) : Prop := w.os = Sky.w0.os ∧ w.output = Sky.w0.output
def On [Sky] (h : Array Obj) (w : World) : Prop := w.heap = h ∧ Fix w
def Same (w w' : World) : Prop := w'.os = w.os ∧ w'.output = w.output
theorem Fix.same [Sky] {w w' : World} (f : Fix w) (s : Same w w') : Fix w' := ⟨s.1.trans f.1, s.2.trans f.2⟩
variable [Sky]
/-- The post of a body: it hands back what R says. -/
def RetH (R : Value → Array Obj → Prop) : Ending → World → Prop
  | .returned v, w => R v w.heap ∧ Fix w
  | _, _ => False
instance {P : Program} {fn : Func} {R : Value → Array Obj → Prop} : NP (bodyPost P fn (RetH R)) := ⟨fun _ _ _ h => h.2⟩

/-! Code at a frame and a heap that are known. -/
abbrev Heap := Array Obj
def C (P : Program) (n : Nat) (c : Code) (Q : Exit → Act → World → Prop) (e : Env) (h : Heap) : Prop := ∀ a w, Sat n e a → On h w → c.wp P Q a w
/-- A post at a frame and a heap that are known. -/
def At (n : Nat) (Q : Exit → Act → World → Prop) (x : Exit) (e : Env) (h : Heap) : Prop := ∀ a w, Sat n e a → On h w → Q x a w

section
variable {P : Program} {n : Nat} {Q : Exit → Act → World → Prop} {e : Env} {h : Heap}

theorem C.seq {x y : Code} (k : C P n x (Exit.then (y.wp P Q) Q) e h) : C P n (.seq x y) Q e h := fun a w ha hw => wp_seq (k a w ha hw)
theorem C.skip (k : At n Q .normal e h) : C P n .skip Q e h := fun a w ha hw => wp_skip (k a w ha hw)
theorem C.exit {i : Nat} (k : At n Q (.exit i) e h) : C P n (.exit i) Q e h := fun a w ha hw => wp_exit (k a w ha hw)
theorem C.ret (k : At n Q .ret e h) : C P n .ret Q e h := fun a w ha hw => wp_ret (k a w ha hw)
theorem C.block {i : Nat} {c : Code} (k : C P n c (Exit.inBlock i Q) e h) : C P n (.block i c) Q e h := fun a w ha hw => wp_block (k a w ha hw)
theorem C.condT {c : Operand} {x y : Code} (hc : ev e c = some (.bool true)) (k : C P n x Q e h) : C P n (.cond c x y) Q e h :=
  fun a w ha hw => wp_cond_true (ha.ev hc) (k a w ha hw)
theorem C.condF {c : Operand} {x y : Code} (hc : ev e c = some (.bool false)) (k : C P n y Q e h) : C P n (.cond c x y) Q e h :=
  fun a w ha hw => wp_cond_false (ha.ev hc) (k a w ha hw)
theorem C.prune {c : Code} (e' : Env) (hs : ∀ a, Sat n e a → Sat n e' a) (k : C P n c Q e' h) : C P n c Q e h := fun a w ha hw => k a w (hs a ha) hw
theorem C.mono {c : Code} {Q' : Exit → Act → World → Prop} (k : C P n c Q e h) (hq : ∀ x a w, Q x a w → Q' x a w) : C P n c Q' e h :=
  fun a w ha hw => wp_mono (k a w ha hw) hq

/-! posts -/
theorem At.then {c : Code} (k : C P n c Q e h) : At n (Exit.then (c.wp P Q) Q) .normal e h := fun a w ha hw => k a w ha hw
theorem At.thenR {K : Act → World → Prop} (k : At n Q .ret e h) : At n (Exit.then K Q) .ret e h := fun a w ha hw => k a w ha hw
theorem At.thenE {K : Act → World → Prop} {i : Nat} (k : At n Q (.exit i) e h) : At n (Exit.then K Q) (.exit i) e h := fun a w ha hw => k a w ha hw
theorem At.blkN {i : Nat} (k : At n Q .normal e h) : At n (Exit.inBlock i Q) .normal e h := fun a w ha hw => k a w ha hw
theorem At.blkR {i : Nat} (k : At n Q .ret e h) : At n (Exit.inBlock i Q) .ret e h := fun a w ha hw => k a w ha hw
theorem At.blkE {i : Nat} (k : At n Q .normal e h) : At n (Exit.inBlock i Q) (.exit i) e h := fun a w ha hw => by
  simp only [Exit.inBlock, if_true]; exact k a w ha hw
theorem At.blkX {i j : Nat} (hij : Nat.beq j i = false) (k : At n Q (.exit j) e h) : At n (Exit.inBlock i Q) (.exit j) e h := fun a w ha hw => by
  have : j ≠ i := fun e => by subst e; simp at hij
  simp only [Exit.inBlock, this, if_false]; exact k a w ha hw
theorem At.prune {x : Exit} (e' : Env) (hs : ∀ a, Sat n e a → Sat n e' a) (k : At n Q x e' h) : At n Q x e h := fun a w ha hw => k a w (hs a ha) hw

/-- A loop, by rounds that are counted down. -/
def Back (n : Nat) (I : Env → Heap → Prop) (Q : Exit → Act → World → Prop) : Exit → Act → World → Prop
  | .normal, a, w => (∃ e, Sat n e a ∧ I e w.heap) ∧ Fix w
  | x, a, w => Q x a w
instance {I : Env → Heap → Prop} [k : NP Q] : NP (Back n I Q) := ⟨fun c a w => k.no c a w⟩
theorem At.back {I : Env → Heap → Prop} (e' : Env) (hs : ∀ a, Sat n e a → Sat n e' a) (k : I e' h) : At n (Back n I Q) .normal e h :=
  fun a _ ha hw => ⟨⟨e', hs a ha, hw.1 ▸ k⟩, hw.2⟩
theorem At.backE {I : Env → Heap → Prop} {i : Nat} (k : At n Q (.exit i) e h) : At n (Back n I Q) (.exit i) e h := fun a w ha hw => k a w ha hw
theorem At.backR {I : Env → Heap → Prop} (k : At n Q .ret e h) : At n (Back n I Q) .ret e h := fun a w ha hw => k a w ha hw

omit [Sky] in
theorem least {p : Nat → Prop} : ∀ k, p k → ∃ m, p m ∧ ∀ j, p j → m ≤ j := by
  intro k
  induction k using Nat.strongRecOn with
  | _ k ih =>
    intro hk
    by_cases h : ∃ j, j < k ∧ p j
    · obtain ⟨j, hj, hp⟩ := h
      exact ih j hj hp
    · exact ⟨k, hk, fun j hj => Nat.le_of_not_lt fun hlt => h ⟨j, hlt, hj⟩⟩
open Classical in
noncomputable def minOf (p : Nat → Prop) : Nat := if h : ∃ m, p m ∧ ∀ j, p j → m ≤ j then h.choose else 0
omit [Sky] in
theorem minOf_le {p : Nat → Prop} {k : Nat} (h : p k) : minOf p ≤ k ∧ p (minOf p) := by
  have hm := least k h
  unfold minOf
  rw [dif_pos hm]
  exact ⟨hm.choose_spec.2 k h, hm.choose_spec.1⟩

theorem C.loop {c : Code} (I : Nat → Env → Heap → Prop) (k : Nat) (h0 : I k e h) (hz : ∀ e h, ¬ I 0 e h)
    (step : ∀ k e h, I (k + 1) e h → C P n c (Back n (I k) Q) e h) : C P n (.loop c) Q e h := by
  intro a w ha hw
  obtain ⟨rfl, hw⟩ := hw
  refine wp_loop (fun a w => (∃ k e, Sat n e a ∧ I k e w.heap) ∧ Fix w) (fun a w => minOf fun k => ∃ e, Sat n e a ∧ I k e w.heap) ⟨⟨k, e, ha, h0⟩, hw⟩ ?_
  rintro a w ⟨⟨k, e, ha, hi⟩, hfx⟩
  obtain ⟨hle, e', ha', hi'⟩ := minOf_le (p := fun k => ∃ e, Sat n e a ∧ I k e w.heap) ⟨e, ha, hi⟩
  generalize minOf (fun k => ∃ e, Sat n e a ∧ I k e w.heap) = m at *
  cases m with
  | zero => exact absurd hi' (hz _ _)
  | succ m =>
    refine wp_mono (step m e' w.heap hi' a w ha' ⟨rfl, hfx⟩) ?_
    intro x a1 w1 hx
    cases x <;> first | exact hx | skip
    obtain ⟨⟨e1, hs1, hi1⟩, hf1⟩ := hx
    refine ⟨⟨⟨m, e1, hs1, hi1⟩, hf1⟩, Nat.lt_succ_of_le (minOf_le (p := fun k => ∃ e, Sat n e a1 ∧ I k e w1.heap) ⟨e1, hs1, hi1⟩).1⟩

/-! ## Regions -/
/-- What is walked: the operations by their numbers; one of 'pas' is taken ahead of all that could come first; those of a chain of 'alt' could each come first. -/
inductive OT where
  | nil
  | stop
  | pas (i : Nat) (t : OT)
  | alt (i : Nat) (t r : OT)
def wpX (P : Program) (ops : Array Oper) (Q : Exit → Act → World → Prop) (S : Heap → Prop) : OT → Act → World → Prop
  | .nil, a, w => Q .normal a w
  | .stop, _, _ => True
  | .pas i l, a, w => ∃ o v, ops[i]? = some o ∧ YieldsIf P ops (fun w => S w.heap) o v a ∧ wpX P ops Q S l (a.put o.dst v) w
  | .alt i l r, a, w => wpOp P ops Q i (fun a' w' => S w'.heap ∧ wpX P ops Q S l a' w') a w ∧ wpX P ops Q S r a w

def X (P : Program) (n : Nat) (ops : Array Oper) (Q : Exit → Act → World → Prop) (S : Heap → Prop) (l : OT) (e : Env) (h : Heap) : Prop :=
  ∀ a w, Sat n e a → On h w → wpX P ops Q S l a w

/-- The numbers from k on. -/
def lexl (k : Nat) : Nat → OT
  | 0 => .nil
  | m + 1 => .alt k (lexl (k + 1) m) .stop

omit [Sky] in
theorem wpOps_of_wpX {ops : Array Oper} {S : Heap → Prop} : ∀ (m k : Nat) (a : Act) (w : World), wpX P ops Q S (lexl k m) a w → wpOps P ops Q (List.range' k m) a w := by
  intro m
  induction m with
  | zero => intro k a w h; simpa [lexl, wpX, wpOps] using h
  | succ m ih =>
    intro k a w h
    simp only [lexl, wpX] at h
    rw [List.range'_succ, wpOps_cons]
    exact wpOp_mono (fun a' w' h' => ih _ _ _ h'.2) h.1

theorem C.region {id : Nat} {ops : Array Oper} (m : Nat) (hm : ops.size = m) (k : X P n ops Q (fun _ => True) (lexl 0 m) e h) : C P n (.region id ops false) Q e h := by
  intro a w ha hw
  subst hm
  refine wp_region ?_
  rw [List.range_eq_range']
  exact wpOps_of_wpX _ _ _ _ (k a w ha hw)

def OT.idxs : OT → List Nat
  | .alt i _ r => i :: r.idxs
  | _ => []
def OT.deep : OT → Nat
  | .nil => 0
  | .stop => 0
  | .pas _ t => t.deep + 1
  | .alt _ t r => max (t.deep + 1) r.deep
def sameL : List Nat → List Nat → Bool
  | [], [] => true
  | i :: l, j :: m => Nat.beq i j && sameL l m
  | _, _ => false
omit [Sky] in
theorem sameL_eq : ∀ {l m : List Nat}, sameL l m = true → l = m
  | [], [], _ => rfl
  | i :: l, j :: m, h => by
    simp only [sameL, Bool.and_eq_true] at h
    rw [Nat.eq_of_beq_eq_true h.1, sameL_eq h.2]
  | [], _ :: _, h => by simp [sameL] at h
  | _ :: _, [], h => by simp [sameL] at h
/-- Each may come up in this order. -/
def checkX (ops : Array Oper) : OT → Bool → Array Bool → Bool
  | .nil, top, listed => top && (Region.ready .any ops listed).isEmpty
  | .stop, top, _ => !top
  | .pas i l, top, listed => top && (Region.free .any ops listed i && (Region.ready .any ops listed).contains i && checkX ops l true (listed.setIfInBounds i true))
  | .alt i l r, top, listed => (!top || sameL (Region.ready .any ops listed) (i :: r.idxs)) && (checkX ops l true (listed.setIfInBounds i true) && checkX ops r false listed)

omit [Sky] in
theorem wpX_pick {ops : Array Oper} {S : Heap → Prop} {j : Nat} {listed : Array Bool} {a : Act} {w : World} : ∀ (t : OT), j ∈ t.idxs → checkX ops t false listed = true → wpX P ops Q S t a w →
    ∃ t', t'.deep + 1 ≤ t.deep ∧ checkX ops t' true (listed.setIfInBounds j true) = true ∧ wpOp P ops Q j (fun a' w' => S w'.heap ∧ wpX P ops Q S t' a' w') a w
  | .nil, hj, _, _ => by simp [OT.idxs] at hj
  | .stop, hj, _, _ => by simp [OT.idxs] at hj
  | .pas _ _, hj, _, _ => by simp [OT.idxs] at hj
  | .alt i t r, hj, hc, h => by
    simp only [OT.idxs, List.mem_cons] at hj
    simp only [checkX, Bool.and_eq_true] at hc
    by_cases e : j = i
    · subst e; exact ⟨t, by simp only [OT.deep]; omega, hc.2.1, h.1⟩
    · obtain ⟨t', h1, h2⟩ := wpX_pick r (hj.resolve_left e) hc.2.2 h.2
      exact ⟨t', by simp only [OT.deep]; omega, h2⟩

omit [Sky] in
theorem wpAnyH_of_wpX [hp : NP Q] {ops : Array Oper} {S : Heap → Prop} (hs : Region.noSelect ops = true) : ∀ (fuel : Nat) (l : OT) (listed : Array Bool) (a : Act) (w : World),
    checkX ops l true listed = true → l.deep ≤ fuel → S w.heap → wpX P ops Q S l a w → wpAnyH P .any ops Q (fun w => S w.heap) fuel listed a w
  | fuel, .nil, listed, a, w, hc, _, _, h => wpAnyH_done (by simpa [checkX] using hc) h fuel
  | _, .stop, listed, a, w, hc, _, _, _ => by simp [checkX] at hc
  | 0, .pas i l, listed, a, w, hc, hf, hS, h => by simp [OT.deep] at hf
  | fuel + 1, .pas i l, listed, a, w, hc, hf, hS, h => by
    obtain ⟨o, v, ho, hy, h⟩ := h
    simp only [checkX, Bool.and_eq_true] at hc
    exact wpAnyH_take ho hs hc.2.1.1 hc.2.1.2 (fun c a w hq => absurd hq (hp.no c _ w)) hy hS
        (wpAnyH_of_wpX hs fuel l _ _ _ hc.2.2 (by simp only [OT.deep] at hf; omega) hS h)
  | 0, .alt i l r, listed, a, w, hc, hf, hS, h => by simp only [OT.deep] at hf; omega
  | fuel + 1, .alt i l r, listed, a, w, hc, hf, hS, h => by
    simp only [checkX, Bool.and_eq_true] at hc
    have hr' : Region.ready .any ops listed = i :: r.idxs := sameL_eq (by simpa using hc.1)
    refine wpAnyH_all hr' (by simp) fun j hj => ?_
    obtain ⟨t', h1, h2, h3⟩ := wpX_pick (P := P) (Q := Q) (S := S) (listed := listed) (a := a) (w := w) (.alt i l r) (by simpa [OT.idxs] using hj) (by simp [checkX, hc.2]) h
    exact wpOp_mono (fun a' w' h' => ⟨h'.1, wpAnyH_of_wpX hs fuel t' _ a' w' h2 (by omega) h'.1 h'.2⟩) h3

/-- The order serves: all of it, for one look. -/
def orderOk (ops : Array Oper) (l : OT) : Bool :=
  Region.noSelect ops && Nat.ble l.deep ops.size && checkX ops l true (Array.replicate ops.size false)

theorem C.regionD {id : Nat} {ops : Array Oper} [hp : NP Q] (hm : P.follows .mixedOrders = true) (S : Heap → Prop) (l : OT) (hc : orderOk ops l = true)
    (hS : S h) (k : X P n ops Q S l e h) : C P n (.region id ops true) Q e h := by
  intro a w ha hw
  simp only [orderOk, Bool.and_eq_true] at hc
  refine wp_region_held (S := fun w => S w.heap) hm ?_
  exact wpAnyH_of_wpX hc.1.1 _ l _ _ _ hc.2 (Nat.le_of_ble_eq_true hc.1.2) (by simpa [hw.1] using hS) (k a _ ha (by simpa [On, Fix] using hw))

/-! ## One operation -/
def nth : List Oper → Nat → Option Oper
  | [], _ => none
  | o :: _, 0 => some o
  | _ :: l, i + 1 => nth l i
omit [Sky] in
theorem nth_eq (l : List Oper) : ∀ i, nth l i = l[i]? := by
  induction l with
  | nil => intro i; simp [nth]
  | cons o l ih => intro i; cases i <;> simp [nth, ih]
omit [Sky] in
theorem nth_arr {ops : Array Oper} {i : Nat} {o : Oper} (h : nth ops.toList i = some o) : ops[i]? = some o := by
  rw [nth_eq] at h; simpa using h

/-- Is the operation wanted? As far as the frame tells. -/
def want (ops : Array Oper) (e : Env) (o : Oper) : Option Bool :=
  match o.guard with
  | none => some true
  | some (j, b) =>
    match nth ops.toList j with
    | some oj =>
      match oj.dst with
      | some t =>
        match get e t with
        | some (.bool x) => some (x == b)
        | some (.tuple _) => some false
        | _ => none
      | none => none
    | none => none

omit [Sky] in
theorem want_spec {ops : Array Oper} {o : Oper} {b : Bool} {a : Act} (ha : Sat n e a) (h : want ops e o = some b) : Region.wanted o (yielded ops a.tmps) = b := by
  unfold want at h
  unfold Region.wanted
  cases hg : o.guard with
  | none => rw [hg] at h; simpa using h
  | some jb =>
    obtain ⟨j, b'⟩ := jb
    rw [hg] at h
    simp only at h ⊢
    cases hn : nth ops.toList j with
    | none => rw [hn] at h; cases h
    | some oj =>
      rw [hn] at h
      simp only at h
      cases hd : oj.dst with
      | none => rw [hd] at h; cases h
      | some t =>
        rw [hd] at h
        simp only at h
        have hy : ((ops[j]?).bind (·.dst)) = some t := by rw [nth_arr hn]; simpa using hd
        unfold yielded
        rw [hy]
        simp only [Option.bind_some]
        cases ht : get e t with
        | none => rw [ht] at h; cases h
        | some v =>
          rw [ht] at h
          have hv := ha.val t v ht
          rw [hv]
          cases v <;> simp at h ⊢ <;> simp [← h]

def Yl (P : Program) (n : Nat) (e : Env) (o : Oper) (v : Value) (h : Heap) : Prop :=
  ∀ a w, Sat n e a → w.heap = h → (execOp a.eval o).run P w = .ok (.value v) w

variable {ops : Array Oper} {S : Heap → Prop} {i : Nat} {l : OT} {o : Oper}

theorem X.nil (k : At n Q .normal e h) : X P n ops Q S .nil e h := fun a w ha hw => k a w ha hw
/-- One that may be taken ahead. -/
theorem X.pas {v : Value} (ho : nth ops.toList i = some o) (hw : want ops e o = some true) (hd : fits n o.dst = true)
    (hy : ∀ h', S h' → Yl P n e o v h') (k : X P n ops Q S l (putE o.dst v e) h) : X P n ops Q S (.pas i l) e h := by
  intro a w ha hh
  exact ⟨o, v, nth_arr ho, .inl ⟨want_spec ha hw, fun w' hs => hy _ hs a w' ha rfl⟩, k _ w (ha.put v hd) hh⟩
theorem X.pasSkip (ho : nth ops.toList i = some o) (hw : want ops e o = some false) (hd : fits n o.dst = true)
    (k : X P n ops Q S l (putE o.dst undef e) h) : X P n ops Q S (.pas i l) e h := by
  intro a w ha hh
  exact ⟨o, undef, nth_arr ho, .inr ⟨want_spec ha hw, rfl⟩, k _ w (ha.put _ hd) hh⟩
/-- One that comes up alone, and leaves the heap. -/
theorem X.val {v : Value} (ho : nth ops.toList i = some o) (hw : want ops e o = some true) (hd : fits n o.dst = true)
    (hy : Yl P n e o v h) (hS : S h) (k : X P n ops Q S l (putE o.dst v e) h) : X P n ops Q S (.alt i l .stop) e h := by
  intro a w ha hh
  obtain ⟨rfl, hh⟩ := hh
  simp only [wpX, wpOp, nth_arr ho, want_spec ha hw, if_true]
  refine ⟨.inl ?_, trivial⟩
  simp only [Oper.wp, hy a w ha rfl, Oper.upon]
  exact ⟨hS, k _ w (ha.put v hd) ⟨rfl, hh⟩⟩
theorem X.skip (ho : nth ops.toList i = some o) (hw : want ops e o = some false) (hd : fits n o.dst = true) (hS : S h)
    (k : X P n ops Q S l (putE o.dst undef e) h) : X P n ops Q S (.alt i l .stop) e h := by
  intro a w ha hh
  obtain ⟨rfl, hh⟩ := hh
  simp only [wpX, wpOp, nth_arr ho, want_spec ha hw, Bool.false_eq_true, if_false]
  exact ⟨⟨hS, k _ w (ha.put _ hd) ⟨rfl, hh⟩⟩, trivial⟩
/-- Any of them may come first. -/
theorem X.fork {r : OT} (k1 : X P n ops Q S (.alt i l .stop) e h) (k2 : X P n ops Q S r e h) : X P n ops Q S (.alt i l r) e h := by
  intro a w ha hh
  exact ⟨(k1 a w ha hh).1, k2 a w ha hh⟩
/-- What an operation does: the value and the heap behind it. -/
def Ef (P : Program) (n : Nat) (e : Env) (o : Oper) (R : Value → Heap → Prop) (h : Heap) : Prop :=
  ∀ a w, Sat n e a → w.heap = h → (∃ v w', (execOp a.eval o).run P w = .ok (.value v) w' ∧ R v w'.heap ∧ Same w w') ∨
    (∃ w', (execOp a.eval o).run P w = .ok .skip w' ∧ R undef w'.heap ∧ Same w w')
theorem X.ef {R : Value → Heap → Prop} (ho : nth ops.toList i = some o) (hw : want ops e o = some true) (hd : fits n o.dst = true)
    (hy : Ef P n e o R h) (k : ∀ v h', R v h' → S h' ∧ X P n ops Q S l (putE o.dst v e) h') : X P n ops Q S (.alt i l .stop) e h := by
  intro a w ha hh
  simp only [wpX, wpOp, nth_arr ho, want_spec ha hw, if_true]
  refine ⟨?_, trivial⟩
  rcases hy a w ha hh.1 with ⟨v, w', hr, hR, hsm⟩ | ⟨w', hr, hR, hsm⟩
  · refine .inl ?_
    simp only [Oper.wp, hr, Oper.upon]
    obtain ⟨hS, k⟩ := k _ _ hR
    exact ⟨hS, k _ w' (ha.put v hd) ⟨rfl, hh.2.same hsm⟩⟩
  · refine .inl ?_
    simp only [Oper.wp, hr, Oper.upon]
    obtain ⟨hS, k⟩ := k _ _ hR
    exact ⟨hS, k _ w' (ha.put _ hd) ⟨rfl, hh.2.same hsm⟩⟩

/-- A function's contract at a heap. -/
def Fn (P : Program) (f : FuncId) (args : List Value) (h : Heap) (R : Value → Heap → Prop) : Prop :=
  ∀ w : World, On h w → Calls P f args.toArray w (RetH R)
theorem Fn.mono {f : FuncId} {args : List Value} {R R' : Value → Heap → Prop} (k : Fn P f args h R) (hr : ∀ v h', R v h' → R' v h') : Fn P f args h R' :=
  fun w hw => (k w hw).mono fun x w' hx => by cases x <;> first | exact ⟨hr _ _ hx.1, hx.2⟩ | exact hx

def evs (e : Env) : List Operand → Option (List Value)
  | [] => some []
  | x :: l => match ev e x, evs e l with
    | some v, some vs => some (v :: vs)
    | _, _ => none
omit [Sky] in
theorem Sat.evs {a : Act} (ha : Sat n e a) : ∀ {l : List Operand} {vs : List Value}, Mw.evs e l = some vs → l.map a.eval = vs := by
  intro l
  induction l with
  | nil => intro vs h; simpa [Mw.evs] using h
  | cons x l ih =>
    intro vs h
    simp only [Mw.evs] at h
    cases hx : Mw.ev e x with
    | none => rw [hx] at h; simp at h
    | some v =>
      cases hl : Mw.evs e l with
      | none => rw [hx, hl] at h; simp at h
      | some us =>
        rw [hx, hl] at h
        simp only [Option.some.injEq] at h
        subst h
        simp [ha.ev hx, ih hl]

/-- A call. -/
theorem X.call {f : Operand} {fn : FuncId} {args : Array Operand} {ats : Array TypeId} {first cap : Array Value} {vs all : List Value} {d : Option Tmp} {t : TypeId} {p : String} {af : Array Edge} {gd : Option (Nat × Bool)}
    {R : Value → Heap → Prop}
    (hcall : ∀ args w, (callFunc fn args).run P w = .ok (.enter fn args) w)
    (ho : nth ops.toList i = some ⟨d, .call ⟨.value f, args, ats⟩, t, p, af, gd⟩) (hw : want ops e ⟨d, .call ⟨.value f, args, ats⟩, t, p, af, gd⟩ = some true) (hd : fits n d = true)
    (hf : ev e f = some (.func (.func fn) first cap)) (ha : evs e args.toList = some vs) (hall : (first.toList ++ vs) ++ cap.toList = all)
    (hc : Fn P fn all h R) (k : ∀ v h', R v h' → S h' ∧ X P n ops Q S l (putE d v e) h') : X P n ops Q S (.alt i l .stop) e h := by
  intro a w hs hh
  simp only [wpX, wpOp, nth_arr ho, want_spec hs hw, if_true]
  refine ⟨.inl ?_, trivial⟩
  have hargs : args.map a.eval = vs.toArray := by
    apply Array.ext'; simpa using hs.evs ha
  have hfv := hs.ev hf
  have hrun : (execOp a.eval ⟨d, .call ⟨.value f, args, ats⟩, t, p, af, gd⟩).run P w = .ok (.enter fn all.toArray) w := by
    simp only [execOp, resolve, hargs, hfv, Deferred.ofValue]
    have : first ++ vs.toArray ++ cap = all.toArray := by
      apply Array.ext'; simpa using hall
    show (Sem.run P (callFunc fn (first ++ vs.toArray ++ cap)) w) = _
    rw [this]
    exact hcall _ _
  simp only [Oper.wp, hrun, Oper.upon]
  refine (hc w hh).mono fun x w' hx => ?_
  cases x with
  | returned v =>
    obtain ⟨hS, k⟩ := k _ _ hx.1
    exact ⟨hS, k _ w' (hs.put v hd) ⟨rfl, hx.2⟩⟩
  | panicked c => exact hx.elim
  | outgrown => exact hx.elim

/-- The frame at the start. -/
def enter : Nat → List Value → Env
  | _, [] => []
  | i, v :: vs => (i, v) :: enter (i + 1) vs
omit [Sky] in
theorem get_enter : ∀ (vs : List Value) (i t : Nat) (v : Value), get (enter i vs) t = some v → i ≤ t ∧ vs[t - i]? = some v := by
  intro vs
  induction vs with
  | nil => intro i t v h; cases h
  | cons u vs ih =>
    intro i t v h
    simp only [enter, get] at h
    cases hb : Nat.beq i t with
    | true =>
      rw [hb] at h
      have : i = t := Nat.eq_of_beq_eq_true hb
      subst this
      simp only [cond_true, Option.some.injEq] at h
      subst h
      simp
    | false =>
      rw [hb] at h
      have hne : i ≠ t := fun e => by subst e; simp at hb
      obtain ⟨h1, h2⟩ := ih (i + 1) t v h
      refine ⟨by omega, ?_⟩
      have : t - i = (t - (i + 1)) + 1 := by omega
      rw [this]
      simpa using h2
/-- A function by its body. -/
theorem Fn.of {f : FuncId} {fn : Func} {c : Code} {args : List Value} {R : Value → Heap → Prop} (nt : Nat) (hf : P.funcs[f]? = some fn) (hb : fn.body = some c) (hn : fn.ntmps = nt)
    (k : C P nt c (bodyPost P fn (RetH R)) (enter 0 args) h) : Fn P f args h R := by
  intro w hw
  refine calls_of_wp hf hb (k _ w ⟨rfl, ?_, fun t v hg => ?_⟩ hw)
  · subst hn; simp; omega
  · obtain ⟨_, h2⟩ := get_enter args 0 t v hg
    have hlt : t < args.length := by
      rcases Nat.lt_or_ge t args.length with h | h
      · exact h
      · simp [List.getElem?_eq_none h] at h2
    simp only [Nat.sub_zero] at h2
    rw [Array.getElem?_append_left (by simpa using hlt)]
    simpa using h2

/-! ## What is handed back -/
def Rv (P : Program) (n : Nat) (e : Env) (h : Heap) (r : ResultVar) (v : Value) : Prop :=
  ∀ a w, Sat n e a → w.heap = h → Sem.run P (match r with | .tmp t => pure (a.tmps.getD t undef) | .cell p t => do loadVar t (← asAddr (a.tmps.getD p undef))) w = .ok v w
omit [Sky] in
theorem Rv.tmp {t : Nat} {v : Value} (hv : get e t = some v) : Rv P n e h (.tmp t) v := fun a w ha _ => by
  have := ha.val t v hv
  simp [Array.getD_eq_getD_getElem?, this]

def Rvs (P : Program) (n : Nat) (e : Env) (h : Heap) : List ResultVar → List Value → Prop
  | [], [] => True
  | r :: rs, v :: vs => Rv P n e h r v ∧ Rvs P n e h rs vs
  | _, _ => False
def pack : List Value → Value
  | [v] => v
  | vs => .tuple vs.toArray
omit [Sky] in
theorem pack_eq (vs : List Value) : (if h : vs.toArray.size = 1 then vs.toArray[0] else .tuple vs.toArray) = pack vs := by
  cases vs with
  | nil => rfl
  | cons v vs => cases vs with
    | nil => rfl
    | cons u vs => simp [pack]
def resOf (tmps : Array Value) (r : ResultVar) : Sem Value := match r with
    | .tmp t => pure (tmps.getD t undef)
    | .cell p t => do loadVar t (← asAddr (tmps.getD p undef))
omit [Sky] in
theorem Rvs.run {a : Act} {w : World} (ha : Sat n e a) (hw : w.heap = h) : ∀ {rs : List ResultVar} {vs : List Value}, Rvs P n e h rs vs → Sem.run P (rs.mapM (resOf a.tmps)) w = .ok vs w := by
  intro rs
  induction rs with
  | nil => intro vs hv; cases vs with | nil => simp | cons _ _ => exact hv.elim
  | cons r rs ih =>
    intro vs hv
    cases vs with
    | nil => exact hv.elim
    | cons v vs =>
      have h1 : Sem.run P (resOf a.tmps r) w = .ok v w := hv.1 a w ha hw
      have h2 := ih hv.2
      simp only [List.mapM_cons, Sem.run_bind, h1, h2, Result.andThen_ok, Sem.run_pure]
omit [Sky] in
theorem Rvs.results {fn : Func} {rs : List ResultVar} {vs : List Value} {a : Act} {w : World} (hr : fn.results = rs.toArray) (ha : Sat n e a) (hw : w.heap = h) (hv : Rvs P n e h rs vs) :
    (results fn a.tmps).run P w = .ok (pack vs) w := by
  have h1 := hv.run ha hw
  show Sem.run P ((fn.results.mapM (resOf a.tmps)) >>= fun vs => pure (if h : vs.size = 1 then vs[0] else .tuple vs)) w = _
  rw [hr, List.mapM_toArray]
  simp only [Sem.run_bind, Sem.run_map, h1, Result.andThen_ok, Sem.run_pure]
  rw [pack_eq]
theorem At.retn {fn : Func} {R : Value → Heap → Prop} {rs : List ResultVar} (vs : List Value) (hr : fn.results = rs.toArray) (hv : Rvs P n e h rs vs) (hR : R (pack vs) h) :
    At n (bodyPost P fn (RetH R)) .ret e h := fun a w ha hw => ⟨ha.defers, _, hv.results hr ha hw.1, by obtain ⟨rfl, hw⟩ := hw; exact ⟨hR, hw⟩⟩
theorem At.endn {fn : Func} {R : Value → Heap → Prop} {rs : List ResultVar} (vs : List Value) (hr : fn.results = rs.toArray) (hv : Rvs P n e h rs vs) (hR : R (pack vs) h) :
    At n (bodyPost P fn (RetH R)) .normal e h := fun a w ha hw => ⟨ha.defers, _, hv.results hr ha hw.1, by obtain ⟨rfl, hw⟩ := hw; exact ⟨hR, hw⟩⟩
end
end Go.Mw
