/- Proved here: what a heap holds of data; no condition. -/
import Derived.Test.YtbpeidblbebjpaaGreatWa
import Derived.Laws.Cells
import Derived.Laws.World
namespace Go.Mw
set_option linter.unusedVariables false
set_option linter.unusedSimpArgs false
open Go

/-! ## The heap -/
/-- The block b is a row of these cells, all of them, that may be written. -/
def Box (h : Heap) (b : Nat) (T : TypeId) (cs : List Value) : Prop := h[b]? = some (.cells cs.toArray T (0, 0))
/-- From the place off of the block b on these cells are read; if there are any, the block is one of I. -/
def Cells (I : Nat → Prop) (h : Heap) (b off : Nat) (cs : List Value) : Prop :=
  ∀ j v, cs[j]? = some v → I b ∧ ∃ c T fr, h[b]? = some (.cells c T fr) ∧ c[off + j]? = some v

/-- What I reads is as it was. -/
def Tr (I : Nat → Prop) (h : Heap) (I' : Nat → Prop) (h' : Heap) : Prop := ∀ b, I b → I' b ∧ h'[b]? = h[b]?
theorem Tr.refl (I : Nat → Prop) (h : Heap) : Tr I h I h := fun _ hb => ⟨hb, rfl⟩
theorem Tr.trans {I I' I'' : Nat → Prop} {h h' h'' : Heap} (a : Tr I h I' h') (b : Tr I' h' I'' h'') : Tr I h I'' h'' :=
  fun x hx => ⟨(b x (a x hx).1).1, (b x (a x hx).1).2.trans (a x hx).2⟩

theorem Cells.mono {I I' : Nat → Prop} {h h' : Heap} {b off : Nat} {cs : List Value} (k : Cells I h b off cs) (t : Tr I h I' h') : Cells I' h' b off cs := by
  intro j v hj
  obtain ⟨hb, c, T, fr, hc, hv⟩ := k j v hj
  exact ⟨(t b hb).1, c, T, fr, (t b hb).2.trans hc, hv⟩
theorem Cells.left {I : Nat → Prop} {h : Heap} {b off : Nat} {cs ds : List Value} (k : Cells I h b off (cs ++ ds)) : Cells I h b off cs := by
  intro j v hj
  refine k j v ?_
  rw [List.getElem?_append_left (List.getElem?_eq_some_iff.1 hj).1]; exact hj
theorem Cells.right {I : Nat → Prop} {h : Heap} {b off : Nat} {cs ds : List Value} (k : Cells I h b off (cs ++ ds)) : Cells I h b (off + cs.length) ds := by
  intro j v hj
  have := k (cs.length + j) v (by rw [List.getElem?_append_right (by omega)]; simpa using hj)
  simpa [Nat.add_assoc] using this

/-- A value of one cell. -/
def one : Value → Bool
  | .agg _ | .tuple _ => false
  | _ => true
def ones : List Value → Bool
  | [] => true
  | v :: l => one v && ones l
theorem ones_append : ∀ (l m : List Value), ones (l ++ m) = (ones l && ones m)
  | [], m => by simp [ones]
  | v :: l, m => by simp [ones, ones_append l m, Bool.and_assoc]

/-! ## Kinds of data -/
structure Kd (α : Type) where
  sz : Nat
  rp : (Nat → Prop) → Heap → List Value → α → Prop
  len : ∀ {I h cs x}, rp I h cs x → cs.length = sz
  one : ∀ {I h cs x}, rp I h cs x → ones cs = true
  mono : ∀ {I I' h h' cs x}, rp I h cs x → Tr I h I' h' → rp I' h' cs x

def kI (k : IntKind) : Kd Int := ⟨1, fun _ _ cs x => cs = [.int k x], fun h => by subst h; rfl, fun h => by subst h; rfl, fun h _ => h⟩
def kB : Kd Bool := ⟨1, fun _ _ cs x => cs = [.bool x], fun h => by subst h; rfl, fun h => by subst h; rfl, fun h _ => h⟩
def kStr : Kd (List UInt8) := ⟨1, fun _ _ cs x => cs = [.string ⟨x.toArray⟩], fun h => by subst h; rfl, fun h => by subst h; rfl, fun h _ => h⟩
def kU : Kd Unit := ⟨0, fun _ _ cs _ => cs = [], fun h => by subst h; rfl, fun h => by subst h; rfl, fun h _ => h⟩
def kP {α β : Type} (d : Kd α) (f : Kd β) : Kd (α × β) :=
  ⟨d.sz + f.sz, fun I h cs x => ∃ c1 c2, cs = c1 ++ c2 ∧ d.rp I h c1 x.1 ∧ f.rp I h c2 x.2,
   fun ⟨c1, c2, e, h1, h2⟩ => by subst e; simp [d.len h1, f.len h2],
   fun ⟨c1, c2, e, h1, h2⟩ => by subst e; simp [ones_append, d.one h1, f.one h2],
   fun ⟨c1, c2, e, h1, h2⟩ t => ⟨c1, c2, e, d.mono h1 t, f.mono h2 t⟩⟩
/-- By what it is made of. -/
def kM {α β : Type} (d : Kd α) (to : β → α) : Kd β := ⟨d.sz, fun I h cs x => d.rp I h cs (to x), fun h => d.len h, fun h => d.one h, fun h t => d.mono h t⟩

/-- Row by row. -/
def rows {α : Type} (d : Kd α) (I : Nat → Prop) (h : Heap) : List Value → List α → Prop
  | cs, [] => cs = []
  | cs, x :: xs => ∃ c1 c2, cs = c1 ++ c2 ∧ d.rp I h c1 x ∧ rows d I h c2 xs
theorem rows.len {α : Type} {d : Kd α} {I : Nat → Prop} {h : Heap} : ∀ {xs : List α} {cs : List Value}, rows d I h cs xs → cs.length = xs.length * d.sz
  | [], cs, e => by have e : cs = [] := e; subst e; simp
  | x :: xs, cs, ⟨c1, c2, e, h1, h2⟩ => by subst e; simp [d.len h1, rows.len h2, Nat.succ_mul, Nat.add_comm]
theorem rows.one {α : Type} {d : Kd α} {I : Nat → Prop} {h : Heap} : ∀ {xs : List α} {cs : List Value}, rows d I h cs xs → ones cs = true
  | [], cs, e => by have e : cs = [] := e; subst e; rfl
  | x :: xs, cs, ⟨c1, c2, e, h1, h2⟩ => by subst e; simp [ones_append, d.one h1, rows.one h2]
theorem rows.mono {α : Type} {d : Kd α} {I I' : Nat → Prop} {h h' : Heap} (t : Tr I h I' h') : ∀ {xs : List α} {cs : List Value}, rows d I h cs xs → rows d I' h' cs xs
  | [], cs, e => e
  | x :: xs, cs, ⟨c1, c2, e, h1, h2⟩ => ⟨c1, c2, e, d.mono h1 t, rows.mono t h2⟩
theorem rows.append {α : Type} {d : Kd α} {I : Nat → Prop} {h : Heap} {ys : List α} {ds : List Value} (h2 : rows d I h ds ys) : ∀ {xs : List α} {cs : List Value}, rows d I h cs xs → rows d I h (cs ++ ds) (xs ++ ys)
  | [], cs, e => by have e : cs = [] := e; subst e; simpa using h2
  | x :: xs, cs, ⟨c1, c2, e, h1, h3⟩ => by subst e; exact ⟨c1, c2 ++ ds, by simp, h1, rows.append h2 h3⟩
theorem rows.single {α : Type} {d : Kd α} {I : Nat → Prop} {h : Heap} {x : α} {cs : List Value} (h1 : d.rp I h cs x) : rows d I h cs [x] := ⟨cs, [], by simp, h1, rfl⟩
/-- The one at a place. -/
theorem rows.get {α : Type} [Inhabited α] {d : Kd α} {I : Nat → Prop} {h : Heap} : ∀ {xs : List α} {cs : List Value} (i : Nat), rows d I h cs xs → i < xs.length →
    ∃ pre mid post, cs = pre ++ (mid ++ post) ∧ pre.length = i * d.sz ∧ d.rp I h mid (xs.getD i default)
  | [], cs, i, _, hi => by simp at hi
  | x :: xs, cs, 0, ⟨c1, c2, e, h1, h2⟩, _ => ⟨[], c1, c2, by simpa using e, by simp, by simpa using h1⟩
  | x :: xs, cs, i + 1, ⟨c1, c2, e, h1, h2⟩, hi => by
    obtain ⟨pre, mid, post, e2, hp, hm⟩ := rows.get i h2 (by simpa using hi)
    refine ⟨c1 ++ pre, mid, post, by subst e; subst e2; simp, ?_, by simpa using hm⟩
    simp [d.len h1, hp, Nat.succ_mul, Nat.add_comm]
theorem rows.set {α : Type} {d : Kd α} {I : Nat → Prop} {h : Heap} {y : α} {new : List Value} (hy : d.rp I h new y) : ∀ {xs : List α} {pre mid post : List Value} (i : Nat), rows d I h (pre ++ (mid ++ post)) xs → i < xs.length →
    pre.length = i * d.sz → mid.length = d.sz → rows d I h (pre ++ (new ++ post)) (xs.set i y)
  | [], _, _, _, i, _, hi, _, _ => by simp at hi
  | x :: xs, pre, mid, post, 0, ⟨c1, c2, e, h1, h2⟩, _, hp, hm => by
    have : pre = [] := List.length_eq_zero_iff.1 (by simpa using hp)
    subst this
    simp only [List.nil_append] at e ⊢
    obtain ⟨rfl, rfl⟩ := List.append_inj e (by rw [hm, d.len h1])
    exact ⟨new, post, rfl, hy, h2⟩
  | x :: xs, pre, mid, post, i + 1, ⟨c1, c2, e, h1, h2⟩, hi, hp, hm => by
    have hl : c1.length ≤ pre.length := by rw [d.len h1, hp, Nat.succ_mul]; omega
    obtain ⟨p2, rfl⟩ : ∃ p2, pre = c1 ++ p2 := by
      refine ⟨pre.drop c1.length, ?_⟩
      have h3 := congrArg (List.take c1.length) e
      rw [List.take_append_of_le_length hl] at h3
      simp only [List.take_left'] at h3
      have := List.take_append_drop c1.length pre
      rw [h3] at this
      exact this.symm
    rw [List.append_assoc] at e
    have e := List.append_cancel_left e
    subst e
    have := rows.set hy i h2 (by simpa using hi) (by simp [d.len h1, Nat.succ_mul] at hp; omega) hm
    exact ⟨c1, p2 ++ (new ++ post), by simp, h1, this⟩

def kArr {α : Type} (m : Nat) (d : Kd α) : Kd (List α) :=
  ⟨m * d.sz, fun I h cs xs => rows d I h cs xs ∧ xs.length = m, fun ⟨r, e⟩ => by rw [r.len, e], fun ⟨r, _⟩ => r.one, fun ⟨r, e⟩ t => ⟨r.mono t, e⟩⟩

/-- A slice that is read. -/
def SlR {α : Type} (d : Kd α) (I : Nat → Prop) (h : Heap) (v : Value) (xs : List α) : Prop :=
  (∃ a, v = .slice a 0 0 ∧ xs = []) ∨ ∃ b off cap cs, v = .slice (some ⟨b, off, none⟩) xs.length cap ∧ xs.length ≤ cap ∧ cap ≤ 9223372036854775807 ∧ rows d I h cs xs ∧ Cells I h b off cs
def kSl {α : Type} (d : Kd α) : Kd (List α) :=
  ⟨1, fun I h cs xs => ∃ v, cs = [v] ∧ SlR d I h v xs, fun ⟨v, e, _⟩ => by subst e; rfl,
   fun ⟨v, e, r⟩ => by subst e; rcases r with ⟨a, rfl, _⟩ | ⟨b, off, cap, cs, rfl, _⟩ <;> rfl,
   fun ⟨v, e, r⟩ t => ⟨v, e, r.imp id fun ⟨b, off, cap, cs, e, h1, h2, h3, h4⟩ => ⟨b, off, cap, cs, e, h1, h2, h3.mono t, h4.mono t⟩⟩⟩
theorem SlR.mono {α : Type} {d : Kd α} {I I' : Nat → Prop} {h h' : Heap} {v : Value} {xs : List α} (r : SlR d I h v xs) (t : Tr I h I' h') : SlR d I' h' v xs :=
  r.imp id fun ⟨b, off, cap, cs, e, h1, h2, h3, h4⟩ => ⟨b, off, cap, cs, e, h1, h2, h3.mono t, h4.mono t⟩
theorem SlR.nil {α : Type} {d : Kd α} {I : Nat → Prop} {h : Heap} : SlR d I h (.slice none 0 0) [] := .inl ⟨none, rfl, rfl⟩
theorem SlR.le {α : Type} {d : Kd α} {I : Nat → Prop} {h : Heap} {v : Value} {xs : List α} (r : SlR d I h v xs) : xs.length ≤ 9223372036854775807 := by
  rcases r with ⟨_, _, rfl⟩ | ⟨b, off, cap, cs, _, h1, h2, _⟩
  · simp
  · omega
/-- What is read at a place. -/
def rd {α : Type} [Inhabited α] (xs : List α) (i : Int) : α := xs.getD i.toNat default
/-- What it is, if it has anything. -/
theorem SlR.get {α : Type} [Inhabited α] {d : Kd α} {I : Nat → Prop} {h : Heap} {v : Value} {xs : List α} (r : SlR d I h v xs) {i : Int} (h0 : 0 ≤ i) (hi : i < xs.length) :
    ∃ b off cap mid, v = .slice (some ⟨b, off, none⟩) xs.length cap ∧ d.rp I h mid (rd xs i) ∧ Cells I h b (off + i.toNat * d.sz) mid := by
  rcases r with ⟨_, _, rfl⟩ | ⟨b, off, cap, cs, e, h1, h2, h3, h4⟩
  · simp at hi; omega
  · obtain ⟨pre, mid, post, rfl, hp, hm⟩ := h3.get i.toNat (by omega)
    refine ⟨b, off, cap, mid, e, hm, ?_⟩
    have := h4.right.left
    rwa [hp] at this

/-! ## What changes -/
/-- All that was there is as it was, but for X. -/
def Stp (X : List (Option Nat)) (h h' : Heap) : Prop := h.size ≤ h'.size ∧ ∀ b, b < h.size → some b ∉ X → h'[b]? = h[b]?
theorem Stp.refl (h : Heap) : Stp [] h h := ⟨Nat.le_refl _, fun _ _ _ => rfl⟩
theorem Stp.trans {X Y : List (Option Nat)} {h h' h'' : Heap} (a : Stp X h h') (b : Stp Y h' h'') : Stp (X ++ Y) h h'' :=
  ⟨Nat.le_trans a.1 b.1, fun x hx hn => by
    rw [List.mem_append, not_or] at hn
    exact (b.2 x (Nat.lt_of_lt_of_le hx a.1) hn.2).trans (a.2 x hx hn.1)⟩
theorem Stp.nil {h h' h'' : Heap} (a : Stp [] h h') (b : Stp [] h' h'') : Stp [] h h'' := a.trans b

/-- I and all that is new. -/
def Ex (I : Nat → Prop) (h h' : Heap) : Nat → Prop := fun b => I b ∨ (h.size ≤ b ∧ b < h'.size)
/-- I, and all that is new but o. -/
def ExB (I : Nat → Prop) (h h' : Heap) (o : Option Nat) : Nat → Prop := fun b => I b ∨ (h.size ≤ b ∧ b < h'.size ∧ some b ≠ o)

/-- Where a function stands: what it may read (I), what it may write (M); what came in to be written (X0). -/
structure St (X0 : List (Option Nat)) (h0 : Heap) (I0 : Nat → Prop) (h : Heap) (I : Nat → Prop) (M : List (Option Nat)) : Prop where
  ib : ∀ b, I b → b < h.size
  sub : ∀ b, I0 b → I b
  low : ∀ b, b < h0.size → I b → I0 b ∨ some b ∈ X0
  mb : ∀ m, some m ∈ M → m < h.size
  mg : ∀ m, some m ∈ M → h0.size ≤ m ∨ some m ∈ X0
  dis : ∀ m, some m ∈ M → ¬ I m
  nd : ∀ (i j : Nat) (m : Nat), M[i]? = some (some m) → M[j]? = some (some m) → i = j
  stp : Stp X0 h0 h
end Go.Mw
