/- Proved here: what may be read and what may be written at a place of a function; no condition. -/
import Derived.Test.YtbpeidblbebjpaaGreatWb
import Derived.Room.AppendOwn
import Derived.Room.AppendAny
import Derived.Laws.Entries
namespace Go.Mw
set_option linter.unusedVariables false
set_option linter.unusedSimpArgs false
open Go

theorem one_eq (v : Value) : one v = v.oneCell' := by cases v <;> rfl
theorem ones_mem : ∀ {l : List Value}, ones l = true → ∀ v ∈ l, one v = true
  | [], _, v, hv => by cases hv
  | u :: l, h, v, hv => by
    simp only [ones, Bool.and_eq_true] at h
    rcases List.mem_cons.1 hv with rfl | hv
    · exact h.1
    · exact ones_mem h.2 v hv

/-! ## Steps of the state -/
section
variable {h0 h h' : Heap} {I0 I I' : Nat → Prop} {M : List (Option Nat)} {X X0 : List (Option Nat)}

theorem St.step (s : St X0 h0 I0 h I M) (p : Stp X h h') (hx : ∀ x ∈ X, x ∈ M) : St X0 h0 I0 h' I M :=
  ⟨fun b hb => Nat.lt_of_lt_of_le (s.ib b hb) p.1, s.sub, s.low, fun m hm => Nat.lt_of_lt_of_le (s.mb m hm) p.1, s.mg, s.dis, s.nd,
   ⟨Nat.le_trans s.stp.1 p.1, fun b hb hn => (p.2 b (Nat.lt_of_lt_of_le hb s.stp.1) (fun hm => (s.mg b (hx _ hm)).elim (fun h => Nat.not_lt_of_le h hb) hn)).trans (s.stp.2 b hb hn)⟩⟩
/-- What was known of what is read stays. -/
theorem St.tr (s : St X0 h0 I0 h I M) (p : Stp X h h') (hx : ∀ x ∈ X, x ∈ M) (hi : ∀ b, I b → I' b) : Tr I h I' h' :=
  fun b hb => ⟨hi b hb, p.2 b (s.ib b hb) (fun hm => s.dis b (hx _ hm) hb)⟩
/-- A new block of one's own. -/
theorem St.new (s : St X0 h0 I0 h I M) (o : Obj) : St X0 h0 I0 (h.push o) I (some h.size :: M) := by
  refine ⟨fun b hb => ?_, s.sub, s.low, fun m hm => ?_, fun m hm => ?_, fun m hm hi => ?_, fun i j m hi hj => ?_, ?_⟩
  · rw [Array.size_push]; exact Nat.lt_succ_of_lt (s.ib b hb)
  · rw [Array.size_push]
    rcases List.mem_cons.1 hm with e | hm
    · cases e; exact Nat.lt_succ_self _
    · exact Nat.lt_succ_of_lt (s.mb m hm)
  · rcases List.mem_cons.1 hm with e | hm
    · cases e; exact .inl s.stp.1
    · exact s.mg m hm
  · rcases List.mem_cons.1 hm with e | hm
    · cases e; exact Nat.lt_irrefl _ (s.ib _ hi)
    · exact s.dis m hm hi
  · cases i with
    | zero =>
      cases j with
      | zero => rfl
      | succ j =>
        simp only [List.getElem?_cons_zero, Option.some.injEq] at hi
        simp only [List.getElem?_cons_succ] at hj
        subst hi
        exact absurd (s.mb _ (List.mem_of_getElem? hj)) (Nat.lt_irrefl _)
    | succ i =>
      simp only [List.getElem?_cons_succ] at hi
      cases j with
      | zero =>
        simp only [List.getElem?_cons_zero, Option.some.injEq] at hj
        subst hj
        exact absurd (s.mb _ (List.mem_of_getElem? hi)) (Nat.lt_irrefl _)
      | succ j =>
        simp only [List.getElem?_cons_succ] at hj
        rw [s.nd i j m hi hj]
  · refine ⟨by rw [Array.size_push]; exact Nat.le_succ_of_le s.stp.1, fun b hb hn => ?_⟩
    rw [Array.getElem?_push_lt (Nat.lt_of_lt_of_le hb s.stp.1)]
    have := s.stp.2 b hb hn
    rw [Array.getElem?_eq_getElem (Nat.lt_of_lt_of_le hb s.stp.1)] at this
    exact this
theorem Stp.push (h : Heap) (o : Obj) : Stp [] h (h.push o) :=
  ⟨by rw [Array.size_push]; exact Nat.le_succ _, fun b hb _ => by rw [Array.getElem?_push_lt hb, Array.getElem?_eq_getElem hb]⟩
theorem Box.new (h : Heap) (T : TypeId) (cs : List Value) : Box (h.push (.cells cs.toArray T (0, 0))) h.size T cs := by
  simp [Box]
theorem Box.stp {b : Nat} {T : TypeId} {cs : List Value} (k : Box h b T cs) (p : Stp X h h') (hn : some b ∉ X) : Box h' b T cs := by
  have hb : b < h.size := by
    rcases Nat.lt_or_ge b h.size with hlt | hge
    · exact hlt
    · unfold Box at k; rw [Array.getElem?_eq_none hge] at k; cases k
  exact (p.2 b hb hn).trans k
theorem Box.lt {b : Nat} {T : TypeId} {cs : List Value} (k : Box h b T cs) : b < h.size := by
  rcases Nat.lt_or_ge b h.size with hlt | hge
  · exact hlt
  · unfold Box at k; rw [Array.getElem?_eq_none hge] at k; cases k
/-- Two places of M: two blocks. -/
theorem St.ne (s : St X0 h0 I0 h I M) (i j : Nat) {a b : Nat} (hi : M[i]? = some (some a)) (hj : M[j]? = some (some b)) (hij : Nat.beq i j = false) : a ≠ b := fun e => by
  subst e
  have := s.nd i j a hi hj
  subst this
  simp at hij
theorem St.neO (s : St X0 h0 I0 h I M) (i j : Nat) {a : Nat} {o : Option Nat} (hi : M[i]? = some (some a)) (hj : M[j]? = some o) (hij : Nat.beq i j = false) : some a ≠ o := fun e => by
  subst e
  exact s.ne i j hi hj hij rfl
/-- Behind a call that makes what is new alone. -/
theorem St.call (s : St X0 h0 I0 h I M) (p : Stp [] h h') : St X0 h0 I0 h' (Ex I h h') M := by
  have s' := s.step p (by simp)
  refine ⟨fun b hb => ?_, fun b hb => .inl (s.sub b hb), fun b hb hi => ?_, s'.mb, s.mg, fun m hm hi => ?_, s.nd, s'.stp⟩
  · rcases hb with hb | hb
    · exact s'.ib b hb
    · exact hb.2
  · rcases hi with hi | hi
    · exact s.low b hb hi
    · exact absurd (Nat.lt_of_lt_of_le hb s.stp.1) (Nat.not_lt_of_le hi.1)
  · rcases hi with hi | hi
    · exact s.dis m hm hi
    · exact absurd (s.mb m hm) (Nat.not_lt_of_le hi.1)
theorem Ex.of {b : Nat} (hb : I b) : Ex I h h' b := .inl hb
theorem ExB.of {o : Option Nat} {b : Nat} (hb : I b) : ExB I h h' o b := .inl hb
/-- A block that is new, or none. -/
def New (h h' : Heap) (o : Option Nat) : Prop := ∀ b, o = some b → h.size ≤ b ∧ b < h'.size
/-- Behind a call that hands back a row of one's own. -/
theorem St.callB (s : St X0 h0 I0 h I M) (p : Stp [] h h') {o : Option Nat} (hn : New h h' o) : St X0 h0 I0 h' (ExB I h h' o) (o :: M) := by
  have s' := s.step p (by simp)
  refine ⟨fun b hb => ?_, fun b hb => .inl (s.sub b hb), fun b hb hi => ?_, fun m hm => ?_, fun m hm => ?_, fun m hm hi => ?_, fun i j m hi hj => ?_, s'.stp⟩
  · rcases hb with hb | hb
    · exact s'.ib b hb
    · exact hb.2.1
  · rcases hi with hi | hi
    · exact s.low b hb hi
    · exact absurd (Nat.lt_of_lt_of_le hb s.stp.1) (Nat.not_lt_of_le hi.1)
  · rcases List.mem_cons.1 hm with e | hm
    · exact (hn m e.symm).2
    · exact s'.mb m hm
  · rcases List.mem_cons.1 hm with e | hm
    · exact .inl (Nat.le_trans s.stp.1 (hn m e.symm).1)
    · exact s.mg m hm
  · rcases List.mem_cons.1 hm with e | hm
    · rcases hi with hi | hi
      · exact absurd (s.ib m hi) (Nat.not_lt_of_le (hn m e.symm).1)
      · exact hi.2.2 e
    · rcases hi with hi | hi
      · exact s.dis m hm hi
      · exact absurd (s.mb m hm) (Nat.not_lt_of_le hi.1)
  · cases i with
    | zero =>
      cases j with
      | zero => rfl
      | succ j =>
        simp only [List.getElem?_cons_zero, Option.some.injEq] at hi
        simp only [List.getElem?_cons_succ] at hj
        exact absurd (s.mb _ (List.mem_of_getElem? hj)) (Nat.not_lt_of_le (hn m hi).1)
    | succ i =>
      simp only [List.getElem?_cons_succ] at hi
      cases j with
      | zero =>
        simp only [List.getElem?_cons_zero, Option.some.injEq] at hj
        exact absurd (s.mb _ (List.mem_of_getElem? hi)) (Nat.not_lt_of_le (hn m hj).1)
      | succ j =>
        simp only [List.getElem?_cons_succ] at hj
        rw [s.nd i j m hi hj]
/-- A block of one's own is read from here on, and written no more. -/
theorem St.claim (s : St X0 h0 I0 h I M) (i : Nat) {o : Option Nat} (hi : M[i]? = some o) : St X0 h0 I0 h (fun b => I b ∨ some b = o) (M.eraseIdx i) := by
  have hmem : ∀ m, some m ∈ M.eraseIdx i → some m ∈ M := fun m hm => (List.eraseIdx_sublist M i).subset hm
  refine ⟨fun b hb => ?_, fun b hb => .inl (s.sub b hb), fun b hb hI => ?_, fun m hm => s.mb m (hmem m hm), fun m hm => s.mg m (hmem m hm), fun m hm hI => ?_, fun a b m ha hb => ?_, s.stp⟩
  · rcases hb with hb | hb
    · exact s.ib b hb
    · exact s.mb b (by rw [hb]; exact List.mem_of_getElem? hi)
  · rcases hI with hI | hI
    · exact s.low b hb hI
    · exact (s.mg b (by rw [hI]; exact List.mem_of_getElem? hi)).elim (fun h => absurd hb (Nat.not_lt_of_le h)) .inr
  · rcases hI with hI | hI
    · exact s.dis m (hmem m hm) hI
    · obtain ⟨a, ha⟩ := List.getElem?_of_mem hm
      rw [List.getElem?_eraseIdx] at ha
      split at ha
      · have := s.nd a i m ha (by rw [hi, hI]); omega
      · have := s.nd (a + 1) i m ha (by rw [hi, hI]); omega
  · rw [List.getElem?_eraseIdx] at ha hb
    split at ha <;> split at hb
    · exact s.nd a b m ha hb
    · have := s.nd a (b + 1) m ha hb; omega
    · have := s.nd (a + 1) b m ha hb; omega
    · have := s.nd (a + 1) (b + 1) m ha hb; omega
/-- A row of one's own has grown. -/
theorem St.grow (s : St X0 h0 I0 h I M) (i : Nat) {o o' : Option Nat} (hi : M[i]? = some o) (p : Stp [o] h h') (hn : o' = o ∨ New h h' o') : St X0 h0 I0 h' I (M.set i o') := by
  have s' := s.step p (by intro x hx; rw [List.mem_singleton.1 hx]; exact List.mem_of_getElem? hi)
  rcases hn with rfl | hn
  · have : M.set i o' = M := by
      apply List.ext_getElem?; intro j
      rw [List.getElem?_set]
      split
      · rename_i e; subst e; split
        · exact hi.symm
        · rename_i hlt; rw [List.getElem?_eq_none (by omega)]
      · rfl
    rw [this]; exact s'
  · have hcase : ∀ m, some m ∈ M.set i o' → some m = o' ∨ some m ∈ M := fun m hm => by
      rcases List.mem_or_eq_of_mem_set hm with h1 | h1
      · exact .inr h1
      · exact .inl h1
    refine ⟨s'.ib, s.sub, s.low, fun m hm => ?_, fun m hm => ?_, fun m hm hI => ?_, fun a b m ha hb => ?_, s'.stp⟩
    · rcases hcase m hm with e | hm
      · exact (hn m e.symm).2
      · exact s'.mb m hm
    · rcases hcase m hm with e | hm
      · exact .inl (Nat.le_trans s.stp.1 (hn m e.symm).1)
      · exact s.mg m hm
    · rcases hcase m hm with e | hm
      · exact absurd (s.ib m hI) (Nat.not_lt_of_le (hn m e.symm).1)
      · exact s.dis m hm hI
    · rw [List.getElem?_set] at ha hb
      split at ha <;> split at hb
      · omega
      · split at ha
        · simp only [Option.some.injEq] at ha
          exact absurd (s.mb m (List.mem_of_getElem? hb)) (Nat.not_lt_of_le (hn m ha).1)
        · cases ha
      · split at hb
        · simp only [Option.some.injEq] at hb
          exact absurd (s.mb m (List.mem_of_getElem? ha)) (Nat.not_lt_of_le (hn m hb).1)
        · cases hb
      · exact s.nd a b m ha hb
/-- What is no more needed. -/
theorem St.drop (s : St X0 h0 I0 h I M) (i : Nat) : St X0 h0 I0 h I (M.eraseIdx i) := by
  cases hi : M[i]? with
  | none => rw [List.eraseIdx_of_length_le (by simpa using hi)]; exact s
  | some o =>
    have k := s.claim i hi
    exact ⟨s.ib, s.sub, s.low, k.mb, k.mg, fun m hm hI => k.dis m hm (.inl hI), k.nd, s.stp⟩
/-- At the start. -/
theorem St.start (hI : ∀ b, I b → b < h.size) : St [] h I h I [] :=
  ⟨hI, fun _ hb => hb, fun _ _ hb => .inl hb, fun _ hm => (by cases hm), fun _ hm => (by cases hm), fun _ hm => (by cases hm), fun _ _ _ hi => (by cases hi), Stp.refl h⟩
theorem St.callTr (s : St X0 h0 I0 h I M) (p : Stp [] h h') : Tr I h (Ex I h h') h' := s.tr p (by simp) fun _ => .inl
theorem St.callBTr (s : St X0 h0 I0 h I M) (p : Stp [] h h') (o : Option Nat) : Tr I h (ExB I h h' o) h' := s.tr p (by simp) fun _ => .inl
/-- At the end: all that may be read is what came in, or new. -/
theorem St.out (s : St [] h0 I0 h I M) : ∀ b, I b → Ex I0 h0 h b := fun b hb => by
  rcases Nat.lt_or_ge b h0.size with hlt | hge
  · exact .inl ((s.low b hlt hb).resolve_right (by simp))
  · exact .inr ⟨hge, s.ib b hb⟩
theorem St.outTr (s : St [] h0 I0 h I M) : Tr I h (Ex I0 h0 h) h := fun b hb => ⟨s.out b hb, rfl⟩
theorem St.lt {M L R : List (Option Nat)} {h0 h : Heap} {I0 I : Nat → Prop} {X0 : List (Option Nat)} (s : St X0 h0 I0 h I M) {m : Nat} (hm : some m ∈ M) : m < h.size := s.mb m hm
/-- Some of M, in another order. -/
theorem St.pick {M' : List (Option Nat)} (s : St X0 h0 I0 h I M) (ix : List Nat) (hl : M'.length = ix.length) (hd : (∀ i, i < ix.length → ∀ j, j < ix.length → ix.getD i 0 = ix.getD j 0 → i = j))
    (hf : ∀ i m, M'[i]? = some (some m) → M[ix.getD i 0]? = some (some m)) : St X0 h0 I0 h I M' := by
  have hm : ∀ m, some m ∈ M' → some m ∈ M := fun m hm => by
    obtain ⟨i, hi⟩ := List.getElem?_of_mem hm
    exact List.mem_of_getElem? (hf i m hi)
  refine ⟨s.ib, s.sub, s.low, fun m h => s.mb m (hm m h), fun m h => s.mg m (hm m h), fun m h => s.dis m (hm m h), fun i j m hi hj => ?_, s.stp⟩
  have h1 := (List.getElem?_eq_some_iff.1 hi).1
  have h2 := (List.getElem?_eq_some_iff.1 hj).1
  exact hd i (by omega) j (by omega) (s.nd _ _ m (hf i m hi) (hf j m hj))
/-- What is lent to a callee. -/
theorem St.lend {L : List (Option Nat)} (s : St X0 h0 I0 h I L) : St L h I h I L :=
  ⟨s.ib, fun _ hb => hb, fun _ _ hb => .inl hb, s.mb, fun _ hm => .inr hm, s.dis, s.nd, ⟨Nat.le_refl _, fun _ _ _ => rfl⟩⟩
theorem St.left {L R : List (Option Nat)} (s : St X0 h0 I0 h I (L ++ R)) : St X0 h0 I0 h I L :=
  ⟨s.ib, s.sub, s.low, fun m hm => s.mb m (List.mem_append_left _ hm), fun m hm => s.mg m (List.mem_append_left _ hm), fun m hm => s.dis m (List.mem_append_left _ hm),
   fun i j m hi hj => s.nd i j m (by rw [List.getElem?_append_left (List.getElem?_eq_some_iff.1 hi).1]; exact hi) (by rw [List.getElem?_append_left (List.getElem?_eq_some_iff.1 hj).1]; exact hj), s.stp⟩
theorem St.apart {L R : List (Option Nat)} (s : St X0 h0 I0 h I (L ++ R)) {m : Nat} (hl : some m ∈ L) (hr : some m ∈ R) : False := by
  obtain ⟨i, hi⟩ := List.getElem?_of_mem hl
  obtain ⟨j, hj⟩ := List.getElem?_of_mem hr
  have h1 := (List.getElem?_eq_some_iff.1 hi).1
  have := s.nd i (L.length + j) m (by rw [List.getElem?_append_left h1]; exact hi) (by rw [List.getElem?_append_right (by omega)]; simpa using hj)
  omega
/-- Behind a call to which L was lent. -/
theorem St.callS {L R L' : List (Option Nat)} (s : St X0 h0 I0 h I (L ++ R)) (k : St L h I h' I' L') : St X0 h0 I0 h' I' (L' ++ R) := by
  have old : ∀ m, some m ∈ L' → m < h.size → some m ∈ L := fun m hm hlt => (k.mg m hm).resolve_left (by omega)
  refine ⟨k.ib, fun b hb => k.sub b (s.sub b hb), fun b hb hi => ?_, fun m hm => ?_, fun m hm => ?_, fun m hm hi => ?_, fun i j m hi hj => ?_, ?_⟩
  · rcases k.low b (Nat.lt_of_lt_of_le hb s.stp.1) hi with hi | hi
    · exact s.low b hb hi
    · exact (s.mg b (List.mem_append_left _ hi)).elim (fun h => absurd hb (Nat.not_lt_of_le h)) .inr
  · rcases List.mem_append.1 hm with hm | hm
    · exact k.mb m hm
    · exact Nat.lt_of_lt_of_le (s.mb m (List.mem_append_right _ hm)) k.stp.1
  · rcases List.mem_append.1 hm with hm | hm
    · rcases k.mg m hm with h | h
      · exact .inl (Nat.le_trans s.stp.1 h)
      · exact s.mg m (List.mem_append_left _ h)
    · exact s.mg m (List.mem_append_right _ hm)
  · rcases List.mem_append.1 hm with hm | hm
    · exact k.dis m hm hi
    · rcases k.low m (s.mb m (List.mem_append_right _ hm)) hi with hi | hi
      · exact s.dis m (List.mem_append_right _ hm) hi
      · exact s.apart hi hm
  · have mix : ∀ {i j : Nat}, i < L'.length → L'.length ≤ j → (L' ++ R)[i]? = some (some m) → (L' ++ R)[j]? = some (some m) → False := fun {i j} hi1 hj1 h1 h2 => by
      rw [List.getElem?_append_left hi1] at h1
      rw [List.getElem?_append_right hj1] at h2
      have hr := List.mem_of_getElem? h2
      exact s.apart (old m (List.mem_of_getElem? h1) (s.mb m (List.mem_append_right _ hr))) hr
    rcases Nat.lt_or_ge i L'.length with hi1 | hi1 <;> rcases Nat.lt_or_ge j L'.length with hj1 | hj1
    · rw [List.getElem?_append_left hi1] at hi; rw [List.getElem?_append_left hj1] at hj; exact k.nd i j m hi hj
    · exact (mix hi1 hj1 hi hj).elim
    · exact (mix hj1 hi1 hj hi).elim
    · rw [List.getElem?_append_right hi1] at hi; rw [List.getElem?_append_right hj1] at hj
      have h1 := (List.getElem?_eq_some_iff.1 hi).1
      have := s.nd (L.length + (i - L'.length)) (L.length + (j - L'.length)) m (by rw [List.getElem?_append_right (by omega)]; simpa using hi) (by rw [List.getElem?_append_right (by omega)]; simpa using hj)
      omega
  · refine ⟨Nat.le_trans s.stp.1 k.stp.1, fun b hb hn => ?_⟩
    refine (k.stp.2 b (Nat.lt_of_lt_of_le hb s.stp.1) fun hm => ?_).trans (s.stp.2 b hb hn)
    exact (s.mg b (List.mem_append_left _ hm)).elim (fun h => absurd hb (Nat.not_lt_of_le h)) hn
theorem St.callSTr {L R L' : List (Option Nat)} (s : St X0 h0 I0 h I (L ++ R)) (k : St L h I h' I' L') : Tr I h I' h' :=
  fun b hb => ⟨k.sub b hb, k.stp.2 b (s.ib b hb) fun hm => s.dis b (List.mem_append_left _ hm) hb⟩
/-- A place of M is none of these other ones. -/
theorem St.sep {o : Option Nat} (s : St X0 h0 I0 h I M) (i : Nat) (js : List Nat) (hi : M[i]? = some o) (hX : X = js.map (fun j => M.getD j none)) (hn : js.contains i = false) : ∀ b, o = some b → some b ∉ X := fun b e hm => by
  subst e; subst hX
  obtain ⟨j, hj, e⟩ := List.mem_map.1 hm
  have : M[j]? = some (some b) := by
    rw [List.getD_eq_getElem?_getD] at e
    cases hx : M[j]? with
    | none => rw [hx] at e; cases e
    | some y => rw [hx] at e; simp only [Option.getD_some] at e; rw [e]
  have := s.nd i j b hi this
  subst this
  have : js.contains i = true := by simpa using hj
  rw [hn] at this; cases this
end

/-! ## Rows of one's own -/
def Own {α : Type} (d : Kd α) (T : Nat) (h : Heap) (I : Nat → Prop) (v : Value) (xs : List α) : Prop :=
  ∃ cs, rows d I h cs xs ∧ ((v = .slice none 0 0 ∧ xs = []) ∨
    ∃ g cap cur, v = .slice (some ⟨g, 0, none⟩) xs.length cap ∧ h[g]? = some (.cells cur T (0, 0)) ∧ xs.length ≤ cap ∧ cap ≤ 9223372036854775807 ∧ cur.size = cap * d.sz ∧ cur.toList.take (xs.length * d.sz) = cs)
theorem Own.nil {α : Type} {d : Kd α} {T : Nat} {h : Heap} {I : Nat → Prop} : Own d T h I (.slice none 0 0) [] := ⟨[], rfl, .inl ⟨rfl, rfl⟩⟩
theorem Own.mono {α : Type} {d : Kd α} {T : Nat} {h h' : Heap} {I I' : Nat → Prop} {v : Value} {xs : List α} (k : Own d T h I v xs) (t : Tr I h I' h')
    (hb : ∀ b, v.ownBlock = some b → h'[b]? = h[b]?) : Own d T h' I' v xs := by
  obtain ⟨cs, hr, k⟩ := k
  refine ⟨cs, hr.mono t, k.imp id ?_⟩
  rintro ⟨g, cap, cur, rfl, h1, h2, h3, h4, h5⟩
  exact ⟨g, cap, cur, rfl, (hb g rfl).trans h1, h2, h3, h4, h5⟩
/-- Across a step that does not turn it. -/
theorem Own.stp {α : Type} {d : Kd α} {T : Nat} {h h' : Heap} {I I' : Nat → Prop} {v : Value} {xs : List α} {X : List (Option Nat)} (k : Own d T h I v xs) (t : Tr I h I' h') (p : Stp X h h')
    (hn : ∀ b, v.ownBlock = some b → some b ∉ X) : Own d T h' I' v xs := by
  refine k.mono t fun b e => ?_
  obtain ⟨cs, hr, ⟨rfl, _⟩ | ⟨g, cap, cur, rfl, h1, _⟩⟩ := k
  · cases e
  · cases e
    refine p.2 g ?_ (hn g rfl)
    rcases Nat.lt_or_ge g h.size with hlt | hge
    · exact hlt
    · rw [Array.getElem?_eq_none hge] at h1; cases h1
theorem Cells.of_take {I : Nat → Prop} {h : Heap} {g : Nat} {cur : Array Value} {T : TypeId} {fr : Nat × Nat} {k : Nat} (hb : I g) (hg : h[g]? = some (.cells cur T fr)) : Cells I h g 0 (cur.toList.take k) := by
  intro j v hj
  refine ⟨hb, cur, T, fr, hg, ?_⟩
  rw [List.getElem?_take] at hj
  split at hj
  · simpa using hj
  · cases hj
/-- A row of one's own, read. -/
theorem Own.read {α : Type} {d : Kd α} {T : Nat} {h : Heap} {I I' : Nat → Prop} {v : Value} {xs : List α} (k : Own d T h I v xs) (hi : ∀ b, I b → I' b) (ho : ∀ b, v.ownBlock = some b → I' b) : SlR d I' h v xs := by
  obtain ⟨cs, hr, ⟨rfl, rfl⟩ | ⟨g, cap, cur, rfl, h1, h2, h3, h4, h5⟩⟩ := k
  · exact .inl ⟨none, rfl, rfl⟩
  · refine .inr ⟨g, 0, cap, cs, rfl, h2, h3, hr.mono (fun b hb => ⟨hi b hb, rfl⟩), ?_⟩
    subst h5; exact Cells.of_take (ho g rfl) h1
end Go.Mw
