/- Proved here: what the law OutboxMarks computes is true at each input; no condition. -/
import Derived.Test.YtbpeidblbebjpaaGreatGOutboxMarks3
namespace Go.Mw
set_option linter.unusedVariables false
set_option linter.unusedSimpArgs false
open Go
theorem w64 {n : Int} (h0 : -9223372036854775808 ≤ n) (h1 : n < 9223372036854775808) : IntKind.i64.wrap n = n := by
  have e1 : (2 : Int) ^ IntKind.i64.bits = 18446744073709551616 := by decide
  have e2 : (2 : Int) ^ (IntKind.i64.bits - 1) = 9223372036854775808 := by decide
  unfold IntKind.wrap
  simp only [e1, e2]
  have e3 : IntKind.i64.signed = true := rfl
  simp only [e3, Bool.true_and, decide_eq_true_eq]
  split <;> rename_i h <;> omega
/-- The message of a number. -/
def msgOf (s : Int) : proto_Msg := ⟨4, 1, 2, s, 0, List.replicate 32 0, [], [], []⟩
def goes (s : Int) : Bool := match p_proto_Write 200 (msgOf s) with
  | some (b, e) => (e == 0) && (match p_proto_Read 200 b with
    | some (m, f) => decide (m = msgOf s) && (f == 0)
    | none => false)
  | none => false
theorem alive_ok : p_maundlaw29_alive 200 = some true := by decide +kernel
theorem goes_all : (List.range 61).all (fun s => goes (1 + (s : Int))) = true := by decide +kernel
theorem send_ok {s : Nat} (hs : s < 61) {b : outbox_Box} {m : Int} (hm : b.made = true) (hl : b.out.length < 500) :
    p_outbox_Box_Send 200 b (msgOf (1 + (s : Int))) m = some (if m < 0 then (1, b) else (0, ⟨true, b.out ++ [⟨msgOf (1 + (s : Int)), m⟩], b.answers, b.lost⟩)) := by
  have g := List.all_eq_true.1 goes_all s (List.mem_range.2 hs)
  unfold goes at g
  obtain ⟨made, out, ans, lost⟩ := b
  simp only at hm hl
  subst hm
  cases hw : p_proto_Write 200 (msgOf (1 + (s : Int))) with
  | none => rw [hw] at g; cases g
  | some x =>
    obtain ⟨bs, e⟩ := x
    rw [hw] at g
    simp only [Bool.and_eq_true, beq_iff_eq] at g
    obtain ⟨rfl, g⟩ := g
    cases hr : p_proto_Read 200 bs with
    | none => rw [hr] at g; cases g
    | some y =>
      obtain ⟨ms, f⟩ := y
      rw [hr] at g
      simp only [Bool.and_eq_true, beq_iff_eq, decide_eq_true_eq] at g
      obtain ⟨rfl, rfl⟩ := g
      unfold p_outbox_Box_Send p_outbox_Box_ask
      by_cases h : m < 0
      · simp [hw, h]
      · simp [hw, h, hr]
        omega
/-- Two parts of a list of held ones. -/
theorem split_ok (l : List outbox_held_proto_Msg_) (sure : Int) (hl : l.length ≤ 60) : p_outbox_split_proto_Msg 200 l sure = some ((l.filter (fun h => decide (h.mark ≤ sure))).map (·.x), l.filter (fun h => !decide (h.mark ≤ sure))) := by
  have key : ∀ (d : Nat) (k : Nat) (i : Nat) (gone : List proto_Msg) (wait : List outbox_held_proto_Msg_), l.length - i = d → i ≤ l.length → d < k → gone.length ≤ i → wait.length ≤ i →
      p_outbox_split_proto_Msg_l0 200 l sure k gone wait (i : Int) = some (gone ++ ((l.drop i).filter (fun h => decide (h.mark ≤ sure))).map (·.x), wait ++ (l.drop i).filter (fun h => !decide (h.mark ≤ sure)), (l.length : Int)) := by
    intro d
    induction d with
    | zero =>
      intro k i gone wait hd hi hk hg hw
      obtain ⟨k, rfl⟩ : ∃ j, k = j + 1 := ⟨k - 1, by omega⟩
      have : i = l.length := by omega
      subst this
      rw [p_outbox_split_proto_Msg_l0]
      simp
    | succ d ih =>
      intro k i gone wait hd hi hk hg hw
      obtain ⟨k, rfl⟩ : ∃ j, k = j + 1 := ⟨k - 1, by omega⟩
      have hlt : i < l.length := by omega
      rw [p_outbox_split_proto_Msg_l0, if_pos (by omega), if_pos ⟨by omega, by omega⟩]
      have hr : rd l (i : Int) = l[i] := by simp [rd, hlt]
      rw [w64 (by omega) (by omega), hr, List.drop_eq_getElem_cons hlt]
      by_cases h : l[i].mark ≤ sure
      · rw [if_pos h, if_pos (by simp; omega), show ((i : Int) + 1) = ((i + 1 : Nat) : Int) by omega, ih k (i + 1) _ _ (by omega) (by omega) (by omega) (by simp; omega) (by omega)]
        simp only [List.filter_cons, h, decide_true, if_true, Bool.not_true, Bool.false_eq_true, if_false, List.map_cons, List.append_assoc, List.cons_append, List.nil_append]
      · rw [if_neg h, if_pos (by simp; omega), show ((i : Int) + 1) = ((i + 1 : Nat) : Int) by omega, ih k (i + 1) _ _ (by omega) (by omega) (by omega) (by omega) (by simp; omega)]
        simp only [List.filter_cons, h, decide_false, if_true, Bool.not_false, Bool.false_eq_true, if_false, List.map_cons, List.append_assoc, List.cons_append, List.nil_append]
  unfold p_outbox_split_proto_Msg
  have := key l.length 200 0 [] [] (by omega) (by omega) (by omega) (by simp) (by simp)
  rw [show ((0 : Nat) : Int) = 0 from rfl] at this
  rw [this]
  simp

theorem filt_len {α : Type} (p : α → Bool) : ∀ l : List α, (l.filter p).length + (l.filter (fun h => !p h)).length = l.length
  | [] => rfl
  | b :: l => by
    have := filt_len p l
    cases h : p b <;> simp [h] <;> omega
/-- A held message, and its mark among the marks. -/
def Held (marks : List Int) (h : outbox_held_proto_Msg_) : Prop := ∃ t : Nat, h.x = msgOf (1 + (t : Int)) ∧ t < marks.length ∧ rd marks (t : Int) = h.mark
def Rise (l : List outbox_held_proto_Msg_) : Prop := l.Pairwise fun a b => a.x.Session < b.x.Session
theorem rd_wr_ne {y : List Int} {t u : Nat} {v : Int} (h : t ≠ u) : rd (wr y (t : Int) v) (u : Int) = rd y (u : Int) := by
  simp [rd, wr, List.getElem?_set, h]
theorem inner_ok (a0 : List maundlaw29_Op) (j : Int) (gl : List outbox_held_proto_Msg_) (hr : Rise gl) (hl : gl.length ≤ 60) :
    ∀ (d k i : Nat) (y : List Int), gl.length - i = d → i ≤ gl.length → d < k → y.length ≤ 60 → (∀ h ∈ gl.drop i, Held y h ∧ h.mark ≤ (rd a0 j).Mark) →
      ∃ y', p_maundlaw29_OutboxMarks_l1 200 a0 j (gl.map (·.x)) k y (i : Int) = some (.inr (y', (gl.length : Int))) ∧ y'.length = y.length ∧
        ∀ t : Nat, (∀ h ∈ gl.drop i, h.x.Session ≠ 1 + (t : Int)) → rd y' (t : Int) = rd y (t : Int) := by
  intro d
  induction d with
  | zero =>
    intro k i y hd hi hk hy hh
    obtain ⟨k, rfl⟩ : ∃ j, k = j + 1 := ⟨k - 1, by omega⟩
    have : i = gl.length := by omega
    subst this
    refine ⟨y, ?_, rfl, fun _ _ => rfl⟩
    rw [p_maundlaw29_OutboxMarks_l1, if_neg (by simp)]
  | succ d ih =>
    intro k i y hd hi hk hy hh
    obtain ⟨k, rfl⟩ : ∃ j, k = j + 1 := ⟨k - 1, by omega⟩
    have hlt : i < gl.length := by omega
    have hget : rd (gl.map (·.x)) (i : Int) = gl[i].x := by simp [rd, hlt]
    have hdrop := List.drop_eq_getElem_cons hlt
    obtain ⟨⟨t, ht, htl, htm⟩, hmk⟩ := hh gl[i] (by rw [hdrop]; exact List.mem_cons_self ..)
    have hs : gl[i].x.Session = 1 + (t : Int) := by rw [ht]; rfl
    have hat : IntKind.i64.wrap (gl[i].x.Session - 1) = (t : Int) := by rw [hs, w64 (by omega) (by omega)]; omega
    have later : ∀ h ∈ gl.drop (i + 1), gl[i].x.Session < h.x.Session := by
      intro h hm
      have := hr.drop (i := i)
      rw [hdrop, List.pairwise_cons] at this
      exact this.1 h hm
    have hh2 : ∀ h ∈ gl.drop (i + 1), Held (wr y (t : Int) 1152921504606846976) h ∧ h.mark ≤ (rd a0 j).Mark := by
      intro h hm
      obtain ⟨⟨u, hu, hul, hum⟩, hk2⟩ := hh h (by rw [hdrop]; exact List.mem_cons_of_mem _ hm)
      have h3 := later h hm
      have hus : h.x.Session = 1 + (u : Int) := by rw [hu]; rfl
      have hne : t ≠ u := by omega
      exact ⟨⟨u, hu, by rw [wr]; simpa using hul, by rw [rd_wr_ne hne]; exact hum⟩, hk2⟩
    obtain ⟨y', h1, h2, h3⟩ := ih k (i + 1) (wr y (t : Int) 1152921504606846976) (by omega) (by omega) (by omega) (by simpa [wr] using hy) hh2
    refine ⟨y', ?_, by simpa [wr] using h2, ?_⟩
    · rw [p_maundlaw29_OutboxMarks_l1, hget, hat, List.length_map, if_pos (by omega), if_pos ⟨by omega, by omega⟩, if_neg (by omega), if_neg (by omega), if_pos ⟨by omega, by omega⟩, if_neg (by rw [htm]; omega)]
      rw [show IntKind.i64.wrap ((i : Int) + 1) = ((i + 1 : Nat) : Int) by rw [w64 (by omega) (by omega)]; omega]
      by_cases h0 : (i : Int) > 0
      · obtain ⟨m, rfl⟩ : ∃ m, i = m + 1 := ⟨i - 1, by omega⟩
        have hw : IntKind.i64.wrap (((m + 1 : Nat) : Int) - 1) = (m : Int) := by rw [w64 (by omega) (by omega)]; omega
        have hg2 : rd (gl.map (·.x)) (m : Int) = gl[m].x := by simp [rd, show m < gl.length by omega]
        have hr2 : gl[m].x.Session < gl[m + 1].x.Session := (List.pairwise_iff_getElem.1 hr) m (m + 1) (by omega) hlt (by omega)
        rw [if_pos h0, hw, hg2, if_pos ⟨by omega, by omega⟩, if_pos ⟨by omega, by omega⟩, if_neg (by omega), if_pos ⟨by omega, by omega⟩]
        exact h1
      · rw [if_neg h0, if_pos ⟨by omega, by omega⟩]
        exact h1
    · intro u hu
      rw [h3 u (fun h hm => hu h (by rw [hdrop]; exact List.mem_cons_of_mem _ hm))]
      have := hu gl[i] (by rw [hdrop]; exact List.mem_cons_self ..)
      exact rd_wr_ne (by omega)

structure Inv (i s g : Nat) (marks : List Int) (box : outbox_Box) : Prop where
  made : box.made = true
  lost : box.lost = 0
  sum : box.out.length + g = s
  si : s ≤ i
  len : marks.length = s
  held : ∀ h ∈ box.out, Held marks h
  rise : Rise box.out
theorem rise_one {l : List outbox_held_proto_Msg_} (hr : Rise l) {a b : outbox_held_proto_Msg_} (ha : a ∈ l) (hb : b ∈ l) (e : a.x.Session = b.x.Session) : a = b := by
  obtain ⟨i, hi, rfl⟩ := List.getElem_of_mem ha
  obtain ⟨j, hj, rfl⟩ := List.getElem_of_mem hb
  have k := List.pairwise_iff_getElem.1 hr
  rcases Nat.lt_trichotomy i j with h | h | h
  · have := k i j hi hj h; omega
  · subst h; rfl
  · have := k j i hj hi h; omega
theorem Held.push {marks : List Int} {m : Int} {h : outbox_held_proto_Msg_} (k : Held marks h) : Held (marks ++ [m]) h := by
  obtain ⟨t, h1, h2, h3⟩ := k
  refine ⟨t, h1, by simp; omega, ?_⟩
  rw [← h3]
  simp [rd, List.getElem?_append_left h2]
theorem main_ok (a0 : List maundlaw29_Op) (hl : a0.length ≤ 60) :
    ∀ (d k i s g : Nat) (marks : List Int) (box : outbox_Box), a0.length - i = d → i ≤ a0.length → d < k → Inv i s g marks box →
      ∃ r, p_maundlaw29_OutboxMarks_l0 200 a0 k (s : Int) (g : Int) marks (i : Int) box = some (.inr r) := by
  intro d
  induction d with
  | zero =>
    intro k i s g marks box hd hi hk v
    obtain ⟨k, rfl⟩ : ∃ j, k = j + 1 := ⟨k - 1, by omega⟩
    rw [p_maundlaw29_OutboxMarks_l0, if_neg (by omega)]
    exact ⟨_, rfl⟩
  | succ d ih =>
    intro k i s g marks box hd hi hk v
    obtain ⟨k, rfl⟩ : ∃ j, k = j + 1 := ⟨k - 1, by omega⟩
    obtain ⟨made, lost, sum, si, len, held, rise⟩ := v
    obtain ⟨bm, bo, ba, bl⟩ := box
    simp only at made lost sum held rise
    subst made; subst lost
    have hlt : i < a0.length := by omega
    have hi1 : IntKind.i64.wrap ((i : Int) + 1) = ((i + 1 : Nat) : Int) := by rw [w64 (by omega) (by omega)]; omega
    have hsum : IntKind.i64.wrap (IntKind.i64.wrap ((bo.length : Int) + (g : Int)) + 0) = (s : Int) := by
      rw [w64 (n := (bo.length : Int) + (g : Int)) (by omega) (by omega), w64 (by omega) (by omega)]; omega
    rw [p_maundlaw29_OutboxMarks_l0, if_pos (by omega), if_pos ⟨by omega, by omega⟩, hi1]
    by_cases h0 : (rd a0 (i : Int)).Kind = 0
    · rw [if_pos h0, w64 (n := 1 + (s : Int)) (by omega) (by omega)]
      have hsend := send_ok (s := s) (by omega) (b := ⟨true, bo, ba, 0⟩) (m := (rd a0 (i : Int)).Mark) rfl (by simp only; omega)
      rw [show (⟨4, 1, 2, 1 + (s : Int), 0, List.replicate 32 0, [], [], []⟩ : proto_Msg) = msgOf (1 + (s : Int)) from rfl, hsend]
      by_cases hm : (rd a0 (i : Int)).Mark < 0
      · simp only [hm, if_true, Option.bind_some, p_outbox_Box_Waits, p_outbox_Box_Lost, show ¬ ((1 : Int) = 0) by decide, if_false]
        rw [if_neg (by simpa using hsum)]
        exact ih k (i + 1) s g marks _ (by omega) (by omega) (by omega) ⟨rfl, rfl, sum, by omega, len, held, rise⟩
      · simp only [hm, if_false, Option.bind_some, p_outbox_Box_Waits, p_outbox_Box_Lost, if_true]
        rw [if_pos (by simp; omega), if_neg (by
          rw [w64 (n := (s : Int) + 1) (by omega) (by omega)]
          simp only [List.length_append, List.length_singleton]
          rw [w64 (n := ((bo.length + 1 : Nat) : Int) + (g : Int)) (by omega) (by omega), w64 (by omega) (by omega)]
          omega)]
        rw [show IntKind.i64.wrap ((s : Int) + 1) = ((s + 1 : Nat) : Int) by rw [w64 (by omega) (by omega)]; omega]
        refine ih k (i + 1) (s + 1) g _ _ (by omega) (by omega) (by omega) ⟨rfl, rfl, by simp; omega, by omega, by simp [len], ?_, ?_⟩
        · intro h hh
          rcases List.mem_append.1 hh with hh | hh
          · exact (held h hh).push
          · rw [List.mem_singleton] at hh
            subst hh
            exact ⟨s, rfl, by simp [len], by simp [rd, len]⟩
        · refine List.pairwise_append.2 ⟨rise, List.pairwise_singleton _ _, fun a ha b hb => ?_⟩
          rw [List.mem_singleton] at hb
          subst hb
          obtain ⟨t, h1, h2, _⟩ := held a ha
          rw [h1]
          show 1 + (t : Int) < 1 + (s : Int)
          omega
    · rw [if_neg h0]
      by_cases h2 : (rd a0 (i : Int)).Kind = 2
      · rw [if_pos h2]
        have hsp := split_ok bo (rd a0 (i : Int)).Mark (by omega)
        unfold p_outbox_Box_Out
        simp only [hsp, Option.bind_some]
        have hgl : (bo.filter (fun h => decide (h.mark ≤ (rd a0 (i : Int)).Mark))).length ≤ bo.length := List.length_filter_le ..
        have hboth : (bo.filter (fun h => decide (h.mark ≤ (rd a0 (i : Int)).Mark))).length + (bo.filter (fun h => !decide (h.mark ≤ (rd a0 (i : Int)).Mark))).length = bo.length := filt_len (fun h => decide (h.mark ≤ (rd a0 (i : Int)).Mark)) bo
        obtain ⟨y', h3, h4, h5⟩ := inner_ok a0 (i : Int) (bo.filter (fun h => decide (h.mark ≤ (rd a0 (i : Int)).Mark))) (List.Pairwise.filter _ rise) (by omega) _ 200 0 marks rfl (by omega) (by omega) (by omega)
          (fun h hm => by
            rw [List.drop_zero, List.mem_filter] at hm
            exact ⟨held h hm.1, by simpa using hm.2⟩)
        rw [show ((0 : Nat) : Int) = 0 from rfl] at h3
        rw [h3]
        simp only [Option.bind_some, p_outbox_Box_Waits, p_outbox_Box_Lost, List.length_map]
        have hg2 : IntKind.i64.wrap ((g : Int) + ((bo.filter (fun h => decide (h.mark ≤ (rd a0 (i : Int)).Mark))).length : Int)) = ((g + (bo.filter (fun h => decide (h.mark ≤ (rd a0 (i : Int)).Mark))).length : Nat) : Int) := by
          rw [w64 (by omega) (by omega)]; omega
        rw [hg2, if_neg (by
          rw [w64 (n := ((bo.filter (fun h => !decide (h.mark ≤ (rd a0 (i : Int)).Mark))).length : Int) + _) (by omega) (by omega), w64 (by omega) (by omega)]
          omega)]
        refine ih k (i + 1) s _ y' _ (by omega) (by omega) (by omega) ⟨rfl, rfl, by simp only; omega, by omega, by rw [h4, len], ?_, List.Pairwise.filter _ rise⟩
        intro h hm
        rw [List.mem_filter] at hm
        obtain ⟨t, h6, h7, h8⟩ := held h hm.1
        refine ⟨t, h6, by rw [h4]; exact h7, ?_⟩
        rw [h5 t, h8]
        intro h' hm' he
        rw [List.drop_zero, List.mem_filter] at hm'
        have : h' = h := rise_one rise hm'.1 hm.1 (by rw [he, h6]; rfl)
        subst this
        have a := hm.2
        have b := hm'.2
        simp at a b
        omega
      · rw [if_neg h2]
        simp only [Option.bind_some, p_outbox_Box_Waits, p_outbox_Box_Lost]
        rw [if_neg (by simpa using hsum)]
        exact ih k (i + 1) s g marks _ (by omega) (by omega) (by omega) ⟨rfl, rfl, sum, by omega, len, held, rise⟩

theorem great10 (l : List pack_Keyed) : ∃ b, p_maundlaw10_Great 200 l = some b := by
  have key : ∀ (d k i : Nat), l.length - i = d → i ≤ l.length → 0 < k → (l.length ≤ 30 → d < k) → ∃ r, p_maundlaw10_Great_l0 200 l k (i : Int) = some r := by
    intro d
    induction d with
    | zero =>
      intro k i hd hi hk _
      obtain ⟨k, rfl⟩ : ∃ j, k = j + 1 := ⟨k - 1, by omega⟩
      rw [p_maundlaw10_Great_l0, if_neg (by omega)]; exact ⟨_, rfl⟩
    | succ d ih =>
      intro k i hd hi hk hkd
      obtain ⟨k, rfl⟩ : ∃ j, k = j + 1 := ⟨k - 1, by omega⟩
      rw [p_maundlaw10_Great_l0, if_pos (by omega)]
      by_cases h : (l.length : Int) > 30
      · rw [if_pos h]; exact ⟨_, rfl⟩
      · rw [if_neg h, if_pos ⟨by omega, by omega⟩]
        split
        · exact ⟨_, rfl⟩
        · rw [if_pos ⟨by omega, by omega⟩]
          simp only [p_maundlaw06_Great, Option.bind_some]
          cases decide (((rd l (i : Int)).Cart.L.length : Int) > 60) with
          | true => exact ⟨_, rfl⟩
          | false =>
            rw [show IntKind.i64.wrap ((i : Int) + 1) = ((i + 1 : Nat) : Int) by rw [w64 (by omega) (by omega)]; omega]
            exact ih k (i + 1) (by omega) (by omega) (by omega) (fun _ => by omega)
  obtain ⟨r, hr⟩ := key l.length 200 0 (by omega) (by omega) (by omega) (fun _ => by omega)
  unfold p_maundlaw10_Great
  rw [show ((0 : Nat) : Int) = 0 from rfl] at hr
  rw [hr]
  cases r <;> exact ⟨_, rfl⟩
theorem great26 (m : proto_Msg) : ∃ b, p_maundlaw26_Great 200 m = some b := by
  unfold p_maundlaw26_Great
  split
  · exact ⟨_, rfl⟩
  · split
    · exact ⟨_, rfl⟩
    · obtain ⟨b, hb⟩ := great10 m.Carts
      rw [hb]; exact ⟨_, rfl⟩
theorem great29 (l : List maundlaw29_Op) : ∃ b, p_maundlaw29_Great 200 l = some b ∧ (b = false → l.length ≤ 60) := by
  have key : ∀ (d k i : Nat), l.length - i = d → i ≤ l.length → 0 < k → (l.length ≤ 60 → d < k) → ∃ r, p_maundlaw29_Great_l0 200 l k (i : Int) = some r ∧ (60 < l.length → 0 < d → r = .inl true) := by
    intro d
    induction d with
    | zero =>
      intro k i hd hi hk _
      obtain ⟨k, rfl⟩ : ∃ j, k = j + 1 := ⟨k - 1, by omega⟩
      rw [p_maundlaw29_Great_l0, if_neg (by omega)]; exact ⟨_, rfl, fun _ h => by omega⟩
    | succ d ih =>
      intro k i hd hi hk hkd
      obtain ⟨k, rfl⟩ : ∃ j, k = j + 1 := ⟨k - 1, by omega⟩
      rw [p_maundlaw29_Great_l0, if_pos (by omega)]
      by_cases h : (l.length : Int) > 60
      · rw [if_pos h]; exact ⟨_, rfl, fun _ _ => rfl⟩
      · have hno : ∀ r : Sum Bool Int, 60 < l.length → 0 < d + 1 → r = .inl true := fun _ h' => by omega
        obtain ⟨r, hr, _⟩ := ih k (i + 1) (by omega) (by omega) (by omega) (fun _ => by omega)
        have hw : IntKind.i64.wrap ((i : Int) + 1) = ((i + 1 : Nat) : Int) := by rw [w64 (by omega) (by omega)]; omega
        obtain ⟨b, hb⟩ := great26 (rd l (i : Int)).M
        have hi2 : (0 : Int) ≤ (i : Int) ∧ (i : Int) < (l.length : Int) := ⟨by omega, by omega⟩
        rw [if_neg h, if_pos hi2, hb, hw]
        simp only [Option.bind_some]
        cases b with
        | true => exact ⟨_, rfl, hno _⟩
        | false =>
          simp only [cond_false, if_pos hi2]
          split
          · exact ⟨_, rfl, hno _⟩
          · split
            · split
              · exact ⟨_, rfl, hno _⟩
              · exact ⟨r, hr, hno _⟩
            · exact ⟨r, hr, hno _⟩
  obtain ⟨r, hr, h2⟩ := key l.length 200 0 (by omega) (by omega) (by omega) (fun _ => by omega)
  unfold p_maundlaw29_Great
  rw [show ((0 : Nat) : Int) = 0 from rfl] at hr
  rw [hr]
  cases r with
  | inl b =>
    refine ⟨b, rfl, fun hb => ?_⟩
    rcases Nat.lt_or_ge 60 l.length with h | h
    · have := h2 h (by omega); subst hb; cases this
    · exact h
  | inr n =>
    refine ⟨false, rfl, fun _ => ?_⟩
    rcases Nat.lt_or_ge 60 l.length with h | h
    · have := h2 h (by omega); cases this
    · exact h
theorem OutboxMarks_pure (a0 : List maundlaw29_Op) : ∃ K, p_maundlaw29_OutboxMarks K a0 = some true := by
  refine ⟨200, ?_⟩
  obtain ⟨b, hb, hl⟩ := great29 a0
  unfold p_maundlaw29_OutboxMarks
  rw [hb]
  simp only [Option.bind_some]
  cases b with
  | true => simp only [cond_true, alive_ok, Option.bind_some]
  | false =>
    simp only [cond_false, p_outbox_New, Option.bind_some]
    obtain ⟨r, hr⟩ := main_ok a0 (hl rfl) a0.length 200 0 0 0 [] ⟨true, [], [], 0⟩ (by omega) (by omega) (by have := hl rfl; omega) ⟨rfl, rfl, rfl, by omega, rfl, by simp, List.Pairwise.nil⟩
    rw [show ((0 : Nat) : Int) = 0 from rfl] at hr
    rw [hr]
    obtain ⟨r1, r2, r3, r4, r5⟩ := r
    simp only [alive_ok, Option.bind_some]
#print axioms OutboxMarks_pure
end Go.Mw
