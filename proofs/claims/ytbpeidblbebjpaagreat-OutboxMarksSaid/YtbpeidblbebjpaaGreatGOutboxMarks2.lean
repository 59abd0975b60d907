/- Proved here: what functions of the program that OutboxMarks reaches compute; no condition. -/
import Derived.Test.YtbpeidblbebjpaaGreatGOutboxMarks1
import Derived.Test.YtbpeidblbebjpaaGreatProg
import Derived.KernelRfl
namespace Go.Mw
set_option linter.unusedVariables false
set_option linter.unusedSimpArgs false
open Go Go.Proofs
variable [Sky]
def p_wire_Reader_take (a0 : wire_Reader) (a1 : Int) : Option ((List Int) × wire_Reader) :=
  (p_wire_Reader_Err a0).bind fun (x2520_0, x2520_1) => (if x2520_0 ≠ 0 then some (([] : (List Int)), x2520_1) else (if a1 > (x2520_1.b.length : Int) then some (([] : (List Int)), (⟨x2520_1.made, x2520_1.b, 8⟩ : wire_Reader)) else (if 0 ≤ a1 ∧ 0 ≤ a1 ∧ 0 ≤ a1.toNat ∧ a1.toNat ≤ a1.toNat ∧ a1.toNat ≤ x2520_1.b.length then (if 0 ≤ a1 ∧ a1.toNat ≤ x2520_1.b.length then some (((x2520_1.b.drop 0).take (a1.toNat - 0)), (⟨x2520_1.made, (x2520_1.b.drop a1.toNat), x2520_1.e⟩ : wire_Reader)) else none) else none)))
theorem c_wire_Reader_take {h : Heap} {I : Nat → Prop} {b_a0 : Nat} {a0 : wire_Reader} {v0_a0 : Value} {a1 : Int} (s0 : St [some b_a0] h I h I [some b_a0]) (f_a0 : Box h b_a0 373 ((.bool a0.made : Value) :: v0_a0 :: (.int .i64 a0.e : Value) :: [] : List Value)) (r0_a0 : SlR (kI .u8) I h v0_a0 a0.b) {r : ((List Int) × wire_Reader)} (H : p_wire_Reader_take a0 a1 = some r) :
    Fn Tryz.prog 278 [.pointer (some ⟨b_a0, 0, none⟩), .int .i64 a1] h (fun v h' => ∃ (I' : Nat → Prop) (w0s : Value) (u0 : Value) , St [some b_a0] h I h' I' [some b_a0] ∧ v = (u0 : Value) ∧ Box h' b_a0 373 ((.bool r.2.made : Value) :: w0s :: (.int .i64 r.2.e : Value) :: [] : List Value) ∧ SlR (kI .u8) I' h' w0s r.2.b ∧ SlR (kI .u8) I' h' u0 r.1) := by
  unfold p_wire_Reader_take at H
  refine Fn.of 36 Tryz.func278 rfl rfl ?_
  refine C.seq ?_
  refine C.region 1 rfl ?_
  refine X.val rfl rfl rfl (yAssign rfl) trivial ?_
  refine X.nil ?_
  refine At.then ?_
  refine C.seq ?_
  refine C.seq ?_
  refine C.region 3 rfl ?_
  refine X.val rfl rfl rfl (yMove rfl) trivial ?_
  obtain ⟨x2520, e2521, H⟩ := bnd H
  have s2526 : St [some b_a0] h I h I ([some b_a0] ++ []) := s0.pick [0] rfl (by decide) (by rintro (_ | i) m h <;> first | exact h | (simp at h))
  refine X.call (all := [.pointer (some ⟨b_a0, 0, none⟩)]) Tryz.call148 rfl rfl rfl rfl rfl rfl (c_wire_Reader_Err s2526.left.lend f_a0 r0_a0 e2521) ?_
  obtain ⟨x2520_0, x2520_1⟩ := x2520
  rintro _ h2522 ⟨I2527, v2529, k2531, rfl, f2528, r2530⟩
  have s2524 : St [some b_a0] h I h2522 I2527 [some b_a0] := St.callS (L := [some b_a0]) (R := []) (L' := [some b_a0]) s2526 k2531
  have t2525 : Tr I h I2527 h2522 := St.callSTr (L := [some b_a0]) (R := []) (L' := [some b_a0]) s2526 k2531
  have p2523 := k2531.stp
  refine ⟨trivial, ?_⟩
  by_cases g2532 : x2520_0 ≠ 0
  · have H := ifT g2532 H
    refine X.val rfl rfl rfl (yBT g2532 (yNeq rfl rfl)) trivial ?_
    refine X.nil ?_
    refine At.then ?_
    refine C.condT rfl ?_
    refine C.seq ?_
    refine C.region 1 rfl ?_
    refine X.val rfl rfl rfl (yAssign rfl) trivial ?_
    refine X.nil ?_
    refine At.then ?_
    refine C.ret ?_
    refine At.thenR ?_
    obtain rfl := sm H
    refine At.retn (rs := [.tmp 4]) [.slice none 0 0] rfl ?_ ?_
    exact ⟨Rv.tmp rfl, trivial⟩
    exact ⟨I2527, v2529, .slice none 0 0, s2524, rfl, f2528, r2530, SlR.nil⟩
  · have H := ifF g2532 H
    refine X.val rfl rfl rfl (yBF g2532 (yNeq rfl rfl)) trivial ?_
    refine X.nil ?_
    refine At.then ?_
    refine C.condF rfl ?_
    refine C.skip ?_
    refine At.then ?_
    refine C.seq ?_
    refine C.seq ?_
    refine C.region 7 rfl ?_
    refine X.val rfl rfl rfl (yMove rfl) trivial ?_
    refine X.val rfl rfl rfl (yMove rfl) trivial ?_
    refine X.val rfl rfl rfl (yNil rfl) trivial ?_
    refine X.val (v := .pointer (some ⟨b_a0, 1, none⟩)) rfl rfl rfl (yField 23 1 Tryz.underlying373 Tryz.sizeOf23 rfl rfl rfl) trivial ?_
    refine X.val (v := v2529) rfl rfl rfl (yLoadS (j := 1) Tryz.isAgg23 rfl (f2528).all rfl rfl) trivial ?_
    refine X.val rfl rfl rfl (yLenR Tryz.underlying23 rfl r2530) trivial ?_
    by_cases g2533 : a1 > (x2520_1.b.length : Int)
    · have H := ifT g2533 H
      refine X.val rfl rfl rfl (yBT g2533 (yGtr rfl rfl)) trivial ?_
      refine X.nil ?_
      refine At.then ?_
      refine C.condT rfl ?_
      refine C.seq ?_
      refine C.region 4 rfl ?_
      refine X.val rfl rfl rfl (yMove rfl) trivial ?_
      refine X.val rfl rfl rfl (yNil rfl) trivial ?_
      refine X.val (v := .pointer (some ⟨b_a0, 2, none⟩)) rfl rfl rfl (yField 44 2 Tryz.underlying373 Tryz.sizeOf44 rfl rfl rfl) trivial ?_
      refine X.ef rfl rfl rfl (eStore (vs := ((.int .i64 8 : Value) :: [] : List Value)) Tryz.sizeOf44 rfl rfl rfl (by simp []) (by simp [ones, ones_append, oInt, oBool, oStr, oSl, oPtr]) f2528 (by simp [])) ?_
      rintro _ h2534 ⟨rfl, e2535⟩
      have f2539 : Box h2534 b_a0 373 ((.bool x2520_1.made : Value) :: v2529 :: (.int .i64 8 : Value) :: [] : List Value) := by subst e2535; exact Box.reset f2528 (rfl)
      have p2536 : Stp [some b_a0] h2522 h2534 := by subst e2535; exact Stp.set _
      have s2537 := s2524.step p2536 (by simp)
      have t2538 := s2524.tr p2536 (by simp) (fun _ hb => hb)
      clear e2535
      refine ⟨trivial, ?_⟩
      refine X.nil ?_
      refine At.then ?_
      refine C.seq ?_
      refine C.region 1 rfl ?_
      refine X.val rfl rfl rfl (yAssign rfl) trivial ?_
      refine X.nil ?_
      refine At.then ?_
      refine C.ret ?_
      refine At.thenR ?_
      obtain rfl := sm H
      refine At.retn (rs := [.tmp 4]) [.slice none 0 0] rfl ?_ ?_
      exact ⟨Rv.tmp rfl, trivial⟩
      exact ⟨I2527, v2529, .slice none 0 0, s2537, rfl, f2539, (r2530.mono t2538), SlR.nil⟩
    · have H := ifF g2533 H
      refine X.val rfl rfl rfl (yBF g2533 (yGtr rfl rfl)) trivial ?_
      refine X.nil ?_
      refine At.then ?_
      refine C.condF rfl ?_
      refine C.skip ?_
      refine At.then ?_
      refine C.seq ?_
      refine C.region 8 rfl ?_
      refine X.val rfl rfl rfl (yMove rfl) trivial ?_
      refine X.val rfl rfl rfl (yNil rfl) trivial ?_
      refine X.val (v := .pointer (some ⟨b_a0, 1, none⟩)) rfl rfl rfl (yField 23 1 Tryz.underlying373 Tryz.sizeOf23 rfl rfl rfl) trivial ?_
      refine X.val (v := v2529) rfl rfl rfl (yLoadS (j := 1) Tryz.isAgg23 rfl (f2528).all rfl rfl) trivial ?_
      refine X.val rfl rfl rfl (yMove rfl) trivial ?_
      refine X.val rfl rfl rfl (yMove rfl) trivial ?_
      obtain ⟨⟨g2541, g2542, g2543, g2544, g2545⟩, H⟩ := ifS H
      have g2546 : 0 ≤ a1.toNat := by omega
      have g2547 : a1.toNat ≤ (some a1.toNat).getD x2520_1.b.length := by simp only [Option.getD_none, Option.getD_some]; omega
      have g2548 : (some a1.toNat).getD x2520_1.b.length ≤ x2520_1.b.length := by simp only [Option.getD_none, Option.getD_some]; omega
      have r2549 := SlR.cut r2530 g2546 g2547 g2548
      obtain ⟨v2550, e2551⟩ : ∃ w, w = cut v2529 0 a1.toNat (some a1.toNat) 1 := ⟨_, rfl⟩
      have r2549 : SlR (kI .u8) I2527 h2522 v2550 ((x2520_1.b.drop 0).take (a1.toNat - 0)) := by rw [e2551]; exact r2549
      refine X.val (v := v2550) rfl rfl rfl (by rw [e2551]; exact ySlice Tryz.underlying23 Tryz.sizeOf5 rfl r2530 rfl ⟨_, _, rfl, by omega, rfl⟩ ⟨rfl, _, _, rfl, by omega, rfl⟩ g2546 g2547 g2548) trivial ?_
      refine X.val rfl rfl rfl (yAssign rfl) trivial ?_
      refine X.nil ?_
      refine At.then ?_
      refine C.seq ?_
      refine C.region 10 rfl ?_
      refine X.val rfl rfl rfl (yMove rfl) trivial ?_
      refine X.val rfl rfl rfl (yMove rfl) trivial ?_
      refine X.val rfl rfl rfl (yNil rfl) trivial ?_
      refine X.val (v := .pointer (some ⟨b_a0, 1, none⟩)) rfl rfl rfl (yField 23 1 Tryz.underlying373 Tryz.sizeOf23 rfl rfl rfl) trivial ?_
      refine X.val (v := v2529) rfl rfl rfl (yLoadS (j := 1) Tryz.isAgg23 rfl (f2528).all rfl rfl) trivial ?_
      refine X.val rfl rfl rfl (yMove rfl) trivial ?_
      obtain ⟨⟨g2553, g2554⟩, H⟩ := ifS H
      have g2555 : a1.toNat ≤ x2520_1.b.length := by omega
      have g2556 : x2520_1.b.length ≤ none.getD x2520_1.b.length := by simp only [Option.getD_none, Option.getD_some]; omega
      have g2557 : none.getD x2520_1.b.length ≤ x2520_1.b.length := by simp only [Option.getD_none, Option.getD_some]; omega
      have r2558 := SlR.cut r2530 g2555 g2556 g2557
      have r2558 : SlR _ _ _ _ (x2520_1.b.drop a1.toNat) := (show (x2520_1.b.drop a1.toNat).take (x2520_1.b.length - a1.toNat) = x2520_1.b.drop a1.toNat from List.take_of_length_le (by simp)) ▸ r2558
      obtain ⟨v2559, e2560⟩ : ∃ w, w = cut v2529 a1.toNat x2520_1.b.length none 1 := ⟨_, rfl⟩
      have r2558 : SlR (kI .u8) I2527 h2522 v2559 (x2520_1.b.drop a1.toNat) := by rw [e2560]; exact r2558
      refine X.val (v := v2559) rfl rfl rfl (by rw [e2560]; exact ySlice Tryz.underlying23 Tryz.sizeOf5 rfl r2530 ⟨_, _, rfl, by omega, rfl⟩ rfl rfl g2555 g2556 g2557) trivial ?_
      refine X.val rfl rfl rfl (yNil rfl) trivial ?_
      refine X.val (v := .pointer (some ⟨b_a0, 1, none⟩)) rfl rfl rfl (yField 23 1 Tryz.underlying373 Tryz.sizeOf23 rfl rfl rfl) trivial ?_
      refine X.ef rfl rfl rfl (eStore (vs := (v2559 :: [] : List Value)) Tryz.sizeOf23 rfl rfl (cellsOne (SlR.one r2558)) (by simp []) (by simp [ones, ones_append, oInt, oBool, oStr, oSl, oPtr, SlR.one r2558]) f2528 (by simp [])) ?_
      rintro _ h2561 ⟨rfl, e2562⟩
      have f2566 : Box h2561 b_a0 373 ((.bool x2520_1.made : Value) :: v2559 :: (.int .i64 x2520_1.e : Value) :: [] : List Value) := by subst e2562; exact Box.reset f2528 (rfl)
      have p2563 : Stp [some b_a0] h2522 h2561 := by subst e2562; exact Stp.set _
      have s2564 := s2524.step p2563 (by simp)
      have t2565 := s2524.tr p2563 (by simp) (fun _ hb => hb)
      clear e2562
      refine ⟨trivial, ?_⟩
      refine X.nil ?_
      refine At.then ?_
      refine C.seq ?_
      refine C.region 2 rfl ?_
      refine X.val rfl rfl rfl (yMove rfl) trivial ?_
      refine X.val rfl rfl rfl (yAssign rfl) trivial ?_
      refine X.nil ?_
      refine At.then ?_
      refine C.ret ?_
      obtain rfl := sm H
      refine At.retn (rs := [.tmp 4]) [v2550] rfl ?_ ?_
      exact ⟨Rv.tmp rfl, trivial⟩
      exact ⟨I2527, v2559, v2550, s2564, rfl, f2566, (r2558.mono t2565), (r2549.mono t2565)⟩

def p_wire_Reader_Num_l0 (K : Nat) (x2612_0 : ((List Int))) : Nat → Int → Int → Option (Int × Int)
  | 0, _, _ => none
  | k2649 + 1, y2641, y2642 => (if y2642 < (x2612_0.length : Int) then (if 0 ≤ y2642 ∧ y2642 < (x2612_0.length : Int) then (p_wire_Reader_Num_l0 K x2612_0 k2649 (ior .u64 (ishl .u64 y2641 8) (IntKind.u64.wrap (rd x2612_0 y2642))) (IntKind.i64.wrap (y2642 + 1))) else none) else some (y2641, y2642))
def p_wire_Reader_Num (K : Nat) (a0 : wire_Reader) : Option (Int × wire_Reader) :=
  (p_wire_Reader_take a0 1).bind fun (x2567_0, x2567_1) => (if (x2567_0.length : Int) = 0 then some (0, x2567_1) else (if 0 ≤ (0 : Int) ∧ (0 : Int) < (x2567_0.length : Int) then (p_wire_Reader_Must x2567_1 (decide ((rd x2567_0 (0 : Int)) ≤ 8))).bind fun x2591 => (if 0 ≤ (0 : Int) ∧ (0 : Int) < (x2567_0.length : Int) then (p_wire_Reader_take x2591 (IntKind.i64.wrap (rd x2567_0 (0 : Int)))).bind fun (x2612_0, x2612_1) => (if (x2612_0.length : Int) = 0 then (p_wire_Reader_Must x2612_1 true).bind fun x2627 => (p_wire_Reader_Num_l0 K x2612_0 K 0 0).bind fun (w2661, w2662) => (if x2627.e ≠ 0 then some (0, x2627) else some (w2661, x2627)) else (if 0 ≤ (0 : Int) ∧ (0 : Int) < (x2612_0.length : Int) then (p_wire_Reader_Must x2612_1 (decide ((rd x2612_0 (0 : Int)) > 0))).bind fun x2673 => (p_wire_Reader_Num_l0 K x2612_0 K 0 0).bind fun (w2707, w2708) => (if x2673.e ≠ 0 then some (0, x2673) else some (w2707, x2673)) else none)) else none) else none))
theorem c_wire_Reader_Num {K : Nat} {h : Heap} {I : Nat → Prop} {b_a0 : Nat} {a0 : wire_Reader} {v0_a0 : Value} (s0 : St [some b_a0] h I h I [some b_a0]) (f_a0 : Box h b_a0 373 ((.bool a0.made : Value) :: v0_a0 :: (.int .i64 a0.e : Value) :: [] : List Value)) (r0_a0 : SlR (kI .u8) I h v0_a0 a0.b) {r : (Int × wire_Reader)} (H : p_wire_Reader_Num K a0 = some r) :
    Fn Tryz.prog 178 [.pointer (some ⟨b_a0, 0, none⟩)] h (fun v h' => ∃ (I' : Nat → Prop) (w0s : Value) , St [some b_a0] h I h' I' [some b_a0] ∧ v = (.int .u64 r.1 : Value) ∧ Box h' b_a0 373 ((.bool r.2.made : Value) :: w0s :: (.int .i64 r.2.e : Value) :: [] : List Value) ∧ SlR (kI .u8) I' h' w0s r.2.b) := by
  unfold p_wire_Reader_Num at H
  refine Fn.of 54 Tryz.func178 rfl rfl ?_
  refine C.seq ?_
  refine C.region 1 rfl ?_
  refine X.val rfl rfl rfl (yAssign rfl) trivial ?_
  refine X.nil ?_
  refine At.then ?_
  refine C.seq ?_
  refine C.region 3 rfl ?_
  refine X.val rfl rfl rfl (yMove rfl) trivial ?_
  obtain ⟨x2567, e2568, H⟩ := bnd H
  have s2573 : St [some b_a0] h I h I ([some b_a0] ++ []) := s0.pick [0] rfl (by decide) (by rintro (_ | i) m h <;> first | exact h | (simp at h))
  refine X.call (all := [.pointer (some ⟨b_a0, 0, none⟩), .int .i64 1]) Tryz.call278 rfl rfl rfl rfl rfl rfl (c_wire_Reader_take s2573.left.lend f_a0 r0_a0 e2568) ?_
  obtain ⟨x2567_0, x2567_1⟩ := x2567
  rintro v2578 h2569 ⟨I2574, v2576, _, k2580, rfl, f2575, r2577, r2579⟩
  have s2571 : St [some b_a0] h I h2569 I2574 [some b_a0] := St.callS (L := [some b_a0]) (R := []) (L' := [some b_a0]) s2573 k2580
  have t2572 : Tr I h I2574 h2569 := St.callSTr (L := [some b_a0]) (R := []) (L' := [some b_a0]) s2573 k2580
  have p2570 := k2580.stp
  refine ⟨trivial, ?_⟩
  refine X.val rfl rfl rfl (yAssign rfl) trivial ?_
  refine X.nil ?_
  refine At.then ?_
  refine C.seq ?_
  refine C.seq ?_
  refine C.region 3 rfl ?_
  refine X.val rfl rfl rfl (yMove rfl) trivial ?_
  refine X.val rfl rfl rfl (yLenR Tryz.underlying23 rfl r2579) trivial ?_
  by_cases g2581 : (x2567_0.length : Int) = 0
  · have H := ifT g2581 H
    refine X.val rfl rfl rfl (yBT g2581 (yEql rfl rfl)) trivial ?_
    refine X.nil ?_
    refine At.then ?_
    refine C.condT rfl ?_
    refine C.seq ?_
    refine C.region 1 rfl ?_
    refine X.val rfl rfl rfl (yAssign rfl) trivial ?_
    refine X.nil ?_
    refine At.then ?_
    refine C.ret ?_
    refine At.thenR ?_
    obtain rfl := sm H
    refine At.retn (rs := [.tmp 2]) [.int .u64 0] rfl ?_ ?_
    exact ⟨Rv.tmp rfl, trivial⟩
    exact ⟨I2574, v2576, s2571, rfl, f2575, r2577⟩
  · have H := ifF g2581 H
    refine X.val rfl rfl rfl (yBF g2581 (yEql rfl rfl)) trivial ?_
    refine X.nil ?_
    refine At.then ?_
    refine C.condF rfl ?_
    refine C.skip ?_
    refine At.then ?_
    refine C.seq ?_
    refine C.region 6 rfl ?_
    refine X.val rfl rfl rfl (yMove rfl) trivial ?_
    refine X.val rfl rfl rfl (yMove rfl) trivial ?_
    obtain ⟨⟨g2590, g2582⟩, H⟩ := ifS H
    obtain ⟨b2583, w2584, k2585, c2586, e2587, r2588, m2589⟩ := SlR.get r2579 g2590 g2582
    obtain rfl := r2588
    refine X.val (v := .pointer (some ⟨b2583, w2584 + ((0 : Int)).toNat * 1, none⟩)) rfl rfl rfl (yIdxS Tryz.underlying23 Tryz.sizeOf5 (by rw [← e2587]; rfl) rfl g2590 g2582) trivial ?_
    refine X.val (v := .int .u8 (rd x2567_0 (0 : Int))) rfl rfl rfl (yLoadS (j := 0) Tryz.isAgg5 rfl m2589.rd rfl rfl) trivial ?_
    refine X.val rfl rfl rfl (yLeq rfl rfl) trivial ?_
    obtain ⟨x2591, e2592, H⟩ := bnd H
    have s2597 : St [some b_a0] h I h2569 I2574 ([some b_a0] ++ []) := s2571.pick [0] rfl (by decide) (by rintro (_ | i) m h <;> first | exact h | (simp at h))
    refine X.call (all := [.pointer (some ⟨b_a0, 0, none⟩), .bool (decide ((rd x2567_0 (0 : Int)) ≤ 8))]) Tryz.call179 rfl rfl rfl rfl rfl rfl (c_wire_Reader_Must s2597.left.lend f2575 r2577 e2592) ?_
    rintro _ h2593 ⟨I2598, v2600, k2602, rfl, f2599, r2601⟩
    have s2595 : St [some b_a0] h I h2593 I2598 [some b_a0] := St.callS (L := [some b_a0]) (R := []) (L' := [some b_a0]) s2597 k2602
    have t2596 : Tr I2574 h2569 I2598 h2593 := St.callSTr (L := [some b_a0]) (R := []) (L' := [some b_a0]) s2597 k2602
    have p2594 := k2602.stp
    refine ⟨trivial, ?_⟩
    refine X.nil ?_
    refine At.then ?_
    refine C.seq ?_
    refine C.region 7 rfl ?_
    refine X.val rfl rfl rfl (yMove rfl) trivial ?_
    refine X.val rfl rfl rfl (yMove rfl) trivial ?_
    obtain ⟨⟨g2611, g2603⟩, H⟩ := ifS H
    obtain ⟨b2604, w2605, k2606, c2607, e2608, r2609, m2610⟩ := SlR.get (r2579.mono t2596) g2611 g2603
    obtain rfl := r2609
    refine X.val (v := .pointer (some ⟨b2604, w2605 + ((0 : Int)).toNat * 1, none⟩)) rfl rfl rfl (yIdxS Tryz.underlying23 Tryz.sizeOf5 (by rw [← e2608]; rfl) rfl g2611 g2603) trivial ?_
    refine X.val (v := .int .u8 (rd x2567_0 (0 : Int))) rfl rfl rfl (yLoadS (j := 0) Tryz.isAgg5 rfl m2610.rd rfl rfl) trivial ?_
    refine X.val rfl rfl rfl (yConv Tryz.underlying5 Tryz.underlying3 rfl) trivial ?_
    obtain ⟨x2612, e2613, H⟩ := bnd H
    have s2618 : St [some b_a0] h I h2593 I2598 ([some b_a0] ++ []) := s2595.pick [0] rfl (by decide) (by rintro (_ | i) m h <;> first | exact h | (simp at h))
    refine X.call (all := [.pointer (some ⟨b_a0, 0, none⟩), .int .i64 (IntKind.i64.wrap (rd x2567_0 (0 : Int)))]) Tryz.call278 rfl rfl rfl rfl rfl rfl (c_wire_Reader_take s2618.left.lend f2599 r2601 e2613) ?_
    obtain ⟨x2612_0, x2612_1⟩ := x2612
    rintro v2623 h2614 ⟨I2619, v2621, _, k2625, rfl, f2620, r2622, r2624⟩
    have s2616 : St [some b_a0] h I h2614 I2619 [some b_a0] := St.callS (L := [some b_a0]) (R := []) (L' := [some b_a0]) s2618 k2625
    have t2617 : Tr I2598 h2593 I2619 h2614 := St.callSTr (L := [some b_a0]) (R := []) (L' := [some b_a0]) s2618 k2625
    have p2615 := k2625.stp
    refine ⟨trivial, ?_⟩
    refine X.val rfl rfl rfl (yAssign rfl) trivial ?_
    refine X.nil ?_
    refine At.then ?_
    refine C.seq ?_
    refine C.region 11 rfl ?_
    refine X.val rfl rfl rfl (yMove rfl) trivial ?_
    refine X.val rfl rfl rfl (yMove rfl) trivial ?_
    refine X.val rfl rfl rfl (yLenR Tryz.underlying23 rfl r2624) trivial ?_
    by_cases g2626 : (x2612_0.length : Int) = 0
    · have H := ifT g2626 H
      refine X.val rfl rfl rfl (yBT g2626 (yEql rfl rfl)) trivial ?_
      refine X.val rfl rfl rfl (yMove rfl) trivial ?_
      refine X.skip rfl rfl rfl trivial ?_
      refine X.skip rfl rfl rfl trivial ?_
      refine X.skip rfl rfl rfl trivial ?_
      refine X.skip rfl rfl rfl trivial ?_
      refine X.val rfl rfl rfl (yPickT rfl rfl) trivial ?_
      obtain ⟨x2627, e2628, H⟩ := bnd H
      have s2633 : St [some b_a0] h I h2614 I2619 ([some b_a0] ++ []) := s2616.pick [0] rfl (by decide) (by rintro (_ | i) m h <;> first | exact h | (simp at h))
      refine X.call (all := [.pointer (some ⟨b_a0, 0, none⟩), .bool true]) Tryz.call179 rfl rfl rfl rfl rfl rfl (c_wire_Reader_Must s2633.left.lend f2620 r2622 e2628) ?_
      rintro _ h2629 ⟨I2634, v2636, k2638, rfl, f2635, r2637⟩
      have s2631 : St [some b_a0] h I h2629 I2634 [some b_a0] := St.callS (L := [some b_a0]) (R := []) (L' := [some b_a0]) s2633 k2638
      have t2632 : Tr I2619 h2614 I2634 h2629 := St.callSTr (L := [some b_a0]) (R := []) (L' := [some b_a0]) s2633 k2638
      have p2630 := k2638.stp
      refine ⟨trivial, ?_⟩
      refine X.nil ?_
      refine At.then ?_
      refine C.seq ?_
      refine C.region 1 rfl ?_
      refine X.val rfl rfl rfl (yAssign rfl) trivial ?_
      refine X.nil ?_
      refine At.then ?_
      refine C.seq ?_
      refine C.seq ?_
      refine C.region 3 rfl ?_
      refine X.val rfl rfl rfl (yMove rfl) trivial ?_
      refine X.val rfl rfl rfl (yLenR Tryz.underlying23 rfl (r2624.mono t2632)) trivial ?_
      refine X.val rfl rfl rfl (yMove rfl) trivial ?_
      refine X.nil ?_
      refine At.then ?_
      refine C.block ?_
      obtain ⟨z2646, e2648, G2647⟩ := bnd H
      refine C.prune [(0, .pointer (some ⟨b_a0, 0, none⟩)), (5, .int .u64 0), (36, v2623), (37, .int .i64 (x2612_0.length : Int)), (38, .int .i64 0)] (fun a ha => (.cons ha rfl (.cons ha rfl (.cons ha rfl (.cons ha rfl (.cons ha rfl ha.nil)))))) ?_
      refine C.loop (fun k2649 e h2639 => ∃ (y2641 : Int) (y2642 : Int) (I2640 : Nat → Prop), e = [(0, .pointer (some ⟨b_a0, 0, none⟩)), (5, .int .u64 y2641), (36, v2623), (37, .int .i64 (x2612_0.length : Int)), (38, .int .i64 y2642)] ∧ St [some b_a0] h I h2639 I2640 [some b_a0] ∧ Tr I2634 h2629 I2640 h2639 ∧ Box h2639 b_a0 373 ((.bool x2627.made : Value) :: v2636 :: (.int .i64 x2627.e : Value) :: [] : List Value) ∧ p_wire_Reader_Num_l0 K x2612_0 k2649 y2641 y2642 = some z2646) K ⟨0, 0, I2634, rfl, s2631, Tr.refl _ _, f2635, e2648⟩ ?_ ?_
      · rintro e h' ⟨_, _, _, _, _, _, _, H⟩; cases (show none = some _ from H)
      · rintro k2649 e h2639 ⟨y2641, y2642, I2640, rfl, s2644, t2645, f2643, H⟩
        rw [p_wire_Reader_Num_l0] at H
        refine C.seq ?_
        refine C.region 1 rfl ?_
        by_cases g2650 : y2642 < (x2612_0.length : Int)
        · have H := ifT g2650 H
          refine X.val rfl rfl rfl (yBT g2650 (yLss rfl rfl)) trivial ?_
          refine X.nil ?_
          refine At.then ?_
          refine C.seq ?_
          refine C.condT rfl ?_
          refine C.skip ?_
          refine At.then ?_
          refine C.seq ?_
          refine C.block ?_
          refine C.seq ?_
          refine C.region 3 rfl ?_
          obtain ⟨⟨g2659, g2651⟩, H⟩ := ifS H
          obtain ⟨b2652, w2653, k2654, c2655, e2656, r2657, m2658⟩ := SlR.get (r2624.mono (t2632.trans t2645)) g2659 g2651
          obtain rfl := r2657
          refine X.val (v := .pointer (some ⟨b2652, w2653 + (y2642).toNat * 1, none⟩)) rfl rfl rfl (yIdxS Tryz.underlying23 Tryz.sizeOf5 (by rw [← e2656]; rfl) rfl g2659 g2651) trivial ?_
          refine X.val (v := .int .u8 (rd x2612_0 y2642)) rfl rfl rfl (yLoadS (j := 0) Tryz.isAgg5 rfl m2658.rd rfl rfl) trivial ?_
          refine X.val rfl rfl rfl (yAssign rfl) trivial ?_
          refine X.nil ?_
          refine At.then ?_
          refine C.region 6 rfl ?_
          refine X.val rfl rfl rfl (yMove rfl) trivial ?_
          refine X.val rfl rfl rfl (yShl rfl rfl (by decide)) trivial ?_
          refine X.val rfl rfl rfl (yMove rfl) trivial ?_
          refine X.val rfl rfl rfl (yConv Tryz.underlying5 Tryz.underlying24 rfl) trivial ?_
          refine X.val rfl rfl rfl (yOr rfl rfl) trivial ?_
          refine X.val rfl rfl rfl (yAssign rfl) trivial ?_
          refine X.nil ?_
          refine At.blkN ?_
          refine At.then ?_
          refine C.region 2 rfl ?_
          refine X.val rfl rfl rfl (yAdd rfl rfl) trivial ?_
          refine X.val rfl rfl rfl (yMove rfl) trivial ?_
          refine X.nil ?_
          refine At.back [(0, .pointer (some ⟨b_a0, 0, none⟩)), (5, .int .u64 (ior .u64 (ishl .u64 y2641 8) (IntKind.u64.wrap (rd x2612_0 y2642)))), (36, v2623), (37, .int .i64 (x2612_0.length : Int)), (38, .int .i64 (IntKind.i64.wrap (y2642 + 1)))] (fun a ha => (.cons ha rfl (.cons ha rfl (.cons ha rfl (.cons ha rfl (.cons ha rfl ha.nil)))))) ?_
          exact ⟨(ior .u64 (ishl .u64 y2641 8) (IntKind.u64.wrap (rd x2612_0 y2642))), (IntKind.i64.wrap (y2642 + 1)), I2640, rfl, s2644, t2645, f2643, H⟩
        · have H := ifF g2650 H
          refine X.val rfl rfl rfl (yBF g2650 (yLss rfl rfl)) trivial ?_
          refine X.nil ?_
          refine At.then ?_
          refine C.seq ?_
          refine C.condF rfl ?_
          refine C.exit ?_
          refine At.thenE ?_
          refine At.backE ?_
          obtain rfl := sm H
          have H := G2647
          try dsimp only at H
          refine At.blkE ?_
          refine At.then ?_
          refine C.seq ?_
          refine C.seq ?_
          refine C.region 5 rfl ?_
          refine X.val rfl rfl rfl (yMove rfl) trivial ?_
          refine X.val rfl rfl rfl (yNil rfl) trivial ?_
          refine X.val (v := .pointer (some ⟨b_a0, 2, none⟩)) rfl rfl rfl (yField 44 2 Tryz.underlying373 Tryz.sizeOf44 rfl rfl rfl) trivial ?_
          refine X.val (v := .int .i64 x2627.e) rfl rfl rfl (yLoadS (j := 2) Tryz.isAgg44 rfl (f2643).all rfl rfl) trivial ?_
          by_cases g2660 : x2627.e ≠ 0
          · have H := ifT g2660 H
            refine X.val rfl rfl rfl (yBT g2660 (yNeq rfl rfl)) trivial ?_
            refine X.nil ?_
            refine At.then ?_
            refine C.condT rfl ?_
            refine C.seq ?_
            refine C.region 1 rfl ?_
            refine X.val rfl rfl rfl (yAssign rfl) trivial ?_
            refine X.nil ?_
            refine At.then ?_
            refine C.ret ?_
            refine At.thenR ?_
            obtain rfl := sm H
            refine At.retn (rs := [.tmp 2]) [.int .u64 0] rfl ?_ ?_
            exact ⟨Rv.tmp rfl, trivial⟩
            exact ⟨I2640, v2636, s2644, rfl, f2643, (r2637.mono t2645)⟩
          · have H := ifF g2660 H
            refine X.val rfl rfl rfl (yBF g2660 (yNeq rfl rfl)) trivial ?_
            refine X.nil ?_
            refine At.then ?_
            refine C.condF rfl ?_
            refine C.skip ?_
            refine At.then ?_
            refine C.seq ?_
            refine C.region 2 rfl ?_
            refine X.val rfl rfl rfl (yMove rfl) trivial ?_
            refine X.val rfl rfl rfl (yAssign rfl) trivial ?_
            refine X.nil ?_
            refine At.then ?_
            refine C.ret ?_
            obtain rfl := sm H
            refine At.retn (rs := [.tmp 2]) [.int .u64 y2641] rfl ?_ ?_
            exact ⟨Rv.tmp rfl, trivial⟩
            exact ⟨I2640, v2636, s2644, rfl, f2643, (r2637.mono t2645)⟩
    · have H := ifF g2626 H
      refine X.val rfl rfl rfl (yBF g2626 (yEql rfl rfl)) trivial ?_
      refine X.val rfl rfl rfl (yMove rfl) trivial ?_
      refine X.val rfl rfl rfl (yMove rfl) trivial ?_
      obtain ⟨⟨g2672, g2664⟩, H⟩ := ifS H
      obtain ⟨b2665, w2666, k2667, c2668, e2669, r2670, m2671⟩ := SlR.get r2624 g2672 g2664
      obtain rfl := r2670
      refine X.val (v := .pointer (some ⟨b2665, w2666 + ((0 : Int)).toNat * 1, none⟩)) rfl rfl rfl (yIdxS Tryz.underlying23 Tryz.sizeOf5 (by rw [← e2669]; rfl) rfl g2672 g2664) trivial ?_
      refine X.val (v := .int .u8 (rd x2612_0 (0 : Int))) rfl rfl rfl (yLoadS (j := 0) Tryz.isAgg5 rfl m2671.rd rfl rfl) trivial ?_
      refine X.val rfl rfl rfl (yGtr rfl rfl) trivial ?_
      refine X.val rfl rfl rfl (yPickF rfl rfl) trivial ?_
      obtain ⟨x2673, e2674, H⟩ := bnd H
      have s2679 : St [some b_a0] h I h2614 I2619 ([some b_a0] ++ []) := s2616.pick [0] rfl (by decide) (by rintro (_ | i) m h <;> first | exact h | (simp at h))
      refine X.call (all := [.pointer (some ⟨b_a0, 0, none⟩), .bool (decide ((rd x2612_0 (0 : Int)) > 0))]) Tryz.call179 rfl rfl rfl rfl rfl rfl (c_wire_Reader_Must s2679.left.lend f2620 r2622 e2674) ?_
      rintro _ h2675 ⟨I2680, v2682, k2684, rfl, f2681, r2683⟩
      have s2677 : St [some b_a0] h I h2675 I2680 [some b_a0] := St.callS (L := [some b_a0]) (R := []) (L' := [some b_a0]) s2679 k2684
      have t2678 : Tr I2619 h2614 I2680 h2675 := St.callSTr (L := [some b_a0]) (R := []) (L' := [some b_a0]) s2679 k2684
      have p2676 := k2684.stp
      refine ⟨trivial, ?_⟩
      refine X.nil ?_
      refine At.then ?_
      refine C.seq ?_
      refine C.region 1 rfl ?_
      refine X.val rfl rfl rfl (yAssign rfl) trivial ?_
      refine X.nil ?_
      refine At.then ?_
      refine C.seq ?_
      refine C.seq ?_
      refine C.region 3 rfl ?_
      refine X.val rfl rfl rfl (yMove rfl) trivial ?_
      refine X.val rfl rfl rfl (yLenR Tryz.underlying23 rfl (r2624.mono t2678)) trivial ?_
      refine X.val rfl rfl rfl (yMove rfl) trivial ?_
      refine X.nil ?_
      refine At.then ?_
      refine C.block ?_
      obtain ⟨z2692, e2694, G2693⟩ := bnd H
      refine C.prune [(0, .pointer (some ⟨b_a0, 0, none⟩)), (5, .int .u64 0), (36, v2623), (37, .int .i64 (x2612_0.length : Int)), (38, .int .i64 0)] (fun a ha => (.cons ha rfl (.cons ha rfl (.cons ha rfl (.cons ha rfl (.cons ha rfl ha.nil)))))) ?_
      refine C.loop (fun k2695 e h2685 => ∃ (y2687 : Int) (y2688 : Int) (I2686 : Nat → Prop), e = [(0, .pointer (some ⟨b_a0, 0, none⟩)), (5, .int .u64 y2687), (36, v2623), (37, .int .i64 (x2612_0.length : Int)), (38, .int .i64 y2688)] ∧ St [some b_a0] h I h2685 I2686 [some b_a0] ∧ Tr I2680 h2675 I2686 h2685 ∧ Box h2685 b_a0 373 ((.bool x2673.made : Value) :: v2682 :: (.int .i64 x2673.e : Value) :: [] : List Value) ∧ p_wire_Reader_Num_l0 K x2612_0 k2695 y2687 y2688 = some z2692) K ⟨0, 0, I2680, rfl, s2677, Tr.refl _ _, f2681, e2694⟩ ?_ ?_
      · rintro e h' ⟨_, _, _, _, _, _, _, H⟩; cases (show none = some _ from H)
      · rintro k2695 e h2685 ⟨y2687, y2688, I2686, rfl, s2690, t2691, f2689, H⟩
        rw [p_wire_Reader_Num_l0] at H
        refine C.seq ?_
        refine C.region 1 rfl ?_
        by_cases g2696 : y2688 < (x2612_0.length : Int)
        · have H := ifT g2696 H
          refine X.val rfl rfl rfl (yBT g2696 (yLss rfl rfl)) trivial ?_
          refine X.nil ?_
          refine At.then ?_
          refine C.seq ?_
          refine C.condT rfl ?_
          refine C.skip ?_
          refine At.then ?_
          refine C.seq ?_
          refine C.block ?_
          refine C.seq ?_
          refine C.region 3 rfl ?_
          obtain ⟨⟨g2705, g2697⟩, H⟩ := ifS H
          obtain ⟨b2698, w2699, k2700, c2701, e2702, r2703, m2704⟩ := SlR.get (r2624.mono (t2678.trans t2691)) g2705 g2697
          obtain rfl := r2703
          refine X.val (v := .pointer (some ⟨b2698, w2699 + (y2688).toNat * 1, none⟩)) rfl rfl rfl (yIdxS Tryz.underlying23 Tryz.sizeOf5 (by rw [← e2702]; rfl) rfl g2705 g2697) trivial ?_
          refine X.val (v := .int .u8 (rd x2612_0 y2688)) rfl rfl rfl (yLoadS (j := 0) Tryz.isAgg5 rfl m2704.rd rfl rfl) trivial ?_
          refine X.val rfl rfl rfl (yAssign rfl) trivial ?_
          refine X.nil ?_
          refine At.then ?_
          refine C.region 6 rfl ?_
          refine X.val rfl rfl rfl (yMove rfl) trivial ?_
          refine X.val rfl rfl rfl (yShl rfl rfl (by decide)) trivial ?_
          refine X.val rfl rfl rfl (yMove rfl) trivial ?_
          refine X.val rfl rfl rfl (yConv Tryz.underlying5 Tryz.underlying24 rfl) trivial ?_
          refine X.val rfl rfl rfl (yOr rfl rfl) trivial ?_
          refine X.val rfl rfl rfl (yAssign rfl) trivial ?_
          refine X.nil ?_
          refine At.blkN ?_
          refine At.then ?_
          refine C.region 2 rfl ?_
          refine X.val rfl rfl rfl (yAdd rfl rfl) trivial ?_
          refine X.val rfl rfl rfl (yMove rfl) trivial ?_
          refine X.nil ?_
          refine At.back [(0, .pointer (some ⟨b_a0, 0, none⟩)), (5, .int .u64 (ior .u64 (ishl .u64 y2687 8) (IntKind.u64.wrap (rd x2612_0 y2688)))), (36, v2623), (37, .int .i64 (x2612_0.length : Int)), (38, .int .i64 (IntKind.i64.wrap (y2688 + 1)))] (fun a ha => (.cons ha rfl (.cons ha rfl (.cons ha rfl (.cons ha rfl (.cons ha rfl ha.nil)))))) ?_
          exact ⟨(ior .u64 (ishl .u64 y2687 8) (IntKind.u64.wrap (rd x2612_0 y2688))), (IntKind.i64.wrap (y2688 + 1)), I2686, rfl, s2690, t2691, f2689, H⟩
        · have H := ifF g2696 H
          refine X.val rfl rfl rfl (yBF g2696 (yLss rfl rfl)) trivial ?_
          refine X.nil ?_
          refine At.then ?_
          refine C.seq ?_
          refine C.condF rfl ?_
          refine C.exit ?_
          refine At.thenE ?_
          refine At.backE ?_
          obtain rfl := sm H
          have H := G2693
          try dsimp only at H
          refine At.blkE ?_
          refine At.then ?_
          refine C.seq ?_
          refine C.seq ?_
          refine C.region 5 rfl ?_
          refine X.val rfl rfl rfl (yMove rfl) trivial ?_
          refine X.val rfl rfl rfl (yNil rfl) trivial ?_
          refine X.val (v := .pointer (some ⟨b_a0, 2, none⟩)) rfl rfl rfl (yField 44 2 Tryz.underlying373 Tryz.sizeOf44 rfl rfl rfl) trivial ?_
          refine X.val (v := .int .i64 x2673.e) rfl rfl rfl (yLoadS (j := 2) Tryz.isAgg44 rfl (f2689).all rfl rfl) trivial ?_
          by_cases g2706 : x2673.e ≠ 0
          · have H := ifT g2706 H
            refine X.val rfl rfl rfl (yBT g2706 (yNeq rfl rfl)) trivial ?_
            refine X.nil ?_
            refine At.then ?_
            refine C.condT rfl ?_
            refine C.seq ?_
            refine C.region 1 rfl ?_
            refine X.val rfl rfl rfl (yAssign rfl) trivial ?_
            refine X.nil ?_
            refine At.then ?_
            refine C.ret ?_
            refine At.thenR ?_
            obtain rfl := sm H
            refine At.retn (rs := [.tmp 2]) [.int .u64 0] rfl ?_ ?_
            exact ⟨Rv.tmp rfl, trivial⟩
            exact ⟨I2686, v2682, s2690, rfl, f2689, (r2683.mono t2691)⟩
          · have H := ifF g2706 H
            refine X.val rfl rfl rfl (yBF g2706 (yNeq rfl rfl)) trivial ?_
            refine X.nil ?_
            refine At.then ?_
            refine C.condF rfl ?_
            refine C.skip ?_
            refine At.then ?_
            refine C.seq ?_
            refine C.region 2 rfl ?_
            refine X.val rfl rfl rfl (yMove rfl) trivial ?_
            refine X.val rfl rfl rfl (yAssign rfl) trivial ?_
            refine X.nil ?_
            refine At.then ?_
            refine C.ret ?_
            obtain rfl := sm H
            refine At.retn (rs := [.tmp 2]) [.int .u64 y2687] rfl ?_ ?_
            exact ⟨Rv.tmp rfl, trivial⟩
            exact ⟨I2686, v2682, s2690, rfl, f2689, (r2683.mono t2691)⟩

def p_wire_Reader_Small (K : Nat) (a0 : wire_Reader) (a1 : Int) : Option (Int × wire_Reader) :=
  (p_wire_Reader_Num K a0).bind fun (x2710_0, x2710_1) => (if a1 ≥ 0 then (p_wire_Reader_Must x2710_1 (decide (x2710_0 ≤ (IntKind.u64.wrap (max a1 0))))).bind fun x2723 => (p_wire_Reader_Err x2723).bind fun (x2735_0, x2735_1) => (if x2735_0 ≠ 0 then some (0, x2735_1) else some ((IntKind.i64.wrap x2710_0), x2735_1)) else (p_wire_Reader_Must x2710_1 false).bind fun x2748 => (p_wire_Reader_Err x2748).bind fun (x2760_0, x2760_1) => (if x2760_0 ≠ 0 then some (0, x2760_1) else some ((IntKind.i64.wrap x2710_0), x2760_1)))
theorem c_wire_Reader_Small {K : Nat} {h : Heap} {I : Nat → Prop} {b_a0 : Nat} {a0 : wire_Reader} {v0_a0 : Value} {a1 : Int} (s0 : St [some b_a0] h I h I [some b_a0]) (f_a0 : Box h b_a0 373 ((.bool a0.made : Value) :: v0_a0 :: (.int .i64 a0.e : Value) :: [] : List Value)) (r0_a0 : SlR (kI .u8) I h v0_a0 a0.b) {r : (Int × wire_Reader)} (H : p_wire_Reader_Small K a0 a1 = some r) :
    Fn Tryz.prog 143 [.pointer (some ⟨b_a0, 0, none⟩), .int .i64 a1] h (fun v h' => ∃ (I' : Nat → Prop) (w0s : Value) , St [some b_a0] h I h' I' [some b_a0] ∧ v = (.int .i64 r.1 : Value) ∧ Box h' b_a0 373 ((.bool r.2.made : Value) :: w0s :: (.int .i64 r.2.e : Value) :: [] : List Value) ∧ SlR (kI .u8) I' h' w0s r.2.b) := by
  unfold p_wire_Reader_Small at H
  refine Fn.of 24 Tryz.func143 rfl rfl ?_
  refine C.seq ?_
  refine C.region 1 rfl ?_
  refine X.val rfl rfl rfl (yAssign rfl) trivial ?_
  refine X.nil ?_
  refine At.then ?_
  refine C.seq ?_
  refine C.region 3 rfl ?_
  refine X.val rfl rfl rfl (yMove rfl) trivial ?_
  obtain ⟨x2710, e2711, H⟩ := bnd H
  have s2716 : St [some b_a0] h I h I ([some b_a0] ++ []) := s0.pick [0] rfl (by decide) (by rintro (_ | i) m h <;> first | exact h | (simp at h))
  refine X.call (all := [.pointer (some ⟨b_a0, 0, none⟩)]) Tryz.call178 rfl rfl rfl rfl rfl rfl (c_wire_Reader_Num s2716.left.lend f_a0 r0_a0 e2711) ?_
  obtain ⟨x2710_0, x2710_1⟩ := x2710
  rintro _ h2712 ⟨I2717, v2719, k2721, rfl, f2718, r2720⟩
  have s2714 : St [some b_a0] h I h2712 I2717 [some b_a0] := St.callS (L := [some b_a0]) (R := []) (L' := [some b_a0]) s2716 k2721
  have t2715 : Tr I h I2717 h2712 := St.callSTr (L := [some b_a0]) (R := []) (L' := [some b_a0]) s2716 k2721
  have p2713 := k2721.stp
  refine ⟨trivial, ?_⟩
  refine X.val rfl rfl rfl (yAssign rfl) trivial ?_
  refine X.nil ?_
  refine At.then ?_
  refine C.seq ?_
  refine C.region 11 rfl ?_
  refine X.val rfl rfl rfl (yMove rfl) trivial ?_
  refine X.val rfl rfl rfl (yMove rfl) trivial ?_
  by_cases g2722 : a1 ≥ 0
  · have H := ifT g2722 H
    refine X.val rfl rfl rfl (yBT g2722 (yGeq rfl rfl)) trivial ?_
    refine X.val rfl rfl rfl (yMove rfl) trivial ?_
    refine X.val rfl rfl rfl (yMove rfl) trivial ?_
    refine X.val rfl rfl rfl (yMove rfl) trivial ?_
    refine X.val rfl rfl rfl (yMax rfl rfl) trivial ?_
    refine X.val rfl rfl rfl (yConv Tryz.underlying3 Tryz.underlying24 rfl) trivial ?_
    refine X.val rfl rfl rfl (yLeq rfl rfl) trivial ?_
    refine X.val rfl rfl rfl (yPickT rfl rfl) trivial ?_
    obtain ⟨x2723, e2724, H⟩ := bnd H
    have s2729 : St [some b_a0] h I h2712 I2717 ([some b_a0] ++ []) := s2714.pick [0] rfl (by decide) (by rintro (_ | i) m h <;> first | exact h | (simp at h))
    refine X.call (all := [.pointer (some ⟨b_a0, 0, none⟩), .bool (decide (x2710_0 ≤ (IntKind.u64.wrap (max a1 0))))]) Tryz.call179 rfl rfl rfl rfl rfl rfl (c_wire_Reader_Must s2729.left.lend f2718 r2720 e2724) ?_
    rintro _ h2725 ⟨I2730, v2732, k2734, rfl, f2731, r2733⟩
    have s2727 : St [some b_a0] h I h2725 I2730 [some b_a0] := St.callS (L := [some b_a0]) (R := []) (L' := [some b_a0]) s2729 k2734
    have t2728 : Tr I2717 h2712 I2730 h2725 := St.callSTr (L := [some b_a0]) (R := []) (L' := [some b_a0]) s2729 k2734
    have p2726 := k2734.stp
    refine ⟨trivial, ?_⟩
    refine X.nil ?_
    refine At.then ?_
    refine C.seq ?_
    refine C.seq ?_
    refine C.region 3 rfl ?_
    refine X.val rfl rfl rfl (yMove rfl) trivial ?_
    obtain ⟨x2735, e2736, H⟩ := bnd H
    have s2741 : St [some b_a0] h I h2725 I2730 ([some b_a0] ++ []) := s2727.pick [0] rfl (by decide) (by rintro (_ | i) m h <;> first | exact h | (simp at h))
    refine X.call (all := [.pointer (some ⟨b_a0, 0, none⟩)]) Tryz.call148 rfl rfl rfl rfl rfl rfl (c_wire_Reader_Err s2741.left.lend f2731 r2733 e2736) ?_
    obtain ⟨x2735_0, x2735_1⟩ := x2735
    rintro _ h2737 ⟨I2742, v2744, k2746, rfl, f2743, r2745⟩
    have s2739 : St [some b_a0] h I h2737 I2742 [some b_a0] := St.callS (L := [some b_a0]) (R := []) (L' := [some b_a0]) s2741 k2746
    have t2740 : Tr I2730 h2725 I2742 h2737 := St.callSTr (L := [some b_a0]) (R := []) (L' := [some b_a0]) s2741 k2746
    have p2738 := k2746.stp
    refine ⟨trivial, ?_⟩
    by_cases g2747 : x2735_0 ≠ 0
    · have H := ifT g2747 H
      refine X.val rfl rfl rfl (yBT g2747 (yNeq rfl rfl)) trivial ?_
      refine X.nil ?_
      refine At.then ?_
      refine C.condT rfl ?_
      refine C.seq ?_
      refine C.region 1 rfl ?_
      refine X.val rfl rfl rfl (yAssign rfl) trivial ?_
      refine X.nil ?_
      refine At.then ?_
      refine C.ret ?_
      refine At.thenR ?_
      obtain rfl := sm H
      refine At.retn (rs := [.tmp 4]) [.int .i64 0] rfl ?_ ?_
      exact ⟨Rv.tmp rfl, trivial⟩
      exact ⟨I2742, v2744, s2739, rfl, f2743, r2745⟩
    · have H := ifF g2747 H
      refine X.val rfl rfl rfl (yBF g2747 (yNeq rfl rfl)) trivial ?_
      refine X.nil ?_
      refine At.then ?_
      refine C.condF rfl ?_
      refine C.skip ?_
      refine At.then ?_
      refine C.seq ?_
      refine C.region 3 rfl ?_
      refine X.val rfl rfl rfl (yMove rfl) trivial ?_
      refine X.val rfl rfl rfl (yConv Tryz.underlying24 Tryz.underlying3 rfl) trivial ?_
      refine X.val rfl rfl rfl (yAssign rfl) trivial ?_
      refine X.nil ?_
      refine At.then ?_
      refine C.ret ?_
      obtain rfl := sm H
      refine At.retn (rs := [.tmp 4]) [.int .i64 (IntKind.i64.wrap x2710_0)] rfl ?_ ?_
      exact ⟨Rv.tmp rfl, trivial⟩
      exact ⟨I2742, v2744, s2739, rfl, f2743, r2745⟩
  · have H := ifF g2722 H
    refine X.val rfl rfl rfl (yBF g2722 (yGeq rfl rfl)) trivial ?_
    refine X.val rfl rfl rfl (yMove rfl) trivial ?_
    refine X.skip rfl rfl rfl trivial ?_
    refine X.skip rfl rfl rfl trivial ?_
    refine X.skip rfl rfl rfl trivial ?_
    refine X.skip rfl rfl rfl trivial ?_
    refine X.skip rfl rfl rfl trivial ?_
    refine X.val rfl rfl rfl (yPickF rfl rfl) trivial ?_
    obtain ⟨x2748, e2749, H⟩ := bnd H
    have s2754 : St [some b_a0] h I h2712 I2717 ([some b_a0] ++ []) := s2714.pick [0] rfl (by decide) (by rintro (_ | i) m h <;> first | exact h | (simp at h))
    refine X.call (all := [.pointer (some ⟨b_a0, 0, none⟩), .bool false]) Tryz.call179 rfl rfl rfl rfl rfl rfl (c_wire_Reader_Must s2754.left.lend f2718 r2720 e2749) ?_
    rintro _ h2750 ⟨I2755, v2757, k2759, rfl, f2756, r2758⟩
    have s2752 : St [some b_a0] h I h2750 I2755 [some b_a0] := St.callS (L := [some b_a0]) (R := []) (L' := [some b_a0]) s2754 k2759
    have t2753 : Tr I2717 h2712 I2755 h2750 := St.callSTr (L := [some b_a0]) (R := []) (L' := [some b_a0]) s2754 k2759
    have p2751 := k2759.stp
    refine ⟨trivial, ?_⟩
    refine X.nil ?_
    refine At.then ?_
    refine C.seq ?_
    refine C.seq ?_
    refine C.region 3 rfl ?_
    refine X.val rfl rfl rfl (yMove rfl) trivial ?_
    obtain ⟨x2760, e2761, H⟩ := bnd H
    have s2766 : St [some b_a0] h I h2750 I2755 ([some b_a0] ++ []) := s2752.pick [0] rfl (by decide) (by rintro (_ | i) m h <;> first | exact h | (simp at h))
    refine X.call (all := [.pointer (some ⟨b_a0, 0, none⟩)]) Tryz.call148 rfl rfl rfl rfl rfl rfl (c_wire_Reader_Err s2766.left.lend f2756 r2758 e2761) ?_
    obtain ⟨x2760_0, x2760_1⟩ := x2760
    rintro _ h2762 ⟨I2767, v2769, k2771, rfl, f2768, r2770⟩
    have s2764 : St [some b_a0] h I h2762 I2767 [some b_a0] := St.callS (L := [some b_a0]) (R := []) (L' := [some b_a0]) s2766 k2771
    have t2765 : Tr I2755 h2750 I2767 h2762 := St.callSTr (L := [some b_a0]) (R := []) (L' := [some b_a0]) s2766 k2771
    have p2763 := k2771.stp
    refine ⟨trivial, ?_⟩
    by_cases g2772 : x2760_0 ≠ 0
    · have H := ifT g2772 H
      refine X.val rfl rfl rfl (yBT g2772 (yNeq rfl rfl)) trivial ?_
      refine X.nil ?_
      refine At.then ?_
      refine C.condT rfl ?_
      refine C.seq ?_
      refine C.region 1 rfl ?_
      refine X.val rfl rfl rfl (yAssign rfl) trivial ?_
      refine X.nil ?_
      refine At.then ?_
      refine C.ret ?_
      refine At.thenR ?_
      obtain rfl := sm H
      refine At.retn (rs := [.tmp 4]) [.int .i64 0] rfl ?_ ?_
      exact ⟨Rv.tmp rfl, trivial⟩
      exact ⟨I2767, v2769, s2764, rfl, f2768, r2770⟩
    · have H := ifF g2772 H
      refine X.val rfl rfl rfl (yBF g2772 (yNeq rfl rfl)) trivial ?_
      refine X.nil ?_
      refine At.then ?_
      refine C.condF rfl ?_
      refine C.skip ?_
      refine At.then ?_
      refine C.seq ?_
      refine C.region 3 rfl ?_
      refine X.val rfl rfl rfl (yMove rfl) trivial ?_
      refine X.val rfl rfl rfl (yConv Tryz.underlying24 Tryz.underlying3 rfl) trivial ?_
      refine X.val rfl rfl rfl (yAssign rfl) trivial ?_
      refine X.nil ?_
      refine At.then ?_
      refine C.ret ?_
      obtain rfl := sm H
      refine At.retn (rs := [.tmp 4]) [.int .i64 (IntKind.i64.wrap x2710_0)] rfl ?_ ?_
      exact ⟨Rv.tmp rfl, trivial⟩
      exact ⟨I2767, v2769, s2764, rfl, f2768, r2770⟩

def p_proto_lists_l1 (K : Nat) (x2872_0 : (Int)) : Nat → Int → proto_Msg → Option (Int × proto_Msg)
  | 0, _, _ => none
  | k2904 + 1, y2886, y2890 => (if y2886 < x2872_0 then none else some (y2886, y2890))
def p_proto_lists_l0 (K : Nat) (x2773_0 : (Int)) : Nat → Int → wire_Reader → proto_Msg → Option (Int × wire_Reader × proto_Msg)
  | 0, _, _, _ => none
  | k2808 + 1, y2787, y2789, y2794 => (if y2787 < x2773_0 then none else some (y2787, y2789, y2794))
def p_proto_lists_l2 (K : Nat) (x2913_0 : (Int)) : Nat → Int → proto_Msg → Option (Int × proto_Msg)
  | 0, _, _ => none
  | k2945 + 1, y2927, y2931 => (if y2927 < x2913_0 then none else some (y2927, y2931))
def p_proto_lists (K : Nat) (a0 : wire_Reader) (a1 : proto_Msg) : Option (wire_Reader × proto_Msg) :=
  (p_wire_Reader_Small K a0 16).bind fun (x2773_0, x2773_1) => (p_proto_lists_l0 K x2773_0 K 0 x2773_1 a1).bind fun (w2910, w2911, w2912) => (p_wire_Reader_Small K w2911 16).bind fun (x2913_0, x2913_1) => (p_proto_lists_l2 K x2913_0 K 0 w2912).bind fun (w2949, w2950) => some (x2913_1, w2950)
theorem c_proto_lists {K : Nat} {h : Heap} {I : Nat → Prop} {b_a0 : Nat} {a0 : wire_Reader} {v0_a0 : Value} {b_a1 : Nat} {a1 : proto_Msg} {c0_a1 : List Value} {v1_a1 : Value} {v2_a1 : Value} {v3_a1 : Value} (s0 : St [some b_a0, some b_a1] h I h I [some b_a0, some b_a1]) (f_a0 : Box h b_a0 373 ((.bool a0.made : Value) :: v0_a0 :: (.int .i64 a0.e : Value) :: [] : List Value)) (r0_a0 : SlR (kI .u8) I h v0_a0 a0.b) (f_a1 : Box h b_a1 77 ((.int .i64 a1.Kind : Value) :: (.int .i64 a1.From : Value) :: (.int .i64 a1.To : Value) :: (.int .i64 a1.Session : Value) :: (.int .i64 a1.Part : Value) :: c0_a1 ++ (v1_a1 :: v2_a1 :: v3_a1 :: []) : List Value)) (r0_a1 : (kArr 32 (kI .u8)).rp I h c0_a1 a1.Digest) (r1_a1 : SlR (kI .i64) I h v1_a1 a1.Places) (r2_a1 : SlR (kArr 32 (kI .u8)) I h v2_a1 a1.Digests) (r3_a1 : SlR k_pack_Keyed I h v3_a1 a1.Carts) {r : (wire_Reader × proto_Msg)} (H : p_proto_lists K a0 a1 = some r) :
    Fn Tryz.prog 145 [.pointer (some ⟨b_a0, 0, none⟩), .pointer (some ⟨b_a1, 0, none⟩)] h (fun v h' => ∃ (I' : Nat → Prop) (w0s : Value) (w1s : List Value) (w2s : Value) (w3s : Value) (w4s : Value) , St [some b_a0, some b_a1] h I h' I' [some b_a0, some b_a1] ∧ v = (.tuple #[] : Value) ∧ Box h' b_a0 373 ((.bool r.1.made : Value) :: w0s :: (.int .i64 r.1.e : Value) :: [] : List Value) ∧ SlR (kI .u8) I' h' w0s r.1.b ∧ Box h' b_a1 77 ((.int .i64 r.2.Kind : Value) :: (.int .i64 r.2.From : Value) :: (.int .i64 r.2.To : Value) :: (.int .i64 r.2.Session : Value) :: (.int .i64 r.2.Part : Value) :: w1s ++ (w2s :: w3s :: w4s :: []) : List Value) ∧ (kArr 32 (kI .u8)).rp I' h' w1s r.2.Digest ∧ SlR (kI .i64) I' h' w2s r.2.Places ∧ SlR (kArr 32 (kI .u8)) I' h' w3s r.2.Digests ∧ SlR k_pack_Keyed I' h' w4s r.2.Carts) := by
  unfold p_proto_lists at H
  refine Fn.of 36 Tryz.func145 rfl rfl ?_
  refine C.seq ?_
  refine C.seq ?_
  refine C.region 3 rfl ?_
  refine X.val rfl rfl rfl (yMove rfl) trivial ?_
  obtain ⟨x2773, e2774, H⟩ := bnd H
  have s2779 : St [some b_a0, some b_a1] h I h I ([some b_a0] ++ [some b_a1]) := s0.pick [0, 1] rfl (by decide) (by rintro (_ | _ | i) m h <;> first | exact h | (simp at h))
  refine X.call (all := [.pointer (some ⟨b_a0, 0, none⟩), .int .i64 16]) Tryz.call143 rfl rfl rfl rfl rfl rfl (c_wire_Reader_Small s2779.left.lend f_a0 r0_a0 e2774) ?_
  obtain ⟨x2773_0, x2773_1⟩ := x2773
  rintro _ h2775 ⟨I2780, v2782, k2784, rfl, f2781, r2783⟩
  have s2777 : St [some b_a0, some b_a1] h I h2775 I2780 [some b_a0, some b_a1] := St.callS (L := [some b_a0]) (R := [some b_a1]) (L' := [some b_a0]) s2779 k2784
  have t2778 : Tr I h I2780 h2775 := St.callSTr (L := [some b_a0]) (R := [some b_a1]) (L' := [some b_a0]) s2779 k2784
  have p2776 := k2784.stp
  refine ⟨trivial, ?_⟩
  refine X.val rfl rfl rfl (yMove rfl) trivial ?_
  refine X.nil ?_
  refine At.then ?_
  refine C.block ?_
  have b2792 := (f_a1.stp p2776 ((s0.sep 1 [0] rfl rfl rfl) _ rfl))
  obtain ⟨z2805, e2807, G2806⟩ := bnd H
  refine C.prune [(0, .pointer (some ⟨b_a0, 0, none⟩)), (1, .pointer (some ⟨b_a1, 0, none⟩)), (5, .int .i64 x2773_0), (6, .int .i64 0)] (fun a ha => (.cons ha rfl (.cons ha rfl (.cons ha rfl (.cons ha rfl ha.nil))))) ?_
  refine C.loop (fun k2808 e h2785 => ∃ (y2787 : Int) (y2789 : wire_Reader) (y2794 : proto_Msg) (v2790 : Value) (c2795 : List Value) (v2797 : Value) (v2799 : Value) (v2801 : Value) (I2786 : Nat → Prop), e = [(0, .pointer (some ⟨b_a0, 0, none⟩)), (1, .pointer (some ⟨b_a1, 0, none⟩)), (5, .int .i64 x2773_0), (6, .int .i64 y2787)] ∧ St [some b_a0, some b_a1] h I h2785 I2786 [some b_a0, some b_a1] ∧ Tr I2780 h2775 I2786 h2785 ∧ SlR (kI .u8) I2786 h2785 v2790 y2789.b ∧ Box h2785 b_a0 373 ((.bool y2789.made : Value) :: v2790 :: (.int .i64 y2789.e : Value) :: [] : List Value) ∧ ((kArr 32 (kI .u8))).rp I2786 h2785 c2795 y2794.Digest ∧ SlR (kI .i64) I2786 h2785 v2797 y2794.Places ∧ SlR (kArr 32 (kI .u8)) I2786 h2785 v2799 y2794.Digests ∧ SlR k_pack_Keyed I2786 h2785 v2801 y2794.Carts ∧ Box h2785 b_a1 77 ((.int .i64 y2794.Kind : Value) :: (.int .i64 y2794.From : Value) :: (.int .i64 y2794.To : Value) :: (.int .i64 y2794.Session : Value) :: (.int .i64 y2794.Part : Value) :: c2795 ++ (v2797 :: v2799 :: v2801 :: []) : List Value) ∧ p_proto_lists_l0 K x2773_0 k2808 y2787 y2789 y2794 = some z2805) K ⟨0, x2773_1, a1, v2782, c0_a1, v1_a1, v2_a1, v3_a1, I2780, rfl, s2777, Tr.refl _ _, r2783, f2781, ((kArr 32 (kI .u8)).mono r0_a1 t2778), (r1_a1.mono t2778), (r2_a1.mono t2778), (r3_a1.mono t2778), b2792, e2807⟩ ?_ ?_
  · rintro e h' ⟨_, _, _, _, _, _, _, _, _, _, _, _, _, _, _, _, _, _, _, H⟩; cases (show none = some _ from H)
  · rintro k2808 e h2785 ⟨y2787, y2789, y2794, v2790, c2795, v2797, v2799, v2801, I2786, rfl, s2803, t2804, r2791, f2788, r2796, r2798, r2800, r2802, f2793, H⟩
    rw [p_proto_lists_l0] at H
    refine C.seq ?_
    refine C.region 1 rfl ?_
    by_cases g2809 : y2787 < x2773_0
    · have H := ifT g2809 H
      refine X.val rfl rfl rfl (yBT g2809 (yLss rfl rfl)) trivial ?_
      refine X.nil ?_
      refine At.then ?_
      refine C.seq ?_
      refine C.condT rfl ?_
      refine C.skip ?_
      refine At.then ?_
      refine C.seq ?_
      refine C.block ?_
      refine C.regionD rfl (Stp [some b_a0, some b_a1] h2785) (.pas 0 (.pas 1 (.pas 2 (.pas 3 (.pas 5 (.alt 4 (.alt 6 (.alt 7 (.alt 8 (.pas 9 (.pas 10 (.alt 11 .nil .stop))) .stop) .stop) .stop) (.alt 6 (.alt 4 (.alt 7 (.alt 8 (.pas 9 (.pas 10 (.alt 11 .nil .stop))) .stop) .stop) (.alt 7 (.alt 4 (.alt 8 (.pas 9 (.pas 10 (.alt 11 .nil .stop))) .stop) .stop) .stop)) .stop))))))) (by kernel_rfl) (Stp.refl0 _ _) ?_
      have q2810 := Stp.refl0 [some b_a0, some b_a1] h2785
      refine X.pas rfl rfl rfl (fun _ _ => yMove rfl) ?_
      refine X.pas rfl rfl rfl (fun _ _ => yMove rfl) ?_
      refine X.pas rfl rfl rfl (fun _ _ => yNil rfl) ?_
      refine X.pas (v := .pointer (some ⟨b_a1, 37, none⟩)) rfl rfl rfl (fun _ _ => yField 67 37 Tryz.underlying77 Tryz.sizeOf67 rfl rfl rfl) ?_
      cases H
    · have H := ifF g2809 H
      refine X.val rfl rfl rfl (yBF g2809 (yLss rfl rfl)) trivial ?_
      refine X.nil ?_
      refine At.then ?_
      refine C.seq ?_
      refine C.condF rfl ?_
      refine C.exit ?_
      refine At.thenE ?_
      refine At.backE ?_
      obtain rfl := sm H
      have H := G2806
      try dsimp only at H
      refine At.blkE ?_
      refine At.then ?_
      refine C.seq ?_
      refine C.region 3 rfl ?_
      refine X.val rfl rfl rfl (yMove rfl) trivial ?_
      obtain ⟨x2872, e2873, H⟩ := bnd H
      have s2878 : St [some b_a0, some b_a1] h I h2785 I2786 ([some b_a0] ++ [some b_a1]) := s2803.pick [0, 1] rfl (by decide) (by rintro (_ | _ | i) m h <;> first | exact h | (simp at h))
      refine X.call (all := [.pointer (some ⟨b_a0, 0, none⟩), .int .i64 16]) Tryz.call143 rfl rfl rfl rfl rfl rfl (c_wire_Reader_Small s2878.left.lend f2788 r2791 e2873) ?_
      obtain ⟨x2872_0, x2872_1⟩ := x2872
      rintro _ h2874 ⟨I2879, v2881, k2883, rfl, f2880, r2882⟩
      have s2876 : St [some b_a0, some b_a1] h I h2874 I2879 [some b_a0, some b_a1] := St.callS (L := [some b_a0]) (R := [some b_a1]) (L' := [some b_a0]) s2878 k2883
      have t2877 : Tr I2786 h2785 I2879 h2874 := St.callSTr (L := [some b_a0]) (R := [some b_a1]) (L' := [some b_a0]) s2878 k2883
      have p2875 := k2883.stp
      refine ⟨trivial, ?_⟩
      refine X.val rfl rfl rfl (yMove rfl) trivial ?_
      refine X.nil ?_
      refine At.then ?_
      refine C.block ?_
      have b2888 := (f2793.stp p2875 ((s2803.sep 1 [0] rfl rfl rfl) _ rfl))
      obtain ⟨z2901, e2903, G2902⟩ := bnd H
      refine C.prune [(0, .pointer (some ⟨b_a0, 0, none⟩)), (1, .pointer (some ⟨b_a1, 0, none⟩)), (21, .int .i64 x2872_0), (22, .int .i64 0)] (fun a ha => (.cons ha rfl (.cons ha rfl (.cons ha rfl (.cons ha rfl ha.nil))))) ?_
      refine C.loop (fun k2904 e h2884 => ∃ (y2886 : Int) (y2890 : proto_Msg) (c2891 : List Value) (v2893 : Value) (v2895 : Value) (v2897 : Value) (I2885 : Nat → Prop), e = [(0, .pointer (some ⟨b_a0, 0, none⟩)), (1, .pointer (some ⟨b_a1, 0, none⟩)), (21, .int .i64 x2872_0), (22, .int .i64 y2886)] ∧ St [some b_a0, some b_a1] h I h2884 I2885 [some b_a0, some b_a1] ∧ Tr I2879 h2874 I2885 h2884 ∧ Box h2884 b_a0 373 ((.bool x2872_1.made : Value) :: v2881 :: (.int .i64 x2872_1.e : Value) :: [] : List Value) ∧ ((kArr 32 (kI .u8))).rp I2885 h2884 c2891 y2890.Digest ∧ SlR (kI .i64) I2885 h2884 v2893 y2890.Places ∧ SlR (kArr 32 (kI .u8)) I2885 h2884 v2895 y2890.Digests ∧ SlR k_pack_Keyed I2885 h2884 v2897 y2890.Carts ∧ Box h2884 b_a1 77 ((.int .i64 y2890.Kind : Value) :: (.int .i64 y2890.From : Value) :: (.int .i64 y2890.To : Value) :: (.int .i64 y2890.Session : Value) :: (.int .i64 y2890.Part : Value) :: c2891 ++ (v2893 :: v2895 :: v2897 :: []) : List Value) ∧ p_proto_lists_l1 K x2872_0 k2904 y2886 y2890 = some z2901) K ⟨0, y2794, c2795, v2797, v2799, v2801, I2879, rfl, s2876, Tr.refl _ _, f2880, ((kArr 32 (kI .u8)).mono r2796 t2877), (r2798.mono t2877), (r2800.mono t2877), (r2802.mono t2877), b2888, e2903⟩ ?_ ?_
      · rintro e h' ⟨_, _, _, _, _, _, _, _, _, _, _, _, _, _, _, _, H⟩; cases (show none = some _ from H)
      · rintro k2904 e h2884 ⟨y2886, y2890, c2891, v2893, v2895, v2897, I2885, rfl, s2899, t2900, f2887, r2892, r2894, r2896, r2898, f2889, H⟩
        rw [p_proto_lists_l1] at H
        refine C.seq ?_
        refine C.region 1 rfl ?_
        by_cases g2905 : y2886 < x2872_0
        · have H := ifT g2905 H
          refine X.val rfl rfl rfl (yBT g2905 (yLss rfl rfl)) trivial ?_
          refine X.nil ?_
          refine At.then ?_
          refine C.seq ?_
          refine C.condT rfl ?_
          refine C.skip ?_
          refine At.then ?_
          refine C.seq ?_
          refine C.block ?_
          refine C.regionD rfl (Stp [some b_a1] h2884) (.pas 0 (.pas 1 (.pas 2 (.pas 3 (.pas 5 (.alt 4 (.alt 6 (.alt 7 (.alt 8 (.pas 9 (.pas 10 (.alt 11 .nil .stop))) .stop) .stop) .stop) (.alt 6 (.alt 4 (.alt 7 (.alt 8 (.pas 9 (.pas 10 (.alt 11 .nil .stop))) .stop) .stop) (.alt 7 (.alt 4 (.alt 8 (.pas 9 (.pas 10 (.alt 11 .nil .stop))) .stop) .stop) .stop)) .stop))))))) (by kernel_rfl) (Stp.refl0 _ _) ?_
          have q2906 := Stp.refl0 [some b_a1] h2884
          refine X.pas rfl rfl rfl (fun _ _ => yMove rfl) ?_
          refine X.pas rfl rfl rfl (fun _ _ => yMove rfl) ?_
          refine X.pas rfl rfl rfl (fun _ _ => yNil rfl) ?_
          refine X.pas (v := .pointer (some ⟨b_a1, 38, none⟩)) rfl rfl rfl (fun _ _ => yField 75 38 Tryz.underlying77 Tryz.sizeOf75 rfl rfl rfl) ?_
          refine X.pas rfl rfl rfl (fun _ _ => yMove rfl) ?_
          refine X.fork ?_ ?_
          · have l2907 : c2891.length = 32 := (kArr 32 (kI .u8)).len r2892
            refine X.val (v := v2895) rfl rfl rfl (yLoadS (j := 38) Tryz.isAgg75 rfl (f2889).all rfl (by simp [l2907])) q2906 ?_
            cases H
          cases H
        · have H := ifF g2905 H
          refine X.val rfl rfl rfl (yBF g2905 (yLss rfl rfl)) trivial ?_
          refine X.nil ?_
          refine At.then ?_
          refine C.seq ?_
          refine C.condF rfl ?_
          refine C.exit ?_
          refine At.thenE ?_
          refine At.backE ?_
          obtain rfl := sm H
          have H := G2902
          try dsimp only at H
          refine At.blkE ?_
          obtain rfl := sm H
          refine At.endn (rs := []) [] rfl ?_ ?_
          exact trivial
          exact ⟨I2885, v2881, c2891, v2893, v2895, v2897, s2899, rfl, f2887, (r2882.mono t2900), f2889, r2892, r2894, r2896, r2898⟩

def p_wire_Reader_End (a0 : wire_Reader) : Option (Int × wire_Reader) :=
  (p_wire_Reader_Err a0).bind fun (x2951_0, x2951_1) => (if x2951_0 ≠ 0 then some (x2951_0, x2951_1) else (if (x2951_1.b.length : Int) > 0 then some (2, x2951_1) else some (0, x2951_1)))
theorem c_wire_Reader_End {h : Heap} {I : Nat → Prop} {b_a0 : Nat} {a0 : wire_Reader} {v0_a0 : Value} (s0 : St [some b_a0] h I h I [some b_a0]) (f_a0 : Box h b_a0 373 ((.bool a0.made : Value) :: v0_a0 :: (.int .i64 a0.e : Value) :: [] : List Value)) (r0_a0 : SlR (kI .u8) I h v0_a0 a0.b) {r : (Int × wire_Reader)} (H : p_wire_Reader_End a0 = some r) :
    Fn Tryz.prog 181 [.pointer (some ⟨b_a0, 0, none⟩)] h (fun v h' => ∃ (I' : Nat → Prop) (w0s : Value) , St [some b_a0] h I h' I' [some b_a0] ∧ v = (.int .i64 r.1 : Value) ∧ Box h' b_a0 373 ((.bool r.2.made : Value) :: w0s :: (.int .i64 r.2.e : Value) :: [] : List Value) ∧ SlR (kI .u8) I' h' w0s r.2.b) := by
  unfold p_wire_Reader_End at H
  refine Fn.of 15 Tryz.func181 rfl rfl ?_
  refine C.seq ?_
  refine C.region 1 rfl ?_
  refine X.val rfl rfl rfl (yAssign rfl) trivial ?_
  refine X.nil ?_
  refine At.then ?_
  refine C.seq ?_
  refine C.seq ?_
  refine C.region 3 rfl ?_
  refine X.val rfl rfl rfl (yMove rfl) trivial ?_
  obtain ⟨x2951, e2952, H⟩ := bnd H
  have s2957 : St [some b_a0] h I h I ([some b_a0] ++ []) := s0.pick [0] rfl (by decide) (by rintro (_ | i) m h <;> first | exact h | (simp at h))
  refine X.call (all := [.pointer (some ⟨b_a0, 0, none⟩)]) Tryz.call148 rfl rfl rfl rfl rfl rfl (c_wire_Reader_Err s2957.left.lend f_a0 r0_a0 e2952) ?_
  obtain ⟨x2951_0, x2951_1⟩ := x2951
  rintro _ h2953 ⟨I2958, v2960, k2962, rfl, f2959, r2961⟩
  have s2955 : St [some b_a0] h I h2953 I2958 [some b_a0] := St.callS (L := [some b_a0]) (R := []) (L' := [some b_a0]) s2957 k2962
  have t2956 : Tr I h I2958 h2953 := St.callSTr (L := [some b_a0]) (R := []) (L' := [some b_a0]) s2957 k2962
  have p2954 := k2962.stp
  refine ⟨trivial, ?_⟩
  refine X.val rfl rfl rfl (yAssign rfl) trivial ?_
  refine X.nil ?_
  refine At.then ?_
  refine C.seq ?_
  refine C.region 2 rfl ?_
  refine X.val rfl rfl rfl (yMove rfl) trivial ?_
  by_cases g2963 : x2951_0 ≠ 0
  · have H := ifT g2963 H
    refine X.val rfl rfl rfl (yBT g2963 (yNeq rfl rfl)) trivial ?_
    refine X.nil ?_
    refine At.then ?_
    refine C.condT rfl ?_
    refine C.seq ?_
    refine C.region 2 rfl ?_
    refine X.val rfl rfl rfl (yMove rfl) trivial ?_
    refine X.val rfl rfl rfl (yAssign rfl) trivial ?_
    refine X.nil ?_
    refine At.then ?_
    refine C.ret ?_
    refine At.thenR ?_
    obtain rfl := sm H
    refine At.retn (rs := [.tmp 2]) [.int .i64 x2951_0] rfl ?_ ?_
    exact ⟨Rv.tmp rfl, trivial⟩
    exact ⟨I2958, v2960, s2955, rfl, f2959, r2961⟩
  · have H := ifF g2963 H
    refine X.val rfl rfl rfl (yBF g2963 (yNeq rfl rfl)) trivial ?_
    refine X.nil ?_
    refine At.then ?_
    refine C.condF rfl ?_
    refine C.skip ?_
    refine At.then ?_
    refine C.seq ?_
    refine C.seq ?_
    refine C.region 6 rfl ?_
    refine X.val rfl rfl rfl (yMove rfl) trivial ?_
    refine X.val rfl rfl rfl (yNil rfl) trivial ?_
    refine X.val (v := .pointer (some ⟨b_a0, 1, none⟩)) rfl rfl rfl (yField 23 1 Tryz.underlying373 Tryz.sizeOf23 rfl rfl rfl) trivial ?_
    refine X.val (v := v2960) rfl rfl rfl (yLoadS (j := 1) Tryz.isAgg23 rfl (f2959).all rfl rfl) trivial ?_
    refine X.val rfl rfl rfl (yLenR Tryz.underlying23 rfl r2961) trivial ?_
    by_cases g2964 : (x2951_1.b.length : Int) > 0
    · have H := ifT g2964 H
      refine X.val rfl rfl rfl (yBT g2964 (yGtr rfl rfl)) trivial ?_
      refine X.nil ?_
      refine At.then ?_
      refine C.condT rfl ?_
      refine C.seq ?_
      refine C.region 1 rfl ?_
      refine X.val rfl rfl rfl (yAssign rfl) trivial ?_
      refine X.nil ?_
      refine At.then ?_
      refine C.ret ?_
      refine At.thenR ?_
      obtain rfl := sm H
      refine At.retn (rs := [.tmp 2]) [.int .i64 2] rfl ?_ ?_
      exact ⟨Rv.tmp rfl, trivial⟩
      exact ⟨I2958, v2960, s2955, rfl, f2959, r2961⟩
    · have H := ifF g2964 H
      refine X.val rfl rfl rfl (yBF g2964 (yGtr rfl rfl)) trivial ?_
      refine X.nil ?_
      refine At.then ?_
      refine C.condF rfl ?_
      refine C.skip ?_
      refine At.then ?_
      refine C.seq ?_
      refine C.region 1 rfl ?_
      refine X.val rfl rfl rfl (yAssign rfl) trivial ?_
      refine X.nil ?_
      refine At.then ?_
      refine C.ret ?_
      obtain rfl := sm H
      refine At.retn (rs := [.tmp 2]) [.int .i64 0] rfl ?_ ?_
      exact ⟨Rv.tmp rfl, trivial⟩
      exact ⟨I2958, v2960, s2955, rfl, f2959, r2961⟩

def p_pack_ReadAll_l0 (K : Nat) (x2978_0 : (Int)) : Nat → (List pack_Keyed) → Int → wire_Reader → Option ((List pack_Keyed) × Int × wire_Reader)
  | 0, _, _, _ => none
  | k3008 + 1, y2995, y2998, y3000 => (if y2998 < x2978_0 then (p_wire_Reader_Err y3000).bind fun (x3010_0, x3010_1) => (if x3010_0 ≠ 0 then some (y2995, y2998, x3010_1) else none) else some (y2995, y2998, y3000))
def p_pack_ReadAll (K : Nat) (a0 : (List Int)) : Option ((List pack_Keyed) × Int) :=
  (p_wire_From a0).bind fun x2965 => (p_wire_Reader_Small K x2965 2000).bind fun (x2978_0, x2978_1) => (p_pack_ReadAll_l0 K x2978_0 K ([] : (List pack_Keyed)) 0 x2978_1).bind fun (w3078, w3079, w3080) => (p_wire_Reader_End w3080).bind fun (x3081_0, x3081_1) => (if x3081_0 ≠ 0 then some (([] : (List pack_Keyed)), 3) else (p_pack_Right K w3078).bind fun x3097 => (bif (!x3097) then some (([] : (List pack_Keyed)), 3) else some (w3078, 0)))
theorem c_pack_ReadAll {K : Nat} {h : Heap} {I : Nat → Prop} (hI : ∀ b, I b → b < h.size) {v_a0 : Value} {a0 : (List Int)} (r_a0 : SlR (kI .u8) I h v_a0 a0) {r : ((List pack_Keyed) × Int)} (H : p_pack_ReadAll K a0 = some r) :
    Fn Tryz.prog 146 [v_a0] h (fun v h' => Stp [] h h' ∧ ∃ (u0 : Value), v = (.tuple #[u0, .int .i64 r.2] : Value) ∧ SlR k_pack_Keyed (Ex I h h') h' u0 r.1) := by
  unfold p_pack_ReadAll at H
  refine Fn.of 34 Tryz.func146 rfl rfl ?_
  have s0 := St.start hI
  refine C.seq ?_
  refine C.region 2 rfl ?_
  refine X.val rfl rfl rfl (yAssign rfl) trivial ?_
  refine X.val rfl rfl rfl (yAssign rfl) trivial ?_
  refine X.nil ?_
  refine At.then ?_
  refine C.seq ?_
  refine C.region 3 rfl ?_
  refine X.val rfl rfl rfl (yMove rfl) trivial ?_
  obtain ⟨x2965, e2966, H⟩ := bnd H
  have s2971 : St [] h I h I ([] ++ []) := s0.pick [] rfl (by decide) (by intro i m h; simp at h)
  refine X.call (all := [v_a0]) Tryz.call142 rfl rfl rfl rfl rfl rfl (c_wire_From s2971.left.lend r_a0 e2966) ?_
  rintro _ h2967 ⟨I2972, b2973, v2975, k2977, rfl, f2974, r2976⟩
  have s2969 : St [] h I h2967 I2972 [some b2973] := St.callS (L := []) (R := []) (L' := [some b2973]) s2971 k2977
  have t2970 : Tr I h I2972 h2967 := St.callSTr (L := []) (R := []) (L' := [some b2973]) s2971 k2977
  have p2968 := k2977.stp
  refine ⟨trivial, ?_⟩
  refine X.val rfl rfl rfl (yAssign rfl) trivial ?_
  refine X.nil ?_
  refine At.then ?_
  refine C.seq ?_
  refine C.region 1 rfl ?_
  refine X.val rfl rfl rfl (yAssign rfl) trivial ?_
  refine X.nil ?_
  refine At.then ?_
  refine C.seq ?_
  refine C.seq ?_
  refine C.region 3 rfl ?_
  refine X.val rfl rfl rfl (yMove rfl) trivial ?_
  obtain ⟨x2978, e2979, H⟩ := bnd H
  have s2984 : St [] h I h2967 I2972 ([some b2973] ++ []) := s2969.pick [0] rfl (by decide) (by rintro (_ | i) m h <;> first | exact h | (simp at h))
  refine X.call (all := [.pointer (some ⟨b2973, 0, none⟩), .int .i64 2000]) Tryz.call143 rfl rfl rfl rfl rfl rfl (c_wire_Reader_Small s2984.left.lend f2974 r2976 e2979) ?_
  obtain ⟨x2978_0, x2978_1⟩ := x2978
  rintro _ h2980 ⟨I2985, v2987, k2989, rfl, f2986, r2988⟩
  have s2982 : St [] h I h2980 I2985 [some b2973] := St.callS (L := [some b2973]) (R := []) (L' := [some b2973]) s2984 k2989
  have t2983 : Tr I2972 h2967 I2985 h2980 := St.callSTr (L := [some b2973]) (R := []) (L' := [some b2973]) s2984 k2989
  have p2981 := k2989.stp
  refine ⟨trivial, ?_⟩
  refine X.val rfl rfl rfl (yMove rfl) trivial ?_
  refine X.nil ?_
  refine At.then ?_
  refine C.block ?_
  have s2990 := s2982.addNone
  have o2992 : Own k_pack_Keyed 172 h2980 I2985 (.slice none 0 0) ([] : (List pack_Keyed)) := Own.nil
  obtain ⟨z3005, e3007, G3006⟩ := bnd H
  refine C.prune [(4, .pointer (some ⟨b2973, 0, none⟩)), (5, .slice none 0 0), (9, .int .i64 x2978_0), (10, .int .i64 0)] (fun a ha => (.cons ha rfl (.cons ha rfl (.cons ha rfl (.cons ha rfl ha.nil))))) ?_
  refine C.loop (fun k3008 e h2993 => ∃ (y2995 : (List pack_Keyed)) (y2998 : Int) (y3000 : wire_Reader) (v2996 : Value) (v3001 : Value) (I2994 : Nat → Prop), e = [(4, .pointer (some ⟨b2973, 0, none⟩)), (5, v2996), (9, .int .i64 x2978_0), (10, .int .i64 y2998)] ∧ St [] h I h2993 I2994 [v2996.ownBlock, some b2973] ∧ Tr I2985 h2980 I2994 h2993 ∧ Own k_pack_Keyed 172 h2993 I2994 v2996 y2995 ∧ SlR (kI .u8) I2994 h2993 v3001 y3000.b ∧ Box h2993 b2973 373 ((.bool y3000.made : Value) :: v3001 :: (.int .i64 y3000.e : Value) :: [] : List Value) ∧ p_pack_ReadAll_l0 K x2978_0 k3008 y2995 y2998 y3000 = some z3005) K ⟨([] : (List pack_Keyed)), 0, x2978_1, .slice none 0 0, v2987, I2985, rfl, s2990, Tr.refl _ _, o2992, (r2988.mono (Tr.refl I2985 h2980)), f2986, e3007⟩ ?_ ?_
  · rintro e h' ⟨_, _, _, _, _, _, _, _, _, _, _, _, H⟩; cases (show none = some _ from H)
  · rintro k3008 e h2993 ⟨y2995, y2998, y3000, v2996, v3001, I2994, rfl, s3003, t3004, o2997, r3002, f2999, H⟩
    rw [p_pack_ReadAll_l0] at H
    refine C.seq ?_
    refine C.region 1 rfl ?_
    by_cases g3009 : y2998 < x2978_0
    · have H := ifT g3009 H
      refine X.val rfl rfl rfl (yBT g3009 (yLss rfl rfl)) trivial ?_
      refine X.nil ?_
      refine At.then ?_
      refine C.seq ?_
      refine C.condT rfl ?_
      refine C.skip ?_
      refine At.then ?_
      refine C.seq ?_
      refine C.block ?_
      refine C.seq ?_
      refine C.seq ?_
      refine C.region 3 rfl ?_
      refine X.val rfl rfl rfl (yMove rfl) trivial ?_
      obtain ⟨x3010, e3011, H⟩ := bnd H
      have s3016 : St [] h I h2993 I2994 ([some b2973] ++ [v2996.ownBlock]) := s3003.pick [1, 0] rfl (by decide) (by rintro (_ | _ | i) m h <;> first | exact h | (simp at h))
      refine X.call (all := [.pointer (some ⟨b2973, 0, none⟩)]) Tryz.call148 rfl rfl rfl rfl rfl rfl (c_wire_Reader_Err s3016.left.lend f2999 r3002 e3011) ?_
      obtain ⟨x3010_0, x3010_1⟩ := x3010
      rintro _ h3012 ⟨I3017, v3019, k3021, rfl, f3018, r3020⟩
      have s3014 : St [] h I h3012 I3017 [some b2973, v2996.ownBlock] := St.callS (L := [some b2973]) (R := [v2996.ownBlock]) (L' := [some b2973]) s3016 k3021
      have t3015 : Tr I2994 h2993 I3017 h3012 := St.callSTr (L := [some b2973]) (R := [v2996.ownBlock]) (L' := [some b2973]) s3016 k3021
      have p3013 := k3021.stp
      refine ⟨trivial, ?_⟩
      by_cases g3022 : x3010_0 ≠ 0
      · have H := ifT g3022 H
        refine X.val rfl rfl rfl (yBT g3022 (yNeq rfl rfl)) trivial ?_
        refine X.nil ?_
        refine At.then ?_
        refine C.condT rfl ?_
        refine C.exit ?_
        refine At.thenE ?_
        refine At.blkX rfl ?_
        refine At.thenE ?_
        refine At.backE ?_
        obtain rfl := sm H
        have H := G3006
        try dsimp only at H
        refine At.blkE ?_
        refine At.then ?_
        refine C.seq ?_
        refine C.seq ?_
        refine C.region 8 rfl ?_
        refine X.val rfl rfl rfl (yMove rfl) trivial ?_
        obtain ⟨x3023, e3024, H⟩ := bnd H
        have s3029 : St [] h I h3012 I3017 ([some b2973] ++ [v2996.ownBlock]) := s3014.pick [0, 1] rfl (by decide) (by rintro (_ | _ | i) m h <;> first | exact h | (simp at h))
        refine X.call (all := [.pointer (some ⟨b2973, 0, none⟩)]) Tryz.call181 rfl rfl rfl rfl rfl rfl (c_wire_Reader_End s3029.left.lend f3018 r3020 e3024) ?_
        obtain ⟨x3023_0, x3023_1⟩ := x3023
        rintro _ h3025 ⟨I3030, v3032, k3034, rfl, f3031, r3033⟩
        have s3027 : St [] h I h3025 I3030 [some b2973, v2996.ownBlock] := St.callS (L := [some b2973]) (R := [v2996.ownBlock]) (L' := [some b2973]) s3029 k3034
        have t3028 : Tr I3017 h3012 I3030 h3025 := St.callSTr (L := [some b2973]) (R := [v2996.ownBlock]) (L' := [some b2973]) s3029 k3034
        have p3026 := k3034.stp
        refine ⟨trivial, ?_⟩
        by_cases g3035 : x3023_0 ≠ 0
        · have H := ifT g3035 H
          refine X.val rfl rfl rfl (yBT g3035 (yNeq rfl rfl)) trivial ?_
          refine X.val rfl rfl rfl (yMove rfl) trivial ?_
          refine X.skip rfl rfl rfl trivial ?_
          refine X.skip rfl rfl rfl trivial ?_
          refine X.skip rfl rfl rfl trivial ?_
          refine X.val rfl rfl rfl (yPickT rfl rfl) trivial ?_
          refine X.nil ?_
          refine At.then ?_
          refine C.condT rfl ?_
          refine C.seq ?_
          refine C.region 2 rfl ?_
          refine X.val rfl rfl rfl (yAssign rfl) trivial ?_
          refine X.val rfl rfl rfl (yAssign rfl) trivial ?_
          refine X.nil ?_
          refine At.then ?_
          refine C.ret ?_
          refine At.thenR ?_
          obtain rfl := sm H
          refine At.retn (rs := [.tmp 2, .tmp 3]) [.slice none 0 0, .int .i64 3] rfl ?_ ?_
          exact ⟨Rv.tmp rfl, Rv.tmp rfl, trivial⟩
          exact ⟨s3027.stp, .slice none 0 0, rfl, SlR.nil⟩
        · have H := ifF g3035 H
          refine X.val rfl rfl rfl (yBF g3035 (yNeq rfl rfl)) trivial ?_
          refine X.val rfl rfl rfl (yMove rfl) trivial ?_
          refine X.val rfl rfl rfl (yMove rfl) trivial ?_
          have t3036 : Tr I3030 h3025 (fun b => I3030 b ∨ some b = v2996.ownBlock) h3025 := fun b hb => ⟨.inl hb, rfl⟩
          have i3037 : ∀ b, (fun b => I3030 b ∨ some b = v2996.ownBlock) b → b < h3025.size := by rintro b (hb | e); exact s3027.ib b hb; exact s3027.at_ 1 e rfl
          have o3038 := ((o2997.stp t3015 p3013 (s3003.sep 0 [1] rfl rfl rfl)).stp t3028 p3026 (s3014.sep 1 [0] rfl rfl rfl))
          obtain ⟨x3039, e3040, H⟩ := bnd H
          refine X.call (all := [v2996]) Tryz.call98 rfl rfl rfl rfl rfl rfl (c_pack_Right i3037 (Own.read (I' := (fun b => I3030 b ∨ some b = v2996.ownBlock)) o3038 (fun _ hb => .inl hb) (fun b e => .inr e.symm)) e3040) ?_
          rintro _ h3041 ⟨p3042, rfl⟩
          have s3043 := s3027.call p3042
          have t3044 := s3027.callTr p3042
          refine ⟨trivial, ?_⟩
          cases g3045 : (!x3039)
          · have H := biFe g3045 H
            refine X.val rfl rfl rfl (yBE g3045 (yNot rfl)) trivial ?_
            refine X.val rfl rfl rfl (yPickF rfl rfl) trivial ?_
            refine X.nil ?_
            refine At.then ?_
            refine C.condF rfl ?_
            refine C.skip ?_
            refine At.then ?_
            refine C.seq ?_
            refine C.region 3 rfl ?_
            refine X.val rfl rfl rfl (yMove rfl) trivial ?_
            refine X.val rfl rfl rfl (yAssign rfl) trivial ?_
            refine X.val rfl rfl rfl (yAssign rfl) trivial ?_
            refine X.nil ?_
            refine At.then ?_
            refine C.ret ?_
            have o3046 := (((o2997.stp t3015 p3013 (s3003.sep 0 [1] rfl rfl rfl)).stp t3028 p3026 (s3014.sep 1 [0] rfl rfl rfl)).stp t3044 p3042 (by simp))
            have s3047 : St [] h I h3041 (fun b => (Ex I3030 h3025 h3041) b ∨ some b = v2996.ownBlock) [some b2973] := s3043.claim 1 rfl
            have t3048 : Tr (Ex I3030 h3025 h3041) h3041 (fun b => (Ex I3030 h3025 h3041) b ∨ some b = v2996.ownBlock) h3041 := fun b hb => ⟨.inl hb, rfl⟩
            have r3049 := Own.read (I' := (fun b => (Ex I3030 h3025 h3041) b ∨ some b = v2996.ownBlock)) o3046 (fun _ hb => .inl hb) (fun b e => .inr e.symm)
            obtain rfl := sm H
            refine At.retn (rs := [.tmp 2, .tmp 3]) [v2996, .int .i64 0] rfl ?_ ?_
            exact ⟨Rv.tmp rfl, Rv.tmp rfl, trivial⟩
            exact ⟨s3047.stp, v2996, rfl, (r3049.mono s3047.outTr)⟩
          · have H := biTe g3045 H
            refine X.val rfl rfl rfl (yBE g3045 (yNot rfl)) trivial ?_
            refine X.val rfl rfl rfl (yPickF rfl rfl) trivial ?_
            refine X.nil ?_
            refine At.then ?_
            refine C.condT rfl ?_
            refine C.seq ?_
            refine C.region 2 rfl ?_
            refine X.val rfl rfl rfl (yAssign rfl) trivial ?_
            refine X.val rfl rfl rfl (yAssign rfl) trivial ?_
            refine X.nil ?_
            refine At.then ?_
            refine C.ret ?_
            refine At.thenR ?_
            obtain rfl := sm H
            refine At.retn (rs := [.tmp 2, .tmp 3]) [.slice none 0 0, .int .i64 3] rfl ?_ ?_
            exact ⟨Rv.tmp rfl, Rv.tmp rfl, trivial⟩
            exact ⟨s3043.stp, .slice none 0 0, rfl, SlR.nil⟩
      · have H := ifF g3022 H
        refine X.val rfl rfl rfl (yBF g3022 (yNeq rfl rfl)) trivial ?_
        refine X.nil ?_
        refine At.then ?_
        refine C.condF rfl ?_
        refine C.skip ?_
        refine At.then ?_
        refine C.regionD rfl (Stp [] h3012) (.pas 0 (.pas 1 (.pas 4 (.alt 2 (.alt 3 (.alt 5 (.pas 6 (.alt 7 (.alt 8 (.pas 9 .nil) .stop) .stop)) .stop) (.alt 5 (.alt 3 (.pas 6 (.alt 7 (.alt 8 (.pas 9 .nil) .stop) .stop)) .stop) .stop)) .stop)))) (by kernel_rfl) (Stp.refl0 _ _) ?_
        have q3050 := Stp.refl0 [] h3012
        refine X.pas rfl rfl rfl (fun _ _ => yMove rfl) ?_
        refine X.pas rfl rfl rfl (fun _ _ => yMove rfl) ?_
        refine X.pas rfl rfl rfl (fun _ _ => yMove rfl) ?_
        cases H
    · have H := ifF g3009 H
      refine X.val rfl rfl rfl (yBF g3009 (yLss rfl rfl)) trivial ?_
      refine X.nil ?_
      refine At.then ?_
      refine C.seq ?_
      refine C.condF rfl ?_
      refine C.exit ?_
      refine At.thenE ?_
      refine At.backE ?_
      obtain rfl := sm H
      have H := G3006
      try dsimp only at H
      refine At.blkE ?_
      refine At.then ?_
      refine C.seq ?_
      refine C.seq ?_
      refine C.region 8 rfl ?_
      refine X.val rfl rfl rfl (yMove rfl) trivial ?_
      obtain ⟨x3051, e3052, H⟩ := bnd H
      have s3057 : St [] h I h2993 I2994 ([some b2973] ++ [v2996.ownBlock]) := s3003.pick [1, 0] rfl (by decide) (by rintro (_ | _ | i) m h <;> first | exact h | (simp at h))
      refine X.call (all := [.pointer (some ⟨b2973, 0, none⟩)]) Tryz.call181 rfl rfl rfl rfl rfl rfl (c_wire_Reader_End s3057.left.lend f2999 r3002 e3052) ?_
      obtain ⟨x3051_0, x3051_1⟩ := x3051
      rintro _ h3053 ⟨I3058, v3060, k3062, rfl, f3059, r3061⟩
      have s3055 : St [] h I h3053 I3058 [some b2973, v2996.ownBlock] := St.callS (L := [some b2973]) (R := [v2996.ownBlock]) (L' := [some b2973]) s3057 k3062
      have t3056 : Tr I2994 h2993 I3058 h3053 := St.callSTr (L := [some b2973]) (R := [v2996.ownBlock]) (L' := [some b2973]) s3057 k3062
      have p3054 := k3062.stp
      refine ⟨trivial, ?_⟩
      by_cases g3063 : x3051_0 ≠ 0
      · have H := ifT g3063 H
        refine X.val rfl rfl rfl (yBT g3063 (yNeq rfl rfl)) trivial ?_
        refine X.val rfl rfl rfl (yMove rfl) trivial ?_
        refine X.skip rfl rfl rfl trivial ?_
        refine X.skip rfl rfl rfl trivial ?_
        refine X.skip rfl rfl rfl trivial ?_
        refine X.val rfl rfl rfl (yPickT rfl rfl) trivial ?_
        refine X.nil ?_
        refine At.then ?_
        refine C.condT rfl ?_
        refine C.seq ?_
        refine C.region 2 rfl ?_
        refine X.val rfl rfl rfl (yAssign rfl) trivial ?_
        refine X.val rfl rfl rfl (yAssign rfl) trivial ?_
        refine X.nil ?_
        refine At.then ?_
        refine C.ret ?_
        refine At.thenR ?_
        obtain rfl := sm H
        refine At.retn (rs := [.tmp 2, .tmp 3]) [.slice none 0 0, .int .i64 3] rfl ?_ ?_
        exact ⟨Rv.tmp rfl, Rv.tmp rfl, trivial⟩
        exact ⟨s3055.stp, .slice none 0 0, rfl, SlR.nil⟩
      · have H := ifF g3063 H
        refine X.val rfl rfl rfl (yBF g3063 (yNeq rfl rfl)) trivial ?_
        refine X.val rfl rfl rfl (yMove rfl) trivial ?_
        refine X.val rfl rfl rfl (yMove rfl) trivial ?_
        have t3064 : Tr I3058 h3053 (fun b => I3058 b ∨ some b = v2996.ownBlock) h3053 := fun b hb => ⟨.inl hb, rfl⟩
        have i3065 : ∀ b, (fun b => I3058 b ∨ some b = v2996.ownBlock) b → b < h3053.size := by rintro b (hb | e); exact s3055.ib b hb; exact s3055.at_ 1 e rfl
        have o3066 := (o2997.stp t3056 p3054 (s3003.sep 0 [1] rfl rfl rfl))
        obtain ⟨x3067, e3068, H⟩ := bnd H
        refine X.call (all := [v2996]) Tryz.call98 rfl rfl rfl rfl rfl rfl (c_pack_Right i3065 (Own.read (I' := (fun b => I3058 b ∨ some b = v2996.ownBlock)) o3066 (fun _ hb => .inl hb) (fun b e => .inr e.symm)) e3068) ?_
        rintro _ h3069 ⟨p3070, rfl⟩
        have s3071 := s3055.call p3070
        have t3072 := s3055.callTr p3070
        refine ⟨trivial, ?_⟩
        cases g3073 : (!x3067)
        · have H := biFe g3073 H
          refine X.val rfl rfl rfl (yBE g3073 (yNot rfl)) trivial ?_
          refine X.val rfl rfl rfl (yPickF rfl rfl) trivial ?_
          refine X.nil ?_
          refine At.then ?_
          refine C.condF rfl ?_
          refine C.skip ?_
          refine At.then ?_
          refine C.seq ?_
          refine C.region 3 rfl ?_
          refine X.val rfl rfl rfl (yMove rfl) trivial ?_
          refine X.val rfl rfl rfl (yAssign rfl) trivial ?_
          refine X.val rfl rfl rfl (yAssign rfl) trivial ?_
          refine X.nil ?_
          refine At.then ?_
          refine C.ret ?_
          have o3074 := ((o2997.stp t3056 p3054 (s3003.sep 0 [1] rfl rfl rfl)).stp t3072 p3070 (by simp))
          have s3075 : St [] h I h3069 (fun b => (Ex I3058 h3053 h3069) b ∨ some b = v2996.ownBlock) [some b2973] := s3071.claim 1 rfl
          have t3076 : Tr (Ex I3058 h3053 h3069) h3069 (fun b => (Ex I3058 h3053 h3069) b ∨ some b = v2996.ownBlock) h3069 := fun b hb => ⟨.inl hb, rfl⟩
          have r3077 := Own.read (I' := (fun b => (Ex I3058 h3053 h3069) b ∨ some b = v2996.ownBlock)) o3074 (fun _ hb => .inl hb) (fun b e => .inr e.symm)
          obtain rfl := sm H
          refine At.retn (rs := [.tmp 2, .tmp 3]) [v2996, .int .i64 0] rfl ?_ ?_
          exact ⟨Rv.tmp rfl, Rv.tmp rfl, trivial⟩
          exact ⟨s3075.stp, v2996, rfl, (r3077.mono s3075.outTr)⟩
        · have H := biTe g3073 H
          refine X.val rfl rfl rfl (yBE g3073 (yNot rfl)) trivial ?_
          refine X.val rfl rfl rfl (yPickF rfl rfl) trivial ?_
          refine X.nil ?_
          refine At.then ?_
          refine C.condT rfl ?_
          refine C.seq ?_
          refine C.region 2 rfl ?_
          refine X.val rfl rfl rfl (yAssign rfl) trivial ?_
          refine X.val rfl rfl rfl (yAssign rfl) trivial ?_
          refine X.nil ?_
          refine At.then ?_
          refine C.ret ?_
          refine At.thenR ?_
          obtain rfl := sm H
          refine At.retn (rs := [.tmp 2, .tmp 3]) [.slice none 0 0, .int .i64 3] rfl ?_ ?_
          exact ⟨Rv.tmp rfl, Rv.tmp rfl, trivial⟩
          exact ⟨s3071.stp, .slice none 0 0, rfl, SlR.nil⟩

def p_wire_Reader_Left (a0 : wire_Reader) : Option (Int × wire_Reader) :=
  (p_wire_Reader_Err a0).bind fun (x3108_0, x3108_1) => (if x3108_0 ≠ 0 then some (0, x3108_1) else some ((x3108_1.b.length : Int), x3108_1))
theorem c_wire_Reader_Left {h : Heap} {I : Nat → Prop} {b_a0 : Nat} {a0 : wire_Reader} {v0_a0 : Value} (s0 : St [some b_a0] h I h I [some b_a0]) (f_a0 : Box h b_a0 373 ((.bool a0.made : Value) :: v0_a0 :: (.int .i64 a0.e : Value) :: [] : List Value)) (r0_a0 : SlR (kI .u8) I h v0_a0 a0.b) {r : (Int × wire_Reader)} (H : p_wire_Reader_Left a0 = some r) :
    Fn Tryz.prog 147 [.pointer (some ⟨b_a0, 0, none⟩)] h (fun v h' => ∃ (I' : Nat → Prop) (w0s : Value) , St [some b_a0] h I h' I' [some b_a0] ∧ v = (.int .i64 r.1 : Value) ∧ Box h' b_a0 373 ((.bool r.2.made : Value) :: w0s :: (.int .i64 r.2.e : Value) :: [] : List Value) ∧ SlR (kI .u8) I' h' w0s r.2.b) := by
  unfold p_wire_Reader_Left at H
  refine Fn.of 11 Tryz.func147 rfl rfl ?_
  refine C.seq ?_
  refine C.region 1 rfl ?_
  refine X.val rfl rfl rfl (yAssign rfl) trivial ?_
  refine X.nil ?_
  refine At.then ?_
  refine C.seq ?_
  refine C.seq ?_
  refine C.region 3 rfl ?_
  refine X.val rfl rfl rfl (yMove rfl) trivial ?_
  obtain ⟨x3108, e3109, H⟩ := bnd H
  have s3114 : St [some b_a0] h I h I ([some b_a0] ++ []) := s0.pick [0] rfl (by decide) (by rintro (_ | i) m h <;> first | exact h | (simp at h))
  refine X.call (all := [.pointer (some ⟨b_a0, 0, none⟩)]) Tryz.call148 rfl rfl rfl rfl rfl rfl (c_wire_Reader_Err s3114.left.lend f_a0 r0_a0 e3109) ?_
  obtain ⟨x3108_0, x3108_1⟩ := x3108
  rintro _ h3110 ⟨I3115, v3117, k3119, rfl, f3116, r3118⟩
  have s3112 : St [some b_a0] h I h3110 I3115 [some b_a0] := St.callS (L := [some b_a0]) (R := []) (L' := [some b_a0]) s3114 k3119
  have t3113 : Tr I h I3115 h3110 := St.callSTr (L := [some b_a0]) (R := []) (L' := [some b_a0]) s3114 k3119
  have p3111 := k3119.stp
  refine ⟨trivial, ?_⟩
  by_cases g3120 : x3108_0 ≠ 0
  · have H := ifT g3120 H
    refine X.val rfl rfl rfl (yBT g3120 (yNeq rfl rfl)) trivial ?_
    refine X.nil ?_
    refine At.then ?_
    refine C.condT rfl ?_
    refine C.seq ?_
    refine C.region 1 rfl ?_
    refine X.val rfl rfl rfl (yAssign rfl) trivial ?_
    refine X.nil ?_
    refine At.then ?_
    refine C.ret ?_
    refine At.thenR ?_
    obtain rfl := sm H
    refine At.retn (rs := [.tmp 2]) [.int .i64 0] rfl ?_ ?_
    exact ⟨Rv.tmp rfl, trivial⟩
    exact ⟨I3115, v3117, s3112, rfl, f3116, r3118⟩
  · have H := ifF g3120 H
    refine X.val rfl rfl rfl (yBF g3120 (yNeq rfl rfl)) trivial ?_
    refine X.nil ?_
    refine At.then ?_
    refine C.condF rfl ?_
    refine C.skip ?_
    refine At.then ?_
    refine C.seq ?_
    refine C.region 6 rfl ?_
    refine X.val rfl rfl rfl (yMove rfl) trivial ?_
    refine X.val rfl rfl rfl (yNil rfl) trivial ?_
    refine X.val (v := .pointer (some ⟨b_a0, 1, none⟩)) rfl rfl rfl (yField 23 1 Tryz.underlying373 Tryz.sizeOf23 rfl rfl rfl) trivial ?_
    refine X.val (v := v3117) rfl rfl rfl (yLoadS (j := 1) Tryz.isAgg23 rfl (f3116).all rfl rfl) trivial ?_
    refine X.val rfl rfl rfl (yLenR Tryz.underlying23 rfl r3118) trivial ?_
    refine X.val rfl rfl rfl (yAssign rfl) trivial ?_
    refine X.nil ?_
    refine At.then ?_
    refine C.ret ?_
    obtain rfl := sm H
    refine At.retn (rs := [.tmp 2]) [.int .i64 (x3108_1.b.length : Int)] rfl ?_ ?_
    exact ⟨Rv.tmp rfl, trivial⟩
    exact ⟨I3115, v3117, s3112, rfl, f3116, r3118⟩

def p_proto_Read (K : Nat) (a0 : (List Int)) : Option (proto_Msg × Int) :=
  (p_wire_From a0).bind fun x3131 => (p_wire_Reader_Small K x3131 7).bind fun (x3144_0, x3144_1) => (p_wire_Reader_Small K x3144_1 8).bind fun (x3156_0, x3156_1) => (p_wire_Reader_Small K x3156_1 8).bind fun (x3168_0, x3168_1) => (p_wire_Reader_Small K x3168_1 1099511627776).bind fun (x3180_0, x3180_1) => (p_wire_Reader_Small K x3180_1 7).bind fun (x3192_0, x3192_1) => (if x3144_0 = 1 then none else (p_proto_lists K x3192_1 (⟨x3144_0, x3156_0, x3168_0, x3180_0, x3192_0, (List.replicate 32 (0 : Int)), ([] : (List Int)), ([] : (List (List Int))), ([] : (List pack_Keyed))⟩ : proto_Msg)).bind fun (x3229_0, x3229_1) => (p_wire_Reader_Left x3229_0).bind fun (x3250_0, x3250_1) => (if 0 ≤ (IntKind.i64.wrap ((a0.length : Int) - x3250_0)) ∧ (IntKind.i64.wrap ((a0.length : Int) - x3250_0)).toNat ≤ a0.length then (p_pack_ReadAll K (a0.drop ((IntKind.i64.wrap ((a0.length : Int) - x3250_0)).toNat))).bind fun (x3271_0, x3271_1) => (p_wire_Reader_Err x3250_1).bind fun (x3288_0, x3288_1) => (if x3288_0 ≠ 0 then some ((⟨0, 0, 0, 0, 0, (List.replicate 32 (0 : Int)), ([] : (List Int)), ([] : (List (List Int))), ([] : (List pack_Keyed))⟩ : proto_Msg), 3) else (if x3271_1 ≠ 0 then some ((⟨0, 0, 0, 0, 0, (List.replicate 32 (0 : Int)), ([] : (List Int)), ([] : (List (List Int))), ([] : (List pack_Keyed))⟩ : proto_Msg), 3) else (p_proto_Right K (⟨x3229_1.Kind, x3229_1.From, x3229_1.To, x3229_1.Session, x3229_1.Part, x3229_1.Digest, x3229_1.Places, x3229_1.Digests, x3271_0⟩ : proto_Msg)).bind fun x3332 => (bif (!x3332) then some ((⟨0, 0, 0, 0, 0, (List.replicate 32 (0 : Int)), ([] : (List Int)), ([] : (List (List Int))), ([] : (List pack_Keyed))⟩ : proto_Msg), 3) else some ((⟨x3229_1.Kind, x3229_1.From, x3229_1.To, x3229_1.Session, x3229_1.Part, x3229_1.Digest, x3229_1.Places, x3229_1.Digests, x3271_0⟩ : proto_Msg), 0)))) else none))
theorem c_proto_Read {K : Nat} {h : Heap} {I : Nat → Prop} (hI : ∀ b, I b → b < h.size) {v_a0 : Value} {a0 : (List Int)} (r_a0 : SlR (kI .u8) I h v_a0 a0) {r : (proto_Msg × Int)} (H : p_proto_Read K a0 = some r) :
    Fn Tryz.prog 40 [v_a0] h (fun v h' => Stp [] h h' ∧ ∃ (u0 : List Value), v = (.tuple #[.agg u0.toArray, .int .i64 r.2] : Value) ∧ (k_proto_Msg).rp (Ex I h h') h' u0 r.1) := by
  unfold p_proto_Read at H
  refine Fn.of 56 Tryz.func40 rfl rfl ?_
  have s0 := St.start hI
  refine C.seq ?_
  refine C.region 2 rfl ?_
  obtain ⟨c3121, e3122⟩ : ∃ c : List Value, c = (List.replicate 32 (.int .u8 0 : Value)) := ⟨_, rfl⟩
  have r3123 : (kArr 32 (kI .u8)).rp I h c3121 (List.replicate 32 (0 : Int)) := by rw [e3122]; exact z_T65
  refine X.ef rfl rfl rfl (eAlloc (zs := ((.int .i64 0 : Value) :: (.int .i64 0 : Value) :: (.int .i64 0 : Value) :: (.int .i64 0 : Value) :: (.int .i64 0 : Value) :: (List.replicate 32 (.int .u8 0 : Value)) ++ ((.slice none 0 0 : Value) :: (.slice none 0 0 : Value) :: (.slice none 0 0 : Value) :: []) : List Value)) Tryz.zeroValue77 rfl) ?_
  rintro _ h3125 ⟨rfl, e3130⟩
  obtain ⟨b3124, e3130b⟩ : ∃ b, b = h.size := ⟨_, rfl⟩
  rw [← e3130b]
  have f3129 : Box h3125 b3124 77 ((.int .i64 0 : Value) :: (.int .i64 0 : Value) :: (.int .i64 0 : Value) :: (.int .i64 0 : Value) :: (.int .i64 0 : Value) :: c3121 ++ ((.slice none 0 0 : Value) :: (.slice none 0 0 : Value) :: (.slice none 0 0 : Value) :: []) : List Value) := by subst e3130; subst e3130b; rw [e3122]; exact Box.new _ _ _
  have p3127 : Stp [] h h3125 := by subst e3130; exact Stp.push _ _
  have s3128 : St [] h I h3125 I (some b3124 :: []) := by subst e3130; subst e3130b; exact s0.new _
  have t3126 := s0.tr p3127 (by simp) (fun _ hb => hb)
  clear e3130 e3130b
  refine ⟨trivial, ?_⟩
  refine X.val rfl rfl rfl (yAssign rfl) trivial ?_
  refine X.nil ?_
  refine At.then ?_
  refine C.seq ?_
  refine C.region 3 rfl ?_
  refine X.val rfl rfl rfl (yMove rfl) trivial ?_
  obtain ⟨x3131, e3132, H⟩ := bnd H
  have s3137 : St [] h I h3125 I ([] ++ [some b3124]) := s3128.pick [0] rfl (by decide) (by rintro (_ | i) m h <;> first | exact h | (simp at h))
  refine X.call (all := [v_a0]) Tryz.call142 rfl rfl rfl rfl rfl rfl (c_wire_From s3137.left.lend (r_a0.mono t3126) e3132) ?_
  rintro _ h3133 ⟨I3138, b3139, v3141, k3143, rfl, f3140, r3142⟩
  have s3135 : St [] h I h3133 I3138 [some b3139, some b3124] := St.callS (L := []) (R := [some b3124]) (L' := [some b3139]) s3137 k3143
  have t3136 : Tr I h3125 I3138 h3133 := St.callSTr (L := []) (R := [some b3124]) (L' := [some b3139]) s3137 k3143
  have p3134 := k3143.stp
  refine ⟨trivial, ?_⟩
  refine X.val rfl rfl rfl (yAssign rfl) trivial ?_
  refine X.nil ?_
  refine At.then ?_
  refine C.seq ?_
  refine C.region 13 rfl ?_
  refine X.val rfl rfl rfl (yMove rfl) trivial ?_
  obtain ⟨x3144, e3145, H⟩ := bnd H
  have s3150 : St [] h I h3133 I3138 ([some b3139] ++ [some b3124]) := s3135.pick [0, 1] rfl (by decide) (by rintro (_ | _ | i) m h <;> first | exact h | (simp at h))
  refine X.call (all := [.pointer (some ⟨b3139, 0, none⟩), .int .i64 7]) Tryz.call143 rfl rfl rfl rfl rfl rfl (c_wire_Reader_Small s3150.left.lend f3140 r3142 e3145) ?_
  obtain ⟨x3144_0, x3144_1⟩ := x3144
  rintro _ h3146 ⟨I3151, v3153, k3155, rfl, f3152, r3154⟩
  have s3148 : St [] h I h3146 I3151 [some b3139, some b3124] := St.callS (L := [some b3139]) (R := [some b3124]) (L' := [some b3139]) s3150 k3155
  have t3149 : Tr I3138 h3133 I3151 h3146 := St.callSTr (L := [some b3139]) (R := [some b3124]) (L' := [some b3139]) s3150 k3155
  have p3147 := k3155.stp
  refine ⟨trivial, ?_⟩
  refine X.val rfl rfl rfl (yMove rfl) trivial ?_
  obtain ⟨x3156, e3157, H⟩ := bnd H
  have s3162 : St [] h I h3146 I3151 ([some b3139] ++ [some b3124]) := s3148.pick [0, 1] rfl (by decide) (by rintro (_ | _ | i) m h <;> first | exact h | (simp at h))
  refine X.call (all := [.pointer (some ⟨b3139, 0, none⟩), .int .i64 8]) Tryz.call143 rfl rfl rfl rfl rfl rfl (c_wire_Reader_Small s3162.left.lend f3152 r3154 e3157) ?_
  obtain ⟨x3156_0, x3156_1⟩ := x3156
  rintro _ h3158 ⟨I3163, v3165, k3167, rfl, f3164, r3166⟩
  have s3160 : St [] h I h3158 I3163 [some b3139, some b3124] := St.callS (L := [some b3139]) (R := [some b3124]) (L' := [some b3139]) s3162 k3167
  have t3161 : Tr I3151 h3146 I3163 h3158 := St.callSTr (L := [some b3139]) (R := [some b3124]) (L' := [some b3139]) s3162 k3167
  have p3159 := k3167.stp
  refine ⟨trivial, ?_⟩
  refine X.val rfl rfl rfl (yMove rfl) trivial ?_
  obtain ⟨x3168, e3169, H⟩ := bnd H
  have s3174 : St [] h I h3158 I3163 ([some b3139] ++ [some b3124]) := s3160.pick [0, 1] rfl (by decide) (by rintro (_ | _ | i) m h <;> first | exact h | (simp at h))
  refine X.call (all := [.pointer (some ⟨b3139, 0, none⟩), .int .i64 8]) Tryz.call143 rfl rfl rfl rfl rfl rfl (c_wire_Reader_Small s3174.left.lend f3164 r3166 e3169) ?_
  obtain ⟨x3168_0, x3168_1⟩ := x3168
  rintro _ h3170 ⟨I3175, v3177, k3179, rfl, f3176, r3178⟩
  have s3172 : St [] h I h3170 I3175 [some b3139, some b3124] := St.callS (L := [some b3139]) (R := [some b3124]) (L' := [some b3139]) s3174 k3179
  have t3173 : Tr I3163 h3158 I3175 h3170 := St.callSTr (L := [some b3139]) (R := [some b3124]) (L' := [some b3139]) s3174 k3179
  have p3171 := k3179.stp
  refine ⟨trivial, ?_⟩
  refine X.val rfl rfl rfl (yMove rfl) trivial ?_
  obtain ⟨x3180, e3181, H⟩ := bnd H
  have s3186 : St [] h I h3170 I3175 ([some b3139] ++ [some b3124]) := s3172.pick [0, 1] rfl (by decide) (by rintro (_ | _ | i) m h <;> first | exact h | (simp at h))
  refine X.call (all := [.pointer (some ⟨b3139, 0, none⟩), .int .i64 1099511627776]) Tryz.call143 rfl rfl rfl rfl rfl rfl (c_wire_Reader_Small s3186.left.lend f3176 r3178 e3181) ?_
  obtain ⟨x3180_0, x3180_1⟩ := x3180
  rintro _ h3182 ⟨I3187, v3189, k3191, rfl, f3188, r3190⟩
  have s3184 : St [] h I h3182 I3187 [some b3139, some b3124] := St.callS (L := [some b3139]) (R := [some b3124]) (L' := [some b3139]) s3186 k3191
  have t3185 : Tr I3175 h3170 I3187 h3182 := St.callSTr (L := [some b3139]) (R := [some b3124]) (L' := [some b3139]) s3186 k3191
  have p3183 := k3191.stp
  refine ⟨trivial, ?_⟩
  refine X.val rfl rfl rfl (yMove rfl) trivial ?_
  obtain ⟨x3192, e3193, H⟩ := bnd H
  have s3198 : St [] h I h3182 I3187 ([some b3139] ++ [some b3124]) := s3184.pick [0, 1] rfl (by decide) (by rintro (_ | _ | i) m h <;> first | exact h | (simp at h))
  refine X.call (all := [.pointer (some ⟨b3139, 0, none⟩), .int .i64 7]) Tryz.call143 rfl rfl rfl rfl rfl rfl (c_wire_Reader_Small s3198.left.lend f3188 r3190 e3193) ?_
  obtain ⟨x3192_0, x3192_1⟩ := x3192
  rintro _ h3194 ⟨I3199, v3201, k3203, rfl, f3200, r3202⟩
  have s3196 : St [] h I h3194 I3199 [some b3139, some b3124] := St.callS (L := [some b3139]) (R := [some b3124]) (L' := [some b3139]) s3198 k3203
  have t3197 : Tr I3187 h3182 I3199 h3194 := St.callSTr (L := [some b3139]) (R := [some b3124]) (L' := [some b3139]) s3198 k3203
  have p3195 := k3203.stp
  refine ⟨trivial, ?_⟩
  obtain ⟨c3204, e3205⟩ : ∃ c : List Value, c = (List.replicate 32 (.int .u8 0 : Value)) := ⟨_, rfl⟩
  have r3206 : (kArr 32 (kI .u8)).rp I3199 h3194 c3204 (List.replicate 32 (0 : Int)) := by rw [e3205]; exact z_T65
  have l3207 : c3204.length = 32 := (kArr 32 (kI .u8)).len r3206
  refine X.val (v := .agg (((.int .i64 x3144_0 : Value) :: (.int .i64 x3156_0 : Value) :: (.int .i64 x3168_0 : Value) :: (.int .i64 x3180_0 : Value) :: (.int .i64 x3192_0 : Value) :: c3204 ++ ((.slice none 0 0 : Value) :: (.slice none 0 0 : Value) :: (.slice none 0 0 : Value) :: []) : List Value)).toArray) rfl rfl rfl (yBuild (out := ((.int .i64 x3144_0 : Value) :: (.int .i64 x3156_0 : Value) :: (.int .i64 x3168_0 : Value) :: (.int .i64 x3180_0 : Value) :: (.int .i64 x3192_0 : Value) :: c3204 ++ ((.slice none 0 0 : Value) :: (.slice none 0 0 : Value) :: (.slice none 0 0 : Value) :: []) : List Value)) [1, 1, 1, 1, 1, 32, 1, 1, 1] [((.int .i64 0 : Value) :: [] : List Value), ((.int .i64 0 : Value) :: [] : List Value), ((.int .i64 0 : Value) :: [] : List Value), ((.int .i64 0 : Value) :: [] : List Value), ((.int .i64 0 : Value) :: [] : List Value), List.replicate 32 (.int .u8 0 : Value), ((.slice none 0 0 : Value) :: [] : List Value), ((.slice none 0 0 : Value) :: [] : List Value), ((.slice none 0 0 : Value) :: [] : List Value)] Tryz.zeroValue77 rfl pl_T77 rfl rfl (by simp [okp, vInt, vBool, vStr, vSl, vPtr, vAgg, l3207]) (by simp [setAll, vInt, vBool, vStr, vSl, vPtr, vAgg, e3205])) trivial ?_
  obtain ⟨c3208, e3209⟩ : ∃ c : List Value, c = (List.replicate 32 (.int .u8 0 : Value)) := ⟨_, rfl⟩
  have r3210 : (kArr 32 (kI .u8)).rp I3199 h3194 c3208 (List.replicate 32 (0 : Int)) := by rw [e3209]; exact z_T65
  refine X.ef rfl rfl rfl (eAlloc (zs := ((.int .i64 0 : Value) :: (.int .i64 0 : Value) :: (.int .i64 0 : Value) :: (.int .i64 0 : Value) :: (.int .i64 0 : Value) :: (List.replicate 32 (.int .u8 0 : Value)) ++ ((.slice none 0 0 : Value) :: (.slice none 0 0 : Value) :: (.slice none 0 0 : Value) :: []) : List Value)) Tryz.zeroValue77 rfl) ?_
  rintro _ h3212 ⟨rfl, e3217⟩
  obtain ⟨b3211, e3217b⟩ : ∃ b, b = h3194.size := ⟨_, rfl⟩
  rw [← e3217b]
  have f3216 : Box h3212 b3211 77 ((.int .i64 0 : Value) :: (.int .i64 0 : Value) :: (.int .i64 0 : Value) :: (.int .i64 0 : Value) :: (.int .i64 0 : Value) :: c3208 ++ ((.slice none 0 0 : Value) :: (.slice none 0 0 : Value) :: (.slice none 0 0 : Value) :: []) : List Value) := by subst e3217; subst e3217b; rw [e3209]; exact Box.new _ _ _
  have p3214 : Stp [] h3194 h3212 := by subst e3217; exact Stp.push _ _
  have s3215 : St [] h I h3212 I3199 (some b3211 :: [some b3139, some b3124]) := by subst e3217; subst e3217b; exact s3196.new _
  have t3213 := s3196.tr p3214 (by simp) (fun _ hb => hb)
  clear e3217 e3217b
  refine ⟨trivial, ?_⟩
  have l3218 : c3208.length = 32 := (kArr 32 (kI .u8)).len r3210
  have l3219 : c3204.length = 32 := (kArr 32 (kI .u8)).len r3206
  refine X.ef rfl rfl rfl (eStore (vs := ((.int .i64 x3144_0 : Value) :: (.int .i64 x3156_0 : Value) :: (.int .i64 x3168_0 : Value) :: (.int .i64 x3180_0 : Value) :: (.int .i64 x3192_0 : Value) :: c3204 ++ ((.slice none 0 0 : Value) :: (.slice none 0 0 : Value) :: (.slice none 0 0 : Value) :: []) : List Value)) Tryz.sizeOf77 rfl rfl rfl (by simp [l3219]) (by simp [ones, ones_append, oInt, oBool, oStr, oSl, oPtr, (kArr 32 (kI .u8)).one r3206]) f3216 (by simp [l3218, l3219])) ?_
  rintro _ h3220 ⟨rfl, e3221⟩
  have f3225 : Box h3220 b3211 77 ((.int .i64 x3144_0 : Value) :: (.int .i64 x3156_0 : Value) :: (.int .i64 x3168_0 : Value) :: (.int .i64 x3180_0 : Value) :: (.int .i64 x3192_0 : Value) :: c3204 ++ ((.slice none 0 0 : Value) :: (.slice none 0 0 : Value) :: (.slice none 0 0 : Value) :: []) : List Value) := by subst e3221; exact Box.reset f3216 (by have k := splice_mid ((.int .i64 x3144_0 : Value) :: (.int .i64 x3156_0 : Value) :: (.int .i64 x3168_0 : Value) :: (.int .i64 x3180_0 : Value) :: (.int .i64 x3192_0 : Value) :: c3204 ++ ((.slice none 0 0 : Value) :: (.slice none 0 0 : Value) :: (.slice none 0 0 : Value) :: []) : List Value) ((.int .i64 0 : Value) :: (.int .i64 0 : Value) :: (.int .i64 0 : Value) :: (.int .i64 0 : Value) :: (.int .i64 0 : Value) :: c3208 ++ ((.slice none 0 0 : Value) :: (.slice none 0 0 : Value) :: (.slice none 0 0 : Value) :: []) : List Value) [] ([] : List Value) (by simp [l3218, l3219]); simpa using k)
  have p3222 : Stp [some b3211] h3212 h3220 := by subst e3221; exact Stp.set _
  have s3223 := s3215.step p3222 (by simp)
  have t3224 := s3215.tr p3222 (by simp) (fun _ hb => hb)
  clear e3221
  refine ⟨trivial, ?_⟩
  refine X.nil ?_
  refine At.then ?_
  refine C.seq ?_
  refine C.seq ?_
  refine C.region 3 rfl ?_
  refine X.val (v := .pointer (some ⟨b3211, 0, none⟩)) rfl rfl rfl (yField 3 0 Tryz.underlying77 Tryz.sizeOf3 rfl rfl rfl) trivial ?_
  have l3226 : c3204.length = 32 := (kArr 32 (kI .u8)).len r3206
  refine X.val (v := .int .i64 x3144_0) rfl rfl rfl (yLoadS (j := 0) Tryz.isAgg3 rfl (f3225).all rfl (by simp [l3226])) trivial ?_
  by_cases g3227 : x3144_0 = 1
  · have H := ifT g3227 H
    refine X.val rfl rfl rfl (yBT g3227 (yEql rfl rfl)) trivial ?_
    refine X.nil ?_
    refine At.then ?_
    refine C.condT rfl ?_
    refine C.region 4 rfl ?_
    refine X.val rfl rfl rfl (yMove rfl) trivial ?_
    cases H
  · have H := ifF g3227 H
    refine X.val rfl rfl rfl (yBF g3227 (yEql rfl rfl)) trivial ?_
    refine X.nil ?_
    refine At.then ?_
    refine C.condF rfl ?_
    refine C.skip ?_
    refine At.then ?_
    refine C.seq ?_
    refine C.region 2 rfl ?_
    refine X.val rfl rfl rfl (yMove rfl) trivial ?_
    have b3228 := ((f3200.stp p3214 (by simp)).stp p3222 ((s3215.sep 1 [0] rfl rfl rfl) _ rfl))
    obtain ⟨x3229, e3230, H⟩ := bnd H
    have s3235 : St [] h I h3220 I3199 ([some b3139, some b3211] ++ [some b3124]) := s3223.pick [1, 0, 2] rfl (by decide) (by rintro (_ | _ | _ | i) m h <;> first | exact h | (simp at h))
    refine X.call (all := [.pointer (some ⟨b3139, 0, none⟩), .pointer (some ⟨b3211, 0, none⟩)]) Tryz.call145 rfl rfl rfl rfl rfl rfl (c_proto_lists s3235.left.lend b3228 (r3202.mono (t3213.trans t3224)) f3225 ((kArr 32 (kI .u8)).mono r3206 (t3213.trans t3224)) SlR.nil SlR.nil SlR.nil e3230) ?_
    obtain ⟨x3229_0, x3229_1⟩ := x3229
    rintro _ h3231 ⟨I3236, v3238, c3241, v3243, v3245, v3247, k3249, rfl, f3237, r3239, f3240, r3242, r3244, r3246, r3248⟩
    have s3233 : St [] h I h3231 I3236 [some b3139, some b3211, some b3124] := St.callS (L := [some b3139, some b3211]) (R := [some b3124]) (L' := [some b3139, some b3211]) s3235 k3249
    have t3234 : Tr I3199 h3220 I3236 h3231 := St.callSTr (L := [some b3139, some b3211]) (R := [some b3124]) (L' := [some b3139, some b3211]) s3235 k3249
    have p3232 := k3249.stp
    refine ⟨trivial, ?_⟩
    refine X.nil ?_
    refine At.then ?_
    refine C.seq ?_
    refine C.region 13 rfl ?_
    refine X.val rfl rfl rfl (yMove rfl) trivial ?_
    refine X.val rfl rfl rfl (yMove rfl) trivial ?_
    refine X.val rfl rfl rfl (yLenR Tryz.underlying23 rfl (r_a0.mono (t3126.trans (t3136.trans (t3149.trans (t3161.trans (t3173.trans (t3185.trans (t3197.trans (t3213.trans (t3224.trans t3234))))))))))) trivial ?_
    refine X.val rfl rfl rfl (yMove rfl) trivial ?_
    obtain ⟨x3250, e3251, H⟩ := bnd H
    have s3256 : St [] h I h3231 I3236 ([some b3139] ++ [some b3211, some b3124]) := s3233.pick [0, 1, 2] rfl (by decide) (by rintro (_ | _ | _ | i) m h <;> first | exact h | (simp at h))
    refine X.call (all := [.pointer (some ⟨b3139, 0, none⟩)]) Tryz.call147 rfl rfl rfl rfl rfl rfl (c_wire_Reader_Left s3256.left.lend f3237 r3239 e3251) ?_
    obtain ⟨x3250_0, x3250_1⟩ := x3250
    rintro _ h3252 ⟨I3257, v3259, k3261, rfl, f3258, r3260⟩
    have s3254 : St [] h I h3252 I3257 [some b3139, some b3211, some b3124] := St.callS (L := [some b3139]) (R := [some b3211, some b3124]) (L' := [some b3139]) s3256 k3261
    have t3255 : Tr I3236 h3231 I3257 h3252 := St.callSTr (L := [some b3139]) (R := [some b3211, some b3124]) (L' := [some b3139]) s3256 k3261
    have p3253 := k3261.stp
    refine ⟨trivial, ?_⟩
    refine X.val rfl rfl rfl (ySub rfl rfl) trivial ?_
    obtain ⟨⟨g3263, g3264⟩, H⟩ := ifS H
    have g3265 : (IntKind.i64.wrap ((a0.length : Int) - x3250_0)).toNat ≤ a0.length := by omega
    have g3266 : a0.length ≤ none.getD a0.length := by simp only [Option.getD_none, Option.getD_some]; omega
    have g3267 : none.getD a0.length ≤ a0.length := by simp only [Option.getD_none, Option.getD_some]; omega
    have r3268 := SlR.cut (r_a0.mono (t3126.trans (t3136.trans (t3149.trans (t3161.trans (t3173.trans (t3185.trans (t3197.trans (t3213.trans (t3224.trans (t3234.trans t3255))))))))))) g3265 g3266 g3267
    have r3268 : SlR _ _ _ _ (a0.drop ((IntKind.i64.wrap ((a0.length : Int) - x3250_0)).toNat)) := (show (a0.drop ((IntKind.i64.wrap ((a0.length : Int) - x3250_0)).toNat)).take (a0.length - ((IntKind.i64.wrap ((a0.length : Int) - x3250_0)).toNat)) = a0.drop ((IntKind.i64.wrap ((a0.length : Int) - x3250_0)).toNat) from List.take_of_length_le (by simp)) ▸ r3268
    obtain ⟨v3269, e3270⟩ : ∃ w, w = cut v_a0 ((IntKind.i64.wrap ((a0.length : Int) - x3250_0)).toNat) a0.length none 1 := ⟨_, rfl⟩
    have r3268 : SlR (kI .u8) I3257 h3252 v3269 (a0.drop ((IntKind.i64.wrap ((a0.length : Int) - x3250_0)).toNat)) := by rw [e3270]; exact r3268
    refine X.val (v := v3269) rfl rfl rfl (by rw [e3270]; exact ySlice Tryz.underlying23 Tryz.sizeOf5 rfl (r_a0.mono (t3126.trans (t3136.trans (t3149.trans (t3161.trans (t3173.trans (t3185.trans (t3197.trans (t3213.trans (t3224.trans (t3234.trans t3255))))))))))) ⟨_, _, rfl, by omega, rfl⟩ rfl rfl g3265 g3266 g3267) trivial ?_
    obtain ⟨x3271, e3272, H⟩ := bnd H
    refine X.call (all := [v3269]) Tryz.call146 rfl rfl rfl rfl rfl rfl (c_pack_ReadAll s3254.ib r3268 e3272) ?_
    obtain ⟨x3271_0, x3271_1⟩ := x3271
    rintro _ h3273 ⟨p3274, v3278, rfl, r3277⟩
    have s3275 := s3254.call p3274
    have t3276 := s3254.callTr p3274
    refine ⟨trivial, ?_⟩
    refine X.val rfl rfl rfl (yMove rfl) trivial ?_
    refine X.val rfl rfl rfl (yExtract rfl rfl) trivial ?_
    refine X.val rfl rfl rfl (yExtract rfl rfl) trivial ?_
    refine X.val rfl rfl rfl (yAssign rfl) trivial ?_
    refine X.val rfl rfl rfl (yAssign rfl) trivial ?_
    refine X.nil ?_
    refine At.then ?_
    refine C.seq ?_
    refine C.region 3 rfl ?_
    refine X.val rfl rfl rfl (yMove rfl) trivial ?_
    refine X.val (v := .pointer (some ⟨b3211, 39, none⟩)) rfl rfl rfl (yField 58 39 Tryz.underlying77 Tryz.sizeOf58 rfl rfl rfl) trivial ?_
    have b3279 := ((f3240.stp p3253 ((s3233.sep 1 [0] rfl rfl rfl) _ rfl)).stp p3274 (by simp))
    have l3280 : c3241.length = 32 := (kArr 32 (kI .u8)).len r3242
    refine X.ef rfl rfl rfl (eStore (vs := (v3278 :: [] : List Value)) Tryz.sizeOf58 rfl rfl (cellsOne (SlR.one r3277)) (by simp []) (by simp [ones, ones_append, oInt, oBool, oStr, oSl, oPtr, SlR.one r3277]) b3279 (by simp [l3280])) ?_
    rintro _ h3281 ⟨rfl, e3282⟩
    have f3286 : Box h3281 b3211 77 ((.int .i64 x3229_1.Kind : Value) :: (.int .i64 x3229_1.From : Value) :: (.int .i64 x3229_1.To : Value) :: (.int .i64 x3229_1.Session : Value) :: (.int .i64 x3229_1.Part : Value) :: c3241 ++ (v3243 :: v3245 :: v3278 :: []) : List Value) := by subst e3282; exact Box.reset b3279 (by have k := splice_mid (v3278 :: [] : List Value) (v3247 :: [] : List Value) ((.int .i64 x3229_1.Kind : Value) :: (.int .i64 x3229_1.From : Value) :: (.int .i64 x3229_1.To : Value) :: (.int .i64 x3229_1.Session : Value) :: (.int .i64 x3229_1.Part : Value) :: c3241 ++ (v3243 :: v3245 :: []) : List Value) ([] : List Value) (by simp [l3280]); simp [l3280] at k; simpa using k)
    have p3283 : Stp [some b3211] h3273 h3281 := by subst e3282; exact Stp.set _
    have s3284 := s3275.step p3283 (by simp)
    have t3285 := s3275.tr p3283 (by simp) (fun _ hb => hb)
    clear e3282
    refine ⟨trivial, ?_⟩
    refine X.nil ?_
    refine At.then ?_
    refine C.seq ?_
    refine C.seq ?_
    refine C.region 12 rfl ?_
    refine X.val rfl rfl rfl (yMove rfl) trivial ?_
    have b3287 := ((f3258.stp p3274 (by simp)).stp p3283 ((s3275.sep 0 [1] rfl rfl rfl) _ rfl))
    obtain ⟨x3288, e3289, H⟩ := bnd H
    have s3294 : St [] h I h3281 (Ex I3257 h3252 h3273) ([some b3139] ++ [some b3211, some b3124]) := s3284.pick [0, 1, 2] rfl (by decide) (by rintro (_ | _ | _ | i) m h <;> first | exact h | (simp at h))
    refine X.call (all := [.pointer (some ⟨b3139, 0, none⟩)]) Tryz.call148 rfl rfl rfl rfl rfl rfl (c_wire_Reader_Err s3294.left.lend b3287 (r3260.mono (t3276.trans t3285)) e3289) ?_
    obtain ⟨x3288_0, x3288_1⟩ := x3288
    rintro _ h3290 ⟨I3295, v3297, k3299, rfl, f3296, r3298⟩
    have s3292 : St [] h I h3290 I3295 [some b3139, some b3211, some b3124] := St.callS (L := [some b3139]) (R := [some b3211, some b3124]) (L' := [some b3139]) s3294 k3299
    have t3293 : Tr (Ex I3257 h3252 h3273) h3281 I3295 h3290 := St.callSTr (L := [some b3139]) (R := [some b3211, some b3124]) (L' := [some b3139]) s3294 k3299
    have p3291 := k3299.stp
    refine ⟨trivial, ?_⟩
    by_cases g3300 : x3288_0 ≠ 0
    · have H := ifT g3300 H
      refine X.val rfl rfl rfl (yBT g3300 (yNeq rfl rfl)) trivial ?_
      refine X.val rfl rfl rfl (yMove rfl) trivial ?_
      refine X.skip rfl rfl rfl trivial ?_
      refine X.skip rfl rfl rfl trivial ?_
      refine X.val rfl rfl rfl (yPickT rfl rfl) trivial ?_
      refine X.val rfl rfl rfl (yMove rfl) trivial ?_
      refine X.skip rfl rfl rfl trivial ?_
      refine X.skip rfl rfl rfl trivial ?_
      refine X.skip rfl rfl rfl trivial ?_
      refine X.val rfl rfl rfl (yPickT rfl rfl) trivial ?_
      refine X.nil ?_
      refine At.then ?_
      refine C.condT rfl ?_
      refine C.seq ?_
      refine C.region 3 rfl ?_
      obtain ⟨c3301, e3302⟩ : ∃ c : List Value, c = (List.replicate 32 (.int .u8 0 : Value)) := ⟨_, rfl⟩
      have r3303 : (kArr 32 (kI .u8)).rp I3295 h3290 c3301 (List.replicate 32 (0 : Int)) := by rw [e3302]; exact z_T65
      have l3304 : c3301.length = 32 := (kArr 32 (kI .u8)).len r3303
      refine X.val (v := .agg (((.int .i64 0 : Value) :: (.int .i64 0 : Value) :: (.int .i64 0 : Value) :: (.int .i64 0 : Value) :: (.int .i64 0 : Value) :: c3301 ++ ((.slice none 0 0 : Value) :: (.slice none 0 0 : Value) :: (.slice none 0 0 : Value) :: []) : List Value)).toArray) rfl rfl rfl (yBuild (out := ((.int .i64 0 : Value) :: (.int .i64 0 : Value) :: (.int .i64 0 : Value) :: (.int .i64 0 : Value) :: (.int .i64 0 : Value) :: c3301 ++ ((.slice none 0 0 : Value) :: (.slice none 0 0 : Value) :: (.slice none 0 0 : Value) :: []) : List Value)) [1, 1, 1, 1, 1, 32, 1, 1, 1] [((.int .i64 0 : Value) :: [] : List Value), ((.int .i64 0 : Value) :: [] : List Value), ((.int .i64 0 : Value) :: [] : List Value), ((.int .i64 0 : Value) :: [] : List Value), ((.int .i64 0 : Value) :: [] : List Value), List.replicate 32 (.int .u8 0 : Value), ((.slice none 0 0 : Value) :: [] : List Value), ((.slice none 0 0 : Value) :: [] : List Value), ((.slice none 0 0 : Value) :: [] : List Value)] Tryz.zeroValue77 rfl pl_T77 rfl rfl (by simp [okp, vInt, vBool, vStr, vSl, vPtr, vAgg, l3304]) (by simp [setAll, vInt, vBool, vStr, vSl, vPtr, vAgg, e3302])) trivial ?_
      have b3305 := (((((((((((((f3129.stp p3134 (by simp)).stp p3147 ((s3135.sep 1 [0] rfl rfl rfl) _ rfl)).stp p3159 ((s3148.sep 1 [0] rfl rfl rfl) _ rfl)).stp p3171 ((s3160.sep 1 [0] rfl rfl rfl) _ rfl)).stp p3183 ((s3172.sep 1 [0] rfl rfl rfl) _ rfl)).stp p3195 ((s3184.sep 1 [0] rfl rfl rfl) _ rfl)).stp p3214 (by simp)).stp p3222 ((s3215.sep 2 [0] rfl rfl rfl) _ rfl)).stp p3232 ((s3223.sep 2 [1, 0] rfl rfl rfl) _ rfl)).stp p3253 ((s3233.sep 2 [0] rfl rfl rfl) _ rfl)).stp p3274 (by simp)).stp p3283 ((s3275.sep 2 [1] rfl rfl rfl) _ rfl)).stp p3291 ((s3284.sep 2 [0] rfl rfl rfl) _ rfl))
      have l3306 : c3121.length = 32 := (kArr 32 (kI .u8)).len r3123
      have l3307 : c3301.length = 32 := (kArr 32 (kI .u8)).len r3303
      refine X.ef rfl rfl rfl (eStore (vs := ((.int .i64 0 : Value) :: (.int .i64 0 : Value) :: (.int .i64 0 : Value) :: (.int .i64 0 : Value) :: (.int .i64 0 : Value) :: c3301 ++ ((.slice none 0 0 : Value) :: (.slice none 0 0 : Value) :: (.slice none 0 0 : Value) :: []) : List Value)) Tryz.sizeOf77 rfl rfl rfl (by simp [l3307]) (by simp [ones, ones_append, oInt, oBool, oStr, oSl, oPtr, (kArr 32 (kI .u8)).one r3303]) b3305 (by simp [l3306, l3307])) ?_
      rintro _ h3308 ⟨rfl, e3309⟩
      have f3313 : Box h3308 b3124 77 ((.int .i64 0 : Value) :: (.int .i64 0 : Value) :: (.int .i64 0 : Value) :: (.int .i64 0 : Value) :: (.int .i64 0 : Value) :: c3301 ++ ((.slice none 0 0 : Value) :: (.slice none 0 0 : Value) :: (.slice none 0 0 : Value) :: []) : List Value) := by subst e3309; exact Box.reset b3305 (by have k := splice_mid ((.int .i64 0 : Value) :: (.int .i64 0 : Value) :: (.int .i64 0 : Value) :: (.int .i64 0 : Value) :: (.int .i64 0 : Value) :: c3301 ++ ((.slice none 0 0 : Value) :: (.slice none 0 0 : Value) :: (.slice none 0 0 : Value) :: []) : List Value) ((.int .i64 0 : Value) :: (.int .i64 0 : Value) :: (.int .i64 0 : Value) :: (.int .i64 0 : Value) :: (.int .i64 0 : Value) :: c3121 ++ ((.slice none 0 0 : Value) :: (.slice none 0 0 : Value) :: (.slice none 0 0 : Value) :: []) : List Value) [] ([] : List Value) (by simp [l3306, l3307]); simpa using k)
      have p3310 : Stp [some b3124] h3290 h3308 := by subst e3309; exact Stp.set _
      have s3311 := s3292.step p3310 (by simp)
      have t3312 := s3292.tr p3310 (by simp) (fun _ hb => hb)
      clear e3309
      refine ⟨trivial, ?_⟩
      refine X.val rfl rfl rfl (yAssign rfl) trivial ?_
      refine X.nil ?_
      refine At.then ?_
      refine C.ret ?_
      refine At.thenR ?_
      have l3314 : c3301.length = 32 := (kArr 32 (kI .u8)).len r3303
      obtain rfl := sm H
      refine At.retn (rs := [.cell 2 77, .tmp 3]) [.agg (((.int .i64 0 : Value) :: (.int .i64 0 : Value) :: (.int .i64 0 : Value) :: (.int .i64 0 : Value) :: (.int .i64 0 : Value) :: c3301 ++ ((.slice none 0 0 : Value) :: (.slice none 0 0 : Value) :: (.slice none 0 0 : Value) :: []) : List Value)).toArray, .int .i64 3] rfl ?_ ?_
      exact ⟨Rv.cell Tryz.isAgg77 Tryz.sizeOf77 rfl f3313 (by simp [l3314]), Rv.tmp rfl, trivial⟩
      exact ⟨s3311.stp, ((.int .i64 0 : Value) :: (.int .i64 0 : Value) :: (.int .i64 0 : Value) :: (.int .i64 0 : Value) :: (.int .i64 0 : Value) :: c3301 ++ ((.slice none 0 0 : Value) :: (.slice none 0 0 : Value) :: (.slice none 0 0 : Value) :: []) : List Value), rfl, (k_proto_Msg.mono (m_proto_Msg ((kArr 32 (kI .u8)).mono r3303 t3312) SlR.nil SlR.nil SlR.nil) s3311.outTr)⟩
    · have H := ifF g3300 H
      refine X.val rfl rfl rfl (yBF g3300 (yNeq rfl rfl)) trivial ?_
      refine X.val rfl rfl rfl (yMove rfl) trivial ?_
      refine X.val rfl rfl rfl (yMove rfl) trivial ?_
      by_cases g3315 : x3271_1 ≠ 0
      · have H := ifT g3315 H
        refine X.val rfl rfl rfl (yBT g3315 (yNeq rfl rfl)) trivial ?_
        refine X.val rfl rfl rfl (yPickF rfl rfl) trivial ?_
        refine X.val rfl rfl rfl (yMove rfl) trivial ?_
        refine X.skip rfl rfl rfl trivial ?_
        refine X.skip rfl rfl rfl trivial ?_
        refine X.skip rfl rfl rfl trivial ?_
        refine X.val rfl rfl rfl (yPickT rfl rfl) trivial ?_
        refine X.nil ?_
        refine At.then ?_
        refine C.condT rfl ?_
        refine C.seq ?_
        refine C.region 3 rfl ?_
        obtain ⟨c3316, e3317⟩ : ∃ c : List Value, c = (List.replicate 32 (.int .u8 0 : Value)) := ⟨_, rfl⟩
        have r3318 : (kArr 32 (kI .u8)).rp I3295 h3290 c3316 (List.replicate 32 (0 : Int)) := by rw [e3317]; exact z_T65
        have l3319 : c3316.length = 32 := (kArr 32 (kI .u8)).len r3318
        refine X.val (v := .agg (((.int .i64 0 : Value) :: (.int .i64 0 : Value) :: (.int .i64 0 : Value) :: (.int .i64 0 : Value) :: (.int .i64 0 : Value) :: c3316 ++ ((.slice none 0 0 : Value) :: (.slice none 0 0 : Value) :: (.slice none 0 0 : Value) :: []) : List Value)).toArray) rfl rfl rfl (yBuild (out := ((.int .i64 0 : Value) :: (.int .i64 0 : Value) :: (.int .i64 0 : Value) :: (.int .i64 0 : Value) :: (.int .i64 0 : Value) :: c3316 ++ ((.slice none 0 0 : Value) :: (.slice none 0 0 : Value) :: (.slice none 0 0 : Value) :: []) : List Value)) [1, 1, 1, 1, 1, 32, 1, 1, 1] [((.int .i64 0 : Value) :: [] : List Value), ((.int .i64 0 : Value) :: [] : List Value), ((.int .i64 0 : Value) :: [] : List Value), ((.int .i64 0 : Value) :: [] : List Value), ((.int .i64 0 : Value) :: [] : List Value), List.replicate 32 (.int .u8 0 : Value), ((.slice none 0 0 : Value) :: [] : List Value), ((.slice none 0 0 : Value) :: [] : List Value), ((.slice none 0 0 : Value) :: [] : List Value)] Tryz.zeroValue77 rfl pl_T77 rfl rfl (by simp [okp, vInt, vBool, vStr, vSl, vPtr, vAgg, l3319]) (by simp [setAll, vInt, vBool, vStr, vSl, vPtr, vAgg, e3317])) trivial ?_
        have b3320 := (((((((((((((f3129.stp p3134 (by simp)).stp p3147 ((s3135.sep 1 [0] rfl rfl rfl) _ rfl)).stp p3159 ((s3148.sep 1 [0] rfl rfl rfl) _ rfl)).stp p3171 ((s3160.sep 1 [0] rfl rfl rfl) _ rfl)).stp p3183 ((s3172.sep 1 [0] rfl rfl rfl) _ rfl)).stp p3195 ((s3184.sep 1 [0] rfl rfl rfl) _ rfl)).stp p3214 (by simp)).stp p3222 ((s3215.sep 2 [0] rfl rfl rfl) _ rfl)).stp p3232 ((s3223.sep 2 [1, 0] rfl rfl rfl) _ rfl)).stp p3253 ((s3233.sep 2 [0] rfl rfl rfl) _ rfl)).stp p3274 (by simp)).stp p3283 ((s3275.sep 2 [1] rfl rfl rfl) _ rfl)).stp p3291 ((s3284.sep 2 [0] rfl rfl rfl) _ rfl))
        have l3321 : c3121.length = 32 := (kArr 32 (kI .u8)).len r3123
        have l3322 : c3316.length = 32 := (kArr 32 (kI .u8)).len r3318
        refine X.ef rfl rfl rfl (eStore (vs := ((.int .i64 0 : Value) :: (.int .i64 0 : Value) :: (.int .i64 0 : Value) :: (.int .i64 0 : Value) :: (.int .i64 0 : Value) :: c3316 ++ ((.slice none 0 0 : Value) :: (.slice none 0 0 : Value) :: (.slice none 0 0 : Value) :: []) : List Value)) Tryz.sizeOf77 rfl rfl rfl (by simp [l3322]) (by simp [ones, ones_append, oInt, oBool, oStr, oSl, oPtr, (kArr 32 (kI .u8)).one r3318]) b3320 (by simp [l3321, l3322])) ?_
        rintro _ h3323 ⟨rfl, e3324⟩
        have f3328 : Box h3323 b3124 77 ((.int .i64 0 : Value) :: (.int .i64 0 : Value) :: (.int .i64 0 : Value) :: (.int .i64 0 : Value) :: (.int .i64 0 : Value) :: c3316 ++ ((.slice none 0 0 : Value) :: (.slice none 0 0 : Value) :: (.slice none 0 0 : Value) :: []) : List Value) := by subst e3324; exact Box.reset b3320 (by have k := splice_mid ((.int .i64 0 : Value) :: (.int .i64 0 : Value) :: (.int .i64 0 : Value) :: (.int .i64 0 : Value) :: (.int .i64 0 : Value) :: c3316 ++ ((.slice none 0 0 : Value) :: (.slice none 0 0 : Value) :: (.slice none 0 0 : Value) :: []) : List Value) ((.int .i64 0 : Value) :: (.int .i64 0 : Value) :: (.int .i64 0 : Value) :: (.int .i64 0 : Value) :: (.int .i64 0 : Value) :: c3121 ++ ((.slice none 0 0 : Value) :: (.slice none 0 0 : Value) :: (.slice none 0 0 : Value) :: []) : List Value) [] ([] : List Value) (by simp [l3321, l3322]); simpa using k)
        have p3325 : Stp [some b3124] h3290 h3323 := by subst e3324; exact Stp.set _
        have s3326 := s3292.step p3325 (by simp)
        have t3327 := s3292.tr p3325 (by simp) (fun _ hb => hb)
        clear e3324
        refine ⟨trivial, ?_⟩
        refine X.val rfl rfl rfl (yAssign rfl) trivial ?_
        refine X.nil ?_
        refine At.then ?_
        refine C.ret ?_
        refine At.thenR ?_
        have l3329 : c3316.length = 32 := (kArr 32 (kI .u8)).len r3318
        obtain rfl := sm H
        refine At.retn (rs := [.cell 2 77, .tmp 3]) [.agg (((.int .i64 0 : Value) :: (.int .i64 0 : Value) :: (.int .i64 0 : Value) :: (.int .i64 0 : Value) :: (.int .i64 0 : Value) :: c3316 ++ ((.slice none 0 0 : Value) :: (.slice none 0 0 : Value) :: (.slice none 0 0 : Value) :: []) : List Value)).toArray, .int .i64 3] rfl ?_ ?_
        exact ⟨Rv.cell Tryz.isAgg77 Tryz.sizeOf77 rfl f3328 (by simp [l3329]), Rv.tmp rfl, trivial⟩
        exact ⟨s3326.stp, ((.int .i64 0 : Value) :: (.int .i64 0 : Value) :: (.int .i64 0 : Value) :: (.int .i64 0 : Value) :: (.int .i64 0 : Value) :: c3316 ++ ((.slice none 0 0 : Value) :: (.slice none 0 0 : Value) :: (.slice none 0 0 : Value) :: []) : List Value), rfl, (k_proto_Msg.mono (m_proto_Msg ((kArr 32 (kI .u8)).mono r3318 t3327) SlR.nil SlR.nil SlR.nil) s3326.outTr)⟩
      · have H := ifF g3315 H
        refine X.val rfl rfl rfl (yBF g3315 (yNeq rfl rfl)) trivial ?_
        refine X.val rfl rfl rfl (yPickF rfl rfl) trivial ?_
        refine X.val rfl rfl rfl (yMove rfl) trivial ?_
        have b3330 := (f3286.stp p3291 ((s3284.sep 1 [0] rfl rfl rfl) _ rfl))
        have l3331 : c3241.length = 32 := (kArr 32 (kI .u8)).len r3242
        refine X.val (v := .agg (((.int .i64 x3229_1.Kind : Value) :: (.int .i64 x3229_1.From : Value) :: (.int .i64 x3229_1.To : Value) :: (.int .i64 x3229_1.Session : Value) :: (.int .i64 x3229_1.Part : Value) :: c3241 ++ (v3243 :: v3245 :: v3278 :: []) : List Value)).toArray) rfl rfl rfl (yLoadW Tryz.isAgg77 Tryz.sizeOf77 rfl (b3330).all (by simp [l3331])) trivial ?_
        obtain ⟨x3332, e3333, H⟩ := bnd H
        refine X.call (all := [.agg (((.int .i64 x3229_1.Kind : Value) :: (.int .i64 x3229_1.From : Value) :: (.int .i64 x3229_1.To : Value) :: (.int .i64 x3229_1.Session : Value) :: (.int .i64 x3229_1.Part : Value) :: c3241 ++ (v3243 :: v3245 :: v3278 :: []) : List Value)).toArray]) Tryz.call42 rfl rfl rfl rfl rfl rfl (c_proto_Right s3292.ib (m_proto_Msg ((kArr 32 (kI .u8)).mono r3242 (t3255.trans (t3276.trans (t3285.trans t3293)))) (r3244.mono (t3255.trans (t3276.trans (t3285.trans t3293)))) (r3246.mono (t3255.trans (t3276.trans (t3285.trans t3293)))) (r3277.mono (t3285.trans t3293))) e3333) ?_
        rintro _ h3334 ⟨p3335, rfl⟩
        have s3336 := s3292.call p3335
        have t3337 := s3292.callTr p3335
        refine ⟨trivial, ?_⟩
        cases g3338 : (!x3332)
        · have H := biFe g3338 H
          refine X.val rfl rfl rfl (yBE g3338 (yNot rfl)) trivial ?_
          refine X.val rfl rfl rfl (yPickF rfl rfl) trivial ?_
          refine X.nil ?_
          refine At.then ?_
          refine C.condF rfl ?_
          refine C.skip ?_
          refine At.then ?_
          refine C.seq ?_
          refine C.region 3 rfl ?_
          have b3353 := (b3330.stp p3335 (by simp))
          have l3354 : c3241.length = 32 := (kArr 32 (kI .u8)).len r3242
          refine X.val (v := .agg (((.int .i64 x3229_1.Kind : Value) :: (.int .i64 x3229_1.From : Value) :: (.int .i64 x3229_1.To : Value) :: (.int .i64 x3229_1.Session : Value) :: (.int .i64 x3229_1.Part : Value) :: c3241 ++ (v3243 :: v3245 :: v3278 :: []) : List Value)).toArray) rfl rfl rfl (yLoadW Tryz.isAgg77 Tryz.sizeOf77 rfl (b3353).all (by simp [l3354])) trivial ?_
          have b3355 := ((((((((((((((f3129.stp p3134 (by simp)).stp p3147 ((s3135.sep 1 [0] rfl rfl rfl) _ rfl)).stp p3159 ((s3148.sep 1 [0] rfl rfl rfl) _ rfl)).stp p3171 ((s3160.sep 1 [0] rfl rfl rfl) _ rfl)).stp p3183 ((s3172.sep 1 [0] rfl rfl rfl) _ rfl)).stp p3195 ((s3184.sep 1 [0] rfl rfl rfl) _ rfl)).stp p3214 (by simp)).stp p3222 ((s3215.sep 2 [0] rfl rfl rfl) _ rfl)).stp p3232 ((s3223.sep 2 [1, 0] rfl rfl rfl) _ rfl)).stp p3253 ((s3233.sep 2 [0] rfl rfl rfl) _ rfl)).stp p3274 (by simp)).stp p3283 ((s3275.sep 2 [1] rfl rfl rfl) _ rfl)).stp p3291 ((s3284.sep 2 [0] rfl rfl rfl) _ rfl)).stp p3335 (by simp))
          have l3356 : c3121.length = 32 := (kArr 32 (kI .u8)).len r3123
          have l3357 : c3241.length = 32 := (kArr 32 (kI .u8)).len r3242
          refine X.ef rfl rfl rfl (eStore (vs := ((.int .i64 x3229_1.Kind : Value) :: (.int .i64 x3229_1.From : Value) :: (.int .i64 x3229_1.To : Value) :: (.int .i64 x3229_1.Session : Value) :: (.int .i64 x3229_1.Part : Value) :: c3241 ++ (v3243 :: v3245 :: v3278 :: []) : List Value)) Tryz.sizeOf77 rfl rfl rfl (by simp [l3357]) (by simp [ones, ones_append, oInt, oBool, oStr, oSl, oPtr, (kArr 32 (kI .u8)).one r3242, SlR.one (r3244.mono (t3255.trans (t3276.trans (t3285.trans (t3293.trans t3337))))), SlR.one (r3246.mono (t3255.trans (t3276.trans (t3285.trans (t3293.trans t3337))))), SlR.one (r3277.mono (t3285.trans (t3293.trans t3337)))]) b3355 (by simp [l3356, l3357])) ?_
          rintro _ h3358 ⟨rfl, e3359⟩
          have f3363 : Box h3358 b3124 77 ((.int .i64 x3229_1.Kind : Value) :: (.int .i64 x3229_1.From : Value) :: (.int .i64 x3229_1.To : Value) :: (.int .i64 x3229_1.Session : Value) :: (.int .i64 x3229_1.Part : Value) :: c3241 ++ (v3243 :: v3245 :: v3278 :: []) : List Value) := by subst e3359; exact Box.reset b3355 (by have k := splice_mid ((.int .i64 x3229_1.Kind : Value) :: (.int .i64 x3229_1.From : Value) :: (.int .i64 x3229_1.To : Value) :: (.int .i64 x3229_1.Session : Value) :: (.int .i64 x3229_1.Part : Value) :: c3241 ++ (v3243 :: v3245 :: v3278 :: []) : List Value) ((.int .i64 0 : Value) :: (.int .i64 0 : Value) :: (.int .i64 0 : Value) :: (.int .i64 0 : Value) :: (.int .i64 0 : Value) :: c3121 ++ ((.slice none 0 0 : Value) :: (.slice none 0 0 : Value) :: (.slice none 0 0 : Value) :: []) : List Value) [] ([] : List Value) (by simp [l3356, l3357]); simpa using k)
          have p3360 : Stp [some b3124] h3334 h3358 := by subst e3359; exact Stp.set _
          have s3361 := s3336.step p3360 (by simp)
          have t3362 := s3336.tr p3360 (by simp) (fun _ hb => hb)
          clear e3359
          refine ⟨trivial, ?_⟩
          refine X.val rfl rfl rfl (yAssign rfl) trivial ?_
          refine X.nil ?_
          refine At.then ?_
          refine C.ret ?_
          have l3364 : c3241.length = 32 := (kArr 32 (kI .u8)).len r3242
          obtain rfl := sm H
          refine At.retn (rs := [.cell 2 77, .tmp 3]) [.agg (((.int .i64 x3229_1.Kind : Value) :: (.int .i64 x3229_1.From : Value) :: (.int .i64 x3229_1.To : Value) :: (.int .i64 x3229_1.Session : Value) :: (.int .i64 x3229_1.Part : Value) :: c3241 ++ (v3243 :: v3245 :: v3278 :: []) : List Value)).toArray, .int .i64 0] rfl ?_ ?_
          exact ⟨Rv.cell Tryz.isAgg77 Tryz.sizeOf77 rfl f3363 (by simp [l3364]), Rv.tmp rfl, trivial⟩
          exact ⟨s3361.stp, ((.int .i64 x3229_1.Kind : Value) :: (.int .i64 x3229_1.From : Value) :: (.int .i64 x3229_1.To : Value) :: (.int .i64 x3229_1.Session : Value) :: (.int .i64 x3229_1.Part : Value) :: c3241 ++ (v3243 :: v3245 :: v3278 :: []) : List Value), rfl, (k_proto_Msg.mono (m_proto_Msg ((kArr 32 (kI .u8)).mono r3242 (t3255.trans (t3276.trans (t3285.trans (t3293.trans (t3337.trans t3362)))))) (r3244.mono (t3255.trans (t3276.trans (t3285.trans (t3293.trans (t3337.trans t3362)))))) (r3246.mono (t3255.trans (t3276.trans (t3285.trans (t3293.trans (t3337.trans t3362)))))) (r3277.mono (t3285.trans (t3293.trans (t3337.trans t3362))))) s3361.outTr)⟩
        · have H := biTe g3338 H
          refine X.val rfl rfl rfl (yBE g3338 (yNot rfl)) trivial ?_
          refine X.val rfl rfl rfl (yPickF rfl rfl) trivial ?_
          refine X.nil ?_
          refine At.then ?_
          refine C.condT rfl ?_
          refine C.seq ?_
          refine C.region 3 rfl ?_
          obtain ⟨c3339, e3340⟩ : ∃ c : List Value, c = (List.replicate 32 (.int .u8 0 : Value)) := ⟨_, rfl⟩
          have r3341 : (kArr 32 (kI .u8)).rp (Ex I3295 h3290 h3334) h3334 c3339 (List.replicate 32 (0 : Int)) := by rw [e3340]; exact z_T65
          have l3342 : c3339.length = 32 := (kArr 32 (kI .u8)).len r3341
          refine X.val (v := .agg (((.int .i64 0 : Value) :: (.int .i64 0 : Value) :: (.int .i64 0 : Value) :: (.int .i64 0 : Value) :: (.int .i64 0 : Value) :: c3339 ++ ((.slice none 0 0 : Value) :: (.slice none 0 0 : Value) :: (.slice none 0 0 : Value) :: []) : List Value)).toArray) rfl rfl rfl (yBuild (out := ((.int .i64 0 : Value) :: (.int .i64 0 : Value) :: (.int .i64 0 : Value) :: (.int .i64 0 : Value) :: (.int .i64 0 : Value) :: c3339 ++ ((.slice none 0 0 : Value) :: (.slice none 0 0 : Value) :: (.slice none 0 0 : Value) :: []) : List Value)) [1, 1, 1, 1, 1, 32, 1, 1, 1] [((.int .i64 0 : Value) :: [] : List Value), ((.int .i64 0 : Value) :: [] : List Value), ((.int .i64 0 : Value) :: [] : List Value), ((.int .i64 0 : Value) :: [] : List Value), ((.int .i64 0 : Value) :: [] : List Value), List.replicate 32 (.int .u8 0 : Value), ((.slice none 0 0 : Value) :: [] : List Value), ((.slice none 0 0 : Value) :: [] : List Value), ((.slice none 0 0 : Value) :: [] : List Value)] Tryz.zeroValue77 rfl pl_T77 rfl rfl (by simp [okp, vInt, vBool, vStr, vSl, vPtr, vAgg, l3342]) (by simp [setAll, vInt, vBool, vStr, vSl, vPtr, vAgg, e3340])) trivial ?_
          have b3343 := ((((((((((((((f3129.stp p3134 (by simp)).stp p3147 ((s3135.sep 1 [0] rfl rfl rfl) _ rfl)).stp p3159 ((s3148.sep 1 [0] rfl rfl rfl) _ rfl)).stp p3171 ((s3160.sep 1 [0] rfl rfl rfl) _ rfl)).stp p3183 ((s3172.sep 1 [0] rfl rfl rfl) _ rfl)).stp p3195 ((s3184.sep 1 [0] rfl rfl rfl) _ rfl)).stp p3214 (by simp)).stp p3222 ((s3215.sep 2 [0] rfl rfl rfl) _ rfl)).stp p3232 ((s3223.sep 2 [1, 0] rfl rfl rfl) _ rfl)).stp p3253 ((s3233.sep 2 [0] rfl rfl rfl) _ rfl)).stp p3274 (by simp)).stp p3283 ((s3275.sep 2 [1] rfl rfl rfl) _ rfl)).stp p3291 ((s3284.sep 2 [0] rfl rfl rfl) _ rfl)).stp p3335 (by simp))
          have l3344 : c3121.length = 32 := (kArr 32 (kI .u8)).len r3123
          have l3345 : c3339.length = 32 := (kArr 32 (kI .u8)).len r3341
          refine X.ef rfl rfl rfl (eStore (vs := ((.int .i64 0 : Value) :: (.int .i64 0 : Value) :: (.int .i64 0 : Value) :: (.int .i64 0 : Value) :: (.int .i64 0 : Value) :: c3339 ++ ((.slice none 0 0 : Value) :: (.slice none 0 0 : Value) :: (.slice none 0 0 : Value) :: []) : List Value)) Tryz.sizeOf77 rfl rfl rfl (by simp [l3345]) (by simp [ones, ones_append, oInt, oBool, oStr, oSl, oPtr, (kArr 32 (kI .u8)).one r3341]) b3343 (by simp [l3344, l3345])) ?_
          rintro _ h3346 ⟨rfl, e3347⟩
          have f3351 : Box h3346 b3124 77 ((.int .i64 0 : Value) :: (.int .i64 0 : Value) :: (.int .i64 0 : Value) :: (.int .i64 0 : Value) :: (.int .i64 0 : Value) :: c3339 ++ ((.slice none 0 0 : Value) :: (.slice none 0 0 : Value) :: (.slice none 0 0 : Value) :: []) : List Value) := by subst e3347; exact Box.reset b3343 (by have k := splice_mid ((.int .i64 0 : Value) :: (.int .i64 0 : Value) :: (.int .i64 0 : Value) :: (.int .i64 0 : Value) :: (.int .i64 0 : Value) :: c3339 ++ ((.slice none 0 0 : Value) :: (.slice none 0 0 : Value) :: (.slice none 0 0 : Value) :: []) : List Value) ((.int .i64 0 : Value) :: (.int .i64 0 : Value) :: (.int .i64 0 : Value) :: (.int .i64 0 : Value) :: (.int .i64 0 : Value) :: c3121 ++ ((.slice none 0 0 : Value) :: (.slice none 0 0 : Value) :: (.slice none 0 0 : Value) :: []) : List Value) [] ([] : List Value) (by simp [l3344, l3345]); simpa using k)
          have p3348 : Stp [some b3124] h3334 h3346 := by subst e3347; exact Stp.set _
          have s3349 := s3336.step p3348 (by simp)
          have t3350 := s3336.tr p3348 (by simp) (fun _ hb => hb)
          clear e3347
          refine ⟨trivial, ?_⟩
          refine X.val rfl rfl rfl (yAssign rfl) trivial ?_
          refine X.nil ?_
          refine At.then ?_
          refine C.ret ?_
          refine At.thenR ?_
          have l3352 : c3339.length = 32 := (kArr 32 (kI .u8)).len r3341
          obtain rfl := sm H
          refine At.retn (rs := [.cell 2 77, .tmp 3]) [.agg (((.int .i64 0 : Value) :: (.int .i64 0 : Value) :: (.int .i64 0 : Value) :: (.int .i64 0 : Value) :: (.int .i64 0 : Value) :: c3339 ++ ((.slice none 0 0 : Value) :: (.slice none 0 0 : Value) :: (.slice none 0 0 : Value) :: []) : List Value)).toArray, .int .i64 3] rfl ?_ ?_
          exact ⟨Rv.cell Tryz.isAgg77 Tryz.sizeOf77 rfl f3351 (by simp [l3352]), Rv.tmp rfl, trivial⟩
          exact ⟨s3349.stp, ((.int .i64 0 : Value) :: (.int .i64 0 : Value) :: (.int .i64 0 : Value) :: (.int .i64 0 : Value) :: (.int .i64 0 : Value) :: c3339 ++ ((.slice none 0 0 : Value) :: (.slice none 0 0 : Value) :: (.slice none 0 0 : Value) :: []) : List Value), rfl, (k_proto_Msg.mono (m_proto_Msg ((kArr 32 (kI .u8)).mono r3341 t3350) SlR.nil SlR.nil SlR.nil) s3349.outTr)⟩

def p_outbox_Box_ask (a0 : outbox_Box) (a1 : Int) : Option (Int × outbox_Box) :=
  (bif a0.made then (if a1 < 0 then some (1, a0) else some (0, a0)) else some (6, a0))
theorem c_outbox_Box_ask {h : Heap} {I : Nat → Prop} {b_a0 : Nat} {a0 : outbox_Box} {v0_a0 : Value} {v1_a0 : Value} {a1 : Int} (s0 : St [some b_a0, v0_a0.ownBlock, v1_a0.ownBlock] h I h I [some b_a0, v0_a0.ownBlock, v1_a0.ownBlock]) (f_a0 : Box h b_a0 118 ((.bool a0.made : Value) :: v0_a0 :: v1_a0 :: (.int .i64 a0.lost : Value) :: [] : List Value)) (o0_a0 : Own k_outbox_held_proto_Msg_ 280 h I v0_a0 a0.out) (o1_a0 : Own k_outbox_held_outbox_Answer_ 282 h I v1_a0 a0.answers) {r : (Int × outbox_Box)} (H : p_outbox_Box_ask a0 a1 = some r) :
    Fn Tryz.prog 172 [.pointer (some ⟨b_a0, 0, none⟩), .int .i64 a1] h (fun v h' => ∃ (I' : Nat → Prop) (w0s : Value) (w1s : Value) , St [some b_a0, v0_a0.ownBlock, v1_a0.ownBlock] h I h' I' [some b_a0, w0s.ownBlock, w1s.ownBlock] ∧ v = (.int .i64 r.1 : Value) ∧ Box h' b_a0 118 ((.bool r.2.made : Value) :: w0s :: w1s :: (.int .i64 r.2.lost : Value) :: [] : List Value) ∧ Own k_outbox_held_proto_Msg_ 280 h' I' w0s r.2.out ∧ Own k_outbox_held_outbox_Answer_ 282 h' I' w1s r.2.answers) := by
  unfold p_outbox_Box_ask at H
  refine Fn.of 18 Tryz.func172 rfl rfl ?_
  refine C.seq ?_
  refine C.region 1 rfl ?_
  refine X.val rfl rfl rfl (yAssign rfl) trivial ?_
  refine X.nil ?_
  refine At.then ?_
  refine C.seq ?_
  refine C.block ?_
  refine C.seq ?_
  refine C.region 10 rfl ?_
  refine X.val rfl rfl rfl (yMove rfl) trivial ?_
  refine X.val (v := .bool false) rfl rfl rfl (yPEq Tryz.underlying96 rfl rfl) trivial ?_
  refine X.val rfl rfl rfl (yMove rfl) trivial ?_
  refine X.val rfl rfl rfl (yMove rfl) trivial ?_
  refine X.val rfl rfl rfl (yNil rfl) trivial ?_
  refine X.val (v := .pointer (some ⟨b_a0, 0, none⟩)) rfl rfl rfl (yField 4 0 Tryz.underlying118 Tryz.sizeOf4 rfl rfl rfl) trivial ?_
  cases g3365 : a0.made
  · have H := biFe g3365 H
    refine X.val rfl rfl rfl (yBE g3365 (yLoadS (j := 0) Tryz.isAgg4 rfl (f_a0).all rfl rfl)) trivial ?_
    refine X.val rfl rfl rfl (yNot rfl) trivial ?_
    refine X.val rfl rfl rfl (yPickF rfl rfl) trivial ?_
    refine X.val rfl rfl rfl (yAssign rfl) trivial ?_
    refine X.nil ?_
    refine At.then ?_
    refine C.condT rfl ?_
    refine C.seq ?_
    refine C.region 1 rfl ?_
    refine X.val rfl rfl rfl (yAssign rfl) trivial ?_
    refine X.nil ?_
    refine At.then ?_
    refine C.ret ?_
    refine At.blkR ?_
    refine At.thenR ?_
    obtain rfl := sm H
    refine At.retn (rs := [.tmp 4]) [.int .i64 6] rfl ?_ ?_
    exact ⟨Rv.tmp rfl, trivial⟩
    exact ⟨I, v0_a0, v1_a0, s0, rfl, f_a0, o0_a0, o1_a0⟩
  · have H := biTe g3365 H
    refine X.val rfl rfl rfl (yBE g3365 (yLoadS (j := 0) Tryz.isAgg4 rfl (f_a0).all rfl rfl)) trivial ?_
    refine X.val rfl rfl rfl (yNot rfl) trivial ?_
    refine X.val rfl rfl rfl (yPickF rfl rfl) trivial ?_
    refine X.val rfl rfl rfl (yAssign rfl) trivial ?_
    refine X.nil ?_
    refine At.then ?_
    refine C.condF rfl ?_
    refine C.seq ?_
    refine C.region 3 rfl ?_
    refine X.val rfl rfl rfl (yMove rfl) trivial ?_
    by_cases g3366 : a1 < 0
    · have H := ifT g3366 H
      refine X.val rfl rfl rfl (yBT g3366 (yLss rfl rfl)) trivial ?_
      refine X.val rfl rfl rfl (yAssign rfl) trivial ?_
      refine X.nil ?_
      refine At.then ?_
      refine C.condT rfl ?_
      refine C.seq ?_
      refine C.region 1 rfl ?_
      refine X.val rfl rfl rfl (yAssign rfl) trivial ?_
      refine X.nil ?_
      refine At.then ?_
      refine C.ret ?_
      refine At.blkR ?_
      refine At.thenR ?_
      obtain rfl := sm H
      refine At.retn (rs := [.tmp 4]) [.int .i64 1] rfl ?_ ?_
      exact ⟨Rv.tmp rfl, trivial⟩
      exact ⟨I, v0_a0, v1_a0, s0, rfl, f_a0, o0_a0, o1_a0⟩
    · have H := ifF g3366 H
      refine X.val rfl rfl rfl (yBF g3366 (yLss rfl rfl)) trivial ?_
      refine X.val rfl rfl rfl (yAssign rfl) trivial ?_
      refine X.nil ?_
      refine At.then ?_
      refine C.condF rfl ?_
      refine C.skip ?_
      refine At.blkN ?_
      refine At.then ?_
      refine C.seq ?_
      refine C.region 1 rfl ?_
      refine X.val rfl rfl rfl (yAssign rfl) trivial ?_
      refine X.nil ?_
      refine At.then ?_
      refine C.ret ?_
      obtain rfl := sm H
      refine At.retn (rs := [.tmp 4]) [.int .i64 0] rfl ?_ ?_
      exact ⟨Rv.tmp rfl, trivial⟩
      exact ⟨I, v0_a0, v1_a0, s0, rfl, f_a0, o0_a0, o1_a0⟩

def p_outbox_Box_Send (K : Nat) (a0 : outbox_Box) (a1 : proto_Msg) (a2 : Int) : Option (Int × outbox_Box) :=
  (p_outbox_Box_ask a0 0).bind fun (x3385_0, x3385_1) => (if x3385_0 ≠ 0 then some (x3385_0, x3385_1) else (p_proto_Write K a1).bind fun (x3402_0, x3402_1) => (if x3402_1 ≠ 0 then some (x3402_1, x3385_1) else (p_outbox_Box_ask x3385_1 a2).bind fun (x3417_0, x3417_1) => (if x3417_0 ≠ 0 then some (x3417_0, x3417_1) else (p_proto_Read K x3402_0).bind fun (x3432_0, x3432_1) => (if x3417_1.out.length + [(⟨x3432_0, a2⟩ : outbox_held_proto_Msg_)].length ≤ 925904528653 then (if ((x3417_1.out ++ [(⟨x3432_0, a2⟩ : outbox_held_proto_Msg_)]).length : Int) > 500 then (if 1 ≤ (x3417_1.out ++ [(⟨x3432_0, a2⟩ : outbox_held_proto_Msg_)]).length then none else none) else some (0, (⟨x3417_1.made, (x3417_1.out ++ [(⟨x3432_0, a2⟩ : outbox_held_proto_Msg_)]), x3417_1.answers, x3417_1.lost⟩ : outbox_Box))) else none))))
theorem c_outbox_Box_Send {K : Nat} {h : Heap} {I : Nat → Prop} {b_a0 : Nat} {a0 : outbox_Box} {v0_a0 : Value} {v1_a0 : Value} {c_a1 : List Value} {a1 : proto_Msg} {a2 : Int} (s0 : St [some b_a0, v0_a0.ownBlock, v1_a0.ownBlock] h I h I [some b_a0, v0_a0.ownBlock, v1_a0.ownBlock]) (f_a0 : Box h b_a0 118 ((.bool a0.made : Value) :: v0_a0 :: v1_a0 :: (.int .i64 a0.lost : Value) :: [] : List Value)) (o0_a0 : Own k_outbox_held_proto_Msg_ 280 h I v0_a0 a0.out) (o1_a0 : Own k_outbox_held_outbox_Answer_ 282 h I v1_a0 a0.answers) (r_a1 : (k_proto_Msg).rp I h c_a1 a1) {r : (Int × outbox_Box)} (H : p_outbox_Box_Send K a0 a1 a2 = some r) :
    Fn Tryz.prog 58 [.pointer (some ⟨b_a0, 0, none⟩), .agg c_a1.toArray, .int .i64 a2] h (fun v h' => ∃ (I' : Nat → Prop) (w0s : Value) (w1s : Value) , St [some b_a0, v0_a0.ownBlock, v1_a0.ownBlock] h I h' I' [some b_a0, w0s.ownBlock, w1s.ownBlock] ∧ v = (.int .i64 r.1 : Value) ∧ Box h' b_a0 118 ((.bool r.2.made : Value) :: w0s :: w1s :: (.int .i64 r.2.lost : Value) :: [] : List Value) ∧ Own k_outbox_held_proto_Msg_ 280 h' I' w0s r.2.out ∧ Own k_outbox_held_outbox_Answer_ 282 h' I' w1s r.2.answers) := by
  unfold p_outbox_Box_Send at H
  obtain ⟨c3367, v3369, v3371, v3373, rfl, r3368, r3370, r3372, r3374⟩ := o_proto_Msg r_a1
  refine Fn.of 70 Tryz.func58 rfl rfl ?_
  refine C.seq ?_
  refine C.region 2 rfl ?_
  refine X.ef rfl rfl rfl (eBox (cs := ((.int .i64 a1.Kind : Value) :: (.int .i64 a1.From : Value) :: (.int .i64 a1.To : Value) :: (.int .i64 a1.Session : Value) :: (.int .i64 a1.Part : Value) :: c3367 ++ (v3369 :: v3371 :: v3373 :: []) : List Value)) rfl rfl) ?_
  rintro _ h3376 ⟨rfl, e3381⟩
  obtain ⟨b3375, e3381b⟩ : ∃ b, b = h.size := ⟨_, rfl⟩
  rw [← e3381b]
  have f3380 : Box h3376 b3375 77 ((.int .i64 a1.Kind : Value) :: (.int .i64 a1.From : Value) :: (.int .i64 a1.To : Value) :: (.int .i64 a1.Session : Value) :: (.int .i64 a1.Part : Value) :: c3367 ++ (v3369 :: v3371 :: v3373 :: []) : List Value) := by subst e3381; subst e3381b; exact Box.new _ _ _
  have p3378 : Stp [] h h3376 := by subst e3381; exact Stp.push _ _
  have s3379 : St [some b_a0, v0_a0.ownBlock, v1_a0.ownBlock] h I h3376 I (some b3375 :: [some b_a0, v0_a0.ownBlock, v1_a0.ownBlock]) := by subst e3381; subst e3381b; exact s0.new _
  have t3377 := s0.tr p3378 (by simp) (fun _ hb => hb)
  clear e3381 e3381b
  refine ⟨trivial, ?_⟩
  refine X.val rfl rfl rfl (yAssign rfl) trivial ?_
  refine X.nil ?_
  refine At.then ?_
  refine C.seq ?_
  refine C.seq ?_
  refine C.region 3 rfl ?_
  refine X.val rfl rfl rfl (yMove rfl) trivial ?_
  have b3382 := (f_a0.stp p3378 (by simp))
  have o3383 := (o0_a0.stp t3377 p3378 (by simp))
  have o3384 := (o1_a0.stp t3377 p3378 (by simp))
  obtain ⟨x3385, e3386, H⟩ := bnd H
  have s3391 : St [some b_a0, v0_a0.ownBlock, v1_a0.ownBlock] h I h3376 I ([some b_a0, v0_a0.ownBlock, v1_a0.ownBlock] ++ [some b3375]) := s3379.pick [1, 2, 3, 0] rfl (by decide) (by rintro (_ | _ | _ | _ | i) m h <;> first | exact h | (simp at h))
  refine X.call (all := [.pointer (some ⟨b_a0, 0, none⟩), .int .i64 0]) Tryz.call172 rfl rfl rfl rfl rfl rfl (c_outbox_Box_ask s3391.left.lend b3382 o3383 o3384 e3386) ?_
  obtain ⟨x3385_0, x3385_1⟩ := x3385
  rintro _ h3387 ⟨I3392, v3394, v3396, k3398, rfl, f3393, o3395, o3397⟩
  have s3389 : St [some b_a0, v0_a0.ownBlock, v1_a0.ownBlock] h I h3387 I3392 [some b_a0, v3394.ownBlock, v3396.ownBlock, some b3375] := St.callS (L := [some b_a0, v0_a0.ownBlock, v1_a0.ownBlock]) (R := [some b3375]) (L' := [some b_a0, v3394.ownBlock, v3396.ownBlock]) s3391 k3398
  have t3390 : Tr I h3376 I3392 h3387 := St.callSTr (L := [some b_a0, v0_a0.ownBlock, v1_a0.ownBlock]) (R := [some b3375]) (L' := [some b_a0, v3394.ownBlock, v3396.ownBlock]) s3391 k3398
  have p3388 := k3398.stp
  refine ⟨trivial, ?_⟩
  refine X.val rfl rfl rfl (yAssign rfl) trivial ?_
  refine X.nil ?_
  refine At.then ?_
  refine C.seq ?_
  refine C.region 2 rfl ?_
  refine X.val rfl rfl rfl (yMove rfl) trivial ?_
  by_cases g3399 : x3385_0 ≠ 0
  · have H := ifT g3399 H
    refine X.val rfl rfl rfl (yBT g3399 (yNeq rfl rfl)) trivial ?_
    refine X.nil ?_
    refine At.then ?_
    refine C.condT rfl ?_
    refine C.seq ?_
    refine C.region 2 rfl ?_
    refine X.val rfl rfl rfl (yMove rfl) trivial ?_
    refine X.val rfl rfl rfl (yAssign rfl) trivial ?_
    refine X.nil ?_
    refine At.then ?_
    refine C.ret ?_
    refine At.thenR ?_
    obtain rfl := sm H
    refine At.retn (rs := [.tmp 6]) [.int .i64 x3385_0] rfl ?_ ?_
    exact ⟨Rv.tmp rfl, trivial⟩
    exact ⟨I3392, v3394, v3396, (s3389.pick [0, 1, 2] rfl (by decide) (by rintro (_ | _ | _ | i) m h <;> first | exact h | (simp at h))), rfl, f3393, o3395, o3397⟩
  · have H := ifF g3399 H
    refine X.val rfl rfl rfl (yBF g3399 (yNeq rfl rfl)) trivial ?_
    refine X.nil ?_
    refine At.then ?_
    refine C.condF rfl ?_
    refine C.skip ?_
    refine At.then ?_
    refine C.seq ?_
    refine C.region 7 rfl ?_
    have b3400 := (f3380.stp p3388 ((s3379.sep 0 [1, 2, 3] rfl rfl rfl) _ rfl))
    have l3401 : c3367.length = 32 := (kArr 32 (kI .u8)).len r3368
    refine X.val (v := .agg (((.int .i64 a1.Kind : Value) :: (.int .i64 a1.From : Value) :: (.int .i64 a1.To : Value) :: (.int .i64 a1.Session : Value) :: (.int .i64 a1.Part : Value) :: c3367 ++ (v3369 :: v3371 :: v3373 :: []) : List Value)).toArray) rfl rfl rfl (yLoadW Tryz.isAgg77 Tryz.sizeOf77 rfl (b3400).all (by simp [l3401])) trivial ?_
    obtain ⟨x3402, e3403, H⟩ := bnd H
    refine X.call (all := [.agg (((.int .i64 a1.Kind : Value) :: (.int .i64 a1.From : Value) :: (.int .i64 a1.To : Value) :: (.int .i64 a1.Session : Value) :: (.int .i64 a1.Part : Value) :: c3367 ++ (v3369 :: v3371 :: v3373 :: []) : List Value)).toArray]) Tryz.call39 rfl rfl rfl rfl rfl rfl (c_proto_Write s3389.ib (m_proto_Msg ((kArr 32 (kI .u8)).mono r3368 (t3377.trans t3390)) (r3370.mono (t3377.trans t3390)) (r3372.mono (t3377.trans t3390)) (r3374.mono (t3377.trans t3390))) e3403) ?_
    obtain ⟨x3402_0, x3402_1⟩ := x3402
    rintro _ h3404 ⟨p3405, v3409, rfl, r3408⟩
    have s3406 := s3389.call p3405
    have t3407 := s3389.callTr p3405
    refine ⟨trivial, ?_⟩
    refine X.val rfl rfl rfl (yMove rfl) trivial ?_
    refine X.val rfl rfl rfl (yExtract rfl rfl) trivial ?_
    refine X.val rfl rfl rfl (yExtract rfl rfl) trivial ?_
    refine X.val rfl rfl rfl (yAssign rfl) trivial ?_
    refine X.val rfl rfl rfl (yAssign rfl) trivial ?_
    refine X.nil ?_
    refine At.then ?_
    refine C.seq ?_
    refine C.seq ?_
    refine C.region 2 rfl ?_
    refine X.val rfl rfl rfl (yMove rfl) trivial ?_
    by_cases g3410 : x3402_1 ≠ 0
    · have H := ifT g3410 H
      refine X.val rfl rfl rfl (yBT g3410 (yNeq rfl rfl)) trivial ?_
      refine X.nil ?_
      refine At.then ?_
      refine C.condT rfl ?_
      refine C.seq ?_
      refine C.region 2 rfl ?_
      refine X.val rfl rfl rfl (yMove rfl) trivial ?_
      refine X.val rfl rfl rfl (yAssign rfl) trivial ?_
      refine X.nil ?_
      refine At.then ?_
      refine C.ret ?_
      refine At.thenR ?_
      have b3411 := (f3393.stp p3405 (by simp))
      have o3412 := (o3395.stp t3407 p3405 (by simp))
      have o3413 := (o3397.stp t3407 p3405 (by simp))
      obtain rfl := sm H
      refine At.retn (rs := [.tmp 6]) [.int .i64 x3402_1] rfl ?_ ?_
      exact ⟨Rv.tmp rfl, trivial⟩
      exact ⟨(Ex I3392 h3387 h3404), v3394, v3396, (s3406.pick [0, 1, 2] rfl (by decide) (by rintro (_ | _ | _ | i) m h <;> first | exact h | (simp at h))), rfl, b3411, o3412, o3413⟩
    · have H := ifF g3410 H
      refine X.val rfl rfl rfl (yBF g3410 (yNeq rfl rfl)) trivial ?_
      refine X.nil ?_
      refine At.then ?_
      refine C.condF rfl ?_
      refine C.skip ?_
      refine At.then ?_
      refine C.seq ?_
      refine C.seq ?_
      refine C.region 4 rfl ?_
      refine X.val rfl rfl rfl (yMove rfl) trivial ?_
      refine X.val rfl rfl rfl (yMove rfl) trivial ?_
      have b3414 := (f3393.stp p3405 (by simp))
      have o3415 := (o3395.stp t3407 p3405 (by simp))
      have o3416 := (o3397.stp t3407 p3405 (by simp))
      obtain ⟨x3417, e3418, H⟩ := bnd H
      have s3423 : St [some b_a0, v0_a0.ownBlock, v1_a0.ownBlock] h I h3404 (Ex I3392 h3387 h3404) ([some b_a0, v3394.ownBlock, v3396.ownBlock] ++ [some b3375]) := s3406.pick [0, 1, 2, 3] rfl (by decide) (by rintro (_ | _ | _ | _ | i) m h <;> first | exact h | (simp at h))
      refine X.call (all := [.pointer (some ⟨b_a0, 0, none⟩), .int .i64 a2]) Tryz.call172 rfl rfl rfl rfl rfl rfl (c_outbox_Box_ask s3423.left.lend b3414 o3415 o3416 e3418) ?_
      obtain ⟨x3417_0, x3417_1⟩ := x3417
      rintro _ h3419 ⟨I3424, v3426, v3428, k3430, rfl, f3425, o3427, o3429⟩
      have s3421 : St [some b_a0, v0_a0.ownBlock, v1_a0.ownBlock] h I h3419 I3424 [some b_a0, v3426.ownBlock, v3428.ownBlock, some b3375] := St.callS (L := [some b_a0, v3394.ownBlock, v3396.ownBlock]) (R := [some b3375]) (L' := [some b_a0, v3426.ownBlock, v3428.ownBlock]) s3423 k3430
      have t3422 : Tr (Ex I3392 h3387 h3404) h3404 I3424 h3419 := St.callSTr (L := [some b_a0, v3394.ownBlock, v3396.ownBlock]) (R := [some b3375]) (L' := [some b_a0, v3426.ownBlock, v3428.ownBlock]) s3423 k3430
      have p3420 := k3430.stp
      refine ⟨trivial, ?_⟩
      refine X.val rfl rfl rfl (yAssign rfl) trivial ?_
      refine X.nil ?_
      refine At.then ?_
      refine C.seq ?_
      refine C.region 2 rfl ?_
      refine X.val rfl rfl rfl (yMove rfl) trivial ?_
      by_cases g3431 : x3417_0 ≠ 0
      · have H := ifT g3431 H
        refine X.val rfl rfl rfl (yBT g3431 (yNeq rfl rfl)) trivial ?_
        refine X.nil ?_
        refine At.then ?_
        refine C.condT rfl ?_
        refine C.seq ?_
        refine C.region 2 rfl ?_
        refine X.val rfl rfl rfl (yMove rfl) trivial ?_
        refine X.val rfl rfl rfl (yAssign rfl) trivial ?_
        refine X.nil ?_
        refine At.then ?_
        refine C.ret ?_
        refine At.thenR ?_
        obtain rfl := sm H
        refine At.retn (rs := [.tmp 6]) [.int .i64 x3417_0] rfl ?_ ?_
        exact ⟨Rv.tmp rfl, trivial⟩
        exact ⟨I3424, v3426, v3428, (s3421.pick [0, 1, 2] rfl (by decide) (by rintro (_ | _ | _ | i) m h <;> first | exact h | (simp at h))), rfl, f3425, o3427, o3429⟩
      · have H := ifF g3431 H
        refine X.val rfl rfl rfl (yBF g3431 (yNeq rfl rfl)) trivial ?_
        refine X.nil ?_
        refine At.then ?_
        refine C.condF rfl ?_
        refine C.skip ?_
        refine At.then ?_
        refine C.seq ?_
        refine C.region 8 rfl ?_
        refine X.val rfl rfl rfl (yMove rfl) trivial ?_
        obtain ⟨x3432, e3433, H⟩ := bnd H
        refine X.call (all := [v3409]) Tryz.call40 rfl rfl rfl rfl rfl rfl (c_proto_Read s3421.ib (r3408.mono t3422) e3433) ?_
        obtain ⟨x3432_0, x3432_1⟩ := x3432
        rintro _ h3434 ⟨p3435, c3438, rfl, r3439⟩
        have s3436 := s3421.call p3435
        have t3437 := s3421.callTr p3435
        obtain ⟨c3440, v3442, v3444, v3446, rfl, r3441, r3443, r3445, r3447⟩ := o_proto_Msg r3439
        refine ⟨trivial, ?_⟩
        refine X.val rfl rfl rfl (yMove rfl) trivial ?_
        refine X.val rfl rfl rfl (yExtract rfl rfl) trivial ?_
        refine X.val rfl rfl rfl (yExtract rfl rfl) trivial ?_
        obtain ⟨c3448, e3449⟩ : ∃ c : List Value, c = (List.replicate 32 (.int .u8 0 : Value)) := ⟨_, rfl⟩
        have r3450 : (kArr 32 (kI .u8)).rp (Ex I3424 h3419 h3434) h3434 c3448 (List.replicate 32 (0 : Int)) := by rw [e3449]; exact z_T65
        refine X.ef rfl rfl rfl (eAlloc (zs := ((.int .i64 0 : Value) :: (.int .i64 0 : Value) :: (.int .i64 0 : Value) :: (.int .i64 0 : Value) :: (.int .i64 0 : Value) :: (List.replicate 32 (.int .u8 0 : Value)) ++ ((.slice none 0 0 : Value) :: (.slice none 0 0 : Value) :: (.slice none 0 0 : Value) :: []) : List Value)) Tryz.zeroValue77 rfl) ?_
        rintro _ h3452 ⟨rfl, e3457⟩
        obtain ⟨b3451, e3457b⟩ : ∃ b, b = h3434.size := ⟨_, rfl⟩
        rw [← e3457b]
        have f3456 : Box h3452 b3451 77 ((.int .i64 0 : Value) :: (.int .i64 0 : Value) :: (.int .i64 0 : Value) :: (.int .i64 0 : Value) :: (.int .i64 0 : Value) :: c3448 ++ ((.slice none 0 0 : Value) :: (.slice none 0 0 : Value) :: (.slice none 0 0 : Value) :: []) : List Value) := by subst e3457; subst e3457b; rw [e3449]; exact Box.new _ _ _
        have p3454 : Stp [] h3434 h3452 := by subst e3457; exact Stp.push _ _
        have s3455 : St [some b_a0, v0_a0.ownBlock, v1_a0.ownBlock] h I h3452 (Ex I3424 h3419 h3434) (some b3451 :: [some b_a0, v3426.ownBlock, v3428.ownBlock, some b3375]) := by subst e3457; subst e3457b; exact s3436.new _
        have t3453 := s3436.tr p3454 (by simp) (fun _ hb => hb)
        clear e3457 e3457b
        refine ⟨trivial, ?_⟩
        have l3458 : c3448.length = 32 := (kArr 32 (kI .u8)).len r3450
        have l3459 : c3440.length = 32 := (kArr 32 (kI .u8)).len r3441
        refine X.ef rfl rfl rfl (eStore (vs := ((.int .i64 x3432_0.Kind : Value) :: (.int .i64 x3432_0.From : Value) :: (.int .i64 x3432_0.To : Value) :: (.int .i64 x3432_0.Session : Value) :: (.int .i64 x3432_0.Part : Value) :: c3440 ++ (v3442 :: v3444 :: v3446 :: []) : List Value)) Tryz.sizeOf77 rfl rfl rfl (by simp [l3459]) (by simp [ones, ones_append, oInt, oBool, oStr, oSl, oPtr, (kArr 32 (kI .u8)).one r3441, SlR.one (r3443.mono t3453), SlR.one (r3445.mono t3453), SlR.one (r3447.mono t3453)]) f3456 (by simp [l3458, l3459])) ?_
        rintro _ h3460 ⟨rfl, e3461⟩
        have f3465 : Box h3460 b3451 77 ((.int .i64 x3432_0.Kind : Value) :: (.int .i64 x3432_0.From : Value) :: (.int .i64 x3432_0.To : Value) :: (.int .i64 x3432_0.Session : Value) :: (.int .i64 x3432_0.Part : Value) :: c3440 ++ (v3442 :: v3444 :: v3446 :: []) : List Value) := by subst e3461; exact Box.reset f3456 (by have k := splice_mid ((.int .i64 x3432_0.Kind : Value) :: (.int .i64 x3432_0.From : Value) :: (.int .i64 x3432_0.To : Value) :: (.int .i64 x3432_0.Session : Value) :: (.int .i64 x3432_0.Part : Value) :: c3440 ++ (v3442 :: v3444 :: v3446 :: []) : List Value) ((.int .i64 0 : Value) :: (.int .i64 0 : Value) :: (.int .i64 0 : Value) :: (.int .i64 0 : Value) :: (.int .i64 0 : Value) :: c3448 ++ ((.slice none 0 0 : Value) :: (.slice none 0 0 : Value) :: (.slice none 0 0 : Value) :: []) : List Value) [] ([] : List Value) (by simp [l3458, l3459]); simpa using k)
        have p3462 : Stp [some b3451] h3452 h3460 := by subst e3461; exact Stp.set _
        have s3463 := s3455.step p3462 (by simp)
        have t3464 := s3455.tr p3462 (by simp) (fun _ hb => hb)
        clear e3461
        refine ⟨trivial, ?_⟩
        refine X.val rfl rfl rfl (yAssign rfl) trivial ?_
        refine X.nil ?_
        refine At.then ?_
        refine C.seq ?_
        have b3466 := (((f3425.stp p3435 (by simp)).stp p3454 (by simp)).stp p3462 ((s3455.sep 1 [0] rfl rfl rfl) _ rfl))
        refine C.regionD rfl (Stp [v3426.ownBlock, some b_a0] h3460) (.pas 0 (.pas 1 (.pas 2 (.pas 3 (.pas 5 (.pas 6 (.pas 7 (.alt 4 (.alt 8 (.alt 9 (.pas 10 (.pas 11 (.alt 12 .nil .stop))) .stop) .stop) (.alt 8 (.alt 4 (.alt 9 (.pas 10 (.pas 11 (.alt 12 .nil .stop))) .stop) .stop) .stop))))))))) (by kernel_rfl) (Stp.refl0 _ _) ?_
        have q3467 := Stp.refl0 [v3426.ownBlock, some b_a0] h3460
        refine X.pas rfl rfl rfl (fun _ _ => yMove rfl) ?_
        refine X.pas rfl rfl rfl (fun _ _ => yMove rfl) ?_
        refine X.pas rfl rfl rfl (fun _ _ => yNil rfl) ?_
        refine X.pas (v := .pointer (some ⟨b_a0, 1, none⟩)) rfl rfl rfl (fun _ _ => yField 115 1 Tryz.underlying118 Tryz.sizeOf115 rfl rfl rfl) ?_
        have l3468 : c3440.length = 32 := (kArr 32 (kI .u8)).len r3441
        refine X.pas (v := .agg (((.int .i64 x3432_0.Kind : Value) :: (.int .i64 x3432_0.From : Value) :: (.int .i64 x3432_0.To : Value) :: (.int .i64 x3432_0.Session : Value) :: (.int .i64 x3432_0.Part : Value) :: c3440 ++ (v3442 :: v3444 :: v3446 :: []) : List Value)).toArray) rfl rfl rfl (fun h' q => yLoadW Tryz.isAgg77 Tryz.sizeOf77 rfl ((f3465.stp q (s3463.sep 0 [2, 1] rfl rfl rfl _ rfl))).all (by simp [l3468])) ?_
        refine X.pas rfl rfl rfl (fun _ _ => yMove rfl) ?_
        have l3469 : c3440.length = 32 := (kArr 32 (kI .u8)).len r3441
        refine X.pas (v := .agg (((.int .i64 x3432_0.Kind : Value) :: (.int .i64 x3432_0.From : Value) :: (.int .i64 x3432_0.To : Value) :: (.int .i64 x3432_0.Session : Value) :: (.int .i64 x3432_0.Part : Value) :: c3440 ++ (v3442 :: v3444 :: v3446 :: (.int .i64 a2 : Value) :: []) : List Value)).toArray) rfl rfl rfl (fun _ _ => yBuild (out := ((.int .i64 x3432_0.Kind : Value) :: (.int .i64 x3432_0.From : Value) :: (.int .i64 x3432_0.To : Value) :: (.int .i64 x3432_0.Session : Value) :: (.int .i64 x3432_0.Part : Value) :: c3440 ++ (v3442 :: v3444 :: v3446 :: (.int .i64 a2 : Value) :: []) : List Value)) [40, 1] [((.int .i64 0 : Value) :: (.int .i64 0 : Value) :: (.int .i64 0 : Value) :: (.int .i64 0 : Value) :: (.int .i64 0 : Value) :: (List.replicate 32 (.int .u8 0 : Value)) ++ ((.slice none 0 0 : Value) :: (.slice none 0 0 : Value) :: (.slice none 0 0 : Value) :: []) : List Value), ((.int .i64 0 : Value) :: [] : List Value)] Tryz.zeroValue280 rfl pl_T280 rfl rfl (by simp [okp, vInt, vBool, vStr, vSl, vPtr, vAgg, l3469]) (by simp [setAll, vInt, vBool, vStr, vSl, vPtr, vAgg])) ?_
        refine X.fork ?_ ?_
        · refine X.val (v := v3426) rfl rfl rfl (yLoadS (j := 1) Tryz.isAgg115 rfl (b3466).all rfl rfl) q3467 ?_
          have l3470 : c3440.length = 32 := (kArr 32 (kI .u8)).len r3441
          refine X.ef rfl rfl rfl (eBuildSlice (out := ((.int .i64 x3432_0.Kind : Value) :: (.int .i64 x3432_0.From : Value) :: (.int .i64 x3432_0.To : Value) :: (.int .i64 x3432_0.Session : Value) :: (.int .i64 x3432_0.Part : Value) :: c3440 ++ (v3442 :: v3444 :: v3446 :: (.int .i64 a2 : Value) :: []) : List Value)) Tryz.underlying115 Tryz.sizeOf280 (List.replicate 1 ((.int .i64 0 : Value) :: (.int .i64 0 : Value) :: (.int .i64 0 : Value) :: (.int .i64 0 : Value) :: (.int .i64 0 : Value) :: (List.replicate 32 (.int .u8 0 : Value)) ++ ((.slice none 0 0 : Value) :: (.slice none 0 0 : Value) :: (.slice none 0 0 : Value) :: (.int .i64 0 : Value) :: []) : List Value)) Tryz.zeroValue280 rfl (by kernel_rfl) rfl rfl rfl (by simp [okp, vInt, vBool, vStr, vSl, vPtr, vAgg, l3470]) (by simp [setAll, vInt, vBool, vStr, vSl, vPtr, vAgg])) ?_
          rintro _ h3472 ⟨rfl, e3477⟩
          obtain ⟨b3471, e3477b⟩ : ∃ b, b = h3460.size := ⟨_, rfl⟩
          rw [← e3477b]
          have f3476 : Box h3472 b3471 280 ((.int .i64 x3432_0.Kind : Value) :: (.int .i64 x3432_0.From : Value) :: (.int .i64 x3432_0.To : Value) :: (.int .i64 x3432_0.Session : Value) :: (.int .i64 x3432_0.Part : Value) :: c3440 ++ (v3442 :: v3444 :: v3446 :: (.int .i64 a2 : Value) :: []) : List Value) := by subst e3477; subst e3477b; exact Box.new _ _ _
          have p3474 : Stp [] h3460 h3472 := by subst e3477; exact Stp.push _ _
          have s3475 : St [some b_a0, v0_a0.ownBlock, v1_a0.ownBlock] h I h3472 (Ex I3424 h3419 h3434) (some b3471 :: [some b3451, some b_a0, v3426.ownBlock, v3428.ownBlock, some b3375]) := by subst e3477; subst e3477b; exact s3463.new _
          have t3473 := s3463.tr p3474 (by simp) (fun _ hb => hb)
          clear e3477 e3477b
          have q3479 := q3467.cat p3474 (by simp)
          have r3480 : rows k_outbox_held_proto_Msg_ (Ex I3424 h3419 h3434) h3472 ((.int .i64 x3432_0.Kind : Value) :: (.int .i64 x3432_0.From : Value) :: (.int .i64 x3432_0.To : Value) :: (.int .i64 x3432_0.Session : Value) :: (.int .i64 x3432_0.Part : Value) :: c3440 ++ (v3442 :: v3444 :: v3446 :: (.int .i64 a2 : Value) :: []) : List Value) [(⟨x3432_0, a2⟩ : outbox_held_proto_Msg_)] := by have k : rows k_outbox_held_proto_Msg_ (Ex I3424 h3419 h3434) h3472 _ [(⟨x3432_0, a2⟩ : outbox_held_proto_Msg_)] := (rows.cons (c := ((.int .i64 x3432_0.Kind : Value) :: (.int .i64 x3432_0.From : Value) :: (.int .i64 x3432_0.To : Value) :: (.int .i64 x3432_0.Session : Value) :: (.int .i64 x3432_0.Part : Value) :: c3440 ++ (v3442 :: v3444 :: v3446 :: (.int .i64 a2 : Value) :: []) : List Value)) (y := (⟨x3432_0, a2⟩ : outbox_held_proto_Msg_)) (m_outbox_held_proto_Msg_ ((kArr 32 (kI .u8)).mono r3441 (t3453.trans (t3464.trans t3473))) (r3443.mono (t3453.trans (t3464.trans t3473))) (r3445.mono (t3453.trans (t3464.trans t3473))) (r3447.mono (t3453.trans (t3464.trans t3473)))) rows.nil); first | exact k | simpa only [List.append_nil, List.append_assoc, List.cons_append, List.nil_append] using k | simpa using k
          have o3478 : Own k_outbox_held_proto_Msg_ 280 h3472 (Ex I3424 h3419 h3434) (.slice (some ⟨b3471, 0, none⟩) 1 1) [(⟨x3432_0, a2⟩ : outbox_held_proto_Msg_)] := Own.row f3476 r3480 rfl rfl
          refine ⟨q3479, ?_⟩
          have o3481 := ((((o3427.stp t3437 p3435 (by simp)).stp t3453 p3454 (by simp)).stp t3464 p3462 (s3455.sep 2 [0] rfl rfl rfl)).stp t3473 p3474 (by simp))
          obtain ⟨g3489, H⟩ := ifS H
          refine X.ef rfl rfl rfl (eAppend (bytes := 152) Tryz.underlying115 Tryz.type280 rfl rfl rfl rfl rfl rfl rfl rfl o3481 (Src.own o3478) (s3475.disOf 3 rfl) (Nat.le_trans (Nat.mul_le_mul_right _ g3489) (by decide))) ?_
          rintro v3482 h3483 ⟨o3484, p3485, n3486⟩
          have p3485 : Stp [v3426.ownBlock] h3472 h3483 := p3485
          have s3487 : St [some b_a0, v0_a0.ownBlock, v1_a0.ownBlock] h I h3483 (Ex I3424 h3419 h3434) [some b3471, some b3451, some b_a0, v3482.ownBlock, v3428.ownBlock, some b3375] := s3475.grow 3 rfl p3485 n3486
          have t3488 := s3475.tr p3485 (by simp) (fun _ hb => hb)
          have q3490 := q3479.cat p3485 (by simp)
          refine ⟨q3490, ?_⟩
          refine X.pas rfl rfl rfl (fun _ _ => yNil rfl) ?_
          refine X.pas (v := .pointer (some ⟨b_a0, 1, none⟩)) rfl rfl rfl (fun _ _ => yField 115 1 Tryz.underlying118 Tryz.sizeOf115 rfl rfl rfl) ?_
          have b3491 := ((b3466.stp p3474 (by simp)).stp p3485 ((s3475.sep 2 [3] rfl rfl rfl) _ rfl))
          refine X.ef rfl rfl rfl (eStore (vs := (v3482 :: [] : List Value)) Tryz.sizeOf115 rfl rfl (cellsOne (Own.one o3484)) (by simp []) (by simp [ones, ones_append, oInt, oBool, oStr, oSl, oPtr, Own.one o3484]) b3491 (by simp [])) ?_
          rintro _ h3492 ⟨rfl, e3493⟩
          have f3497 : Box h3492 b_a0 118 ((.bool x3417_1.made : Value) :: v3482 :: v3428 :: (.int .i64 x3417_1.lost : Value) :: [] : List Value) := by subst e3493; exact Box.reset b3491 (rfl)
          have p3494 : Stp [some b_a0] h3483 h3492 := by subst e3493; exact Stp.set _
          have s3495 := s3487.step p3494 (by simp)
          have t3496 := s3487.tr p3494 (by simp) (fun _ hb => hb)
          clear e3493
          have q3498 := q3490.cat p3494 (by simp)
          refine ⟨q3498, ?_⟩
          refine X.nil ?_
          refine At.then ?_
          refine C.seq ?_
          refine C.seq ?_
          refine C.region 6 rfl ?_
          refine X.val rfl rfl rfl (yMove rfl) trivial ?_
          refine X.val rfl rfl rfl (yNil rfl) trivial ?_
          refine X.val (v := .pointer (some ⟨b_a0, 1, none⟩)) rfl rfl rfl (yField 115 1 Tryz.underlying118 Tryz.sizeOf115 rfl rfl rfl) trivial ?_
          refine X.val (v := v3482) rfl rfl rfl (yLoadS (j := 1) Tryz.isAgg115 rfl (f3497).all rfl rfl) trivial ?_
          have o3499 := (o3484.stp t3496 p3494 (s3487.sep 3 [2] rfl rfl rfl))
          refine X.val rfl rfl rfl (yLenO Tryz.underlying115 rfl o3499) trivial ?_
          by_cases g3500 : ((x3417_1.out ++ [(⟨x3432_0, a2⟩ : outbox_held_proto_Msg_)]).length : Int) > 500
          · have H := ifT g3500 H
            refine X.val rfl rfl rfl (yBT g3500 (yGtr rfl rfl)) trivial ?_
            refine X.nil ?_
            refine At.then ?_
            refine C.condT rfl ?_
            refine C.seq ?_
            refine C.region 9 rfl ?_
            refine X.val rfl rfl rfl (yMove rfl) trivial ?_
            refine X.val rfl rfl rfl (yMove rfl) trivial ?_
            refine X.val rfl rfl rfl (yNil rfl) trivial ?_
            refine X.val (v := .pointer (some ⟨b_a0, 1, none⟩)) rfl rfl rfl (yField 115 1 Tryz.underlying118 Tryz.sizeOf115 rfl rfl rfl) trivial ?_
            refine X.val (v := v3482) rfl rfl rfl (yLoadS (j := 1) Tryz.isAgg115 rfl (f3497).all rfl rfl) trivial ?_
            have o3501 := (o3484.stp t3496 p3494 (s3487.sep 3 [2] rfl rfl rfl))
            have s3502 : St [some b_a0, v0_a0.ownBlock, v1_a0.ownBlock] h I h3492 (fun b => (Ex I3424 h3419 h3434) b ∨ some b = v3482.ownBlock) [some b3471, some b3451, some b_a0, v3428.ownBlock, some b3375] := s3495.claim 3 rfl
            have t3503 : Tr (Ex I3424 h3419 h3434) h3492 (fun b => (Ex I3424 h3419 h3434) b ∨ some b = v3482.ownBlock) h3492 := fun b hb => ⟨.inl hb, rfl⟩
            have r3504 := Own.read (I' := (fun b => (Ex I3424 h3419 h3434) b ∨ some b = v3482.ownBlock)) o3501 (fun _ hb => .inl hb) (fun b e => .inr e.symm)
            obtain ⟨g3506, H⟩ := ifS H
            have g3507 : 1 ≤ (x3417_1.out ++ [(⟨x3432_0, a2⟩ : outbox_held_proto_Msg_)]).length := by omega
            have g3508 : (x3417_1.out ++ [(⟨x3432_0, a2⟩ : outbox_held_proto_Msg_)]).length ≤ none.getD (x3417_1.out ++ [(⟨x3432_0, a2⟩ : outbox_held_proto_Msg_)]).length := by simp only [Option.getD_none, Option.getD_some]; omega
            have g3509 : none.getD (x3417_1.out ++ [(⟨x3432_0, a2⟩ : outbox_held_proto_Msg_)]).length ≤ (x3417_1.out ++ [(⟨x3432_0, a2⟩ : outbox_held_proto_Msg_)]).length := by simp only [Option.getD_none, Option.getD_some]; omega
            have r3510 := SlR.cut r3504 g3507 g3508 g3509
            have r3510 : SlR _ _ _ _ ((x3417_1.out ++ [(⟨x3432_0, a2⟩ : outbox_held_proto_Msg_)]).drop 1) := (show ((x3417_1.out ++ [(⟨x3432_0, a2⟩ : outbox_held_proto_Msg_)]).drop 1).take ((x3417_1.out ++ [(⟨x3432_0, a2⟩ : outbox_held_proto_Msg_)]).length - 1) = (x3417_1.out ++ [(⟨x3432_0, a2⟩ : outbox_held_proto_Msg_)]).drop 1 from List.take_of_length_le (by simp)) ▸ r3510
            obtain ⟨v3511, e3512⟩ : ∃ w, w = cut v3482 1 ((x3417_1.out ++ [(⟨x3432_0, a2⟩ : outbox_held_proto_Msg_)]).length) none 41 := ⟨_, rfl⟩
            have r3510 : SlR k_outbox_held_proto_Msg_ (fun b => (Ex I3424 h3419 h3434) b ∨ some b = v3482.ownBlock) h3492 v3511 ((x3417_1.out ++ [(⟨x3432_0, a2⟩ : outbox_held_proto_Msg_)]).drop 1) := by rw [e3512]; exact r3510
            refine X.val (v := v3511) rfl rfl rfl (by rw [e3512]; exact ySlice Tryz.underlying115 Tryz.sizeOf280 rfl r3504 ⟨_, _, rfl, by omega, by rfl⟩ rfl rfl g3507 g3508 g3509) trivial ?_
            refine X.val rfl rfl rfl (yNil rfl) trivial ?_
            refine X.val (v := .pointer (some ⟨b_a0, 1, none⟩)) rfl rfl rfl (yField 115 1 Tryz.underlying118 Tryz.sizeOf115 rfl rfl rfl) trivial ?_
            refine X.ef rfl rfl rfl (eStore (vs := (v3511 :: [] : List Value)) Tryz.sizeOf115 rfl rfl (cellsOne (SlR.one r3510)) (by simp []) (by simp [ones, ones_append, oInt, oBool, oStr, oSl, oPtr, SlR.one r3510]) f3497 (by simp [])) ?_
            rintro _ h3513 ⟨rfl, e3514⟩
            have f3518 : Box h3513 b_a0 118 ((.bool x3417_1.made : Value) :: v3511 :: v3428 :: (.int .i64 x3417_1.lost : Value) :: [] : List Value) := by subst e3514; exact Box.reset f3497 (rfl)
            have p3515 : Stp [some b_a0] h3492 h3513 := by subst e3514; exact Stp.set _
            have s3516 := s3502.step p3515 (by simp)
            have t3517 := s3502.tr p3515 (by simp) (fun _ hb => hb)
            clear e3514
            refine ⟨trivial, ?_⟩
            refine X.nil ?_
            refine At.then ?_
            refine C.region 8 rfl ?_
            refine X.val rfl rfl rfl (yMove rfl) trivial ?_
            refine X.val rfl rfl rfl (yNil rfl) trivial ?_
            refine X.val (v := .pointer (some ⟨b_a0, 3, none⟩)) rfl rfl rfl (yField 3 3 Tryz.underlying118 Tryz.sizeOf3 rfl rfl rfl) trivial ?_
            refine X.val (v := .int .i64 x3417_1.lost) rfl rfl rfl (yLoadS (j := 3) Tryz.isAgg3 rfl (f3518).all rfl rfl) trivial ?_
            refine X.val rfl rfl rfl (yAdd rfl rfl) trivial ?_
            refine X.val rfl rfl rfl (yNil rfl) trivial ?_
            refine X.val (v := .pointer (some ⟨b_a0, 3, none⟩)) rfl rfl rfl (yField 3 3 Tryz.underlying118 Tryz.sizeOf3 rfl rfl rfl) trivial ?_
            refine X.ef rfl rfl rfl (eStore (vs := ((.int .i64 (IntKind.i64.wrap (x3417_1.lost + 1)) : Value) :: [] : List Value)) Tryz.sizeOf3 rfl rfl rfl (by simp []) (by simp [ones, ones_append, oInt, oBool, oStr, oSl, oPtr]) f3518 (by simp [])) ?_
            rintro _ h3519 ⟨rfl, e3520⟩
            have f3524 : Box h3519 b_a0 118 ((.bool x3417_1.made : Value) :: v3511 :: v3428 :: (.int .i64 (IntKind.i64.wrap (x3417_1.lost + 1)) : Value) :: [] : List Value) := by subst e3520; exact Box.reset f3518 (rfl)
            have p3521 : Stp [some b_a0] h3513 h3519 := by subst e3520; exact Stp.set _
            have s3522 := s3516.step p3521 (by simp)
            have t3523 := s3516.tr p3521 (by simp) (fun _ hb => hb)
            clear e3520
            refine ⟨trivial, ?_⟩
            refine X.nil ?_
            refine At.then ?_
            refine C.seq ?_
            refine C.region 1 rfl ?_
            refine X.val rfl rfl rfl (yAssign rfl) trivial ?_
            refine X.nil ?_
            refine At.then ?_
            refine C.ret ?_
            cases H
          · have H := ifF g3500 H
            refine X.val rfl rfl rfl (yBF g3500 (yGtr rfl rfl)) trivial ?_
            refine X.nil ?_
            refine At.then ?_
            refine C.condF rfl ?_
            refine C.skip ?_
            refine At.then ?_
            refine C.seq ?_
            refine C.region 1 rfl ?_
            refine X.val rfl rfl rfl (yAssign rfl) trivial ?_
            refine X.nil ?_
            refine At.then ?_
            refine C.ret ?_
            have o3525 := (o3484.stp t3496 p3494 (s3487.sep 3 [2] rfl rfl rfl))
            have o3526 := ((((((o3429.stp t3437 p3435 (by simp)).stp t3453 p3454 (by simp)).stp t3464 p3462 (s3455.sep 3 [0] rfl rfl rfl)).stp t3473 p3474 (by simp)).stp t3488 p3485 (s3475.sep 4 [3] rfl rfl rfl)).stp t3496 p3494 (s3487.sep 4 [2] rfl rfl rfl))
            obtain rfl := sm H
            refine At.retn (rs := [.tmp 6]) [.int .i64 0] rfl ?_ ?_
            exact ⟨Rv.tmp rfl, trivial⟩
            exact ⟨(Ex I3424 h3419 h3434), v3482, v3428, (s3495.pick [2, 3, 4] rfl (by decide) (by rintro (_ | _ | _ | i) m h <;> first | exact h | (simp at h))), rfl, f3497, o3525, o3526⟩
        have l3527 : c3440.length = 32 := (kArr 32 (kI .u8)).len r3441
        refine X.ef rfl rfl rfl (eBuildSlice (out := ((.int .i64 x3432_0.Kind : Value) :: (.int .i64 x3432_0.From : Value) :: (.int .i64 x3432_0.To : Value) :: (.int .i64 x3432_0.Session : Value) :: (.int .i64 x3432_0.Part : Value) :: c3440 ++ (v3442 :: v3444 :: v3446 :: (.int .i64 a2 : Value) :: []) : List Value)) Tryz.underlying115 Tryz.sizeOf280 (List.replicate 1 ((.int .i64 0 : Value) :: (.int .i64 0 : Value) :: (.int .i64 0 : Value) :: (.int .i64 0 : Value) :: (.int .i64 0 : Value) :: (List.replicate 32 (.int .u8 0 : Value)) ++ ((.slice none 0 0 : Value) :: (.slice none 0 0 : Value) :: (.slice none 0 0 : Value) :: (.int .i64 0 : Value) :: []) : List Value)) Tryz.zeroValue280 rfl (by kernel_rfl) rfl rfl rfl (by simp [okp, vInt, vBool, vStr, vSl, vPtr, vAgg, l3527]) (by simp [setAll, vInt, vBool, vStr, vSl, vPtr, vAgg])) ?_
        rintro _ h3529 ⟨rfl, e3534⟩
        obtain ⟨b3528, e3534b⟩ : ∃ b, b = h3460.size := ⟨_, rfl⟩
        rw [← e3534b]
        have f3533 : Box h3529 b3528 280 ((.int .i64 x3432_0.Kind : Value) :: (.int .i64 x3432_0.From : Value) :: (.int .i64 x3432_0.To : Value) :: (.int .i64 x3432_0.Session : Value) :: (.int .i64 x3432_0.Part : Value) :: c3440 ++ (v3442 :: v3444 :: v3446 :: (.int .i64 a2 : Value) :: []) : List Value) := by subst e3534; subst e3534b; exact Box.new _ _ _
        have p3531 : Stp [] h3460 h3529 := by subst e3534; exact Stp.push _ _
        have s3532 : St [some b_a0, v0_a0.ownBlock, v1_a0.ownBlock] h I h3529 (Ex I3424 h3419 h3434) (some b3528 :: [some b3451, some b_a0, v3426.ownBlock, v3428.ownBlock, some b3375]) := by subst e3534; subst e3534b; exact s3463.new _
        have t3530 := s3463.tr p3531 (by simp) (fun _ hb => hb)
        clear e3534 e3534b
        have q3536 := q3467.cat p3531 (by simp)
        have r3537 : rows k_outbox_held_proto_Msg_ (Ex I3424 h3419 h3434) h3529 ((.int .i64 x3432_0.Kind : Value) :: (.int .i64 x3432_0.From : Value) :: (.int .i64 x3432_0.To : Value) :: (.int .i64 x3432_0.Session : Value) :: (.int .i64 x3432_0.Part : Value) :: c3440 ++ (v3442 :: v3444 :: v3446 :: (.int .i64 a2 : Value) :: []) : List Value) [(⟨x3432_0, a2⟩ : outbox_held_proto_Msg_)] := by have k : rows k_outbox_held_proto_Msg_ (Ex I3424 h3419 h3434) h3529 _ [(⟨x3432_0, a2⟩ : outbox_held_proto_Msg_)] := (rows.cons (c := ((.int .i64 x3432_0.Kind : Value) :: (.int .i64 x3432_0.From : Value) :: (.int .i64 x3432_0.To : Value) :: (.int .i64 x3432_0.Session : Value) :: (.int .i64 x3432_0.Part : Value) :: c3440 ++ (v3442 :: v3444 :: v3446 :: (.int .i64 a2 : Value) :: []) : List Value)) (y := (⟨x3432_0, a2⟩ : outbox_held_proto_Msg_)) (m_outbox_held_proto_Msg_ ((kArr 32 (kI .u8)).mono r3441 (t3453.trans (t3464.trans t3530))) (r3443.mono (t3453.trans (t3464.trans t3530))) (r3445.mono (t3453.trans (t3464.trans t3530))) (r3447.mono (t3453.trans (t3464.trans t3530)))) rows.nil); first | exact k | simpa only [List.append_nil, List.append_assoc, List.cons_append, List.nil_append] using k | simpa using k
        have o3535 : Own k_outbox_held_proto_Msg_ 280 h3529 (Ex I3424 h3419 h3434) (.slice (some ⟨b3528, 0, none⟩) 1 1) [(⟨x3432_0, a2⟩ : outbox_held_proto_Msg_)] := Own.row f3533 r3537 rfl rfl
        refine ⟨q3536, ?_⟩
        have b3538 := (b3466.stp p3531 (by simp))
        refine X.val (v := v3426) rfl rfl rfl (yLoadS (j := 1) Tryz.isAgg115 rfl (b3538).all rfl rfl) q3536 ?_
        have o3539 := ((((o3427.stp t3437 p3435 (by simp)).stp t3453 p3454 (by simp)).stp t3464 p3462 (s3455.sep 2 [0] rfl rfl rfl)).stp t3530 p3531 (by simp))
        obtain ⟨g3547, H⟩ := ifS H
        refine X.ef rfl rfl rfl (eAppend (bytes := 152) Tryz.underlying115 Tryz.type280 rfl rfl rfl rfl rfl rfl rfl rfl o3539 (Src.own o3535) (s3532.disOf 3 rfl) (Nat.le_trans (Nat.mul_le_mul_right _ g3547) (by decide))) ?_
        rintro v3540 h3541 ⟨o3542, p3543, n3544⟩
        have p3543 : Stp [v3426.ownBlock] h3529 h3541 := p3543
        have s3545 : St [some b_a0, v0_a0.ownBlock, v1_a0.ownBlock] h I h3541 (Ex I3424 h3419 h3434) [some b3528, some b3451, some b_a0, v3540.ownBlock, v3428.ownBlock, some b3375] := s3532.grow 3 rfl p3543 n3544
        have t3546 := s3532.tr p3543 (by simp) (fun _ hb => hb)
        have q3548 := q3536.cat p3543 (by simp)
        refine ⟨q3548, ?_⟩
        refine X.pas rfl rfl rfl (fun _ _ => yNil rfl) ?_
        refine X.pas (v := .pointer (some ⟨b_a0, 1, none⟩)) rfl rfl rfl (fun _ _ => yField 115 1 Tryz.underlying118 Tryz.sizeOf115 rfl rfl rfl) ?_
        have b3549 := (b3538.stp p3543 ((s3532.sep 2 [3] rfl rfl rfl) _ rfl))
        refine X.ef rfl rfl rfl (eStore (vs := (v3540 :: [] : List Value)) Tryz.sizeOf115 rfl rfl (cellsOne (Own.one o3542)) (by simp []) (by simp [ones, ones_append, oInt, oBool, oStr, oSl, oPtr, Own.one o3542]) b3549 (by simp [])) ?_
        rintro _ h3550 ⟨rfl, e3551⟩
        have f3555 : Box h3550 b_a0 118 ((.bool x3417_1.made : Value) :: v3540 :: v3428 :: (.int .i64 x3417_1.lost : Value) :: [] : List Value) := by subst e3551; exact Box.reset b3549 (rfl)
        have p3552 : Stp [some b_a0] h3541 h3550 := by subst e3551; exact Stp.set _
        have s3553 := s3545.step p3552 (by simp)
        have t3554 := s3545.tr p3552 (by simp) (fun _ hb => hb)
        clear e3551
        have q3556 := q3548.cat p3552 (by simp)
        refine ⟨q3556, ?_⟩
        refine X.nil ?_
        refine At.then ?_
        refine C.seq ?_
        refine C.seq ?_
        refine C.region 6 rfl ?_
        refine X.val rfl rfl rfl (yMove rfl) trivial ?_
        refine X.val rfl rfl rfl (yNil rfl) trivial ?_
        refine X.val (v := .pointer (some ⟨b_a0, 1, none⟩)) rfl rfl rfl (yField 115 1 Tryz.underlying118 Tryz.sizeOf115 rfl rfl rfl) trivial ?_
        refine X.val (v := v3540) rfl rfl rfl (yLoadS (j := 1) Tryz.isAgg115 rfl (f3555).all rfl rfl) trivial ?_
        have o3557 := (o3542.stp t3554 p3552 (s3545.sep 3 [2] rfl rfl rfl))
        refine X.val rfl rfl rfl (yLenO Tryz.underlying115 rfl o3557) trivial ?_
        by_cases g3558 : ((x3417_1.out ++ [(⟨x3432_0, a2⟩ : outbox_held_proto_Msg_)]).length : Int) > 500
        · have H := ifT g3558 H
          refine X.val rfl rfl rfl (yBT g3558 (yGtr rfl rfl)) trivial ?_
          refine X.nil ?_
          refine At.then ?_
          refine C.condT rfl ?_
          refine C.seq ?_
          refine C.region 9 rfl ?_
          refine X.val rfl rfl rfl (yMove rfl) trivial ?_
          refine X.val rfl rfl rfl (yMove rfl) trivial ?_
          refine X.val rfl rfl rfl (yNil rfl) trivial ?_
          refine X.val (v := .pointer (some ⟨b_a0, 1, none⟩)) rfl rfl rfl (yField 115 1 Tryz.underlying118 Tryz.sizeOf115 rfl rfl rfl) trivial ?_
          refine X.val (v := v3540) rfl rfl rfl (yLoadS (j := 1) Tryz.isAgg115 rfl (f3555).all rfl rfl) trivial ?_
          have o3559 := (o3542.stp t3554 p3552 (s3545.sep 3 [2] rfl rfl rfl))
          have s3560 : St [some b_a0, v0_a0.ownBlock, v1_a0.ownBlock] h I h3550 (fun b => (Ex I3424 h3419 h3434) b ∨ some b = v3540.ownBlock) [some b3528, some b3451, some b_a0, v3428.ownBlock, some b3375] := s3553.claim 3 rfl
          have t3561 : Tr (Ex I3424 h3419 h3434) h3550 (fun b => (Ex I3424 h3419 h3434) b ∨ some b = v3540.ownBlock) h3550 := fun b hb => ⟨.inl hb, rfl⟩
          have r3562 := Own.read (I' := (fun b => (Ex I3424 h3419 h3434) b ∨ some b = v3540.ownBlock)) o3559 (fun _ hb => .inl hb) (fun b e => .inr e.symm)
          obtain ⟨g3564, H⟩ := ifS H
          have g3565 : 1 ≤ (x3417_1.out ++ [(⟨x3432_0, a2⟩ : outbox_held_proto_Msg_)]).length := by omega
          have g3566 : (x3417_1.out ++ [(⟨x3432_0, a2⟩ : outbox_held_proto_Msg_)]).length ≤ none.getD (x3417_1.out ++ [(⟨x3432_0, a2⟩ : outbox_held_proto_Msg_)]).length := by simp only [Option.getD_none, Option.getD_some]; omega
          have g3567 : none.getD (x3417_1.out ++ [(⟨x3432_0, a2⟩ : outbox_held_proto_Msg_)]).length ≤ (x3417_1.out ++ [(⟨x3432_0, a2⟩ : outbox_held_proto_Msg_)]).length := by simp only [Option.getD_none, Option.getD_some]; omega
          have r3568 := SlR.cut r3562 g3565 g3566 g3567
          have r3568 : SlR _ _ _ _ ((x3417_1.out ++ [(⟨x3432_0, a2⟩ : outbox_held_proto_Msg_)]).drop 1) := (show ((x3417_1.out ++ [(⟨x3432_0, a2⟩ : outbox_held_proto_Msg_)]).drop 1).take ((x3417_1.out ++ [(⟨x3432_0, a2⟩ : outbox_held_proto_Msg_)]).length - 1) = (x3417_1.out ++ [(⟨x3432_0, a2⟩ : outbox_held_proto_Msg_)]).drop 1 from List.take_of_length_le (by simp)) ▸ r3568
          obtain ⟨v3569, e3570⟩ : ∃ w, w = cut v3540 1 ((x3417_1.out ++ [(⟨x3432_0, a2⟩ : outbox_held_proto_Msg_)]).length) none 41 := ⟨_, rfl⟩
          have r3568 : SlR k_outbox_held_proto_Msg_ (fun b => (Ex I3424 h3419 h3434) b ∨ some b = v3540.ownBlock) h3550 v3569 ((x3417_1.out ++ [(⟨x3432_0, a2⟩ : outbox_held_proto_Msg_)]).drop 1) := by rw [e3570]; exact r3568
          refine X.val (v := v3569) rfl rfl rfl (by rw [e3570]; exact ySlice Tryz.underlying115 Tryz.sizeOf280 rfl r3562 ⟨_, _, rfl, by omega, by rfl⟩ rfl rfl g3565 g3566 g3567) trivial ?_
          refine X.val rfl rfl rfl (yNil rfl) trivial ?_
          refine X.val (v := .pointer (some ⟨b_a0, 1, none⟩)) rfl rfl rfl (yField 115 1 Tryz.underlying118 Tryz.sizeOf115 rfl rfl rfl) trivial ?_
          refine X.ef rfl rfl rfl (eStore (vs := (v3569 :: [] : List Value)) Tryz.sizeOf115 rfl rfl (cellsOne (SlR.one r3568)) (by simp []) (by simp [ones, ones_append, oInt, oBool, oStr, oSl, oPtr, SlR.one r3568]) f3555 (by simp [])) ?_
          rintro _ h3571 ⟨rfl, e3572⟩
          have f3576 : Box h3571 b_a0 118 ((.bool x3417_1.made : Value) :: v3569 :: v3428 :: (.int .i64 x3417_1.lost : Value) :: [] : List Value) := by subst e3572; exact Box.reset f3555 (rfl)
          have p3573 : Stp [some b_a0] h3550 h3571 := by subst e3572; exact Stp.set _
          have s3574 := s3560.step p3573 (by simp)
          have t3575 := s3560.tr p3573 (by simp) (fun _ hb => hb)
          clear e3572
          refine ⟨trivial, ?_⟩
          refine X.nil ?_
          refine At.then ?_
          refine C.region 8 rfl ?_
          refine X.val rfl rfl rfl (yMove rfl) trivial ?_
          refine X.val rfl rfl rfl (yNil rfl) trivial ?_
          refine X.val (v := .pointer (some ⟨b_a0, 3, none⟩)) rfl rfl rfl (yField 3 3 Tryz.underlying118 Tryz.sizeOf3 rfl rfl rfl) trivial ?_
          refine X.val (v := .int .i64 x3417_1.lost) rfl rfl rfl (yLoadS (j := 3) Tryz.isAgg3 rfl (f3576).all rfl rfl) trivial ?_
          refine X.val rfl rfl rfl (yAdd rfl rfl) trivial ?_
          refine X.val rfl rfl rfl (yNil rfl) trivial ?_
          refine X.val (v := .pointer (some ⟨b_a0, 3, none⟩)) rfl rfl rfl (yField 3 3 Tryz.underlying118 Tryz.sizeOf3 rfl rfl rfl) trivial ?_
          refine X.ef rfl rfl rfl (eStore (vs := ((.int .i64 (IntKind.i64.wrap (x3417_1.lost + 1)) : Value) :: [] : List Value)) Tryz.sizeOf3 rfl rfl rfl (by simp []) (by simp [ones, ones_append, oInt, oBool, oStr, oSl, oPtr]) f3576 (by simp [])) ?_
          rintro _ h3577 ⟨rfl, e3578⟩
          have f3582 : Box h3577 b_a0 118 ((.bool x3417_1.made : Value) :: v3569 :: v3428 :: (.int .i64 (IntKind.i64.wrap (x3417_1.lost + 1)) : Value) :: [] : List Value) := by subst e3578; exact Box.reset f3576 (rfl)
          have p3579 : Stp [some b_a0] h3571 h3577 := by subst e3578; exact Stp.set _
          have s3580 := s3574.step p3579 (by simp)
          have t3581 := s3574.tr p3579 (by simp) (fun _ hb => hb)
          clear e3578
          refine ⟨trivial, ?_⟩
          refine X.nil ?_
          refine At.then ?_
          refine C.seq ?_
          refine C.region 1 rfl ?_
          refine X.val rfl rfl rfl (yAssign rfl) trivial ?_
          refine X.nil ?_
          refine At.then ?_
          refine C.ret ?_
          cases H
        · have H := ifF g3558 H
          refine X.val rfl rfl rfl (yBF g3558 (yGtr rfl rfl)) trivial ?_
          refine X.nil ?_
          refine At.then ?_
          refine C.condF rfl ?_
          refine C.skip ?_
          refine At.then ?_
          refine C.seq ?_
          refine C.region 1 rfl ?_
          refine X.val rfl rfl rfl (yAssign rfl) trivial ?_
          refine X.nil ?_
          refine At.then ?_
          refine C.ret ?_
          have o3583 := (o3542.stp t3554 p3552 (s3545.sep 3 [2] rfl rfl rfl))
          have o3584 := ((((((o3429.stp t3437 p3435 (by simp)).stp t3453 p3454 (by simp)).stp t3464 p3462 (s3455.sep 3 [0] rfl rfl rfl)).stp t3530 p3531 (by simp)).stp t3546 p3543 (s3532.sep 4 [3] rfl rfl rfl)).stp t3554 p3552 (s3545.sep 4 [2] rfl rfl rfl))
          obtain rfl := sm H
          refine At.retn (rs := [.tmp 6]) [.int .i64 0] rfl ?_ ?_
          exact ⟨Rv.tmp rfl, trivial⟩
          exact ⟨(Ex I3424 h3419 h3434), v3540, v3428, (s3553.pick [2, 3, 4] rfl (by decide) (by rintro (_ | _ | _ | i) m h <;> first | exact h | (simp at h))), rfl, f3555, o3583, o3584⟩

def p_slices_Clone_int (a0 : (List Int)) : Option ((List Int)) :=
  (if ([] : (List Int)).length + a0.length ≤ 17592186044416 then some (([] : (List Int)) ++ a0) else none)
theorem c_slices_Clone_int {h : Heap} {I : Nat → Prop} {v_a0 : Value} {a0 : (List Int)} (s0 : St [] h I h I []) (r_a0 : SlR (kI .i64) I h v_a0 a0) {r : ((List Int))} (H : p_slices_Clone_int a0 = some r) :
    Fn Tryz.prog 173 [v_a0] h (fun v h' => ∃ (I' : Nat → Prop) (u0 : Value) , St [] h I h' I' [u0.ownBlock] ∧ v = (u0 : Value) ∧ Own (kI .i64) 3 h' I' u0 r) := by
  unfold p_slices_Clone_int at H
  refine Fn.of 8 Tryz.func173 rfl rfl ?_
  refine C.seq ?_
  refine C.region 1 rfl ?_
  refine X.val rfl rfl rfl (yAssign rfl) trivial ?_
  refine X.nil ?_
  refine At.then ?_
  refine C.seq ?_
  refine C.seq ?_
  refine C.region 2 rfl ?_
  refine X.val rfl rfl rfl (yMove rfl) trivial ?_
  have rr := r_a0
  rcases rr.nilOr with ⟨rfl, rfl⟩ | ⟨u3605, u3606, u3607, rfl⟩
  · have H := eqH (b := some ([] : (List Int))) (by simp) H
    refine X.val (v := .bool true) rfl rfl rfl (ySlNilT Tryz.underlying67 rfl rfl) trivial ?_
    refine X.nil ?_
    refine At.then ?_
    refine C.condT rfl ?_
    refine C.seq ?_
    refine C.region 1 rfl ?_
    refine X.val rfl rfl rfl (yAssign rfl) trivial ?_
    refine X.nil ?_
    refine At.then ?_
    refine C.ret ?_
    refine At.thenR ?_
    have s3585 := s0.addNone
    have o3587 : Own (kI .i64) 3 h I (.slice none 0 0) ([] : (List Int)) := Own.nil
    obtain rfl := sm H
    refine At.retn (rs := [.tmp 2]) [.slice none 0 0] rfl ?_ ?_
    exact ⟨Rv.tmp rfl, trivial⟩
    exact ⟨I, .slice none 0 0, s3585, rfl, o3587⟩
  · refine X.val (v := .bool false) rfl rfl rfl (ySlNilF Tryz.underlying67 rfl rfl) trivial ?_
    refine X.nil ?_
    refine At.then ?_
    refine C.condF rfl ?_
    refine C.skip ?_
    refine At.then ?_
    refine C.seq ?_
    refine C.region 4 rfl ?_
    refine X.ef rfl rfl rfl (eBuildSlice0 Tryz.underlying67 Tryz.sizeOf3 rfl) ?_
    rintro _ h3589 ⟨rfl, e3594⟩
    obtain ⟨b3588, e3594b⟩ : ∃ b, b = h.size := ⟨_, rfl⟩
    rw [← e3594b]
    have f3593 : Box h3589 b3588 3 ([] : List Value) := by subst e3594; subst e3594b; exact Box.new _ _ _
    have p3591 : Stp [] h h3589 := by subst e3594; exact Stp.push _ _
    have s3592 : St [] h I h3589 I (some b3588 :: []) := by subst e3594; subst e3594b; exact s0.new _
    have t3590 := s0.tr p3591 (by simp) (fun _ hb => hb)
    clear e3594 e3594b
    have r3596 : rows (kI .i64) I h3589 ([] : List Value) ([] : (List Int)) := by have k : rows (kI .i64) I h3589 _ ([] : (List Int)) := rows.nil; first | exact k | simpa only [List.append_nil, List.append_assoc, List.cons_append, List.nil_append] using k | simpa using k
    have o3595 : Own (kI .i64) 3 h3589 I (.slice (some ⟨b3588, 0, none⟩) 0 0) ([] : (List Int)) := Own.row f3593 r3596 rfl rfl
    refine ⟨trivial, ?_⟩
    refine X.val rfl rfl rfl (yMove rfl) trivial ?_
    obtain ⟨g3604, H⟩ := ifS H
    refine X.ef rfl rfl rfl (eAppend (bytes := 8) Tryz.underlying67 Tryz.type3 rfl rfl rfl rfl rfl rfl rfl rfl o3595 (Src.sl (r_a0.mono t3590)) (s3592.disOf 0 rfl) (Nat.le_trans (Nat.mul_le_mul_right _ g3604) (by decide))) ?_
    rintro v3597 h3598 ⟨o3599, p3600, n3601⟩
    have p3600 : Stp [some b3588] h3589 h3598 := p3600
    have s3602 : St [] h I h3598 I [v3597.ownBlock] := s3592.grow 0 rfl p3600 n3601
    have t3603 := s3592.tr p3600 (by simp) (fun _ hb => hb)
    refine ⟨trivial, ?_⟩
    refine X.val rfl rfl rfl (yAssign rfl) trivial ?_
    refine X.nil ?_
    refine At.then ?_
    refine C.ret ?_
    obtain rfl := sm H
    refine At.retn (rs := [.tmp 2]) [v3597] rfl ?_ ?_
    exact ⟨Rv.tmp rfl, trivial⟩
    exact ⟨I, v3597, s3602, rfl, o3599⟩

def p_outbox_Box_Tell (a0 : outbox_Box) (a1 : outbox_Answer) (a2 : Int) : Option (Int × outbox_Box) :=
  (p_outbox_Box_ask a0 a2).bind fun (x3620_0, x3620_1) => (if x3620_0 ≠ 0 then some (x3620_0, x3620_1) else (p_slices_Clone_int a1.Lines).bind fun x3636 => (if x3620_1.answers.length + [(⟨(⟨a1.ID, a1.Err, x3636⟩ : outbox_Answer), a2⟩ : outbox_held_outbox_Answer_)].length ≤ 2932031007402 then some (0, (⟨x3620_1.made, x3620_1.out, (x3620_1.answers ++ [(⟨(⟨a1.ID, a1.Err, x3636⟩ : outbox_Answer), a2⟩ : outbox_held_outbox_Answer_)]), x3620_1.lost⟩ : outbox_Box)) else none))
theorem c_outbox_Box_Tell {h : Heap} {I : Nat → Prop} {b_a0 : Nat} {a0 : outbox_Box} {v0_a0 : Value} {v1_a0 : Value} {c_a1 : List Value} {a1 : outbox_Answer} {a2 : Int} (s0 : St [some b_a0, v0_a0.ownBlock, v1_a0.ownBlock] h I h I [some b_a0, v0_a0.ownBlock, v1_a0.ownBlock]) (f_a0 : Box h b_a0 118 ((.bool a0.made : Value) :: v0_a0 :: v1_a0 :: (.int .i64 a0.lost : Value) :: [] : List Value)) (o0_a0 : Own k_outbox_held_proto_Msg_ 280 h I v0_a0 a0.out) (o1_a0 : Own k_outbox_held_outbox_Answer_ 282 h I v1_a0 a0.answers) (r_a1 : (k_outbox_Answer).rp I h c_a1 a1) {r : (Int × outbox_Box)} (H : p_outbox_Box_Tell a0 a1 a2 = some r) :
    Fn Tryz.prog 59 [.pointer (some ⟨b_a0, 0, none⟩), .agg c_a1.toArray, .int .i64 a2] h (fun v h' => ∃ (I' : Nat → Prop) (w0s : Value) (w1s : Value) , St [some b_a0, v0_a0.ownBlock, v1_a0.ownBlock] h I h' I' [some b_a0, w0s.ownBlock, w1s.ownBlock] ∧ v = (.int .i64 r.1 : Value) ∧ Box h' b_a0 118 ((.bool r.2.made : Value) :: w0s :: w1s :: (.int .i64 r.2.lost : Value) :: [] : List Value) ∧ Own k_outbox_held_proto_Msg_ 280 h' I' w0s r.2.out ∧ Own k_outbox_held_outbox_Answer_ 282 h' I' w1s r.2.answers) := by
  unfold p_outbox_Box_Tell at H
  obtain ⟨v3608, rfl, r3609⟩ := o_outbox_Answer r_a1
  refine Fn.of 30 Tryz.func59 rfl rfl ?_
  refine C.seq ?_
  refine C.region 2 rfl ?_
  refine X.ef rfl rfl rfl (eBox (cs := ((.int .i64 a1.ID : Value) :: (.int .i64 a1.Err : Value) :: v3608 :: [] : List Value)) rfl rfl) ?_
  rintro _ h3611 ⟨rfl, e3616⟩
  obtain ⟨b3610, e3616b⟩ : ∃ b, b = h.size := ⟨_, rfl⟩
  rw [← e3616b]
  have f3615 : Box h3611 b3610 104 ((.int .i64 a1.ID : Value) :: (.int .i64 a1.Err : Value) :: v3608 :: [] : List Value) := by subst e3616; subst e3616b; exact Box.new _ _ _
  have p3613 : Stp [] h h3611 := by subst e3616; exact Stp.push _ _
  have s3614 : St [some b_a0, v0_a0.ownBlock, v1_a0.ownBlock] h I h3611 I (some b3610 :: [some b_a0, v0_a0.ownBlock, v1_a0.ownBlock]) := by subst e3616; subst e3616b; exact s0.new _
  have t3612 := s0.tr p3613 (by simp) (fun _ hb => hb)
  clear e3616 e3616b
  refine ⟨trivial, ?_⟩
  refine X.val rfl rfl rfl (yAssign rfl) trivial ?_
  refine X.nil ?_
  refine At.then ?_
  refine C.seq ?_
  refine C.seq ?_
  refine C.region 4 rfl ?_
  refine X.val rfl rfl rfl (yMove rfl) trivial ?_
  refine X.val rfl rfl rfl (yMove rfl) trivial ?_
  have b3617 := (f_a0.stp p3613 (by simp))
  have o3618 := (o0_a0.stp t3612 p3613 (by simp))
  have o3619 := (o1_a0.stp t3612 p3613 (by simp))
  obtain ⟨x3620, e3621, H⟩ := bnd H
  have s3626 : St [some b_a0, v0_a0.ownBlock, v1_a0.ownBlock] h I h3611 I ([some b_a0, v0_a0.ownBlock, v1_a0.ownBlock] ++ [some b3610]) := s3614.pick [1, 2, 3, 0] rfl (by decide) (by rintro (_ | _ | _ | _ | i) m h <;> first | exact h | (simp at h))
  refine X.call (all := [.pointer (some ⟨b_a0, 0, none⟩), .int .i64 a2]) Tryz.call172 rfl rfl rfl rfl rfl rfl (c_outbox_Box_ask s3626.left.lend b3617 o3618 o3619 e3621) ?_
  obtain ⟨x3620_0, x3620_1⟩ := x3620
  rintro _ h3622 ⟨I3627, v3629, v3631, k3633, rfl, f3628, o3630, o3632⟩
  have s3624 : St [some b_a0, v0_a0.ownBlock, v1_a0.ownBlock] h I h3622 I3627 [some b_a0, v3629.ownBlock, v3631.ownBlock, some b3610] := St.callS (L := [some b_a0, v0_a0.ownBlock, v1_a0.ownBlock]) (R := [some b3610]) (L' := [some b_a0, v3629.ownBlock, v3631.ownBlock]) s3626 k3633
  have t3625 : Tr I h3611 I3627 h3622 := St.callSTr (L := [some b_a0, v0_a0.ownBlock, v1_a0.ownBlock]) (R := [some b3610]) (L' := [some b_a0, v3629.ownBlock, v3631.ownBlock]) s3626 k3633
  have p3623 := k3633.stp
  refine ⟨trivial, ?_⟩
  refine X.val rfl rfl rfl (yAssign rfl) trivial ?_
  refine X.nil ?_
  refine At.then ?_
  refine C.seq ?_
  refine C.region 2 rfl ?_
  refine X.val rfl rfl rfl (yMove rfl) trivial ?_
  by_cases g3634 : x3620_0 ≠ 0
  · have H := ifT g3634 H
    refine X.val rfl rfl rfl (yBT g3634 (yNeq rfl rfl)) trivial ?_
    refine X.nil ?_
    refine At.then ?_
    refine C.condT rfl ?_
    refine C.seq ?_
    refine C.region 2 rfl ?_
    refine X.val rfl rfl rfl (yMove rfl) trivial ?_
    refine X.val rfl rfl rfl (yAssign rfl) trivial ?_
    refine X.nil ?_
    refine At.then ?_
    refine C.ret ?_
    refine At.thenR ?_
    obtain rfl := sm H
    refine At.retn (rs := [.tmp 6]) [.int .i64 x3620_0] rfl ?_ ?_
    exact ⟨Rv.tmp rfl, trivial⟩
    exact ⟨I3627, v3629, v3631, (s3624.pick [0, 1, 2] rfl (by decide) (by rintro (_ | _ | _ | i) m h <;> first | exact h | (simp at h))), rfl, f3628, o3630, o3632⟩
  · have H := ifF g3634 H
    refine X.val rfl rfl rfl (yBF g3634 (yNeq rfl rfl)) trivial ?_
    refine X.nil ?_
    refine At.then ?_
    refine C.condF rfl ?_
    refine C.skip ?_
    refine At.then ?_
    refine C.seq ?_
    refine C.region 5 rfl ?_
    refine X.val (v := .pointer (some ⟨b3610, 2, none⟩)) rfl rfl rfl (yField 67 2 Tryz.underlying104 Tryz.sizeOf67 rfl rfl rfl) trivial ?_
    have b3635 := (f3615.stp p3623 ((s3614.sep 0 [1, 2, 3] rfl rfl rfl) _ rfl))
    refine X.val (v := v3608) rfl rfl rfl (yLoadS (j := 2) Tryz.isAgg67 rfl (b3635).all rfl rfl) trivial ?_
    obtain ⟨x3636, e3637, H⟩ := bnd H
    have s3642 : St [some b_a0, v0_a0.ownBlock, v1_a0.ownBlock] h I h3622 I3627 ([] ++ [some b_a0, v3629.ownBlock, v3631.ownBlock, some b3610]) := s3624.pick [0, 1, 2, 3] rfl (by decide) (by rintro (_ | _ | _ | _ | i) m h <;> first | exact h | (simp at h))
    refine X.call (all := [v3608]) Tryz.call173 rfl rfl rfl rfl rfl rfl (c_slices_Clone_int s3642.left.lend (r3609.mono (t3612.trans t3625)) e3637) ?_
    rintro v3644 h3638 ⟨I3643, _, k3646, rfl, o3645⟩
    have s3640 : St [some b_a0, v0_a0.ownBlock, v1_a0.ownBlock] h I h3638 I3643 [v3644.ownBlock, some b_a0, v3629.ownBlock, v3631.ownBlock, some b3610] := St.callS (L := []) (R := [some b_a0, v3629.ownBlock, v3631.ownBlock, some b3610]) (L' := [v3644.ownBlock]) s3642 k3646
    have t3641 : Tr I3627 h3622 I3643 h3638 := St.callSTr (L := []) (R := [some b_a0, v3629.ownBlock, v3631.ownBlock, some b3610]) (L' := [v3644.ownBlock]) s3642 k3646
    have p3639 := k3646.stp
    refine ⟨trivial, ?_⟩
    refine X.val (v := .pointer (some ⟨b3610, 2, none⟩)) rfl rfl rfl (yField 67 2 Tryz.underlying104 Tryz.sizeOf67 rfl rfl rfl) trivial ?_
    have s3647 : St [some b_a0, v0_a0.ownBlock, v1_a0.ownBlock] h I h3638 (fun b => I3643 b ∨ some b = v3644.ownBlock) [some b_a0, v3629.ownBlock, v3631.ownBlock, some b3610] := s3640.claim 0 rfl
    have t3648 : Tr I3643 h3638 (fun b => I3643 b ∨ some b = v3644.ownBlock) h3638 := fun b hb => ⟨.inl hb, rfl⟩
    have r3649 := Own.read (I' := (fun b => I3643 b ∨ some b = v3644.ownBlock)) o3645 (fun _ hb => .inl hb) (fun b e => .inr e.symm)
    have b3650 := (b3635.stp p3639 (by simp))
    refine X.ef rfl rfl rfl (eStore (vs := (v3644 :: [] : List Value)) Tryz.sizeOf67 rfl rfl (cellsOne (SlR.one r3649)) (by simp []) (by simp [ones, ones_append, oInt, oBool, oStr, oSl, oPtr, SlR.one r3649]) b3650 (by simp [])) ?_
    rintro _ h3651 ⟨rfl, e3652⟩
    have f3656 : Box h3651 b3610 104 ((.int .i64 a1.ID : Value) :: (.int .i64 a1.Err : Value) :: v3644 :: [] : List Value) := by subst e3652; exact Box.reset b3650 (rfl)
    have p3653 : Stp [some b3610] h3638 h3651 := by subst e3652; exact Stp.set _
    have s3654 := s3647.step p3653 (by simp)
    have t3655 := s3647.tr p3653 (by simp) (fun _ hb => hb)
    clear e3652
    refine ⟨trivial, ?_⟩
    refine X.nil ?_
    refine At.then ?_
    refine C.seq ?_
    have b3657 := ((f3628.stp p3639 (by simp)).stp p3653 ((s3647.sep 0 [3] rfl rfl rfl) _ rfl))
    refine C.regionD rfl (Stp [v3631.ownBlock, some b_a0] h3651) (.pas 0 (.pas 1 (.pas 2 (.pas 3 (.pas 5 (.pas 6 (.pas 7 (.alt 4 (.alt 8 (.alt 9 (.pas 10 (.pas 11 (.alt 12 .nil .stop))) .stop) .stop) (.alt 8 (.alt 4 (.alt 9 (.pas 10 (.pas 11 (.alt 12 .nil .stop))) .stop) .stop) .stop))))))))) (by kernel_rfl) (Stp.refl0 _ _) ?_
    have q3658 := Stp.refl0 [v3631.ownBlock, some b_a0] h3651
    refine X.pas rfl rfl rfl (fun _ _ => yMove rfl) ?_
    refine X.pas rfl rfl rfl (fun _ _ => yMove rfl) ?_
    refine X.pas rfl rfl rfl (fun _ _ => yNil rfl) ?_
    refine X.pas (v := .pointer (some ⟨b_a0, 2, none⟩)) rfl rfl rfl (fun _ _ => yField 116 2 Tryz.underlying118 Tryz.sizeOf116 rfl rfl rfl) ?_
    refine X.pas (v := .agg (((.int .i64 a1.ID : Value) :: (.int .i64 a1.Err : Value) :: v3644 :: [] : List Value)).toArray) rfl rfl rfl (fun h' q => yLoadW Tryz.isAgg104 Tryz.sizeOf104 rfl ((f3656.stp q (s3654.sep 3 [2, 0] rfl rfl rfl _ rfl))).all (by simp [])) ?_
    refine X.pas rfl rfl rfl (fun _ _ => yMove rfl) ?_
    refine X.pas (v := .agg (((.int .i64 a1.ID : Value) :: (.int .i64 a1.Err : Value) :: v3644 :: (.int .i64 a2 : Value) :: [] : List Value)).toArray) rfl rfl rfl (fun _ _ => yBuild (out := ((.int .i64 a1.ID : Value) :: (.int .i64 a1.Err : Value) :: v3644 :: (.int .i64 a2 : Value) :: [] : List Value)) [3, 1] [((.int .i64 0 : Value) :: (.int .i64 0 : Value) :: (.slice none 0 0 : Value) :: [] : List Value), ((.int .i64 0 : Value) :: [] : List Value)] Tryz.zeroValue282 rfl pl_T282 rfl rfl (by simp [okp, vInt, vBool, vStr, vSl, vPtr, vAgg]) (by simp [setAll, vInt, vBool, vStr, vSl, vPtr, vAgg])) ?_
    refine X.fork ?_ ?_
    · refine X.val (v := v3631) rfl rfl rfl (yLoadS (j := 2) Tryz.isAgg116 rfl (b3657).all rfl rfl) q3658 ?_
      refine X.ef rfl rfl rfl (eBuildSlice (out := ((.int .i64 a1.ID : Value) :: (.int .i64 a1.Err : Value) :: v3644 :: (.int .i64 a2 : Value) :: [] : List Value)) Tryz.underlying116 Tryz.sizeOf282 (List.replicate 1 ((.int .i64 0 : Value) :: (.int .i64 0 : Value) :: (.slice none 0 0 : Value) :: (.int .i64 0 : Value) :: [] : List Value)) Tryz.zeroValue282 rfl (by kernel_rfl) rfl rfl rfl (by simp [okp, vInt, vBool, vStr, vSl, vPtr, vAgg]) (by simp [setAll, vInt, vBool, vStr, vSl, vPtr, vAgg])) ?_
      rintro _ h3660 ⟨rfl, e3665⟩
      obtain ⟨b3659, e3665b⟩ : ∃ b, b = h3651.size := ⟨_, rfl⟩
      rw [← e3665b]
      have f3664 : Box h3660 b3659 282 ((.int .i64 a1.ID : Value) :: (.int .i64 a1.Err : Value) :: v3644 :: (.int .i64 a2 : Value) :: [] : List Value) := by subst e3665; subst e3665b; exact Box.new _ _ _
      have p3662 : Stp [] h3651 h3660 := by subst e3665; exact Stp.push _ _
      have s3663 : St [some b_a0, v0_a0.ownBlock, v1_a0.ownBlock] h I h3660 (fun b => I3643 b ∨ some b = v3644.ownBlock) (some b3659 :: [some b_a0, v3629.ownBlock, v3631.ownBlock, some b3610]) := by subst e3665; subst e3665b; exact s3654.new _
      have t3661 := s3654.tr p3662 (by simp) (fun _ hb => hb)
      clear e3665 e3665b
      have q3667 := q3658.cat p3662 (by simp)
      have r3668 : rows k_outbox_held_outbox_Answer_ (fun b => I3643 b ∨ some b = v3644.ownBlock) h3660 ((.int .i64 a1.ID : Value) :: (.int .i64 a1.Err : Value) :: v3644 :: (.int .i64 a2 : Value) :: [] : List Value) [(⟨(⟨a1.ID, a1.Err, x3636⟩ : outbox_Answer), a2⟩ : outbox_held_outbox_Answer_)] := by have k : rows k_outbox_held_outbox_Answer_ (fun b => I3643 b ∨ some b = v3644.ownBlock) h3660 _ [(⟨(⟨a1.ID, a1.Err, x3636⟩ : outbox_Answer), a2⟩ : outbox_held_outbox_Answer_)] := (rows.cons (c := ((.int .i64 a1.ID : Value) :: (.int .i64 a1.Err : Value) :: v3644 :: (.int .i64 a2 : Value) :: [] : List Value)) (y := (⟨(⟨a1.ID, a1.Err, x3636⟩ : outbox_Answer), a2⟩ : outbox_held_outbox_Answer_)) (m_outbox_held_outbox_Answer_ (r3649.mono (t3655.trans t3661))) rows.nil); first | exact k | simpa only [List.append_nil, List.append_assoc, List.cons_append, List.nil_append] using k | simpa using k
      have o3666 : Own k_outbox_held_outbox_Answer_ 282 h3660 (fun b => I3643 b ∨ some b = v3644.ownBlock) (.slice (some ⟨b3659, 0, none⟩) 1 1) [(⟨(⟨a1.ID, a1.Err, x3636⟩ : outbox_Answer), a2⟩ : outbox_held_outbox_Answer_)] := Own.row f3664 r3668 rfl rfl
      refine ⟨q3667, ?_⟩
      have o3669 := ((((o3632.stp t3641 p3639 (by simp)).mono t3648 (fun _ _ => rfl)).stp t3655 p3653 (s3647.sep 2 [3] rfl rfl rfl)).stp t3661 p3662 (by simp))
      obtain ⟨g3677, H⟩ := ifS H
      refine X.ef rfl rfl rfl (eAppend (bytes := 48) Tryz.underlying116 Tryz.type282 rfl rfl rfl rfl rfl rfl rfl rfl o3669 (Src.own o3666) (s3663.disOf 3 rfl) (Nat.le_trans (Nat.mul_le_mul_right _ g3677) (by decide))) ?_
      rintro v3670 h3671 ⟨o3672, p3673, n3674⟩
      have p3673 : Stp [v3631.ownBlock] h3660 h3671 := p3673
      have s3675 : St [some b_a0, v0_a0.ownBlock, v1_a0.ownBlock] h I h3671 (fun b => I3643 b ∨ some b = v3644.ownBlock) [some b3659, some b_a0, v3629.ownBlock, v3670.ownBlock, some b3610] := s3663.grow 3 rfl p3673 n3674
      have t3676 := s3663.tr p3673 (by simp) (fun _ hb => hb)
      have q3678 := q3667.cat p3673 (by simp)
      refine ⟨q3678, ?_⟩
      refine X.pas rfl rfl rfl (fun _ _ => yNil rfl) ?_
      refine X.pas (v := .pointer (some ⟨b_a0, 2, none⟩)) rfl rfl rfl (fun _ _ => yField 116 2 Tryz.underlying118 Tryz.sizeOf116 rfl rfl rfl) ?_
      have b3679 := ((b3657.stp p3662 (by simp)).stp p3673 ((s3663.sep 1 [3] rfl rfl rfl) _ rfl))
      refine X.ef rfl rfl rfl (eStore (vs := (v3670 :: [] : List Value)) Tryz.sizeOf116 rfl rfl (cellsOne (Own.one o3672)) (by simp []) (by simp [ones, ones_append, oInt, oBool, oStr, oSl, oPtr, Own.one o3672]) b3679 (by simp [])) ?_
      rintro _ h3680 ⟨rfl, e3681⟩
      have f3685 : Box h3680 b_a0 118 ((.bool x3620_1.made : Value) :: v3629 :: v3670 :: (.int .i64 x3620_1.lost : Value) :: [] : List Value) := by subst e3681; exact Box.reset b3679 (rfl)
      have p3682 : Stp [some b_a0] h3671 h3680 := by subst e3681; exact Stp.set _
      have s3683 := s3675.step p3682 (by simp)
      have t3684 := s3675.tr p3682 (by simp) (fun _ hb => hb)
      clear e3681
      have q3686 := q3678.cat p3682 (by simp)
      refine ⟨q3686, ?_⟩
      refine X.nil ?_
      refine At.then ?_
      refine C.seq ?_
      refine C.region 1 rfl ?_
      refine X.val rfl rfl rfl (yAssign rfl) trivial ?_
      refine X.nil ?_
      refine At.then ?_
      refine C.ret ?_
      have o3687 := ((((((o3630.stp t3641 p3639 (by simp)).mono t3648 (fun _ _ => rfl)).stp t3655 p3653 (s3647.sep 1 [3] rfl rfl rfl)).stp t3661 p3662 (by simp)).stp t3676 p3673 (s3663.sep 2 [3] rfl rfl rfl)).stp t3684 p3682 (s3675.sep 2 [1] rfl rfl rfl))
      have o3688 := (o3672.stp t3684 p3682 (s3675.sep 3 [1] rfl rfl rfl))
      obtain rfl := sm H
      refine At.retn (rs := [.tmp 6]) [.int .i64 0] rfl ?_ ?_
      exact ⟨Rv.tmp rfl, trivial⟩
      exact ⟨(fun b => I3643 b ∨ some b = v3644.ownBlock), v3629, v3670, (s3683.pick [1, 2, 3] rfl (by decide) (by rintro (_ | _ | _ | i) m h <;> first | exact h | (simp at h))), rfl, f3685, o3687, o3688⟩
    refine X.ef rfl rfl rfl (eBuildSlice (out := ((.int .i64 a1.ID : Value) :: (.int .i64 a1.Err : Value) :: v3644 :: (.int .i64 a2 : Value) :: [] : List Value)) Tryz.underlying116 Tryz.sizeOf282 (List.replicate 1 ((.int .i64 0 : Value) :: (.int .i64 0 : Value) :: (.slice none 0 0 : Value) :: (.int .i64 0 : Value) :: [] : List Value)) Tryz.zeroValue282 rfl (by kernel_rfl) rfl rfl rfl (by simp [okp, vInt, vBool, vStr, vSl, vPtr, vAgg]) (by simp [setAll, vInt, vBool, vStr, vSl, vPtr, vAgg])) ?_
    rintro _ h3690 ⟨rfl, e3695⟩
    obtain ⟨b3689, e3695b⟩ : ∃ b, b = h3651.size := ⟨_, rfl⟩
    rw [← e3695b]
    have f3694 : Box h3690 b3689 282 ((.int .i64 a1.ID : Value) :: (.int .i64 a1.Err : Value) :: v3644 :: (.int .i64 a2 : Value) :: [] : List Value) := by subst e3695; subst e3695b; exact Box.new _ _ _
    have p3692 : Stp [] h3651 h3690 := by subst e3695; exact Stp.push _ _
    have s3693 : St [some b_a0, v0_a0.ownBlock, v1_a0.ownBlock] h I h3690 (fun b => I3643 b ∨ some b = v3644.ownBlock) (some b3689 :: [some b_a0, v3629.ownBlock, v3631.ownBlock, some b3610]) := by subst e3695; subst e3695b; exact s3654.new _
    have t3691 := s3654.tr p3692 (by simp) (fun _ hb => hb)
    clear e3695 e3695b
    have q3697 := q3658.cat p3692 (by simp)
    have r3698 : rows k_outbox_held_outbox_Answer_ (fun b => I3643 b ∨ some b = v3644.ownBlock) h3690 ((.int .i64 a1.ID : Value) :: (.int .i64 a1.Err : Value) :: v3644 :: (.int .i64 a2 : Value) :: [] : List Value) [(⟨(⟨a1.ID, a1.Err, x3636⟩ : outbox_Answer), a2⟩ : outbox_held_outbox_Answer_)] := by have k : rows k_outbox_held_outbox_Answer_ (fun b => I3643 b ∨ some b = v3644.ownBlock) h3690 _ [(⟨(⟨a1.ID, a1.Err, x3636⟩ : outbox_Answer), a2⟩ : outbox_held_outbox_Answer_)] := (rows.cons (c := ((.int .i64 a1.ID : Value) :: (.int .i64 a1.Err : Value) :: v3644 :: (.int .i64 a2 : Value) :: [] : List Value)) (y := (⟨(⟨a1.ID, a1.Err, x3636⟩ : outbox_Answer), a2⟩ : outbox_held_outbox_Answer_)) (m_outbox_held_outbox_Answer_ (r3649.mono (t3655.trans t3691))) rows.nil); first | exact k | simpa only [List.append_nil, List.append_assoc, List.cons_append, List.nil_append] using k | simpa using k
    have o3696 : Own k_outbox_held_outbox_Answer_ 282 h3690 (fun b => I3643 b ∨ some b = v3644.ownBlock) (.slice (some ⟨b3689, 0, none⟩) 1 1) [(⟨(⟨a1.ID, a1.Err, x3636⟩ : outbox_Answer), a2⟩ : outbox_held_outbox_Answer_)] := Own.row f3694 r3698 rfl rfl
    refine ⟨q3697, ?_⟩
    have b3699 := (b3657.stp p3692 (by simp))
    refine X.val (v := v3631) rfl rfl rfl (yLoadS (j := 2) Tryz.isAgg116 rfl (b3699).all rfl rfl) q3697 ?_
    have o3700 := ((((o3632.stp t3641 p3639 (by simp)).mono t3648 (fun _ _ => rfl)).stp t3655 p3653 (s3647.sep 2 [3] rfl rfl rfl)).stp t3691 p3692 (by simp))
    obtain ⟨g3708, H⟩ := ifS H
    refine X.ef rfl rfl rfl (eAppend (bytes := 48) Tryz.underlying116 Tryz.type282 rfl rfl rfl rfl rfl rfl rfl rfl o3700 (Src.own o3696) (s3693.disOf 3 rfl) (Nat.le_trans (Nat.mul_le_mul_right _ g3708) (by decide))) ?_
    rintro v3701 h3702 ⟨o3703, p3704, n3705⟩
    have p3704 : Stp [v3631.ownBlock] h3690 h3702 := p3704
    have s3706 : St [some b_a0, v0_a0.ownBlock, v1_a0.ownBlock] h I h3702 (fun b => I3643 b ∨ some b = v3644.ownBlock) [some b3689, some b_a0, v3629.ownBlock, v3701.ownBlock, some b3610] := s3693.grow 3 rfl p3704 n3705
    have t3707 := s3693.tr p3704 (by simp) (fun _ hb => hb)
    have q3709 := q3697.cat p3704 (by simp)
    refine ⟨q3709, ?_⟩
    refine X.pas rfl rfl rfl (fun _ _ => yNil rfl) ?_
    refine X.pas (v := .pointer (some ⟨b_a0, 2, none⟩)) rfl rfl rfl (fun _ _ => yField 116 2 Tryz.underlying118 Tryz.sizeOf116 rfl rfl rfl) ?_
    have b3710 := (b3699.stp p3704 ((s3693.sep 1 [3] rfl rfl rfl) _ rfl))
    refine X.ef rfl rfl rfl (eStore (vs := (v3701 :: [] : List Value)) Tryz.sizeOf116 rfl rfl (cellsOne (Own.one o3703)) (by simp []) (by simp [ones, ones_append, oInt, oBool, oStr, oSl, oPtr, Own.one o3703]) b3710 (by simp [])) ?_
    rintro _ h3711 ⟨rfl, e3712⟩
    have f3716 : Box h3711 b_a0 118 ((.bool x3620_1.made : Value) :: v3629 :: v3701 :: (.int .i64 x3620_1.lost : Value) :: [] : List Value) := by subst e3712; exact Box.reset b3710 (rfl)
    have p3713 : Stp [some b_a0] h3702 h3711 := by subst e3712; exact Stp.set _
    have s3714 := s3706.step p3713 (by simp)
    have t3715 := s3706.tr p3713 (by simp) (fun _ hb => hb)
    clear e3712
    have q3717 := q3709.cat p3713 (by simp)
    refine ⟨q3717, ?_⟩
    refine X.nil ?_
    refine At.then ?_
    refine C.seq ?_
    refine C.region 1 rfl ?_
    refine X.val rfl rfl rfl (yAssign rfl) trivial ?_
    refine X.nil ?_
    refine At.then ?_
    refine C.ret ?_
    have o3718 := ((((((o3630.stp t3641 p3639 (by simp)).mono t3648 (fun _ _ => rfl)).stp t3655 p3653 (s3647.sep 1 [3] rfl rfl rfl)).stp t3691 p3692 (by simp)).stp t3707 p3704 (s3693.sep 2 [3] rfl rfl rfl)).stp t3715 p3713 (s3706.sep 2 [1] rfl rfl rfl))
    have o3719 := (o3703.stp t3715 p3713 (s3706.sep 3 [1] rfl rfl rfl))
    obtain rfl := sm H
    refine At.retn (rs := [.tmp 6]) [.int .i64 0] rfl ?_ ?_
    exact ⟨Rv.tmp rfl, trivial⟩
    exact ⟨(fun b => I3643 b ∨ some b = v3644.ownBlock), v3629, v3701, (s3714.pick [1, 2, 3] rfl (by decide) (by rintro (_ | _ | _ | i) m h <;> first | exact h | (simp at h))), rfl, f3716, o3718, o3719⟩

def p_outbox_split_outbox_Answer_l0 (K : Nat) (a0 : (List outbox_held_outbox_Answer_)) (a1 : Int) : Nat → (List outbox_Answer) → (List outbox_held_outbox_Answer_) → Int → Option ((List outbox_Answer) × (List outbox_held_outbox_Answer_) × Int)
  | 0, _, _, _ => none
  | k3741 + 1, y3728, y3732, y3735 => (if y3735 < (a0.length : Int) then (if 0 ≤ y3735 ∧ y3735 < (a0.length : Int) then (if ((rd a0 y3735).mark) ≤ a1 then (if y3728.length + [(rd a0 y3735).x].length ≤ 3518437208883 then (p_outbox_split_outbox_Answer_l0 K a0 a1 k3741 (y3728 ++ [(rd a0 y3735).x]) y3732 (IntKind.i64.wrap (y3735 + 1))) else none) else (if y3732.length + [(rd a0 y3735)].length ≤ 2932031007402 then (p_outbox_split_outbox_Answer_l0 K a0 a1 k3741 y3728 (y3732 ++ [(rd a0 y3735)]) (IntKind.i64.wrap (y3735 + 1))) else none)) else none) else some (y3728, y3732, y3735))
def p_outbox_split_outbox_Answer (K : Nat) (a0 : (List outbox_held_outbox_Answer_)) (a1 : Int) : Option ((List outbox_Answer) × (List outbox_held_outbox_Answer_)) :=
  (p_outbox_split_outbox_Answer_l0 K a0 a1 K ([] : (List outbox_Answer)) ([] : (List outbox_held_outbox_Answer_)) 0).bind fun (w3808, w3809, w3810) => some (w3808, w3809)
theorem c_outbox_split_outbox_Answer {K : Nat} {h : Heap} {I : Nat → Prop} {v_a0 : Value} {a0 : (List outbox_held_outbox_Answer_)} {a1 : Int} (s0 : St [] h I h I []) (r_a0 : SlR k_outbox_held_outbox_Answer_ I h v_a0 a0) {r : ((List outbox_Answer) × (List outbox_held_outbox_Answer_))} (H : p_outbox_split_outbox_Answer K a0 a1 = some r) :
    Fn Tryz.prog 174 [v_a0, .int .i64 a1] h (fun v h' => ∃ (I' : Nat → Prop) (u0 : Value) (u1 : Value) , St [] h I h' I' [u0.ownBlock, u1.ownBlock] ∧ v = (.tuple #[u0, u1] : Value) ∧ Own k_outbox_Answer 104 h' I' u0 r.1 ∧ Own k_outbox_held_outbox_Answer_ 282 h' I' u1 r.2) := by
  unfold p_outbox_split_outbox_Answer at H
  refine Fn.of 32 Tryz.func174 rfl rfl ?_
  refine C.seq ?_
  refine C.region 2 rfl ?_
  refine X.val rfl rfl rfl (yAssign rfl) trivial ?_
  refine X.val rfl rfl rfl (yAssign rfl) trivial ?_
  refine X.nil ?_
  refine At.then ?_
  refine C.seq ?_
  refine C.region 1 rfl ?_
  refine X.val rfl rfl rfl (yAssign rfl) trivial ?_
  refine X.nil ?_
  refine At.then ?_
  refine C.seq ?_
  refine C.region 1 rfl ?_
  refine X.val rfl rfl rfl (yAssign rfl) trivial ?_
  refine X.nil ?_
  refine At.then ?_
  refine C.seq ?_
  refine C.seq ?_
  refine C.region 3 rfl ?_
  refine X.val rfl rfl rfl (yMove rfl) trivial ?_
  refine X.val rfl rfl rfl (yLenR Tryz.underlying116 rfl r_a0) trivial ?_
  refine X.val rfl rfl rfl (yMove rfl) trivial ?_
  refine X.nil ?_
  refine At.then ?_
  refine C.block ?_
  have s3720 := s0.addNone
  have o3722 : Own k_outbox_Answer 104 h I (.slice none 0 0) ([] : (List outbox_Answer)) := Own.nil
  have s3723 := s3720.addNone
  have o3725 : Own k_outbox_held_outbox_Answer_ 282 h I (.slice none 0 0) ([] : (List outbox_held_outbox_Answer_)) := Own.nil
  have o3731 := (o3722.mono (Tr.refl I h) (fun _ _ => rfl))
  obtain ⟨z3738, e3740, G3739⟩ := bnd H
  refine C.prune [(1, .int .i64 a1), (6, .slice none 0 0), (7, .slice none 0 0), (10, v_a0), (11, .int .i64 (a0.length : Int)), (12, .int .i64 0)] (fun a ha => (.cons ha rfl (.cons ha rfl (.cons ha rfl (.cons ha rfl (.cons ha rfl (.cons ha rfl ha.nil))))))) ?_
  refine C.loop (fun k3741 e h3726 => ∃ (y3728 : (List outbox_Answer)) (y3732 : (List outbox_held_outbox_Answer_)) (y3735 : Int) (v3729 : Value) (v3733 : Value) (I3727 : Nat → Prop), e = [(1, .int .i64 a1), (6, v3729), (7, v3733), (10, v_a0), (11, .int .i64 (a0.length : Int)), (12, .int .i64 y3735)] ∧ St [] h I h3726 I3727 [v3733.ownBlock, v3729.ownBlock] ∧ Tr I h I3727 h3726 ∧ Own k_outbox_Answer 104 h3726 I3727 v3729 y3728 ∧ Own k_outbox_held_outbox_Answer_ 282 h3726 I3727 v3733 y3732 ∧ p_outbox_split_outbox_Answer_l0 K a0 a1 k3741 y3728 y3732 y3735 = some z3738) K ⟨([] : (List outbox_Answer)), ([] : (List outbox_held_outbox_Answer_)), 0, .slice none 0 0, .slice none 0 0, I, rfl, s3723, Tr.refl _ _, o3731, o3725, e3740⟩ ?_ ?_
  · rintro e h' ⟨_, _, _, _, _, _, _, _, _, _, _, H⟩; cases (show none = some _ from H)
  · rintro k3741 e h3726 ⟨y3728, y3732, y3735, v3729, v3733, I3727, rfl, s3736, t3737, o3730, o3734, H⟩
    rw [p_outbox_split_outbox_Answer_l0] at H
    refine C.seq ?_
    refine C.region 1 rfl ?_
    by_cases g3742 : y3735 < (a0.length : Int)
    · have H := ifT g3742 H
      refine X.val rfl rfl rfl (yBT g3742 (yLss rfl rfl)) trivial ?_
      refine X.nil ?_
      refine At.then ?_
      refine C.seq ?_
      refine C.condT rfl ?_
      refine C.skip ?_
      refine At.then ?_
      refine C.seq ?_
      refine C.block ?_
      refine C.seq ?_
      refine C.region 4 rfl ?_
      obtain ⟨⟨g3751, g3743⟩, H⟩ := ifS H
      obtain ⟨b3744, w3745, k3746, c3747, e3748, r3749, m3750⟩ := SlR.get (r_a0.mono ((Tr.refl I h).trans ((Tr.refl I h).trans t3737))) g3751 g3743
      obtain ⟨v3752, rfl, r3753⟩ := o_outbox_held_outbox_Answer_ r3749
      refine X.val (v := .pointer (some ⟨b3744, w3745 + (y3735).toNat * 4, none⟩)) rfl rfl rfl (yIdxS Tryz.underlying116 Tryz.sizeOf282 (by rw [← e3748]; rfl) rfl g3751 g3743) trivial ?_
      refine X.val (v := .agg (((.int .i64 ((rd a0 y3735).x.ID) : Value) :: (.int .i64 ((rd a0 y3735).x.Err) : Value) :: v3752 :: (.int .i64 ((rd a0 y3735).mark) : Value) :: [] : List Value)).toArray) rfl rfl rfl (yLoadW Tryz.isAgg282 Tryz.sizeOf282 rfl m3750.rd (by simp [])) trivial ?_
      refine X.ef rfl rfl rfl (eAlloc (zs := ((.int .i64 0 : Value) :: (.int .i64 0 : Value) :: (.slice none 0 0 : Value) :: (.int .i64 0 : Value) :: [] : List Value)) Tryz.zeroValue282 rfl) ?_
      rintro _ h3755 ⟨rfl, e3760⟩
      obtain ⟨b3754, e3760b⟩ : ∃ b, b = h3726.size := ⟨_, rfl⟩
      rw [← e3760b]
      have f3759 : Box h3755 b3754 282 ((.int .i64 0 : Value) :: (.int .i64 0 : Value) :: (.slice none 0 0 : Value) :: (.int .i64 0 : Value) :: [] : List Value) := by subst e3760; subst e3760b; exact Box.new _ _ _
      have p3757 : Stp [] h3726 h3755 := by subst e3760; exact Stp.push _ _
      have s3758 : St [] h I h3755 I3727 (some b3754 :: [v3733.ownBlock, v3729.ownBlock]) := by subst e3760; subst e3760b; exact s3736.new _
      have t3756 := s3736.tr p3757 (by simp) (fun _ hb => hb)
      clear e3760 e3760b
      refine ⟨trivial, ?_⟩
      refine X.ef rfl rfl rfl (eStore (vs := ((.int .i64 ((rd a0 y3735).x.ID) : Value) :: (.int .i64 ((rd a0 y3735).x.Err) : Value) :: v3752 :: (.int .i64 ((rd a0 y3735).mark) : Value) :: [] : List Value)) Tryz.sizeOf282 rfl rfl rfl (by simp []) (by simp [ones, ones_append, oInt, oBool, oStr, oSl, oPtr, SlR.one (r3753.mono t3756)]) f3759 (by simp [])) ?_
      rintro _ h3761 ⟨rfl, e3762⟩
      have f3766 : Box h3761 b3754 282 ((.int .i64 ((rd a0 y3735).x.ID) : Value) :: (.int .i64 ((rd a0 y3735).x.Err) : Value) :: v3752 :: (.int .i64 ((rd a0 y3735).mark) : Value) :: [] : List Value) := by subst e3762; exact Box.reset f3759 (rfl)
      have p3763 : Stp [some b3754] h3755 h3761 := by subst e3762; exact Stp.set _
      have s3764 := s3758.step p3763 (by simp)
      have t3765 := s3758.tr p3763 (by simp) (fun _ hb => hb)
      clear e3762
      refine ⟨trivial, ?_⟩
      refine X.nil ?_
      refine At.then ?_
      refine C.seq ?_
      refine C.region 4 rfl ?_
      refine X.val (v := .pointer (some ⟨b3754, 3, none⟩)) rfl rfl rfl (yField 3 3 Tryz.underlying282 Tryz.sizeOf3 rfl rfl rfl) trivial ?_
      refine X.val (v := .int .i64 ((rd a0 y3735).mark)) rfl rfl rfl (yLoadS (j := 3) Tryz.isAgg3 rfl (f3766).all rfl rfl) trivial ?_
      refine X.val rfl rfl rfl (yMove rfl) trivial ?_
      by_cases g3767 : ((rd a0 y3735).mark) ≤ a1
      · have H := ifT g3767 H
        refine X.val rfl rfl rfl (yBT g3767 (yLeq rfl rfl)) trivial ?_
        refine X.nil ?_
        refine At.then ?_
        refine C.condT rfl ?_
        refine C.region 6 rfl ?_
        refine X.val rfl rfl rfl (yMove rfl) trivial ?_
        refine X.val (v := .pointer (some ⟨b3754, 0, none⟩)) rfl rfl rfl (yField 104 0 Tryz.underlying282 Tryz.sizeOf104 rfl rfl rfl) trivial ?_
        refine X.val (v := .agg (((.int .i64 ((rd a0 y3735).x.ID) : Value) :: (.int .i64 ((rd a0 y3735).x.Err) : Value) :: v3752 :: [] : List Value)).toArray) rfl rfl rfl (yLoadA (j := 0) (mid := ((.int .i64 ((rd a0 y3735).x.ID) : Value) :: (.int .i64 ((rd a0 y3735).x.Err) : Value) :: v3752 :: [] : List Value)) Tryz.isAgg104 Tryz.sizeOf104 rfl (f3766).all rfl (by simp) (by simp [])) trivial ?_
        refine X.ef rfl rfl rfl (eBuildSlice (out := ((.int .i64 ((rd a0 y3735).x.ID) : Value) :: (.int .i64 ((rd a0 y3735).x.Err) : Value) :: v3752 :: [] : List Value)) Tryz.underlying121 Tryz.sizeOf104 (List.replicate 1 ((.int .i64 0 : Value) :: (.int .i64 0 : Value) :: (.slice none 0 0 : Value) :: [] : List Value)) Tryz.zeroValue104 rfl (by kernel_rfl) rfl rfl rfl (by simp [okp, vInt, vBool, vStr, vSl, vPtr, vAgg]) (by simp [setAll, vInt, vBool, vStr, vSl, vPtr, vAgg])) ?_
        rintro _ h3769 ⟨rfl, e3774⟩
        obtain ⟨b3768, e3774b⟩ : ∃ b, b = h3761.size := ⟨_, rfl⟩
        rw [← e3774b]
        have f3773 : Box h3769 b3768 104 ((.int .i64 ((rd a0 y3735).x.ID) : Value) :: (.int .i64 ((rd a0 y3735).x.Err) : Value) :: v3752 :: [] : List Value) := by subst e3774; subst e3774b; exact Box.new _ _ _
        have p3771 : Stp [] h3761 h3769 := by subst e3774; exact Stp.push _ _
        have s3772 : St [] h I h3769 I3727 (some b3768 :: [some b3754, v3733.ownBlock, v3729.ownBlock]) := by subst e3774; subst e3774b; exact s3764.new _
        have t3770 := s3764.tr p3771 (by simp) (fun _ hb => hb)
        clear e3774 e3774b
        have r3776 : rows k_outbox_Answer I3727 h3769 ((.int .i64 ((rd a0 y3735).x.ID) : Value) :: (.int .i64 ((rd a0 y3735).x.Err) : Value) :: v3752 :: [] : List Value) [(rd a0 y3735).x] := by have k : rows k_outbox_Answer I3727 h3769 _ [(rd a0 y3735).x] := (rows.cons (c := ((.int .i64 ((rd a0 y3735).x.ID) : Value) :: (.int .i64 ((rd a0 y3735).x.Err) : Value) :: v3752 :: [] : List Value)) (y := (rd a0 y3735).x) (m_outbox_Answer (r3753.mono (t3756.trans (t3765.trans t3770)))) rows.nil); first | exact k | simpa only [List.append_nil, List.append_assoc, List.cons_append, List.nil_append] using k | simpa using k
        have o3775 : Own k_outbox_Answer 104 h3769 I3727 (.slice (some ⟨b3768, 0, none⟩) 1 1) [(rd a0 y3735).x] := Own.row f3773 r3776 rfl rfl
        refine ⟨trivial, ?_⟩
        have o3777 := (((o3730.stp t3756 p3757 (by simp)).stp t3765 p3763 (s3758.sep 2 [0] rfl rfl rfl)).stp t3770 p3771 (by simp))
        obtain ⟨g3785, H⟩ := ifS H
        refine X.ef rfl rfl rfl (eAppend (bytes := 40) Tryz.underlying121 Tryz.type104 rfl rfl rfl rfl rfl rfl rfl rfl o3777 (Src.own o3775) (s3772.disOf 3 rfl) (Nat.le_trans (Nat.mul_le_mul_right _ g3785) (by decide))) ?_
        rintro v3778 h3779 ⟨o3780, p3781, n3782⟩
        have p3781 : Stp [v3729.ownBlock] h3769 h3779 := p3781
        have s3783 : St [] h I h3779 I3727 [some b3768, some b3754, v3733.ownBlock, v3778.ownBlock] := s3772.grow 3 rfl p3781 n3782
        have t3784 := s3772.tr p3781 (by simp) (fun _ hb => hb)
        refine ⟨trivial, ?_⟩
        refine X.val rfl rfl rfl (yAssign rfl) trivial ?_
        refine X.nil ?_
        refine At.blkN ?_
        refine At.then ?_
        refine C.region 2 rfl ?_
        refine X.val rfl rfl rfl (yAdd rfl rfl) trivial ?_
        refine X.val rfl rfl rfl (yMove rfl) trivial ?_
        refine X.nil ?_
        have o3786 := ((((o3734.stp t3756 p3757 (by simp)).stp t3765 p3763 (s3758.sep 1 [0] rfl rfl rfl)).stp t3770 p3771 (by simp)).stp t3784 p3781 (s3772.sep 2 [3] rfl rfl rfl))
        have s3787 : St [] h I h3779 I3727 [v3733.ownBlock, v3778.ownBlock] := s3783.pick [2, 3] rfl (by decide) (by rintro (_ | _ | i) m h <;> first | exact h | (simp at h))
        refine At.back [(1, .int .i64 a1), (6, v3778), (7, v3733), (10, v_a0), (11, .int .i64 (a0.length : Int)), (12, .int .i64 (IntKind.i64.wrap (y3735 + 1)))] (fun a ha => (.cons ha rfl (.cons ha rfl (.cons ha rfl (.cons ha rfl (.cons ha rfl (.cons ha rfl ha.nil))))))) ?_
        exact ⟨(y3728 ++ [(rd a0 y3735).x]), y3732, (IntKind.i64.wrap (y3735 + 1)), v3778, v3733, I3727, rfl, s3787, (t3737.trans (t3756.trans (t3765.trans (t3770.trans t3784)))), o3780, o3786, H⟩
      · have H := ifF g3767 H
        refine X.val rfl rfl rfl (yBF g3767 (yLeq rfl rfl)) trivial ?_
        refine X.nil ?_
        refine At.then ?_
        refine C.condF rfl ?_
        refine C.region 5 rfl ?_
        refine X.val rfl rfl rfl (yMove rfl) trivial ?_
        refine X.val (v := .agg (((.int .i64 ((rd a0 y3735).x.ID) : Value) :: (.int .i64 ((rd a0 y3735).x.Err) : Value) :: v3752 :: (.int .i64 ((rd a0 y3735).mark) : Value) :: [] : List Value)).toArray) rfl rfl rfl (yLoadW Tryz.isAgg282 Tryz.sizeOf282 rfl (f3766).all (by simp [])) trivial ?_
        refine X.ef rfl rfl rfl (eBuildSlice (out := ((.int .i64 ((rd a0 y3735).x.ID) : Value) :: (.int .i64 ((rd a0 y3735).x.Err) : Value) :: v3752 :: (.int .i64 ((rd a0 y3735).mark) : Value) :: [] : List Value)) Tryz.underlying116 Tryz.sizeOf282 (List.replicate 1 ((.int .i64 0 : Value) :: (.int .i64 0 : Value) :: (.slice none 0 0 : Value) :: (.int .i64 0 : Value) :: [] : List Value)) Tryz.zeroValue282 rfl (by kernel_rfl) rfl rfl rfl (by simp [okp, vInt, vBool, vStr, vSl, vPtr, vAgg]) (by simp [setAll, vInt, vBool, vStr, vSl, vPtr, vAgg])) ?_
        rintro _ h3789 ⟨rfl, e3794⟩
        obtain ⟨b3788, e3794b⟩ : ∃ b, b = h3761.size := ⟨_, rfl⟩
        rw [← e3794b]
        have f3793 : Box h3789 b3788 282 ((.int .i64 ((rd a0 y3735).x.ID) : Value) :: (.int .i64 ((rd a0 y3735).x.Err) : Value) :: v3752 :: (.int .i64 ((rd a0 y3735).mark) : Value) :: [] : List Value) := by subst e3794; subst e3794b; exact Box.new _ _ _
        have p3791 : Stp [] h3761 h3789 := by subst e3794; exact Stp.push _ _
        have s3792 : St [] h I h3789 I3727 (some b3788 :: [some b3754, v3733.ownBlock, v3729.ownBlock]) := by subst e3794; subst e3794b; exact s3764.new _
        have t3790 := s3764.tr p3791 (by simp) (fun _ hb => hb)
        clear e3794 e3794b
        have r3796 : rows k_outbox_held_outbox_Answer_ I3727 h3789 ((.int .i64 ((rd a0 y3735).x.ID) : Value) :: (.int .i64 ((rd a0 y3735).x.Err) : Value) :: v3752 :: (.int .i64 ((rd a0 y3735).mark) : Value) :: [] : List Value) [(rd a0 y3735)] := by have k : rows k_outbox_held_outbox_Answer_ I3727 h3789 _ [(rd a0 y3735)] := (rows.cons (c := ((.int .i64 ((rd a0 y3735).x.ID) : Value) :: (.int .i64 ((rd a0 y3735).x.Err) : Value) :: v3752 :: (.int .i64 ((rd a0 y3735).mark) : Value) :: [] : List Value)) (y := (rd a0 y3735)) (m_outbox_held_outbox_Answer_ (r3753.mono (t3756.trans (t3765.trans t3790)))) rows.nil); first | exact k | simpa only [List.append_nil, List.append_assoc, List.cons_append, List.nil_append] using k | simpa using k
        have o3795 : Own k_outbox_held_outbox_Answer_ 282 h3789 I3727 (.slice (some ⟨b3788, 0, none⟩) 1 1) [(rd a0 y3735)] := Own.row f3793 r3796 rfl rfl
        refine ⟨trivial, ?_⟩
        have o3797 := (((o3734.stp t3756 p3757 (by simp)).stp t3765 p3763 (s3758.sep 1 [0] rfl rfl rfl)).stp t3790 p3791 (by simp))
        obtain ⟨g3805, H⟩ := ifS H
        refine X.ef rfl rfl rfl (eAppend (bytes := 48) Tryz.underlying116 Tryz.type282 rfl rfl rfl rfl rfl rfl rfl rfl o3797 (Src.own o3795) (s3792.disOf 2 rfl) (Nat.le_trans (Nat.mul_le_mul_right _ g3805) (by decide))) ?_
        rintro v3798 h3799 ⟨o3800, p3801, n3802⟩
        have p3801 : Stp [v3733.ownBlock] h3789 h3799 := p3801
        have s3803 : St [] h I h3799 I3727 [some b3788, some b3754, v3798.ownBlock, v3729.ownBlock] := s3792.grow 2 rfl p3801 n3802
        have t3804 := s3792.tr p3801 (by simp) (fun _ hb => hb)
        refine ⟨trivial, ?_⟩
        refine X.val rfl rfl rfl (yAssign rfl) trivial ?_
        refine X.nil ?_
        refine At.blkN ?_
        refine At.then ?_
        refine C.region 2 rfl ?_
        refine X.val rfl rfl rfl (yAdd rfl rfl) trivial ?_
        refine X.val rfl rfl rfl (yMove rfl) trivial ?_
        refine X.nil ?_
        have o3806 := ((((o3730.stp t3756 p3757 (by simp)).stp t3765 p3763 (s3758.sep 2 [0] rfl rfl rfl)).stp t3790 p3791 (by simp)).stp t3804 p3801 (s3792.sep 3 [2] rfl rfl rfl))
        have s3807 : St [] h I h3799 I3727 [v3798.ownBlock, v3729.ownBlock] := s3803.pick [2, 3] rfl (by decide) (by rintro (_ | _ | i) m h <;> first | exact h | (simp at h))
        refine At.back [(1, .int .i64 a1), (6, v3729), (7, v3798), (10, v_a0), (11, .int .i64 (a0.length : Int)), (12, .int .i64 (IntKind.i64.wrap (y3735 + 1)))] (fun a ha => (.cons ha rfl (.cons ha rfl (.cons ha rfl (.cons ha rfl (.cons ha rfl (.cons ha rfl ha.nil))))))) ?_
        exact ⟨y3728, (y3732 ++ [(rd a0 y3735)]), (IntKind.i64.wrap (y3735 + 1)), v3729, v3798, I3727, rfl, s3807, (t3737.trans (t3756.trans (t3765.trans (t3790.trans t3804)))), o3806, o3800, H⟩
    · have H := ifF g3742 H
      refine X.val rfl rfl rfl (yBF g3742 (yLss rfl rfl)) trivial ?_
      refine X.nil ?_
      refine At.then ?_
      refine C.seq ?_
      refine C.condF rfl ?_
      refine C.exit ?_
      refine At.thenE ?_
      refine At.backE ?_
      obtain rfl := sm H
      have H := G3739
      try dsimp only at H
      refine At.blkE ?_
      refine At.then ?_
      refine C.seq ?_
      refine C.region 4 rfl ?_
      refine X.val rfl rfl rfl (yMove rfl) trivial ?_
      refine X.val rfl rfl rfl (yMove rfl) trivial ?_
      refine X.val rfl rfl rfl (yAssign rfl) trivial ?_
      refine X.val rfl rfl rfl (yAssign rfl) trivial ?_
      refine X.nil ?_
      refine At.then ?_
      refine C.ret ?_
      obtain rfl := sm H
      refine At.retn (rs := [.tmp 4, .tmp 5]) [v3729, v3733] rfl ?_ ?_
      exact ⟨Rv.tmp rfl, Rv.tmp rfl, trivial⟩
      exact ⟨I3727, v3729, v3733, (s3736.pick [1, 0] rfl (by decide) (by rintro (_ | _ | i) m h <;> first | exact h | (simp at h))), rfl, o3730, o3734⟩

def p_outbox_Box_Told (K : Nat) (a0 : outbox_Box) (a1 : Int) : Option ((List outbox_Answer) × outbox_Box) :=
  (p_outbox_split_outbox_Answer K a0.answers a1).bind fun (x3814_0, x3814_1) => some (x3814_0, (⟨a0.made, a0.out, x3814_1, a0.lost⟩ : outbox_Box))
theorem c_outbox_Box_Told {K : Nat} {h : Heap} {I : Nat → Prop} {b_a0 : Nat} {a0 : outbox_Box} {v0_a0 : Value} {v1_a0 : Value} {a1 : Int} (s0 : St [some b_a0, v0_a0.ownBlock, v1_a0.ownBlock] h I h I [some b_a0, v0_a0.ownBlock, v1_a0.ownBlock]) (f_a0 : Box h b_a0 118 ((.bool a0.made : Value) :: v0_a0 :: v1_a0 :: (.int .i64 a0.lost : Value) :: [] : List Value)) (o0_a0 : Own k_outbox_held_proto_Msg_ 280 h I v0_a0 a0.out) (o1_a0 : Own k_outbox_held_outbox_Answer_ 282 h I v1_a0 a0.answers) {r : ((List outbox_Answer) × outbox_Box)} (H : p_outbox_Box_Told K a0 a1 = some r) :
    Fn Tryz.prog 60 [.pointer (some ⟨b_a0, 0, none⟩), .int .i64 a1] h (fun v h' => ∃ (I' : Nat → Prop) (w0s : Value) (w1s : Value) (u0 : Value) , St [some b_a0, v0_a0.ownBlock, v1_a0.ownBlock] h I h' I' [some b_a0, w0s.ownBlock, w1s.ownBlock, u0.ownBlock] ∧ v = (u0 : Value) ∧ Box h' b_a0 118 ((.bool r.2.made : Value) :: w0s :: w1s :: (.int .i64 r.2.lost : Value) :: [] : List Value) ∧ Own k_outbox_held_proto_Msg_ 280 h' I' w0s r.2.out ∧ Own k_outbox_held_outbox_Answer_ 282 h' I' w1s r.2.answers ∧ Own k_outbox_Answer 104 h' I' u0 r.1) := by
  unfold p_outbox_Box_Told at H
  refine Fn.of 23 Tryz.func60 rfl rfl ?_
  refine C.seq ?_
  refine C.region 1 rfl ?_
  refine X.val rfl rfl rfl (yAssign rfl) trivial ?_
  refine X.nil ?_
  refine At.then ?_
  refine C.seq ?_
  refine C.seq ?_
  refine C.region 2 rfl ?_
  refine X.val rfl rfl rfl (yMove rfl) trivial ?_
  refine X.val (v := .bool false) rfl rfl rfl (yPEq Tryz.underlying96 rfl rfl) trivial ?_
  refine X.nil ?_
  refine At.then ?_
  refine C.condF rfl ?_
  refine C.skip ?_
  refine At.then ?_
  refine C.seq ?_
  refine C.region 11 rfl ?_
  refine X.val rfl rfl rfl (yMove rfl) trivial ?_
  refine X.val rfl rfl rfl (yNil rfl) trivial ?_
  refine X.val (v := .pointer (some ⟨b_a0, 2, none⟩)) rfl rfl rfl (yField 116 2 Tryz.underlying118 Tryz.sizeOf116 rfl rfl rfl) trivial ?_
  refine X.val (v := v1_a0) rfl rfl rfl (yLoadS (j := 2) Tryz.isAgg116 rfl (f_a0).all rfl rfl) trivial ?_
  refine X.val rfl rfl rfl (yMove rfl) trivial ?_
  have s3811 : St [some b_a0, v0_a0.ownBlock, v1_a0.ownBlock] h I h (fun b => I b ∨ some b = v1_a0.ownBlock) [some b_a0, v0_a0.ownBlock] := s0.claim 2 rfl
  have t3812 : Tr I h (fun b => I b ∨ some b = v1_a0.ownBlock) h := fun b hb => ⟨.inl hb, rfl⟩
  have r3813 := Own.read (I' := (fun b => I b ∨ some b = v1_a0.ownBlock)) o1_a0 (fun _ hb => .inl hb) (fun b e => .inr e.symm)
  obtain ⟨x3814, e3815, H⟩ := bnd H
  have s3820 : St [some b_a0, v0_a0.ownBlock, v1_a0.ownBlock] h I h (fun b => I b ∨ some b = v1_a0.ownBlock) ([] ++ [some b_a0, v0_a0.ownBlock]) := s3811.pick [0, 1] rfl (by decide) (by rintro (_ | _ | i) m h <;> first | exact h | (simp at h))
  refine X.call (all := [v1_a0, .int .i64 a1]) Tryz.call174 rfl rfl rfl rfl rfl rfl (c_outbox_split_outbox_Answer s3820.left.lend r3813 e3815) ?_
  obtain ⟨x3814_0, x3814_1⟩ := x3814
  rintro _ h3816 ⟨I3821, v3822, v3824, k3826, rfl, o3823, o3825⟩
  have s3818 : St [some b_a0, v0_a0.ownBlock, v1_a0.ownBlock] h I h3816 I3821 [v3822.ownBlock, v3824.ownBlock, some b_a0, v0_a0.ownBlock] := St.callS (L := []) (R := [some b_a0, v0_a0.ownBlock]) (L' := [v3822.ownBlock, v3824.ownBlock]) s3820 k3826
  have t3819 : Tr (fun b => I b ∨ some b = v1_a0.ownBlock) h I3821 h3816 := St.callSTr (L := []) (R := [some b_a0, v0_a0.ownBlock]) (L' := [v3822.ownBlock, v3824.ownBlock]) s3820 k3826
  have p3817 := k3826.stp
  refine ⟨trivial, ?_⟩
  refine X.val rfl rfl rfl (yMove rfl) trivial ?_
  refine X.val rfl rfl rfl (yExtract rfl rfl) trivial ?_
  refine X.val rfl rfl rfl (yExtract rfl rfl) trivial ?_
  refine X.val rfl rfl rfl (yAssign rfl) trivial ?_
  refine X.val rfl rfl rfl (yAssign rfl) trivial ?_
  refine X.nil ?_
  refine At.then ?_
  refine C.seq ?_
  refine C.region 5 rfl ?_
  refine X.val rfl rfl rfl (yMove rfl) trivial ?_
  refine X.val rfl rfl rfl (yMove rfl) trivial ?_
  refine X.val rfl rfl rfl (yNil rfl) trivial ?_
  refine X.val (v := .pointer (some ⟨b_a0, 2, none⟩)) rfl rfl rfl (yField 116 2 Tryz.underlying118 Tryz.sizeOf116 rfl rfl rfl) trivial ?_
  have b3827 := (f_a0.stp p3817 (by simp))
  refine X.ef rfl rfl rfl (eStore (vs := (v3824 :: [] : List Value)) Tryz.sizeOf116 rfl rfl (cellsOne (Own.one o3825)) (by simp []) (by simp [ones, ones_append, oInt, oBool, oStr, oSl, oPtr, Own.one o3825]) b3827 (by simp [])) ?_
  rintro _ h3828 ⟨rfl, e3829⟩
  have f3833 : Box h3828 b_a0 118 ((.bool a0.made : Value) :: v0_a0 :: v3824 :: (.int .i64 a0.lost : Value) :: [] : List Value) := by subst e3829; exact Box.reset b3827 (rfl)
  have p3830 : Stp [some b_a0] h3816 h3828 := by subst e3829; exact Stp.set _
  have s3831 := s3818.step p3830 (by simp)
  have t3832 := s3818.tr p3830 (by simp) (fun _ hb => hb)
  clear e3829
  refine ⟨trivial, ?_⟩
  refine X.nil ?_
  refine At.then ?_
  refine C.seq ?_
  refine C.region 2 rfl ?_
  refine X.val rfl rfl rfl (yMove rfl) trivial ?_
  refine X.val rfl rfl rfl (yAssign rfl) trivial ?_
  refine X.nil ?_
  refine At.then ?_
  refine C.ret ?_
  have o3834 := (((o0_a0.mono t3812 (fun _ _ => rfl)).stp t3819 p3817 (by simp)).stp t3832 p3830 (s3818.sep 3 [2] rfl rfl rfl))
  have o3835 := (o3825.stp t3832 p3830 (s3818.sep 1 [2] rfl rfl rfl))
  have o3836 := (o3823.stp t3832 p3830 (s3818.sep 0 [2] rfl rfl rfl))
  obtain rfl := sm H
  refine At.retn (rs := [.tmp 4]) [v3822] rfl ?_ ?_
  exact ⟨Rv.tmp rfl, trivial⟩
  exact ⟨I3821, v0_a0, v3824, v3822, (s3831.pick [2, 3, 1, 0] rfl (by decide) (by rintro (_ | _ | _ | _ | i) m h <;> first | exact h | (simp at h))), rfl, f3833, o3834, o3835, o3836⟩


end Go.Mw
