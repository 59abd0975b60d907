/- Proved here: the row of OutboxMarks follows from its plain law; no condition. -/
import Derived.Test.YtbpeidblbebjpaaGreatGOutboxMarks3
import Derived.Test.YtbpeidblbebjpaaGreatWl
import Derived.Test.YtbpeidblbebjpaaGreatRows
import Derived.Test.YtbpeidblbebjpaaGreatChecked
import Derived.ShutString
namespace Go.Mw
set_option linter.unusedVariables false
set_option linter.unusedSimpArgs false
open Go Go.Proofs Go.Proofs.YtbpeidblbebjpaaGreat
open Go.ChangeShapes Go.WideShapes Go.ChangeAt Go.RowKit
open Go.ChangeMaps (open_string shut_string)
theorem op_outbox_Answer : Opens Tryz.prog 104 k_outbox_Answer := opStruct (back := (fun x => ⟨x.1, x.2.1, x.2.2.1⟩)) (by kernel_rfl) Tryz.underlying104 (fun _ => rfl) (opFcons (t := 3) rfl rfl (opInt (by kernel_rfl) Tryz.underlying3) (opFcons (t := 44) rfl rfl (opInt (by kernel_rfl) Tryz.underlying44) (opFcons (t := 67) rfl rfl (opSl (by kernel_rfl) Tryz.underlying67 (by kernel_rfl) (opInt (by kernel_rfl) Tryz.underlying3)) opFnil)))
theorem op_cart_Entry : Opens Tryz.prog 209 k_cart_Entry := opStruct (back := (fun x => ⟨x.1, x.2.1, x.2.2.1, x.2.2.2.1⟩)) (by kernel_rfl) Tryz.underlying209 (fun _ => rfl) (opFcons (t := 3) rfl rfl (opInt (by kernel_rfl) Tryz.underlying3) (opFcons (t := 3) rfl rfl (opInt (by kernel_rfl) Tryz.underlying3) (opFcons (t := 24) rfl rfl (opInt (by kernel_rfl) Tryz.underlying24) (opFcons (t := 3) rfl rfl (opInt (by kernel_rfl) Tryz.underlying3) opFnil))))
theorem op_cart_Cart : Opens Tryz.prog 29 k_cart_Cart := opStruct (back := (fun x => ⟨x.1, x.2.1⟩)) (by kernel_rfl) Tryz.underlying29 (fun _ => rfl) (opFcons (t := 26) rfl rfl (opArr (by kernel_rfl) Tryz.underlying26 (opInt (by kernel_rfl) Tryz.underlying24)) (opFcons (t := 27) rfl rfl (opSl (by kernel_rfl) Tryz.underlying27 (by kernel_rfl) op_cart_Entry) opFnil))
theorem op_pack_Keyed : Opens Tryz.prog 172 k_pack_Keyed := opStruct (back := (fun x => ⟨x.1, x.2.1⟩)) (by kernel_rfl) Tryz.underlying172 (fun _ => rfl) (opFcons (t := 9) rfl rfl (opStr (by kernel_rfl) Tryz.underlying9) (opFcons (t := 29) rfl rfl op_cart_Cart opFnil))
theorem op_proto_Msg : Opens Tryz.prog 77 k_proto_Msg := opStruct (back := (fun x => ⟨x.1, x.2.1, x.2.2.1, x.2.2.2.1, x.2.2.2.2.1, x.2.2.2.2.2.1, x.2.2.2.2.2.2.1, x.2.2.2.2.2.2.2.1, x.2.2.2.2.2.2.2.2.1⟩)) (by kernel_rfl) Tryz.underlying77 (fun _ => rfl) (opFcons (t := 3) rfl rfl (opInt (by kernel_rfl) Tryz.underlying3) (opFcons (t := 3) rfl rfl (opInt (by kernel_rfl) Tryz.underlying3) (opFcons (t := 3) rfl rfl (opInt (by kernel_rfl) Tryz.underlying3) (opFcons (t := 3) rfl rfl (opInt (by kernel_rfl) Tryz.underlying3) (opFcons (t := 3) rfl rfl (opInt (by kernel_rfl) Tryz.underlying3) (opFcons (t := 65) rfl rfl (opArr (by kernel_rfl) Tryz.underlying65 (opInt (by kernel_rfl) Tryz.underlying5)) (opFcons (t := 67) rfl rfl (opSl (by kernel_rfl) Tryz.underlying67 (by kernel_rfl) (opInt (by kernel_rfl) Tryz.underlying3)) (opFcons (t := 75) rfl rfl (opSl (by kernel_rfl) Tryz.underlying75 (by kernel_rfl) (opArr (by kernel_rfl) Tryz.underlying65 (opInt (by kernel_rfl) Tryz.underlying5))) (opFcons (t := 58) rfl rfl (opSl (by kernel_rfl) Tryz.underlying58 (by kernel_rfl) op_pack_Keyed) opFnil)))))))))
theorem op_maundlaw29_Op : Opens Tryz.prog 106 k_maundlaw29_Op := opStruct (back := (fun x => ⟨x.1, x.2.1, x.2.2.1, x.2.2.2.1⟩)) (by kernel_rfl) Tryz.underlying106 (fun _ => rfl) (opFcons (t := 3) rfl rfl (opInt (by kernel_rfl) Tryz.underlying3) (opFcons (t := 3) rfl rfl (opInt (by kernel_rfl) Tryz.underlying3) (opFcons (t := 77) rfl rfl op_proto_Msg (opFcons (t := 104) rfl rfl op_outbox_Answer opFnil))))
theorem own_ : ownKnob Tryz.prog.godebug = none := by kernel_rfl
theorem laid_ : laidOutB Tryz.prog = true := by kernel_rfl
set_option maxRecDepth 100000 in
theorem lifted (pure : ∀ (a0 : (List maundlaw29_Op)), ∃ K, p_maundlaw29_OutboxMarks K a0 = some true) (os : Os) (started : os.Started) (H : Type) (enc : TypeId × Value → H) :
    ReturnsInHanded {} Tryz.checked os 8 .any (Rows.outboxMarksSpec.pre6 enc Tryz.prog Tryz.f8 Rows.outboxMarksRow.domain false) (Rows.outboxMarksSpec.post enc Tryz.prog Tryz.f8 false true false false) := by
  refine returnsInHanded_of_change_sized (C := Tryz.checked) own_ started (by kernel_rfl) Tryz.func8
    (ChangeSpec.witness6 (enc := enc) (C := Tryz.checked) false ⟨#[], #[.slice none 0 0], []⟩ 8 (by kernel_rfl) (by kernel_rfl) (by kernel_rfl) (by kernel_rfl)) ?_
  intro W base args ds gs before hval0 hW hcnd hsz0 _
  have hval : ∀ (j : Nat) t v, Tryz.f8.params[j]? = some t → args[j]? = some v → Value.okWide Tryz.prog W .any base t v := hval0
  have hW' := hW
  obtain ⟨p, q, hA0, hV, rfl, hfz, hnd⟩ := hW
  have hA : DataW.TrodAll enc Tryz.prog W 0 (fun _ => true) true Tryz.f8.params.toList args.toList ds p := hA0
  rw [Tryz.params8] at hA hval
  obtain ⟨v0, vs0, d0, ds0, p0, q0, hargs, rfl, rfl, h0, r0⟩ := trodAll_cons hA
  obtain ⟨rfl, rfl, rfl⟩ := trodAll_nil r0
  obtain rfl : args = #[v0] := by cases args; simp_all
  obtain ⟨rfl, rfl⟩ := trodVars_none hV
  have k0 := h0
  have lt0 : ∀ x ∈ p0, x.block < W.heap.size := by obtain ⟨m, hm⟩ := k0; exact DataW.trod_lt m _ _ _ hm
  obtain ⟨A0, len0, cap0, rfl⟩ := okWide_slice Tryz.underlying94 (hval 0 94 v0 rfl rfl)
  obtain ⟨a0, e0⟩ : ∃ a, SlR k_maundlaw29_Op (Old W.heap) W.heap (.slice A0 len0 cap0) a := by
    obtain ⟨fuel, hf⟩ := h0
    obtain ⟨a, v, hc, hr⟩ := (show Opens Tryz.prog 94 (kSl k_maundlaw29_Op) from (opSl (by kernel_rfl) Tryz.underlying94 (by kernel_rfl) op_maundlaw29_Op)).2 H enc W fuel _ _ hf
    simp [Value.cells] at hc
    subst hc
    exact ⟨a, hr⟩
  obtain ⟨K, hp⟩ := pure a0
  letI : Sky := ⟨W⟩
  refine (c_maundlaw29_OutboxMarks (K := K) (I := Old W.heap) (fun _ hb => hb) e0 hp W ⟨rfl, rfl, rfl⟩).mono fun e W' hx => ?_
  cases e with
  | panicked _ => exact hx.elim
  | outgrown => exact hx.elim
  | returned v =>
    obtain ⟨⟨bel, rfl⟩, fx⟩ := hx
    exact ⟨_, rfl, _, _, _, [], _, [], hW', trodAll_mk1 (shut_bool Tryz.underlying4 _), (trodAll_cons_mk (Stp.trod laid_ (by kernel_rfl) (of_decide_eq_true (by kernel_rfl)) k0 bel lt0) trodAll_mk0), rfl, bel.frame fx _, fun h => by cases h⟩
end Go.Mw
