/- Proved here: what functions of the program that OutboxMarks reaches compute; no condition. -/
import Derived.Test.YtbpeidblbebjpaaGreatGOutboxMarks2
import Derived.Test.YtbpeidblbebjpaaGreatProg
import Derived.KernelRfl
namespace Go.Mw
set_option linter.unusedVariables false
set_option linter.unusedSimpArgs false
open Go Go.Proofs
variable [Sky]
def p_maundlaw29_alive (K : Nat)  : Option (Bool) :=
  (p_outbox_New ).bind fun x3837 => (p_outbox_Box_Send K x3837 (⟨4, 1, 2, 3, 0, (List.replicate 32 (0 : Int)), ([] : (List Int)), ([] : (List (List Int))), ([] : (List pack_Keyed))⟩ : proto_Msg) 2).bind fun (x3878_0, x3878_1) => (p_outbox_Box_Tell x3878_1 (⟨5, 0, [6]⟩ : outbox_Answer) 1).bind fun (x3907_0, x3907_1) => (p_outbox_Box_Send K x3907_1 (⟨0, 0, 0, 0, 0, (List.replicate 32 (0 : Int)), ([] : (List Int)), ([] : (List (List Int))), ([] : (List pack_Keyed))⟩ : proto_Msg) 0).bind fun (x3925_0, x3925_1) => (p_outbox_Box_Tell x3925_1 (⟨0, 0, ([] : (List Int))⟩ : outbox_Answer) (-1)).bind fun (x3939_0, x3939_1) => (p_outbox_Box_Out K x3939_1 1).bind fun (x3953_0, x3953_1) => (p_outbox_Box_Told K x3953_1 1).bind fun (x3969_0, x3969_1) => (p_outbox_Box_Waits x3969_1).bind fun (x3985_0, x3985_1, x3985_2) => (p_outbox_Box_Shift K x3985_2).bind fun x3999 => (p_outbox_Box_Out K x3999 0).bind fun (x4013_0, x4013_1) => (if (x3969_0.length : Int) ≠ 1 then some false else (if (x4013_0.length : Int) ≠ 1 then some false else (if 0 ≤ (0 : Int) ∧ (0 : Int) < (x3969_0.length : Int) then (if (((rd x3969_0 (0 : Int)).Lines).length : Int) ≠ 1 then some false else (if x3878_0 = 0 then (if x3907_0 = 0 then (if x3925_0 = 3 then (if x3939_0 = 1 then (if (x3953_0.length : Int) = 0 then (if 0 ≤ (0 : Int) ∧ (0 : Int) < (x3969_0.length : Int) then (if ((rd x3969_0 (0 : Int)).ID) = 5 then (if 0 ≤ (0 : Int) ∧ (0 : Int) < (x3969_0.length : Int) then (if 0 ≤ (0 : Int) ∧ (0 : Int) < (((rd x3969_0 (0 : Int)).Lines).length : Int) then (if (rd ((rd x3969_0 (0 : Int)).Lines) (0 : Int)) = 6 then (if x3985_0 = 1 then (if x3985_1 = 0 then (if 0 ≤ (0 : Int) ∧ (0 : Int) < (x4013_0.length : Int) then (p_proto_Same K (rd x4013_0 (0 : Int)) (⟨4, 1, 2, 3, 0, (List.replicate 32 (0 : Int)), ([] : (List Int)), ([] : (List (List Int))), ([] : (List pack_Keyed))⟩ : proto_Msg)).bind fun x4125 => (bif x4125 then (p_outbox_Box_Lost x4013_1).bind fun (x4135_0, x4135_1) => some (decide (x4135_0 = 0)) else some false) else none) else some false) else some false) else some false) else none) else none) else some false) else none) else some false) else some false) else some false) else some false) else some false)) else none)))
theorem c_maundlaw29_alive {K : Nat} {h : Heap} {I : Nat → Prop} (hI : ∀ b, I b → b < h.size)  {r : (Bool)} (H : p_maundlaw29_alive K  = some r) :
    Fn Tryz.prog 49 [] h (fun v h' => Stp [] h h' ∧ v = (.bool r : Value)) := by
  unfold p_maundlaw29_alive at H
  refine Fn.of 111 Tryz.func49 rfl rfl ?_
  have s0 := St.start hI
  refine C.seq ?_
  refine C.region 1 rfl ?_
  refine X.val rfl rfl rfl (yAssign rfl) trivial ?_
  refine X.nil ?_
  refine At.then ?_
  refine C.seq ?_
  refine C.region 2 rfl ?_
  obtain ⟨x3837, e3838, H⟩ := bnd H
  have s3843 : St [] h I h I ([] ++ []) := s0.pick [] rfl (by decide) (by intro i m h; simp at h)
  refine X.call (all := []) Tryz.call50 rfl rfl rfl rfl rfl rfl (c_outbox_New s3843.left.lend  e3838) ?_
  rintro _ h3839 ⟨I3844, b3845, v3847, v3849, k3851, rfl, f3846, o3848, o3850⟩
  have s3841 : St [] h I h3839 I3844 [some b3845, v3847.ownBlock, v3849.ownBlock] := St.callS (L := []) (R := []) (L' := [some b3845, v3847.ownBlock, v3849.ownBlock]) s3843 k3851
  have t3842 : Tr I h I3844 h3839 := St.callSTr (L := []) (R := []) (L' := [some b3845, v3847.ownBlock, v3849.ownBlock]) s3843 k3851
  have p3840 := k3851.stp
  refine ⟨trivial, ?_⟩
  refine X.val rfl rfl rfl (yAssign rfl) trivial ?_
  refine X.nil ?_
  refine At.then ?_
  refine C.seq ?_
  refine C.region 3 rfl ?_
  obtain ⟨c3852, e3853⟩ : ∃ c : List Value, c = (List.replicate 32 (.int .u8 0 : Value)) := ⟨_, rfl⟩
  have r3854 : (kArr 32 (kI .u8)).rp I3844 h3839 c3852 (List.replicate 32 (0 : Int)) := by rw [e3853]; exact z_T65
  have l3855 : c3852.length = 32 := (kArr 32 (kI .u8)).len r3854
  refine X.val (v := .agg (((.int .i64 4 : Value) :: (.int .i64 1 : Value) :: (.int .i64 2 : Value) :: (.int .i64 3 : Value) :: (.int .i64 0 : Value) :: c3852 ++ ((.slice none 0 0 : Value) :: (.slice none 0 0 : Value) :: (.slice none 0 0 : Value) :: []) : List Value)).toArray) rfl rfl rfl (yBuild (out := ((.int .i64 4 : Value) :: (.int .i64 1 : Value) :: (.int .i64 2 : Value) :: (.int .i64 3 : Value) :: (.int .i64 0 : Value) :: c3852 ++ ((.slice none 0 0 : Value) :: (.slice none 0 0 : Value) :: (.slice none 0 0 : Value) :: []) : List Value)) [1, 1, 1, 1, 1, 32, 1, 1, 1] [((.int .i64 0 : Value) :: [] : List Value), ((.int .i64 0 : Value) :: [] : List Value), ((.int .i64 0 : Value) :: [] : List Value), ((.int .i64 0 : Value) :: [] : List Value), ((.int .i64 0 : Value) :: [] : List Value), List.replicate 32 (.int .u8 0 : Value), ((.slice none 0 0 : Value) :: [] : List Value), ((.slice none 0 0 : Value) :: [] : List Value), ((.slice none 0 0 : Value) :: [] : List Value)] Tryz.zeroValue77 rfl pl_T77 rfl rfl (by simp [okp, vInt, vBool, vStr, vSl, vPtr, vAgg, l3855]) (by simp [setAll, vInt, vBool, vStr, vSl, vPtr, vAgg, e3853])) trivial ?_
  obtain ⟨c3856, e3857⟩ : ∃ c : List Value, c = (List.replicate 32 (.int .u8 0 : Value)) := ⟨_, rfl⟩
  have r3858 : (kArr 32 (kI .u8)).rp I3844 h3839 c3856 (List.replicate 32 (0 : Int)) := by rw [e3857]; exact z_T65
  refine X.ef rfl rfl rfl (eAlloc (zs := ((.int .i64 0 : Value) :: (.int .i64 0 : Value) :: (.int .i64 0 : Value) :: (.int .i64 0 : Value) :: (.int .i64 0 : Value) :: (List.replicate 32 (.int .u8 0 : Value)) ++ ((.slice none 0 0 : Value) :: (.slice none 0 0 : Value) :: (.slice none 0 0 : Value) :: []) : List Value)) Tryz.zeroValue77 rfl) ?_
  rintro _ h3860 ⟨rfl, e3865⟩
  obtain ⟨b3859, e3865b⟩ : ∃ b, b = h3839.size := ⟨_, rfl⟩
  rw [← e3865b]
  have f3864 : Box h3860 b3859 77 ((.int .i64 0 : Value) :: (.int .i64 0 : Value) :: (.int .i64 0 : Value) :: (.int .i64 0 : Value) :: (.int .i64 0 : Value) :: c3856 ++ ((.slice none 0 0 : Value) :: (.slice none 0 0 : Value) :: (.slice none 0 0 : Value) :: []) : List Value) := by subst e3865; subst e3865b; rw [e3857]; exact Box.new _ _ _
  have p3862 : Stp [] h3839 h3860 := by subst e3865; exact Stp.push _ _
  have s3863 : St [] h I h3860 I3844 (some b3859 :: [some b3845, v3847.ownBlock, v3849.ownBlock]) := by subst e3865; subst e3865b; exact s3841.new _
  have t3861 := s3841.tr p3862 (by simp) (fun _ hb => hb)
  clear e3865 e3865b
  refine ⟨trivial, ?_⟩
  have l3866 : c3856.length = 32 := (kArr 32 (kI .u8)).len r3858
  have l3867 : c3852.length = 32 := (kArr 32 (kI .u8)).len r3854
  refine X.ef rfl rfl rfl (eStore (vs := ((.int .i64 4 : Value) :: (.int .i64 1 : Value) :: (.int .i64 2 : Value) :: (.int .i64 3 : Value) :: (.int .i64 0 : Value) :: c3852 ++ ((.slice none 0 0 : Value) :: (.slice none 0 0 : Value) :: (.slice none 0 0 : Value) :: []) : List Value)) Tryz.sizeOf77 rfl rfl rfl (by simp [l3867]) (by simp [ones, ones_append, oInt, oBool, oStr, oSl, oPtr, (kArr 32 (kI .u8)).one r3854]) f3864 (by simp [l3866, l3867])) ?_
  rintro _ h3868 ⟨rfl, e3869⟩
  have f3873 : Box h3868 b3859 77 ((.int .i64 4 : Value) :: (.int .i64 1 : Value) :: (.int .i64 2 : Value) :: (.int .i64 3 : Value) :: (.int .i64 0 : Value) :: c3852 ++ ((.slice none 0 0 : Value) :: (.slice none 0 0 : Value) :: (.slice none 0 0 : Value) :: []) : List Value) := by subst e3869; exact Box.reset f3864 (by have k := splice_mid ((.int .i64 4 : Value) :: (.int .i64 1 : Value) :: (.int .i64 2 : Value) :: (.int .i64 3 : Value) :: (.int .i64 0 : Value) :: c3852 ++ ((.slice none 0 0 : Value) :: (.slice none 0 0 : Value) :: (.slice none 0 0 : Value) :: []) : List Value) ((.int .i64 0 : Value) :: (.int .i64 0 : Value) :: (.int .i64 0 : Value) :: (.int .i64 0 : Value) :: (.int .i64 0 : Value) :: c3856 ++ ((.slice none 0 0 : Value) :: (.slice none 0 0 : Value) :: (.slice none 0 0 : Value) :: []) : List Value) [] ([] : List Value) (by simp [l3866, l3867]); simpa using k)
  have p3870 : Stp [some b3859] h3860 h3868 := by subst e3869; exact Stp.set _
  have s3871 := s3863.step p3870 (by simp)
  have t3872 := s3863.tr p3870 (by simp) (fun _ hb => hb)
  clear e3869
  refine ⟨trivial, ?_⟩
  refine X.nil ?_
  refine At.then ?_
  refine C.seq ?_
  refine C.region 4 rfl ?_
  refine X.val rfl rfl rfl (yMove rfl) trivial ?_
  have l3874 : c3852.length = 32 := (kArr 32 (kI .u8)).len r3854
  refine X.val (v := .agg (((.int .i64 4 : Value) :: (.int .i64 1 : Value) :: (.int .i64 2 : Value) :: (.int .i64 3 : Value) :: (.int .i64 0 : Value) :: c3852 ++ ((.slice none 0 0 : Value) :: (.slice none 0 0 : Value) :: (.slice none 0 0 : Value) :: []) : List Value)).toArray) rfl rfl rfl (yLoadW Tryz.isAgg77 Tryz.sizeOf77 rfl (f3873).all (by simp [l3874])) trivial ?_
  have b3875 := ((f3846.stp p3862 (by simp)).stp p3870 ((s3863.sep 1 [0] rfl rfl rfl) _ rfl))
  have o3876 := ((o3848.stp t3861 p3862 (by simp)).stp t3872 p3870 (s3863.sep 2 [0] rfl rfl rfl))
  have o3877 := ((o3850.stp t3861 p3862 (by simp)).stp t3872 p3870 (s3863.sep 3 [0] rfl rfl rfl))
  obtain ⟨x3878, e3879, H⟩ := bnd H
  have s3884 : St [] h I h3868 I3844 ([some b3845, v3847.ownBlock, v3849.ownBlock] ++ [some b3859]) := s3871.pick [1, 2, 3, 0] rfl (by decide) (by rintro (_ | _ | _ | _ | i) m h <;> first | exact h | (simp at h))
  refine X.call (all := [.pointer (some ⟨b3845, 0, none⟩), .agg (((.int .i64 4 : Value) :: (.int .i64 1 : Value) :: (.int .i64 2 : Value) :: (.int .i64 3 : Value) :: (.int .i64 0 : Value) :: c3852 ++ ((.slice none 0 0 : Value) :: (.slice none 0 0 : Value) :: (.slice none 0 0 : Value) :: []) : List Value)).toArray, .int .i64 2]) Tryz.call58 rfl rfl rfl rfl rfl rfl (c_outbox_Box_Send s3884.left.lend b3875 o3876 o3877 (m_proto_Msg ((kArr 32 (kI .u8)).mono r3854 (t3861.trans t3872)) SlR.nil SlR.nil SlR.nil) e3879) ?_
  obtain ⟨x3878_0, x3878_1⟩ := x3878
  rintro _ h3880 ⟨I3885, v3887, v3889, k3891, rfl, f3886, o3888, o3890⟩
  have s3882 : St [] h I h3880 I3885 [some b3845, v3887.ownBlock, v3889.ownBlock, some b3859] := St.callS (L := [some b3845, v3847.ownBlock, v3849.ownBlock]) (R := [some b3859]) (L' := [some b3845, v3887.ownBlock, v3889.ownBlock]) s3884 k3891
  have t3883 : Tr I3844 h3868 I3885 h3880 := St.callSTr (L := [some b3845, v3847.ownBlock, v3849.ownBlock]) (R := [some b3859]) (L' := [some b3845, v3887.ownBlock, v3889.ownBlock]) s3884 k3891
  have p3881 := k3891.stp
  refine ⟨trivial, ?_⟩
  refine X.val rfl rfl rfl (yAssign rfl) trivial ?_
  refine X.nil ?_
  refine At.then ?_
  refine C.seq ?_
  refine C.region 5 rfl ?_
  refine X.val rfl rfl rfl (yMove rfl) trivial ?_
  refine X.ef rfl rfl rfl (eBuildSlice (out := ((.int .i64 6 : Value) :: [] : List Value)) Tryz.underlying67 Tryz.sizeOf3 (List.replicate 1 ((.int .i64 0 : Value) :: [] : List Value)) Tryz.zeroValue3 rfl (by kernel_rfl) rfl rfl rfl (by simp [okp, vInt, vBool, vStr, vSl, vPtr, vAgg]) (by simp [setAll, vInt, vBool, vStr, vSl, vPtr, vAgg])) ?_
  rintro _ h3893 ⟨rfl, e3898⟩
  obtain ⟨b3892, e3898b⟩ : ∃ b, b = h3880.size := ⟨_, rfl⟩
  rw [← e3898b]
  have f3897 : Box h3893 b3892 3 ((.int .i64 6 : Value) :: [] : List Value) := by subst e3898; subst e3898b; exact Box.new _ _ _
  have p3895 : Stp [] h3880 h3893 := by subst e3898; exact Stp.push _ _
  have s3896 : St [] h I h3893 I3885 (some b3892 :: [some b3845, v3887.ownBlock, v3889.ownBlock, some b3859]) := by subst e3898; subst e3898b; exact s3882.new _
  have t3894 := s3882.tr p3895 (by simp) (fun _ hb => hb)
  clear e3898 e3898b
  have r3900 : rows (kI .i64) I3885 h3893 ((.int .i64 6 : Value) :: [] : List Value) [6] := by have k : rows (kI .i64) I3885 h3893 _ [6] := (rows.cons (c := ((.int .i64 6 : Value) :: [] : List Value)) (y := 6) rfl rows.nil); first | exact k | simpa only [List.append_nil, List.append_assoc, List.cons_append, List.nil_append] using k | simpa using k
  have o3899 : Own (kI .i64) 3 h3893 I3885 (.slice (some ⟨b3892, 0, none⟩) 1 1) [6] := Own.row f3897 r3900 rfl rfl
  refine ⟨trivial, ?_⟩
  have s3901 : St [] h I h3893 (fun b => I3885 b ∨ some b = some b3892) [some b3845, v3887.ownBlock, v3889.ownBlock, some b3859] := s3896.claim 0 rfl
  have t3902 : Tr I3885 h3893 (fun b => I3885 b ∨ some b = some b3892) h3893 := fun b hb => ⟨.inl hb, rfl⟩
  have r3903 := Own.read (I' := (fun b => I3885 b ∨ some b = some b3892)) o3899 (fun _ hb => .inl hb) (fun b e => .inr e.symm)
  refine X.val (v := .agg (((.int .i64 5 : Value) :: (.int .i64 0 : Value) :: (.slice (some ⟨b3892, 0, none⟩) 1 1 : Value) :: [] : List Value)).toArray) rfl rfl rfl (yBuild (out := ((.int .i64 5 : Value) :: (.int .i64 0 : Value) :: (.slice (some ⟨b3892, 0, none⟩) 1 1 : Value) :: [] : List Value)) [1, 1, 1] [((.int .i64 0 : Value) :: [] : List Value), ((.int .i64 0 : Value) :: [] : List Value), ((.slice none 0 0 : Value) :: [] : List Value)] Tryz.zeroValue104 rfl pl_T104 rfl rfl (by simp [okp, vInt, vBool, vStr, vSl, vPtr, vAgg, vOne (SlR.one r3903)]) (by simp [setAll, vInt, vBool, vStr, vSl, vPtr, vAgg, vOne (SlR.one r3903)])) trivial ?_
  have b3904 := (f3886.stp p3895 (by simp))
  have o3905 := ((o3888.stp t3894 p3895 (by simp)).mono t3902 (fun _ _ => rfl))
  have o3906 := ((o3890.stp t3894 p3895 (by simp)).mono t3902 (fun _ _ => rfl))
  obtain ⟨x3907, e3908, H⟩ := bnd H
  have s3913 : St [] h I h3893 (fun b => I3885 b ∨ some b = some b3892) ([some b3845, v3887.ownBlock, v3889.ownBlock] ++ [some b3859]) := s3901.pick [0, 1, 2, 3] rfl (by decide) (by rintro (_ | _ | _ | _ | i) m h <;> first | exact h | (simp at h))
  refine X.call (all := [.pointer (some ⟨b3845, 0, none⟩), .agg (((.int .i64 5 : Value) :: (.int .i64 0 : Value) :: (.slice (some ⟨b3892, 0, none⟩) 1 1 : Value) :: [] : List Value)).toArray, .int .i64 1]) Tryz.call59 rfl rfl rfl rfl rfl rfl (c_outbox_Box_Tell s3913.left.lend b3904 o3905 o3906 (m_outbox_Answer r3903) e3908) ?_
  obtain ⟨x3907_0, x3907_1⟩ := x3907
  rintro _ h3909 ⟨I3914, v3916, v3918, k3920, rfl, f3915, o3917, o3919⟩
  have s3911 : St [] h I h3909 I3914 [some b3845, v3916.ownBlock, v3918.ownBlock, some b3859] := St.callS (L := [some b3845, v3887.ownBlock, v3889.ownBlock]) (R := [some b3859]) (L' := [some b3845, v3916.ownBlock, v3918.ownBlock]) s3913 k3920
  have t3912 : Tr (fun b => I3885 b ∨ some b = some b3892) h3893 I3914 h3909 := St.callSTr (L := [some b3845, v3887.ownBlock, v3889.ownBlock]) (R := [some b3859]) (L' := [some b3845, v3916.ownBlock, v3918.ownBlock]) s3913 k3920
  have p3910 := k3920.stp
  refine ⟨trivial, ?_⟩
  refine X.val rfl rfl rfl (yAssign rfl) trivial ?_
  refine X.nil ?_
  refine At.then ?_
  refine C.seq ?_
  refine C.region 4 rfl ?_
  refine X.val rfl rfl rfl (yMove rfl) trivial ?_
  obtain ⟨c3921, e3922⟩ : ∃ c : List Value, c = (List.replicate 32 (.int .u8 0 : Value)) := ⟨_, rfl⟩
  have r3923 : (kArr 32 (kI .u8)).rp I3914 h3909 c3921 (List.replicate 32 (0 : Int)) := by rw [e3922]; exact z_T65
  have l3924 : c3921.length = 32 := (kArr 32 (kI .u8)).len r3923
  refine X.val (v := .agg (((.int .i64 0 : Value) :: (.int .i64 0 : Value) :: (.int .i64 0 : Value) :: (.int .i64 0 : Value) :: (.int .i64 0 : Value) :: c3921 ++ ((.slice none 0 0 : Value) :: (.slice none 0 0 : Value) :: (.slice none 0 0 : Value) :: []) : List Value)).toArray) rfl rfl rfl (yBuild (out := ((.int .i64 0 : Value) :: (.int .i64 0 : Value) :: (.int .i64 0 : Value) :: (.int .i64 0 : Value) :: (.int .i64 0 : Value) :: c3921 ++ ((.slice none 0 0 : Value) :: (.slice none 0 0 : Value) :: (.slice none 0 0 : Value) :: []) : List Value)) [1, 1, 1, 1, 1, 32, 1, 1, 1] [((.int .i64 0 : Value) :: [] : List Value), ((.int .i64 0 : Value) :: [] : List Value), ((.int .i64 0 : Value) :: [] : List Value), ((.int .i64 0 : Value) :: [] : List Value), ((.int .i64 0 : Value) :: [] : List Value), List.replicate 32 (.int .u8 0 : Value), ((.slice none 0 0 : Value) :: [] : List Value), ((.slice none 0 0 : Value) :: [] : List Value), ((.slice none 0 0 : Value) :: [] : List Value)] Tryz.zeroValue77 rfl pl_T77 rfl rfl (by simp [okp, vInt, vBool, vStr, vSl, vPtr, vAgg, l3924]) (by simp [setAll, vInt, vBool, vStr, vSl, vPtr, vAgg, e3922])) trivial ?_
  obtain ⟨x3925, e3926, H⟩ := bnd H
  have s3931 : St [] h I h3909 I3914 ([some b3845, v3916.ownBlock, v3918.ownBlock] ++ [some b3859]) := s3911.pick [0, 1, 2, 3] rfl (by decide) (by rintro (_ | _ | _ | _ | i) m h <;> first | exact h | (simp at h))
  refine X.call (all := [.pointer (some ⟨b3845, 0, none⟩), .agg (((.int .i64 0 : Value) :: (.int .i64 0 : Value) :: (.int .i64 0 : Value) :: (.int .i64 0 : Value) :: (.int .i64 0 : Value) :: c3921 ++ ((.slice none 0 0 : Value) :: (.slice none 0 0 : Value) :: (.slice none 0 0 : Value) :: []) : List Value)).toArray, .int .i64 0]) Tryz.call58 rfl rfl rfl rfl rfl rfl (c_outbox_Box_Send s3931.left.lend f3915 o3917 o3919 (m_proto_Msg r3923 SlR.nil SlR.nil SlR.nil) e3926) ?_
  obtain ⟨x3925_0, x3925_1⟩ := x3925
  rintro _ h3927 ⟨I3932, v3934, v3936, k3938, rfl, f3933, o3935, o3937⟩
  have s3929 : St [] h I h3927 I3932 [some b3845, v3934.ownBlock, v3936.ownBlock, some b3859] := St.callS (L := [some b3845, v3916.ownBlock, v3918.ownBlock]) (R := [some b3859]) (L' := [some b3845, v3934.ownBlock, v3936.ownBlock]) s3931 k3938
  have t3930 : Tr I3914 h3909 I3932 h3927 := St.callSTr (L := [some b3845, v3916.ownBlock, v3918.ownBlock]) (R := [some b3859]) (L' := [some b3845, v3934.ownBlock, v3936.ownBlock]) s3931 k3938
  have p3928 := k3938.stp
  refine ⟨trivial, ?_⟩
  refine X.val rfl rfl rfl (yAssign rfl) trivial ?_
  refine X.nil ?_
  refine At.then ?_
  refine C.seq ?_
  refine C.region 4 rfl ?_
  refine X.val rfl rfl rfl (yMove rfl) trivial ?_
  refine X.val (v := .agg (((.int .i64 0 : Value) :: (.int .i64 0 : Value) :: (.slice none 0 0 : Value) :: [] : List Value)).toArray) rfl rfl rfl (yBuild (out := ((.int .i64 0 : Value) :: (.int .i64 0 : Value) :: (.slice none 0 0 : Value) :: [] : List Value)) [1, 1, 1] [((.int .i64 0 : Value) :: [] : List Value), ((.int .i64 0 : Value) :: [] : List Value), ((.slice none 0 0 : Value) :: [] : List Value)] Tryz.zeroValue104 rfl pl_T104 rfl rfl (by simp [okp, vInt, vBool, vStr, vSl, vPtr, vAgg]) (by simp [setAll, vInt, vBool, vStr, vSl, vPtr, vAgg])) trivial ?_
  obtain ⟨x3939, e3940, H⟩ := bnd H
  have s3945 : St [] h I h3927 I3932 ([some b3845, v3934.ownBlock, v3936.ownBlock] ++ [some b3859]) := s3929.pick [0, 1, 2, 3] rfl (by decide) (by rintro (_ | _ | _ | _ | i) m h <;> first | exact h | (simp at h))
  refine X.call (all := [.pointer (some ⟨b3845, 0, none⟩), .agg (((.int .i64 0 : Value) :: (.int .i64 0 : Value) :: (.slice none 0 0 : Value) :: [] : List Value)).toArray, .int .i64 (-1)]) Tryz.call59 rfl rfl rfl rfl rfl rfl (c_outbox_Box_Tell s3945.left.lend f3933 o3935 o3937 (m_outbox_Answer SlR.nil) e3940) ?_
  obtain ⟨x3939_0, x3939_1⟩ := x3939
  rintro _ h3941 ⟨I3946, v3948, v3950, k3952, rfl, f3947, o3949, o3951⟩
  have s3943 : St [] h I h3941 I3946 [some b3845, v3948.ownBlock, v3950.ownBlock, some b3859] := St.callS (L := [some b3845, v3934.ownBlock, v3936.ownBlock]) (R := [some b3859]) (L' := [some b3845, v3948.ownBlock, v3950.ownBlock]) s3945 k3952
  have t3944 : Tr I3932 h3927 I3946 h3941 := St.callSTr (L := [some b3845, v3934.ownBlock, v3936.ownBlock]) (R := [some b3859]) (L' := [some b3845, v3948.ownBlock, v3950.ownBlock]) s3945 k3952
  have p3942 := k3952.stp
  refine ⟨trivial, ?_⟩
  refine X.val rfl rfl rfl (yAssign rfl) trivial ?_
  refine X.nil ?_
  refine At.then ?_
  refine C.seq ?_
  refine C.region 3 rfl ?_
  refine X.val rfl rfl rfl (yMove rfl) trivial ?_
  obtain ⟨x3953, e3954, H⟩ := bnd H
  have s3959 : St [] h I h3941 I3946 ([some b3845, v3948.ownBlock, v3950.ownBlock] ++ [some b3859]) := s3943.pick [0, 1, 2, 3] rfl (by decide) (by rintro (_ | _ | _ | _ | i) m h <;> first | exact h | (simp at h))
  refine X.call (all := [.pointer (some ⟨b3845, 0, none⟩), .int .i64 1]) Tryz.call55 rfl rfl rfl rfl rfl rfl (c_outbox_Box_Out s3959.left.lend f3947 o3949 o3951 e3954) ?_
  obtain ⟨x3953_0, x3953_1⟩ := x3953
  rintro v3966 h3955 ⟨I3960, v3962, v3964, _, k3968, rfl, f3961, o3963, o3965, o3967⟩
  have s3957 : St [] h I h3955 I3960 [some b3845, v3962.ownBlock, v3964.ownBlock, v3966.ownBlock, some b3859] := St.callS (L := [some b3845, v3948.ownBlock, v3950.ownBlock]) (R := [some b3859]) (L' := [some b3845, v3962.ownBlock, v3964.ownBlock, v3966.ownBlock]) s3959 k3968
  have t3958 : Tr I3946 h3941 I3960 h3955 := St.callSTr (L := [some b3845, v3948.ownBlock, v3950.ownBlock]) (R := [some b3859]) (L' := [some b3845, v3962.ownBlock, v3964.ownBlock, v3966.ownBlock]) s3959 k3968
  have p3956 := k3968.stp
  refine ⟨trivial, ?_⟩
  refine X.val rfl rfl rfl (yAssign rfl) trivial ?_
  refine X.nil ?_
  refine At.then ?_
  refine C.seq ?_
  refine C.region 3 rfl ?_
  refine X.val rfl rfl rfl (yMove rfl) trivial ?_
  obtain ⟨x3969, e3970, H⟩ := bnd H
  have s3975 : St [] h I h3955 I3960 ([some b3845, v3962.ownBlock, v3964.ownBlock] ++ [v3966.ownBlock, some b3859]) := s3957.pick [0, 1, 2, 3, 4] rfl (by decide) (by rintro (_ | _ | _ | _ | _ | i) m h <;> first | exact h | (simp at h))
  refine X.call (all := [.pointer (some ⟨b3845, 0, none⟩), .int .i64 1]) Tryz.call60 rfl rfl rfl rfl rfl rfl (c_outbox_Box_Told s3975.left.lend f3961 o3963 o3965 e3970) ?_
  obtain ⟨x3969_0, x3969_1⟩ := x3969
  rintro v3982 h3971 ⟨I3976, v3978, v3980, _, k3984, rfl, f3977, o3979, o3981, o3983⟩
  have s3973 : St [] h I h3971 I3976 [some b3845, v3978.ownBlock, v3980.ownBlock, v3982.ownBlock, v3966.ownBlock, some b3859] := St.callS (L := [some b3845, v3962.ownBlock, v3964.ownBlock]) (R := [v3966.ownBlock, some b3859]) (L' := [some b3845, v3978.ownBlock, v3980.ownBlock, v3982.ownBlock]) s3975 k3984
  have t3974 : Tr I3960 h3955 I3976 h3971 := St.callSTr (L := [some b3845, v3962.ownBlock, v3964.ownBlock]) (R := [v3966.ownBlock, some b3859]) (L' := [some b3845, v3978.ownBlock, v3980.ownBlock, v3982.ownBlock]) s3975 k3984
  have p3972 := k3984.stp
  refine ⟨trivial, ?_⟩
  refine X.val rfl rfl rfl (yAssign rfl) trivial ?_
  refine X.nil ?_
  refine At.then ?_
  refine C.seq ?_
  refine C.region 7 rfl ?_
  refine X.val rfl rfl rfl (yMove rfl) trivial ?_
  obtain ⟨x3985, e3986, H⟩ := bnd H
  have s3991 : St [] h I h3971 I3976 ([some b3845, v3978.ownBlock, v3980.ownBlock] ++ [v3982.ownBlock, v3966.ownBlock, some b3859]) := s3973.pick [0, 1, 2, 3, 4, 5] rfl (by decide) (by rintro (_ | _ | _ | _ | _ | _ | i) m h <;> first | exact h | (simp at h))
  refine X.call (all := [.pointer (some ⟨b3845, 0, none⟩)]) Tryz.call51 rfl rfl rfl rfl rfl rfl (c_outbox_Box_Waits s3991.left.lend f3977 o3979 o3981 e3986) ?_
  obtain ⟨x3985_0, x3985_1, x3985_2⟩ := x3985
  rintro _ h3987 ⟨I3992, v3994, v3996, k3998, rfl, f3993, o3995, o3997⟩
  have s3989 : St [] h I h3987 I3992 [some b3845, v3994.ownBlock, v3996.ownBlock, v3982.ownBlock, v3966.ownBlock, some b3859] := St.callS (L := [some b3845, v3978.ownBlock, v3980.ownBlock]) (R := [v3982.ownBlock, v3966.ownBlock, some b3859]) (L' := [some b3845, v3994.ownBlock, v3996.ownBlock]) s3991 k3998
  have t3990 : Tr I3976 h3971 I3992 h3987 := St.callSTr (L := [some b3845, v3978.ownBlock, v3980.ownBlock]) (R := [v3982.ownBlock, v3966.ownBlock, some b3859]) (L' := [some b3845, v3994.ownBlock, v3996.ownBlock]) s3991 k3998
  have p3988 := k3998.stp
  refine ⟨trivial, ?_⟩
  refine X.val rfl rfl rfl (yMove rfl) trivial ?_
  refine X.val rfl rfl rfl (yExtract rfl rfl) trivial ?_
  refine X.val rfl rfl rfl (yExtract rfl rfl) trivial ?_
  refine X.val rfl rfl rfl (yAssign rfl) trivial ?_
  refine X.val rfl rfl rfl (yAssign rfl) trivial ?_
  refine X.nil ?_
  refine At.then ?_
  refine C.seq ?_
  refine C.region 2 rfl ?_
  refine X.val rfl rfl rfl (yMove rfl) trivial ?_
  obtain ⟨x3999, e4000, H⟩ := bnd H
  have s4005 : St [] h I h3987 I3992 ([some b3845, v3994.ownBlock, v3996.ownBlock] ++ [v3982.ownBlock, v3966.ownBlock, some b3859]) := s3989.pick [0, 1, 2, 3, 4, 5] rfl (by decide) (by rintro (_ | _ | _ | _ | _ | _ | i) m h <;> first | exact h | (simp at h))
  refine X.call (all := [.pointer (some ⟨b3845, 0, none⟩)]) Tryz.call57 rfl rfl rfl rfl rfl rfl (c_outbox_Box_Shift s4005.left.lend f3993 o3995 o3997 e4000) ?_
  rintro _ h4001 ⟨I4006, v4008, v4010, k4012, rfl, f4007, o4009, o4011⟩
  have s4003 : St [] h I h4001 I4006 [some b3845, v4008.ownBlock, v4010.ownBlock, v3982.ownBlock, v3966.ownBlock, some b3859] := St.callS (L := [some b3845, v3994.ownBlock, v3996.ownBlock]) (R := [v3982.ownBlock, v3966.ownBlock, some b3859]) (L' := [some b3845, v4008.ownBlock, v4010.ownBlock]) s4005 k4012
  have t4004 : Tr I3992 h3987 I4006 h4001 := St.callSTr (L := [some b3845, v3994.ownBlock, v3996.ownBlock]) (R := [v3982.ownBlock, v3966.ownBlock, some b3859]) (L' := [some b3845, v4008.ownBlock, v4010.ownBlock]) s4005 k4012
  have p4002 := k4012.stp
  refine ⟨trivial, ?_⟩
  refine X.nil ?_
  refine At.then ?_
  refine C.seq ?_
  refine C.region 3 rfl ?_
  refine X.val rfl rfl rfl (yMove rfl) trivial ?_
  obtain ⟨x4013, e4014, H⟩ := bnd H
  have s4019 : St [] h I h4001 I4006 ([some b3845, v4008.ownBlock, v4010.ownBlock] ++ [v3982.ownBlock, v3966.ownBlock, some b3859]) := s4003.pick [0, 1, 2, 3, 4, 5] rfl (by decide) (by rintro (_ | _ | _ | _ | _ | _ | i) m h <;> first | exact h | (simp at h))
  refine X.call (all := [.pointer (some ⟨b3845, 0, none⟩), .int .i64 0]) Tryz.call55 rfl rfl rfl rfl rfl rfl (c_outbox_Box_Out s4019.left.lend f4007 o4009 o4011 e4014) ?_
  obtain ⟨x4013_0, x4013_1⟩ := x4013
  rintro v4026 h4015 ⟨I4020, v4022, v4024, _, k4028, rfl, f4021, o4023, o4025, o4027⟩
  have s4017 : St [] h I h4015 I4020 [some b3845, v4022.ownBlock, v4024.ownBlock, v4026.ownBlock, v3982.ownBlock, v3966.ownBlock, some b3859] := St.callS (L := [some b3845, v4008.ownBlock, v4010.ownBlock]) (R := [v3982.ownBlock, v3966.ownBlock, some b3859]) (L' := [some b3845, v4022.ownBlock, v4024.ownBlock, v4026.ownBlock]) s4019 k4028
  have t4018 : Tr I4006 h4001 I4020 h4015 := St.callSTr (L := [some b3845, v4008.ownBlock, v4010.ownBlock]) (R := [v3982.ownBlock, v3966.ownBlock, some b3859]) (L' := [some b3845, v4022.ownBlock, v4024.ownBlock, v4026.ownBlock]) s4019 k4028
  have p4016 := k4028.stp
  refine ⟨trivial, ?_⟩
  refine X.val rfl rfl rfl (yAssign rfl) trivial ?_
  refine X.nil ?_
  refine At.then ?_
  refine C.seq ?_
  refine C.seq ?_
  refine C.region 16 rfl ?_
  refine X.val rfl rfl rfl (yMove rfl) trivial ?_
  have o4029 := (((o3983.stp t3990 p3988 (s3973.sep 3 [0, 1, 2] rfl rfl rfl)).stp t4004 p4002 (s3989.sep 3 [0, 1, 2] rfl rfl rfl)).stp t4018 p4016 (s4003.sep 3 [0, 1, 2] rfl rfl rfl))
  refine X.val rfl rfl rfl (yLenO Tryz.underlying121 rfl o4029) trivial ?_
  by_cases g4030 : (x3969_0.length : Int) ≠ 1
  · have H := ifT g4030 H
    refine X.val rfl rfl rfl (yBT g4030 (yNeq rfl rfl)) trivial ?_
    refine X.val rfl rfl rfl (yMove rfl) trivial ?_
    refine X.skip rfl rfl rfl trivial ?_
    refine X.skip rfl rfl rfl trivial ?_
    refine X.skip rfl rfl rfl trivial ?_
    refine X.val rfl rfl rfl (yPickT rfl rfl) trivial ?_
    refine X.val rfl rfl rfl (yMove rfl) trivial ?_
    refine X.skip rfl rfl rfl trivial ?_
    refine X.skip rfl rfl rfl trivial ?_
    refine X.skip rfl rfl rfl trivial ?_
    refine X.skip rfl rfl rfl trivial ?_
    refine X.skip rfl rfl rfl trivial ?_
    refine X.skip rfl rfl rfl trivial ?_
    refine X.val rfl rfl rfl (yPickT rfl rfl) trivial ?_
    refine X.nil ?_
    refine At.then ?_
    refine C.condT rfl ?_
    refine C.seq ?_
    refine C.region 1 rfl ?_
    refine X.val rfl rfl rfl (yAssign rfl) trivial ?_
    refine X.nil ?_
    refine At.then ?_
    refine C.ret ?_
    refine At.thenR ?_
    obtain rfl := sm H
    refine At.retn (rs := [.tmp 0]) [.bool false] rfl ?_ ?_
    exact ⟨Rv.tmp rfl, trivial⟩
    exact ⟨s4017.stp, rfl⟩
  · have H := ifF g4030 H
    refine X.val rfl rfl rfl (yBF g4030 (yNeq rfl rfl)) trivial ?_
    refine X.val rfl rfl rfl (yMove rfl) trivial ?_
    refine X.val rfl rfl rfl (yMove rfl) trivial ?_
    refine X.val rfl rfl rfl (yLenO Tryz.underlying112 rfl o4027) trivial ?_
    by_cases g4031 : (x4013_0.length : Int) ≠ 1
    · have H := ifT g4031 H
      refine X.val rfl rfl rfl (yBT g4031 (yNeq rfl rfl)) trivial ?_
      refine X.val rfl rfl rfl (yPickF rfl rfl) trivial ?_
      refine X.val rfl rfl rfl (yMove rfl) trivial ?_
      refine X.skip rfl rfl rfl trivial ?_
      refine X.skip rfl rfl rfl trivial ?_
      refine X.skip rfl rfl rfl trivial ?_
      refine X.skip rfl rfl rfl trivial ?_
      refine X.skip rfl rfl rfl trivial ?_
      refine X.skip rfl rfl rfl trivial ?_
      refine X.val rfl rfl rfl (yPickT rfl rfl) trivial ?_
      refine X.nil ?_
      refine At.then ?_
      refine C.condT rfl ?_
      refine C.seq ?_
      refine C.region 1 rfl ?_
      refine X.val rfl rfl rfl (yAssign rfl) trivial ?_
      refine X.nil ?_
      refine At.then ?_
      refine C.ret ?_
      refine At.thenR ?_
      obtain rfl := sm H
      refine At.retn (rs := [.tmp 0]) [.bool false] rfl ?_ ?_
      exact ⟨Rv.tmp rfl, trivial⟩
      exact ⟨s4017.stp, rfl⟩
    · have H := ifF g4031 H
      refine X.val rfl rfl rfl (yBF g4031 (yNeq rfl rfl)) trivial ?_
      refine X.val rfl rfl rfl (yPickF rfl rfl) trivial ?_
      refine X.val rfl rfl rfl (yMove rfl) trivial ?_
      refine X.val rfl rfl rfl (yMove rfl) trivial ?_
      have o4032 := (((o3983.stp t3990 p3988 (s3973.sep 3 [0, 1, 2] rfl rfl rfl)).stp t4004 p4002 (s3989.sep 3 [0, 1, 2] rfl rfl rfl)).stp t4018 p4016 (s4003.sep 3 [0, 1, 2] rfl rfl rfl))
      obtain ⟨⟨g4033, g4034⟩, H⟩ := ifS H
      obtain ⟨b4035, k4036, c4037, c4038, c4039, e4040, f4041, l4042, l4043, r4044, w4045⟩ := Own.at o4032 g4033 g4034
      have l4042 : c4037.length = ((0 : Int)).toNat * 3 := l4042
      have l4043 : c4038.length = 3 := l4043
      obtain ⟨v4046, rfl, r4047⟩ := o_outbox_Answer r4044
      refine X.val (v := .pointer (some ⟨b4035, 0 + ((0 : Int)).toNat * 3, none⟩)) rfl rfl rfl (yIdxS Tryz.underlying121 Tryz.sizeOf104 (by rw [← e4040]; rfl) rfl g4033 g4034) trivial ?_
      refine X.val (v := .pointer (some ⟨b4035, 0 + ((0 : Int)).toNat * 3 + 2, none⟩)) rfl rfl rfl (yField 67 2 Tryz.underlying104 Tryz.sizeOf67 rfl rfl rfl) trivial ?_
      refine X.val (v := v4046) rfl rfl rfl (yLoadS (j := 2) Tryz.isAgg67 rfl (Box.rd (o := 0 + ((0 : Int)).toNat * 3) f4041 rfl (by rw [l4042, Nat.zero_add])) rfl rfl) trivial ?_
      refine X.val rfl rfl rfl (yLenR Tryz.underlying67 rfl r4047) trivial ?_
      by_cases g4048 : (((rd x3969_0 (0 : Int)).Lines).length : Int) ≠ 1
      · have H := ifT g4048 H
        refine X.val rfl rfl rfl (yBT g4048 (yNeq rfl rfl)) trivial ?_
        refine X.val rfl rfl rfl (yPickF rfl rfl) trivial ?_
        refine X.nil ?_
        refine At.then ?_
        refine C.condT rfl ?_
        refine C.seq ?_
        refine C.region 1 rfl ?_
        refine X.val rfl rfl rfl (yAssign rfl) trivial ?_
        refine X.nil ?_
        refine At.then ?_
        refine C.ret ?_
        refine At.thenR ?_
        obtain rfl := sm H
        refine At.retn (rs := [.tmp 0]) [.bool false] rfl ?_ ?_
        exact ⟨Rv.tmp rfl, trivial⟩
        exact ⟨s4017.stp, rfl⟩
      · have H := ifF g4048 H
        refine X.val rfl rfl rfl (yBF g4048 (yNeq rfl rfl)) trivial ?_
        refine X.val rfl rfl rfl (yPickF rfl rfl) trivial ?_
        refine X.nil ?_
        refine At.then ?_
        refine C.condF rfl ?_
        refine C.skip ?_
        refine At.then ?_
        refine C.seq ?_
        have b4049 := ((((((((((f3873.stp p3881 ((s3871.sep 0 [1, 2, 3] rfl rfl rfl) _ rfl)).stp p3895 (by simp)).stp p3910 ((s3901.sep 3 [0, 1, 2] rfl rfl rfl) _ rfl)).stp p3928 ((s3911.sep 3 [0, 1, 2] rfl rfl rfl) _ rfl)).stp p3942 ((s3929.sep 3 [0, 1, 2] rfl rfl rfl) _ rfl)).stp p3956 ((s3943.sep 3 [0, 1, 2] rfl rfl rfl) _ rfl)).stp p3972 ((s3957.sep 4 [0, 1, 2] rfl rfl rfl) _ rfl)).stp p3988 ((s3973.sep 5 [0, 1, 2] rfl rfl rfl) _ rfl)).stp p4002 ((s3989.sep 5 [0, 1, 2] rfl rfl rfl) _ rfl)).stp p4016 ((s4003.sep 5 [0, 1, 2] rfl rfl rfl) _ rfl))
        refine C.regionD rfl (Stp [some b3845, v4022.ownBlock, v4024.ownBlock] h4015) (.pas 0 (.pas 1 (.pas 2 (.pas 3 (.pas 4 (.pas 5 (.pas 6 (.pas 7 (.pas 8 (.pas 9 (.pas 10 (.pas 11 (.pas 12 (.pas 13 (.pas 14 (.pas 15 (.pas 16 (.pas 17 (.pas 18 (.pas 19 (.pas 20 (.pas 21 (.pas 22 (.pas 23 (.pas 24 (.pas 25 (.pas 26 (.pas 27 (.pas 28 (.pas 29 (.pas 30 (.pas 31 (.pas 32 (.pas 33 (.pas 34 (.pas 35 (.pas 36 (.pas 37 (.pas 38 (.pas 39 (.pas 40 (.pas 41 (.pas 42 (.pas 43 (.pas 44 (.pas 45 (.pas 46 (.pas 47 (.alt 48 (.pas 49 (.pas 50 (.pas 51 (.alt 52 (.pas 53 (.pas 54 (.pas 55 .nil))) .stop)))) .stop))))))))))))))))))))))))))))))))))))))))))))))))) (by kernel_rfl) (Stp.refl0 _ _) ?_
        have q4050 := Stp.refl0 [some b3845, v4022.ownBlock, v4024.ownBlock] h4015
        refine X.pas rfl rfl rfl (fun _ _ => yMove rfl) ?_
        by_cases g4051 : x3878_0 = 0
        · have H := ifT g4051 H
          refine X.pas rfl rfl rfl (fun _ _ => yBT g4051 (yEql rfl rfl)) ?_
          refine X.pas rfl rfl rfl (fun _ _ => yMove rfl) ?_
          refine X.pas rfl rfl rfl (fun _ _ => yMove rfl) ?_
          by_cases g4052 : x3907_0 = 0
          · have H := ifT g4052 H
            refine X.pas rfl rfl rfl (fun _ _ => yBT g4052 (yEql rfl rfl)) ?_
            refine X.pas rfl rfl rfl (fun _ _ => yPickT rfl rfl) ?_
            refine X.pas rfl rfl rfl (fun _ _ => yMove rfl) ?_
            refine X.pas rfl rfl rfl (fun _ _ => yMove rfl) ?_
            by_cases g4053 : x3925_0 = 3
            · have H := ifT g4053 H
              refine X.pas rfl rfl rfl (fun _ _ => yBT g4053 (yEql rfl rfl)) ?_
              refine X.pas rfl rfl rfl (fun _ _ => yPickT rfl rfl) ?_
              refine X.pas rfl rfl rfl (fun _ _ => yMove rfl) ?_
              refine X.pas rfl rfl rfl (fun _ _ => yMove rfl) ?_
              by_cases g4054 : x3939_0 = 1
              · have H := ifT g4054 H
                refine X.pas rfl rfl rfl (fun _ _ => yBT g4054 (yEql rfl rfl)) ?_
                refine X.pas rfl rfl rfl (fun _ _ => yPickT rfl rfl) ?_
                refine X.pas rfl rfl rfl (fun _ _ => yMove rfl) ?_
                refine X.pas rfl rfl rfl (fun _ _ => yMove rfl) ?_
                have o4055 := ((((o3967.stp t3974 p3972 (s3957.sep 3 [0, 1, 2] rfl rfl rfl)).stp t3990 p3988 (s3973.sep 4 [0, 1, 2] rfl rfl rfl)).stp t4004 p4002 (s3989.sep 4 [0, 1, 2] rfl rfl rfl)).stp t4018 p4016 (s4003.sep 4 [0, 1, 2] rfl rfl rfl))
                refine X.pas rfl rfl rfl (fun _ _ => yLenO Tryz.underlying112 rfl o4055) ?_
                by_cases g4056 : (x3953_0.length : Int) = 0
                · have H := ifT g4056 H
                  refine X.pas rfl rfl rfl (fun _ _ => yBT g4056 (yEql rfl rfl)) ?_
                  refine X.pas rfl rfl rfl (fun _ _ => yPickT rfl rfl) ?_
                  refine X.pas rfl rfl rfl (fun _ _ => yMove rfl) ?_
                  refine X.pas rfl rfl rfl (fun _ _ => yMove rfl) ?_
                  have o4057 := (((o3983.stp t3990 p3988 (s3973.sep 3 [0, 1, 2] rfl rfl rfl)).stp t4004 p4002 (s3989.sep 3 [0, 1, 2] rfl rfl rfl)).stp t4018 p4016 (s4003.sep 3 [0, 1, 2] rfl rfl rfl))
                  obtain ⟨⟨g4058, g4059⟩, H⟩ := ifS H
                  obtain ⟨b4060, k4061, c4062, c4063, c4064, e4065, f4066, l4067, l4068, r4069, w4070⟩ := Own.at o4057 g4058 g4059
                  have l4067 : c4062.length = ((0 : Int)).toNat * 3 := l4067
                  have l4068 : c4063.length = 3 := l4068
                  obtain ⟨v4071, rfl, r4072⟩ := o_outbox_Answer r4069
                  refine X.pas (v := .pointer (some ⟨b4060, 0 + ((0 : Int)).toNat * 3, none⟩)) rfl rfl rfl (fun _ _ => yIdxS Tryz.underlying121 Tryz.sizeOf104 (by rw [← e4065]; rfl) rfl g4058 g4059) ?_
                  refine X.pas (v := .pointer (some ⟨b4060, 0 + ((0 : Int)).toNat * 3 + 0, none⟩)) rfl rfl rfl (fun _ _ => yField 3 0 Tryz.underlying104 Tryz.sizeOf3 rfl rfl rfl) ?_
                  refine X.pas (v := .int .i64 ((rd x3969_0 (0 : Int)).ID)) rfl rfl rfl (fun h' q => yLoadS (j := 0) Tryz.isAgg3 rfl (Box.rd (o := 0 + ((0 : Int)).toNat * 3) (Box.stp f4066 q (s4017.sep 4 [0, 1, 2] rfl rfl rfl b4060 (by rw [e4065]; rfl))) rfl (by rw [l4067, Nat.zero_add])) rfl rfl) ?_
                  by_cases g4073 : ((rd x3969_0 (0 : Int)).ID) = 5
                  · have H := ifT g4073 H
                    refine X.pas rfl rfl rfl (fun _ _ => yBT g4073 (yEql rfl rfl)) ?_
                    refine X.pas rfl rfl rfl (fun _ _ => yPickT rfl rfl) ?_
                    refine X.pas rfl rfl rfl (fun _ _ => yMove rfl) ?_
                    refine X.pas rfl rfl rfl (fun _ _ => yMove rfl) ?_
                    have o4074 := (((o3983.stp t3990 p3988 (s3973.sep 3 [0, 1, 2] rfl rfl rfl)).stp t4004 p4002 (s3989.sep 3 [0, 1, 2] rfl rfl rfl)).stp t4018 p4016 (s4003.sep 3 [0, 1, 2] rfl rfl rfl))
                    obtain ⟨⟨g4075, g4076⟩, H⟩ := ifS H
                    obtain ⟨b4077, k4078, c4079, c4080, c4081, e4082, f4083, l4084, l4085, r4086, w4087⟩ := Own.at o4074 g4075 g4076
                    have l4084 : c4079.length = ((0 : Int)).toNat * 3 := l4084
                    have l4085 : c4080.length = 3 := l4085
                    obtain ⟨v4088, rfl, r4089⟩ := o_outbox_Answer r4086
                    refine X.pas (v := .pointer (some ⟨b4077, 0 + ((0 : Int)).toNat * 3, none⟩)) rfl rfl rfl (fun _ _ => yIdxS Tryz.underlying121 Tryz.sizeOf104 (by rw [← e4082]; rfl) rfl g4075 g4076) ?_
                    refine X.pas (v := .pointer (some ⟨b4077, 0 + ((0 : Int)).toNat * 3 + 2, none⟩)) rfl rfl rfl (fun _ _ => yField 67 2 Tryz.underlying104 Tryz.sizeOf67 rfl rfl rfl) ?_
                    refine X.pas (v := v4088) rfl rfl rfl (fun h' q => yLoadS (j := 2) Tryz.isAgg67 rfl (Box.rd (o := 0 + ((0 : Int)).toNat * 3) (Box.stp f4083 q (s4017.sep 4 [0, 1, 2] rfl rfl rfl b4077 (by rw [e4082]; rfl))) rfl (by rw [l4084, Nat.zero_add])) rfl rfl) ?_
                    obtain ⟨⟨g4098, g4090⟩, H⟩ := ifS H
                    obtain ⟨b4091, w4092, k4093, c4094, e4095, r4096, m4097⟩ := SlR.get r4089 g4098 g4090
                    obtain rfl := r4096
                    refine X.pas (v := .pointer (some ⟨b4091, w4092 + ((0 : Int)).toNat * 1, none⟩)) rfl rfl rfl (fun _ _ => yIdxS Tryz.underlying67 Tryz.sizeOf3 (by rw [← e4095]; rfl) rfl g4098 g4090) ?_
                    refine X.pas (v := .int .i64 (rd ((rd x3969_0 (0 : Int)).Lines) (0 : Int))) rfl rfl rfl (fun h' q => yLoadS (j := 0) Tryz.isAgg3 rfl (m4097.mono (s4017.tr q (by simp) (fun _ hb => hb))).rd rfl rfl) ?_
                    by_cases g4099 : (rd ((rd x3969_0 (0 : Int)).Lines) (0 : Int)) = 6
                    · have H := ifT g4099 H
                      refine X.pas rfl rfl rfl (fun _ _ => yBT g4099 (yEql rfl rfl)) ?_
                      refine X.pas rfl rfl rfl (fun _ _ => yPickT rfl rfl) ?_
                      refine X.pas rfl rfl rfl (fun _ _ => yMove rfl) ?_
                      refine X.pas rfl rfl rfl (fun _ _ => yMove rfl) ?_
                      by_cases g4100 : x3985_0 = 1
                      · have H := ifT g4100 H
                        refine X.pas rfl rfl rfl (fun _ _ => yBT g4100 (yEql rfl rfl)) ?_
                        refine X.pas rfl rfl rfl (fun _ _ => yPickT rfl rfl) ?_
                        refine X.pas rfl rfl rfl (fun _ _ => yMove rfl) ?_
                        refine X.pas rfl rfl rfl (fun _ _ => yMove rfl) ?_
                        by_cases g4101 : x3985_1 = 0
                        · have H := ifT g4101 H
                          refine X.pas rfl rfl rfl (fun _ _ => yBT g4101 (yEql rfl rfl)) ?_
                          refine X.pas rfl rfl rfl (fun _ _ => yPickT rfl rfl) ?_
                          refine X.pas rfl rfl rfl (fun _ _ => yMove rfl) ?_
                          refine X.pas rfl rfl rfl (fun _ _ => yMove rfl) ?_
                          obtain ⟨⟨g4102, g4103⟩, H⟩ := ifS H
                          obtain ⟨b4104, k4105, c4106, c4107, c4108, e4109, f4110, l4111, l4112, r4113, w4114⟩ := Own.at o4027 g4102 g4103
                          have l4111 : c4106.length = ((0 : Int)).toNat * 40 := l4111
                          have l4112 : c4107.length = 40 := l4112
                          obtain ⟨c4115, v4117, v4119, v4121, rfl, r4116, r4118, r4120, r4122⟩ := o_proto_Msg r4113
                          refine X.pas (v := .pointer (some ⟨b4104, 0 + ((0 : Int)).toNat * 40, none⟩)) rfl rfl rfl (fun _ _ => yIdxS Tryz.underlying112 Tryz.sizeOf77 (by rw [← e4109]; rfl) rfl g4102 g4103) ?_
                          have l4123 : c4115.length = 32 := (kArr 32 (kI .u8)).len r4116
                          refine X.pas (v := .agg (((.int .i64 ((rd x4013_0 (0 : Int)).Kind) : Value) :: (.int .i64 ((rd x4013_0 (0 : Int)).From) : Value) :: (.int .i64 ((rd x4013_0 (0 : Int)).To) : Value) :: (.int .i64 ((rd x4013_0 (0 : Int)).Session) : Value) :: (.int .i64 ((rd x4013_0 (0 : Int)).Part) : Value) :: c4115 ++ (v4117 :: v4119 :: v4121 :: []) : List Value)).toArray) rfl rfl rfl (fun h' q => yLoadW Tryz.isAgg77 Tryz.sizeOf77 rfl (Box.rd (o := 0 + ((0 : Int)).toNat * 40) (Box.stp f4110 q (s4017.sep 3 [0, 1, 2] rfl rfl rfl b4104 (by rw [e4109]; rfl))) rfl (by rw [l4111, Nat.zero_add])) (by simp [l4123])) ?_
                          have l4124 : c3852.length = 32 := (kArr 32 (kI .u8)).len r3854
                          refine X.pas (v := .agg (((.int .i64 4 : Value) :: (.int .i64 1 : Value) :: (.int .i64 2 : Value) :: (.int .i64 3 : Value) :: (.int .i64 0 : Value) :: c3852 ++ ((.slice none 0 0 : Value) :: (.slice none 0 0 : Value) :: (.slice none 0 0 : Value) :: []) : List Value)).toArray) rfl rfl rfl (fun h' q => yLoadW Tryz.isAgg77 Tryz.sizeOf77 rfl ((b4049.stp q (s4017.sep 6 [0, 1, 2] rfl rfl rfl _ rfl))).all (by simp [l4124])) ?_
                          obtain ⟨x4125, e4126, H⟩ := bnd H
                          refine X.call (all := [.agg (((.int .i64 ((rd x4013_0 (0 : Int)).Kind) : Value) :: (.int .i64 ((rd x4013_0 (0 : Int)).From) : Value) :: (.int .i64 ((rd x4013_0 (0 : Int)).To) : Value) :: (.int .i64 ((rd x4013_0 (0 : Int)).Session) : Value) :: (.int .i64 ((rd x4013_0 (0 : Int)).Part) : Value) :: c4115 ++ (v4117 :: v4119 :: v4121 :: []) : List Value)).toArray, .agg (((.int .i64 4 : Value) :: (.int .i64 1 : Value) :: (.int .i64 2 : Value) :: (.int .i64 3 : Value) :: (.int .i64 0 : Value) :: c3852 ++ ((.slice none 0 0 : Value) :: (.slice none 0 0 : Value) :: (.slice none 0 0 : Value) :: []) : List Value)).toArray]) Tryz.call44 rfl rfl rfl rfl rfl rfl (c_proto_Same s4017.ib (m_proto_Msg r4116 r4118 r4120 r4122) (m_proto_Msg ((kArr 32 (kI .u8)).mono r3854 (t3861.trans (t3872.trans (t3883.trans (t3894.trans (t3902.trans (t3912.trans (t3930.trans (t3944.trans (t3958.trans (t3974.trans (t3990.trans (t4004.trans t4018))))))))))))) SlR.nil SlR.nil SlR.nil) e4126) ?_
                          rintro _ h4127 ⟨p4128, rfl⟩
                          have s4129 := s4017.call p4128
                          have t4130 := s4017.callTr p4128
                          have q4131 := q4050.cat p4128 (by simp)
                          refine ⟨q4131, ?_⟩
                          refine X.pas rfl rfl rfl (fun _ _ => yPickT rfl rfl) ?_
                          refine X.pas rfl rfl rfl (fun _ _ => yMove rfl) ?_
                          cases x4125
                          · have H := biF H
                            refine X.pasSkip rfl rfl rfl ?_
                            refine X.skip rfl rfl rfl q4131 ?_
                            refine X.pasSkip rfl rfl rfl ?_
                            refine X.pas rfl rfl rfl (fun _ _ => yPickF rfl rfl) ?_
                            refine X.pas rfl rfl rfl (fun _ _ => yAssign rfl) ?_
                            refine X.nil ?_
                            refine At.then ?_
                            refine C.ret ?_
                            obtain rfl := sm H
                            refine At.retn (rs := [.tmp 0]) [.bool false] rfl ?_ ?_
                            exact ⟨Rv.tmp rfl, trivial⟩
                            exact ⟨s4129.stp, rfl⟩
                          · have H := biT H
                            refine X.pas rfl rfl rfl (fun _ _ => yMove rfl) ?_
                            have b4132 := (f4021.stp p4128 (by simp))
                            have o4133 := (o4023.stp t4130 p4128 (by simp))
                            have o4134 := (o4025.stp t4130 p4128 (by simp))
                            obtain ⟨x4135, e4136, H⟩ := bnd H
                            have s4141 : St [] h I h4127 (Ex I4020 h4015 h4127) ([some b3845, v4022.ownBlock, v4024.ownBlock] ++ [v4026.ownBlock, v3982.ownBlock, v3966.ownBlock, some b3859]) := s4129.pick [0, 1, 2, 3, 4, 5, 6] rfl (by decide) (by rintro (_ | _ | _ | _ | _ | _ | _ | i) m h <;> first | exact h | (simp at h))
                            refine X.call (all := [.pointer (some ⟨b3845, 0, none⟩)]) Tryz.call52 rfl rfl rfl rfl rfl rfl (c_outbox_Box_Lost s4141.left.lend b4132 o4133 o4134 e4136) ?_
                            obtain ⟨x4135_0, x4135_1⟩ := x4135
                            rintro _ h4137 ⟨I4142, v4144, v4146, k4148, rfl, f4143, o4145, o4147⟩
                            have s4139 : St [] h I h4137 I4142 [some b3845, v4144.ownBlock, v4146.ownBlock, v4026.ownBlock, v3982.ownBlock, v3966.ownBlock, some b3859] := St.callS (L := [some b3845, v4022.ownBlock, v4024.ownBlock]) (R := [v4026.ownBlock, v3982.ownBlock, v3966.ownBlock, some b3859]) (L' := [some b3845, v4144.ownBlock, v4146.ownBlock]) s4141 k4148
                            have t4140 : Tr (Ex I4020 h4015 h4127) h4127 I4142 h4137 := St.callSTr (L := [some b3845, v4022.ownBlock, v4024.ownBlock]) (R := [v4026.ownBlock, v3982.ownBlock, v3966.ownBlock, some b3859]) (L' := [some b3845, v4144.ownBlock, v4146.ownBlock]) s4141 k4148
                            have p4138 := k4148.stp
                            have q4149 := q4131.cat p4138 (by simp)
                            refine ⟨q4149, ?_⟩
                            refine X.pas rfl rfl rfl (fun _ _ => yEql rfl rfl) ?_
                            refine X.pas rfl rfl rfl (fun _ _ => yPickT rfl rfl) ?_
                            refine X.pas rfl rfl rfl (fun _ _ => yAssign rfl) ?_
                            refine X.nil ?_
                            refine At.then ?_
                            refine C.ret ?_
                            obtain rfl := sm H
                            refine At.retn (rs := [.tmp 0]) [.bool (decide (x4135_0 = 0))] rfl ?_ ?_
                            exact ⟨Rv.tmp rfl, trivial⟩
                            exact ⟨s4139.stp, rfl⟩
                        · have H := ifF g4101 H
                          refine X.pas rfl rfl rfl (fun _ _ => yBF g4101 (yEql rfl rfl)) ?_
                          refine X.pas rfl rfl rfl (fun _ _ => yPickT rfl rfl) ?_
                          refine X.pas rfl rfl rfl (fun _ _ => yMove rfl) ?_
                          refine X.pasSkip rfl rfl rfl ?_
                          refine X.pasSkip rfl rfl rfl ?_
                          refine X.pasSkip rfl rfl rfl ?_
                          refine X.pasSkip rfl rfl rfl ?_
                          refine X.skip rfl rfl rfl q4050 ?_
                          refine X.pas rfl rfl rfl (fun _ _ => yPickF rfl rfl) ?_
                          refine X.pas rfl rfl rfl (fun _ _ => yMove rfl) ?_
                          refine X.pasSkip rfl rfl rfl ?_
                          refine X.skip rfl rfl rfl q4050 ?_
                          refine X.pasSkip rfl rfl rfl ?_
                          refine X.pas rfl rfl rfl (fun _ _ => yPickF rfl rfl) ?_
                          refine X.pas rfl rfl rfl (fun _ _ => yAssign rfl) ?_
                          refine X.nil ?_
                          refine At.then ?_
                          refine C.ret ?_
                          obtain rfl := sm H
                          refine At.retn (rs := [.tmp 0]) [.bool false] rfl ?_ ?_
                          exact ⟨Rv.tmp rfl, trivial⟩
                          exact ⟨s4017.stp, rfl⟩
                      · have H := ifF g4100 H
                        refine X.pas rfl rfl rfl (fun _ _ => yBF g4100 (yEql rfl rfl)) ?_
                        refine X.pas rfl rfl rfl (fun _ _ => yPickT rfl rfl) ?_
                        refine X.pas rfl rfl rfl (fun _ _ => yMove rfl) ?_
                        refine X.pasSkip rfl rfl rfl ?_
                        refine X.pasSkip rfl rfl rfl ?_
                        refine X.pas rfl rfl rfl (fun _ _ => yPickF rfl rfl) ?_
                        refine X.pas rfl rfl rfl (fun _ _ => yMove rfl) ?_
                        refine X.pasSkip rfl rfl rfl ?_
                        refine X.pasSkip rfl rfl rfl ?_
                        refine X.pasSkip rfl rfl rfl ?_
                        refine X.pasSkip rfl rfl rfl ?_
                        refine X.skip rfl rfl rfl q4050 ?_
                        refine X.pas rfl rfl rfl (fun _ _ => yPickF rfl rfl) ?_
                        refine X.pas rfl rfl rfl (fun _ _ => yMove rfl) ?_
                        refine X.pasSkip rfl rfl rfl ?_
                        refine X.skip rfl rfl rfl q4050 ?_
                        refine X.pasSkip rfl rfl rfl ?_
                        refine X.pas rfl rfl rfl (fun _ _ => yPickF rfl rfl) ?_
                        refine X.pas rfl rfl rfl (fun _ _ => yAssign rfl) ?_
                        refine X.nil ?_
                        refine At.then ?_
                        refine C.ret ?_
                        obtain rfl := sm H
                        refine At.retn (rs := [.tmp 0]) [.bool false] rfl ?_ ?_
                        exact ⟨Rv.tmp rfl, trivial⟩
                        exact ⟨s4017.stp, rfl⟩
                    · have H := ifF g4099 H
                      refine X.pas rfl rfl rfl (fun _ _ => yBF g4099 (yEql rfl rfl)) ?_
                      refine X.pas rfl rfl rfl (fun _ _ => yPickT rfl rfl) ?_
                      refine X.pas rfl rfl rfl (fun _ _ => yMove rfl) ?_
                      refine X.pasSkip rfl rfl rfl ?_
                      refine X.pasSkip rfl rfl rfl ?_
                      refine X.pas rfl rfl rfl (fun _ _ => yPickF rfl rfl) ?_
                      refine X.pas rfl rfl rfl (fun _ _ => yMove rfl) ?_
                      refine X.pasSkip rfl rfl rfl ?_
                      refine X.pasSkip rfl rfl rfl ?_
                      refine X.pas rfl rfl rfl (fun _ _ => yPickF rfl rfl) ?_
                      refine X.pas rfl rfl rfl (fun _ _ => yMove rfl) ?_
                      refine X.pasSkip rfl rfl rfl ?_
                      refine X.pasSkip rfl rfl rfl ?_
                      refine X.pasSkip rfl rfl rfl ?_
                      refine X.pasSkip rfl rfl rfl ?_
                      refine X.skip rfl rfl rfl q4050 ?_
                      refine X.pas rfl rfl rfl (fun _ _ => yPickF rfl rfl) ?_
                      refine X.pas rfl rfl rfl (fun _ _ => yMove rfl) ?_
                      refine X.pasSkip rfl rfl rfl ?_
                      refine X.skip rfl rfl rfl q4050 ?_
                      refine X.pasSkip rfl rfl rfl ?_
                      refine X.pas rfl rfl rfl (fun _ _ => yPickF rfl rfl) ?_
                      refine X.pas rfl rfl rfl (fun _ _ => yAssign rfl) ?_
                      refine X.nil ?_
                      refine At.then ?_
                      refine C.ret ?_
                      obtain rfl := sm H
                      refine At.retn (rs := [.tmp 0]) [.bool false] rfl ?_ ?_
                      exact ⟨Rv.tmp rfl, trivial⟩
                      exact ⟨s4017.stp, rfl⟩
                  · have H := ifF g4073 H
                    refine X.pas rfl rfl rfl (fun _ _ => yBF g4073 (yEql rfl rfl)) ?_
                    refine X.pas rfl rfl rfl (fun _ _ => yPickT rfl rfl) ?_
                    refine X.pas rfl rfl rfl (fun _ _ => yMove rfl) ?_
                    refine X.pasSkip rfl rfl rfl ?_
                    refine X.pasSkip rfl rfl rfl ?_
                    refine X.pasSkip rfl rfl rfl ?_
                    refine X.pasSkip rfl rfl rfl ?_
                    refine X.pasSkip rfl rfl rfl ?_
                    refine X.pasSkip rfl rfl rfl ?_
                    refine X.pasSkip rfl rfl rfl ?_
                    refine X.pas rfl rfl rfl (fun _ _ => yPickF rfl rfl) ?_
                    refine X.pas rfl rfl rfl (fun _ _ => yMove rfl) ?_
                    refine X.pasSkip rfl rfl rfl ?_
                    refine X.pasSkip rfl rfl rfl ?_
                    refine X.pas rfl rfl rfl (fun _ _ => yPickF rfl rfl) ?_
                    refine X.pas rfl rfl rfl (fun _ _ => yMove rfl) ?_
                    refine X.pasSkip rfl rfl rfl ?_
                    refine X.pasSkip rfl rfl rfl ?_
                    refine X.pas rfl rfl rfl (fun _ _ => yPickF rfl rfl) ?_
                    refine X.pas rfl rfl rfl (fun _ _ => yMove rfl) ?_
                    refine X.pasSkip rfl rfl rfl ?_
                    refine X.pasSkip rfl rfl rfl ?_
                    refine X.pasSkip rfl rfl rfl ?_
                    refine X.pasSkip rfl rfl rfl ?_
                    refine X.skip rfl rfl rfl q4050 ?_
                    refine X.pas rfl rfl rfl (fun _ _ => yPickF rfl rfl) ?_
                    refine X.pas rfl rfl rfl (fun _ _ => yMove rfl) ?_
                    refine X.pasSkip rfl rfl rfl ?_
                    refine X.skip rfl rfl rfl q4050 ?_
                    refine X.pasSkip rfl rfl rfl ?_
                    refine X.pas rfl rfl rfl (fun _ _ => yPickF rfl rfl) ?_
                    refine X.pas rfl rfl rfl (fun _ _ => yAssign rfl) ?_
                    refine X.nil ?_
                    refine At.then ?_
                    refine C.ret ?_
                    obtain rfl := sm H
                    refine At.retn (rs := [.tmp 0]) [.bool false] rfl ?_ ?_
                    exact ⟨Rv.tmp rfl, trivial⟩
                    exact ⟨s4017.stp, rfl⟩
                · have H := ifF g4056 H
                  refine X.pas rfl rfl rfl (fun _ _ => yBF g4056 (yEql rfl rfl)) ?_
                  refine X.pas rfl rfl rfl (fun _ _ => yPickT rfl rfl) ?_
                  refine X.pas rfl rfl rfl (fun _ _ => yMove rfl) ?_
                  refine X.pasSkip rfl rfl rfl ?_
                  refine X.pasSkip rfl rfl rfl ?_
                  refine X.pasSkip rfl rfl rfl ?_
                  refine X.pasSkip rfl rfl rfl ?_
                  refine X.pasSkip rfl rfl rfl ?_
                  refine X.pas rfl rfl rfl (fun _ _ => yPickF rfl rfl) ?_
                  refine X.pas rfl rfl rfl (fun _ _ => yMove rfl) ?_
                  refine X.pasSkip rfl rfl rfl ?_
                  refine X.pasSkip rfl rfl rfl ?_
                  refine X.pasSkip rfl rfl rfl ?_
                  refine X.pasSkip rfl rfl rfl ?_
                  refine X.pasSkip rfl rfl rfl ?_
                  refine X.pasSkip rfl rfl rfl ?_
                  refine X.pasSkip rfl rfl rfl ?_
                  refine X.pas rfl rfl rfl (fun _ _ => yPickF rfl rfl) ?_
                  refine X.pas rfl rfl rfl (fun _ _ => yMove rfl) ?_
                  refine X.pasSkip rfl rfl rfl ?_
                  refine X.pasSkip rfl rfl rfl ?_
                  refine X.pas rfl rfl rfl (fun _ _ => yPickF rfl rfl) ?_
                  refine X.pas rfl rfl rfl (fun _ _ => yMove rfl) ?_
                  refine X.pasSkip rfl rfl rfl ?_
                  refine X.pasSkip rfl rfl rfl ?_
                  refine X.pas rfl rfl rfl (fun _ _ => yPickF rfl rfl) ?_
                  refine X.pas rfl rfl rfl (fun _ _ => yMove rfl) ?_
                  refine X.pasSkip rfl rfl rfl ?_
                  refine X.pasSkip rfl rfl rfl ?_
                  refine X.pasSkip rfl rfl rfl ?_
                  refine X.pasSkip rfl rfl rfl ?_
                  refine X.skip rfl rfl rfl q4050 ?_
                  refine X.pas rfl rfl rfl (fun _ _ => yPickF rfl rfl) ?_
                  refine X.pas rfl rfl rfl (fun _ _ => yMove rfl) ?_
                  refine X.pasSkip rfl rfl rfl ?_
                  refine X.skip rfl rfl rfl q4050 ?_
                  refine X.pasSkip rfl rfl rfl ?_
                  refine X.pas rfl rfl rfl (fun _ _ => yPickF rfl rfl) ?_
                  refine X.pas rfl rfl rfl (fun _ _ => yAssign rfl) ?_
                  refine X.nil ?_
                  refine At.then ?_
                  refine C.ret ?_
                  obtain rfl := sm H
                  refine At.retn (rs := [.tmp 0]) [.bool false] rfl ?_ ?_
                  exact ⟨Rv.tmp rfl, trivial⟩
                  exact ⟨s4017.stp, rfl⟩
              · have H := ifF g4054 H
                refine X.pas rfl rfl rfl (fun _ _ => yBF g4054 (yEql rfl rfl)) ?_
                refine X.pas rfl rfl rfl (fun _ _ => yPickT rfl rfl) ?_
                refine X.pas rfl rfl rfl (fun _ _ => yMove rfl) ?_
                refine X.pasSkip rfl rfl rfl ?_
                refine X.pasSkip rfl rfl rfl ?_
                refine X.pasSkip rfl rfl rfl ?_
                refine X.pas rfl rfl rfl (fun _ _ => yPickF rfl rfl) ?_
                refine X.pas rfl rfl rfl (fun _ _ => yMove rfl) ?_
                refine X.pasSkip rfl rfl rfl ?_
                refine X.pasSkip rfl rfl rfl ?_
                refine X.pasSkip rfl rfl rfl ?_
                refine X.pasSkip rfl rfl rfl ?_
                refine X.pasSkip rfl rfl rfl ?_
                refine X.pas rfl rfl rfl (fun _ _ => yPickF rfl rfl) ?_
                refine X.pas rfl rfl rfl (fun _ _ => yMove rfl) ?_
                refine X.pasSkip rfl rfl rfl ?_
                refine X.pasSkip rfl rfl rfl ?_
                refine X.pasSkip rfl rfl rfl ?_
                refine X.pasSkip rfl rfl rfl ?_
                refine X.pasSkip rfl rfl rfl ?_
                refine X.pasSkip rfl rfl rfl ?_
                refine X.pasSkip rfl rfl rfl ?_
                refine X.pas rfl rfl rfl (fun _ _ => yPickF rfl rfl) ?_
                refine X.pas rfl rfl rfl (fun _ _ => yMove rfl) ?_
                refine X.pasSkip rfl rfl rfl ?_
                refine X.pasSkip rfl rfl rfl ?_
                refine X.pas rfl rfl rfl (fun _ _ => yPickF rfl rfl) ?_
                refine X.pas rfl rfl rfl (fun _ _ => yMove rfl) ?_
                refine X.pasSkip rfl rfl rfl ?_
                refine X.pasSkip rfl rfl rfl ?_
                refine X.pas rfl rfl rfl (fun _ _ => yPickF rfl rfl) ?_
                refine X.pas rfl rfl rfl (fun _ _ => yMove rfl) ?_
                refine X.pasSkip rfl rfl rfl ?_
                refine X.pasSkip rfl rfl rfl ?_
                refine X.pasSkip rfl rfl rfl ?_
                refine X.pasSkip rfl rfl rfl ?_
                refine X.skip rfl rfl rfl q4050 ?_
                refine X.pas rfl rfl rfl (fun _ _ => yPickF rfl rfl) ?_
                refine X.pas rfl rfl rfl (fun _ _ => yMove rfl) ?_
                refine X.pasSkip rfl rfl rfl ?_
                refine X.skip rfl rfl rfl q4050 ?_
                refine X.pasSkip rfl rfl rfl ?_
                refine X.pas rfl rfl rfl (fun _ _ => yPickF rfl rfl) ?_
                refine X.pas rfl rfl rfl (fun _ _ => yAssign rfl) ?_
                refine X.nil ?_
                refine At.then ?_
                refine C.ret ?_
                obtain rfl := sm H
                refine At.retn (rs := [.tmp 0]) [.bool false] rfl ?_ ?_
                exact ⟨Rv.tmp rfl, trivial⟩
                exact ⟨s4017.stp, rfl⟩
            · have H := ifF g4053 H
              refine X.pas rfl rfl rfl (fun _ _ => yBF g4053 (yEql rfl rfl)) ?_
              refine X.pas rfl rfl rfl (fun _ _ => yPickT rfl rfl) ?_
              refine X.pas rfl rfl rfl (fun _ _ => yMove rfl) ?_
              refine X.pasSkip rfl rfl rfl ?_
              refine X.pasSkip rfl rfl rfl ?_
              refine X.pas rfl rfl rfl (fun _ _ => yPickF rfl rfl) ?_
              refine X.pas rfl rfl rfl (fun _ _ => yMove rfl) ?_
              refine X.pasSkip rfl rfl rfl ?_
              refine X.pasSkip rfl rfl rfl ?_
              refine X.pasSkip rfl rfl rfl ?_
              refine X.pas rfl rfl rfl (fun _ _ => yPickF rfl rfl) ?_
              refine X.pas rfl rfl rfl (fun _ _ => yMove rfl) ?_
              refine X.pasSkip rfl rfl rfl ?_
              refine X.pasSkip rfl rfl rfl ?_
              refine X.pasSkip rfl rfl rfl ?_
              refine X.pasSkip rfl rfl rfl ?_
              refine X.pasSkip rfl rfl rfl ?_
              refine X.pas rfl rfl rfl (fun _ _ => yPickF rfl rfl) ?_
              refine X.pas rfl rfl rfl (fun _ _ => yMove rfl) ?_
              refine X.pasSkip rfl rfl rfl ?_
              refine X.pasSkip rfl rfl rfl ?_
              refine X.pasSkip rfl rfl rfl ?_
              refine X.pasSkip rfl rfl rfl ?_
              refine X.pasSkip rfl rfl rfl ?_
              refine X.pasSkip rfl rfl rfl ?_
              refine X.pasSkip rfl rfl rfl ?_
              refine X.pas rfl rfl rfl (fun _ _ => yPickF rfl rfl) ?_
              refine X.pas rfl rfl rfl (fun _ _ => yMove rfl) ?_
              refine X.pasSkip rfl rfl rfl ?_
              refine X.pasSkip rfl rfl rfl ?_
              refine X.pas rfl rfl rfl (fun _ _ => yPickF rfl rfl) ?_
              refine X.pas rfl rfl rfl (fun _ _ => yMove rfl) ?_
              refine X.pasSkip rfl rfl rfl ?_
              refine X.pasSkip rfl rfl rfl ?_
              refine X.pas rfl rfl rfl (fun _ _ => yPickF rfl rfl) ?_
              refine X.pas rfl rfl rfl (fun _ _ => yMove rfl) ?_
              refine X.pasSkip rfl rfl rfl ?_
              refine X.pasSkip rfl rfl rfl ?_
              refine X.pasSkip rfl rfl rfl ?_
              refine X.pasSkip rfl rfl rfl ?_
              refine X.skip rfl rfl rfl q4050 ?_
              refine X.pas rfl rfl rfl (fun _ _ => yPickF rfl rfl) ?_
              refine X.pas rfl rfl rfl (fun _ _ => yMove rfl) ?_
              refine X.pasSkip rfl rfl rfl ?_
              refine X.skip rfl rfl rfl q4050 ?_
              refine X.pasSkip rfl rfl rfl ?_
              refine X.pas rfl rfl rfl (fun _ _ => yPickF rfl rfl) ?_
              refine X.pas rfl rfl rfl (fun _ _ => yAssign rfl) ?_
              refine X.nil ?_
              refine At.then ?_
              refine C.ret ?_
              obtain rfl := sm H
              refine At.retn (rs := [.tmp 0]) [.bool false] rfl ?_ ?_
              exact ⟨Rv.tmp rfl, trivial⟩
              exact ⟨s4017.stp, rfl⟩
          · have H := ifF g4052 H
            refine X.pas rfl rfl rfl (fun _ _ => yBF g4052 (yEql rfl rfl)) ?_
            refine X.pas rfl rfl rfl (fun _ _ => yPickT rfl rfl) ?_
            refine X.pas rfl rfl rfl (fun _ _ => yMove rfl) ?_
            refine X.pasSkip rfl rfl rfl ?_
            refine X.pasSkip rfl rfl rfl ?_
            refine X.pas rfl rfl rfl (fun _ _ => yPickF rfl rfl) ?_
            refine X.pas rfl rfl rfl (fun _ _ => yMove rfl) ?_
            refine X.pasSkip rfl rfl rfl ?_
            refine X.pasSkip rfl rfl rfl ?_
            refine X.pas rfl rfl rfl (fun _ _ => yPickF rfl rfl) ?_
            refine X.pas rfl rfl rfl (fun _ _ => yMove rfl) ?_
            refine X.pasSkip rfl rfl rfl ?_
            refine X.pasSkip rfl rfl rfl ?_
            refine X.pasSkip rfl rfl rfl ?_
            refine X.pas rfl rfl rfl (fun _ _ => yPickF rfl rfl) ?_
            refine X.pas rfl rfl rfl (fun _ _ => yMove rfl) ?_
            refine X.pasSkip rfl rfl rfl ?_
            refine X.pasSkip rfl rfl rfl ?_
            refine X.pasSkip rfl rfl rfl ?_
            refine X.pasSkip rfl rfl rfl ?_
            refine X.pasSkip rfl rfl rfl ?_
            refine X.pas rfl rfl rfl (fun _ _ => yPickF rfl rfl) ?_
            refine X.pas rfl rfl rfl (fun _ _ => yMove rfl) ?_
            refine X.pasSkip rfl rfl rfl ?_
            refine X.pasSkip rfl rfl rfl ?_
            refine X.pasSkip rfl rfl rfl ?_
            refine X.pasSkip rfl rfl rfl ?_
            refine X.pasSkip rfl rfl rfl ?_
            refine X.pasSkip rfl rfl rfl ?_
            refine X.pasSkip rfl rfl rfl ?_
            refine X.pas rfl rfl rfl (fun _ _ => yPickF rfl rfl) ?_
            refine X.pas rfl rfl rfl (fun _ _ => yMove rfl) ?_
            refine X.pasSkip rfl rfl rfl ?_
            refine X.pasSkip rfl rfl rfl ?_
            refine X.pas rfl rfl rfl (fun _ _ => yPickF rfl rfl) ?_
            refine X.pas rfl rfl rfl (fun _ _ => yMove rfl) ?_
            refine X.pasSkip rfl rfl rfl ?_
            refine X.pasSkip rfl rfl rfl ?_
            refine X.pas rfl rfl rfl (fun _ _ => yPickF rfl rfl) ?_
            refine X.pas rfl rfl rfl (fun _ _ => yMove rfl) ?_
            refine X.pasSkip rfl rfl rfl ?_
            refine X.pasSkip rfl rfl rfl ?_
            refine X.pasSkip rfl rfl rfl ?_
            refine X.pasSkip rfl rfl rfl ?_
            refine X.skip rfl rfl rfl q4050 ?_
            refine X.pas rfl rfl rfl (fun _ _ => yPickF rfl rfl) ?_
            refine X.pas rfl rfl rfl (fun _ _ => yMove rfl) ?_
            refine X.pasSkip rfl rfl rfl ?_
            refine X.skip rfl rfl rfl q4050 ?_
            refine X.pasSkip rfl rfl rfl ?_
            refine X.pas rfl rfl rfl (fun _ _ => yPickF rfl rfl) ?_
            refine X.pas rfl rfl rfl (fun _ _ => yAssign rfl) ?_
            refine X.nil ?_
            refine At.then ?_
            refine C.ret ?_
            obtain rfl := sm H
            refine At.retn (rs := [.tmp 0]) [.bool false] rfl ?_ ?_
            exact ⟨Rv.tmp rfl, trivial⟩
            exact ⟨s4017.stp, rfl⟩
        · have H := ifF g4051 H
          refine X.pas rfl rfl rfl (fun _ _ => yBF g4051 (yEql rfl rfl)) ?_
          refine X.pas rfl rfl rfl (fun _ _ => yMove rfl) ?_
          refine X.pasSkip rfl rfl rfl ?_
          refine X.pasSkip rfl rfl rfl ?_
          refine X.pas rfl rfl rfl (fun _ _ => yPickF rfl rfl) ?_
          refine X.pas rfl rfl rfl (fun _ _ => yMove rfl) ?_
          refine X.pasSkip rfl rfl rfl ?_
          refine X.pasSkip rfl rfl rfl ?_
          refine X.pas rfl rfl rfl (fun _ _ => yPickF rfl rfl) ?_
          refine X.pas rfl rfl rfl (fun _ _ => yMove rfl) ?_
          refine X.pasSkip rfl rfl rfl ?_
          refine X.pasSkip rfl rfl rfl ?_
          refine X.pas rfl rfl rfl (fun _ _ => yPickF rfl rfl) ?_
          refine X.pas rfl rfl rfl (fun _ _ => yMove rfl) ?_
          refine X.pasSkip rfl rfl rfl ?_
          refine X.pasSkip rfl rfl rfl ?_
          refine X.pasSkip rfl rfl rfl ?_
          refine X.pas rfl rfl rfl (fun _ _ => yPickF rfl rfl) ?_
          refine X.pas rfl rfl rfl (fun _ _ => yMove rfl) ?_
          refine X.pasSkip rfl rfl rfl ?_
          refine X.pasSkip rfl rfl rfl ?_
          refine X.pasSkip rfl rfl rfl ?_
          refine X.pasSkip rfl rfl rfl ?_
          refine X.pasSkip rfl rfl rfl ?_
          refine X.pas rfl rfl rfl (fun _ _ => yPickF rfl rfl) ?_
          refine X.pas rfl rfl rfl (fun _ _ => yMove rfl) ?_
          refine X.pasSkip rfl rfl rfl ?_
          refine X.pasSkip rfl rfl rfl ?_
          refine X.pasSkip rfl rfl rfl ?_
          refine X.pasSkip rfl rfl rfl ?_
          refine X.pasSkip rfl rfl rfl ?_
          refine X.pasSkip rfl rfl rfl ?_
          refine X.pasSkip rfl rfl rfl ?_
          refine X.pas rfl rfl rfl (fun _ _ => yPickF rfl rfl) ?_
          refine X.pas rfl rfl rfl (fun _ _ => yMove rfl) ?_
          refine X.pasSkip rfl rfl rfl ?_
          refine X.pasSkip rfl rfl rfl ?_
          refine X.pas rfl rfl rfl (fun _ _ => yPickF rfl rfl) ?_
          refine X.pas rfl rfl rfl (fun _ _ => yMove rfl) ?_
          refine X.pasSkip rfl rfl rfl ?_
          refine X.pasSkip rfl rfl rfl ?_
          refine X.pas rfl rfl rfl (fun _ _ => yPickF rfl rfl) ?_
          refine X.pas rfl rfl rfl (fun _ _ => yMove rfl) ?_
          refine X.pasSkip rfl rfl rfl ?_
          refine X.pasSkip rfl rfl rfl ?_
          refine X.pasSkip rfl rfl rfl ?_
          refine X.pasSkip rfl rfl rfl ?_
          refine X.skip rfl rfl rfl q4050 ?_
          refine X.pas rfl rfl rfl (fun _ _ => yPickF rfl rfl) ?_
          refine X.pas rfl rfl rfl (fun _ _ => yMove rfl) ?_
          refine X.pasSkip rfl rfl rfl ?_
          refine X.skip rfl rfl rfl q4050 ?_
          refine X.pasSkip rfl rfl rfl ?_
          refine X.pas rfl rfl rfl (fun _ _ => yPickF rfl rfl) ?_
          refine X.pas rfl rfl rfl (fun _ _ => yAssign rfl) ?_
          refine X.nil ?_
          refine At.then ?_
          refine C.ret ?_
          obtain rfl := sm H
          refine At.retn (rs := [.tmp 0]) [.bool false] rfl ?_ ?_
          exact ⟨Rv.tmp rfl, trivial⟩
          exact ⟨s4017.stp, rfl⟩

def p_maundlaw29_OutboxMarks_l1 (K : Nat) (a0 : (List maundlaw29_Op)) (y4187 : Int) (x4376_0 : ((List proto_Msg))) : Nat → (List Int) → Int → Option (Sum (Bool) ((List Int) × Int))
  | 0, _, _ => none
  | k4410 + 1, y4394, y4399 => (if y4399 < (x4376_0.length : Int) then (if 0 ≤ y4399 ∧ y4399 < (x4376_0.length : Int) then (if (IntKind.i64.wrap ((rd x4376_0 y4399).Session - 1)) < 0 then some (Sum.inl false) else (if (IntKind.i64.wrap ((rd x4376_0 y4399).Session - 1)) ≥ (y4394.length : Int) then some (Sum.inl false) else (if 0 ≤ (IntKind.i64.wrap ((rd x4376_0 y4399).Session - 1)) ∧ (IntKind.i64.wrap ((rd x4376_0 y4399).Session - 1)) < (y4394.length : Int) then (if (rd y4394 (IntKind.i64.wrap ((rd x4376_0 y4399).Session - 1))) > ((rd a0 y4187).Mark) then some (Sum.inl false) else (if y4399 > 0 then (if 0 ≤ (IntKind.i64.wrap (y4399 - 1)) ∧ (IntKind.i64.wrap (y4399 - 1)) < (x4376_0.length : Int) then (if 0 ≤ y4399 ∧ y4399 < (x4376_0.length : Int) then (if ((rd x4376_0 (IntKind.i64.wrap (y4399 - 1))).Session) ≥ ((rd x4376_0 y4399).Session) then some (Sum.inl false) else (if 0 ≤ (IntKind.i64.wrap ((rd x4376_0 y4399).Session - 1)) ∧ (IntKind.i64.wrap ((rd x4376_0 y4399).Session - 1)) < (y4394.length : Int) then (p_maundlaw29_OutboxMarks_l1 K a0 y4187 x4376_0 k4410 (wr y4394 (IntKind.i64.wrap ((rd x4376_0 y4399).Session - 1)) 1152921504606846976) (IntKind.i64.wrap (y4399 + 1))) else none)) else none) else none) else (if 0 ≤ (IntKind.i64.wrap ((rd x4376_0 y4399).Session - 1)) ∧ (IntKind.i64.wrap ((rd x4376_0 y4399).Session - 1)) < (y4394.length : Int) then (p_maundlaw29_OutboxMarks_l1 K a0 y4187 x4376_0 k4410 (wr y4394 (IntKind.i64.wrap ((rd x4376_0 y4399).Session - 1)) 1152921504606846976) (IntKind.i64.wrap (y4399 + 1))) else none))) else none))) else none) else some (Sum.inr (y4394, y4399)))
def p_maundlaw29_OutboxMarks_l0 (K : Nat) (a0 : (List maundlaw29_Op)) : Nat → Int → Int → (List Int) → Int → outbox_Box → Option (Sum (Bool) (Int × Int × (List Int) × Int × outbox_Box))
  | 0, _, _, _, _, _ => none
  | k4201 + 1, y4182, y4183, y4184, y4187, y4189 => (if y4187 < (a0.length : Int) then (if 0 ≤ y4187 ∧ y4187 < (a0.length : Int) then (if ((rd a0 y4187).Kind) = 0 then (p_outbox_Box_Send K y4189 (⟨4, 1, 2, (IntKind.i64.wrap (1 + y4182)), 0, (List.replicate 32 (0 : Int)), ([] : (List Int)), ([] : (List (List Int))), ([] : (List pack_Keyed))⟩ : proto_Msg) ((rd a0 y4187).Mark)).bind fun (x4271_0, x4271_1) => (if x4271_0 = 0 then (if y4184.length + [(rd a0 y4187).Mark].length ≤ 17592186044416 then (p_outbox_Box_Waits x4271_1).bind fun (x4309_0, x4309_1, x4309_2) => (p_outbox_Box_Lost x4309_2).bind fun (x4323_0, x4323_1) => (if (IntKind.i64.wrap ((IntKind.i64.wrap (x4309_0 + y4183)) + x4323_0)) ≠ (IntKind.i64.wrap (y4182 + 1)) then some (Sum.inl false) else (p_maundlaw29_OutboxMarks_l0 K a0 k4201 (IntKind.i64.wrap (y4182 + 1)) y4183 (y4184 ++ [(rd a0 y4187).Mark]) (IntKind.i64.wrap (y4187 + 1)) x4323_1)) else none) else (p_outbox_Box_Waits x4271_1).bind fun (x4340_0, x4340_1, x4340_2) => (p_outbox_Box_Lost x4340_2).bind fun (x4354_0, x4354_1) => (if (IntKind.i64.wrap ((IntKind.i64.wrap (x4340_0 + y4183)) + x4354_0)) ≠ y4182 then some (Sum.inl false) else (p_maundlaw29_OutboxMarks_l0 K a0 k4201 y4182 y4183 y4184 (IntKind.i64.wrap (y4187 + 1)) x4354_1))) else (if ((rd a0 y4187).Kind) = 2 then (p_outbox_Box_Out K y4189 ((rd a0 y4187).Mark)).bind fun (x4376_0, x4376_1) => (p_maundlaw29_OutboxMarks_l1 K a0 y4187 x4376_0 K y4184 0).bind fun z4407 => match z4407 with | .inl r => some (Sum.inl r) | .inr (w4581, w4582) => (p_outbox_Box_Waits x4376_1).bind fun (x4583_0, x4583_1, x4583_2) => (p_outbox_Box_Lost x4583_2).bind fun (x4597_0, x4597_1) => (if (IntKind.i64.wrap ((IntKind.i64.wrap (x4583_0 + (IntKind.i64.wrap (y4183 + (x4376_0.length : Int))))) + x4597_0)) ≠ y4182 then some (Sum.inl false) else (p_maundlaw29_OutboxMarks_l0 K a0 k4201 y4182 (IntKind.i64.wrap (y4183 + (x4376_0.length : Int))) w4581 (IntKind.i64.wrap (y4187 + 1)) x4597_1)) else (p_outbox_Box_Waits y4189).bind fun (x4617_0, x4617_1, x4617_2) => (p_outbox_Box_Lost x4617_2).bind fun (x4631_0, x4631_1) => (if (IntKind.i64.wrap ((IntKind.i64.wrap (x4617_0 + y4183)) + x4631_0)) ≠ y4182 then some (Sum.inl false) else (p_maundlaw29_OutboxMarks_l0 K a0 k4201 y4182 y4183 y4184 (IntKind.i64.wrap (y4187 + 1)) x4631_1)))) else none) else some (Sum.inr (y4182, y4183, y4184, y4187, y4189)))
def p_maundlaw29_OutboxMarks (K : Nat) (a0 : (List maundlaw29_Op)) : Option (Bool) :=
  (p_maundlaw29_Great K a0).bind fun x4150 => (bif x4150 then (p_maundlaw29_alive K ).bind fun x4156 => some x4156 else (p_outbox_New ).bind fun x4162 => (p_maundlaw29_OutboxMarks_l0 K a0 K 0 0 ([] : (List Int)) 0 x4162).bind fun z4198 => match z4198 with | .inl r => some r | .inr (w4654, w4655, w4656, w4657, w4658) => (p_maundlaw29_alive K ).bind fun x4659 => some x4659)
theorem c_maundlaw29_OutboxMarks {K : Nat} {h : Heap} {I : Nat → Prop} (hI : ∀ b, I b → b < h.size) {v_a0 : Value} {a0 : (List maundlaw29_Op)} (r_a0 : SlR k_maundlaw29_Op I h v_a0 a0) {r : (Bool)} (H : p_maundlaw29_OutboxMarks K a0 = some r) :
    Fn Tryz.prog 8 [v_a0] h (fun v h' => Stp [] h h' ∧ v = (.bool r : Value)) := by
  unfold p_maundlaw29_OutboxMarks at H
  refine Fn.of 123 Tryz.func8 rfl rfl ?_
  have s0 := St.start hI
  refine C.seq ?_
  refine C.region 1 rfl ?_
  refine X.val rfl rfl rfl (yAssign rfl) trivial ?_
  refine X.nil ?_
  refine At.then ?_
  refine C.seq ?_
  refine C.seq ?_
  refine C.region 2 rfl ?_
  refine X.val rfl rfl rfl (yMove rfl) trivial ?_
  obtain ⟨x4150, e4151, H⟩ := bnd H
  refine X.call (all := [v_a0]) Tryz.call48 rfl rfl rfl rfl rfl rfl (c_maundlaw29_Great s0.ib r_a0 e4151) ?_
  rintro _ h4152 ⟨p4153, rfl⟩
  have s4154 := s0.call p4153
  have t4155 := s0.callTr p4153
  refine ⟨trivial, ?_⟩
  refine X.nil ?_
  refine At.then ?_
  cases x4150
  · have H := biF H
    refine C.condF rfl ?_
    refine C.skip ?_
    refine At.then ?_
    refine C.seq ?_
    refine C.region 2 rfl ?_
    obtain ⟨x4162, e4163, H⟩ := bnd H
    have s4168 : St [] h I h4152 (Ex I h h4152) ([] ++ []) := s4154.pick [] rfl (by decide) (by intro i m h; simp at h)
    refine X.call (all := []) Tryz.call50 rfl rfl rfl rfl rfl rfl (c_outbox_New s4168.left.lend  e4163) ?_
    rintro _ h4164 ⟨I4169, b4170, v4172, v4174, k4176, rfl, f4171, o4173, o4175⟩
    have s4166 : St [] h I h4164 I4169 [some b4170, v4172.ownBlock, v4174.ownBlock] := St.callS (L := []) (R := []) (L' := [some b4170, v4172.ownBlock, v4174.ownBlock]) s4168 k4176
    have t4167 : Tr (Ex I h h4152) h4152 I4169 h4164 := St.callSTr (L := []) (R := []) (L' := [some b4170, v4172.ownBlock, v4174.ownBlock]) s4168 k4176
    have p4165 := k4176.stp
    refine ⟨trivial, ?_⟩
    refine X.val rfl rfl rfl (yAssign rfl) trivial ?_
    refine X.nil ?_
    refine At.then ?_
    refine C.seq ?_
    refine C.region 2 rfl ?_
    refine X.val rfl rfl rfl (yAssign rfl) trivial ?_
    refine X.val rfl rfl rfl (yAssign rfl) trivial ?_
    refine X.nil ?_
    refine At.then ?_
    refine C.seq ?_
    refine C.region 1 rfl ?_
    refine X.val rfl rfl rfl (yAssign rfl) trivial ?_
    refine X.nil ?_
    refine At.then ?_
    refine C.seq ?_
    refine C.seq ?_
    refine C.region 1 rfl ?_
    refine X.val rfl rfl rfl (yAssign rfl) trivial ?_
    refine X.nil ?_
    refine At.then ?_
    refine C.block ?_
    have s4177 := s4166.addNone
    have o4179 : Own (kI .i64) 3 h4164 I4169 (.slice none 0 0) ([] : (List Int)) := Own.nil
    have o4192 := (o4173.mono (Tr.refl I4169 h4164) (fun _ _ => rfl))
    have o4195 := (o4175.mono (Tr.refl I4169 h4164) (fun _ _ => rfl))
    obtain ⟨z4198, e4200, G4199⟩ := bnd H
    refine C.prune [(0, v_a0), (3, .pointer (some ⟨b4170, 0, none⟩)), (4, .int .i64 0), (5, .int .i64 0), (6, .slice none 0 0), (7, .int .i64 0)] (fun a ha => (.cons ha rfl (.cons ha rfl (.cons ha rfl (.cons ha rfl (.cons ha rfl (.cons ha rfl ha.nil))))))) ?_
    refine C.loop (fun k4201 e h4180 => ∃ (y4182 : Int) (y4183 : Int) (y4184 : (List Int)) (y4187 : Int) (y4189 : outbox_Box) (v4185 : Value) (v4190 : Value) (v4193 : Value) (I4181 : Nat → Prop), e = [(0, v_a0), (3, .pointer (some ⟨b4170, 0, none⟩)), (4, .int .i64 y4182), (5, .int .i64 y4183), (6, v4185), (7, .int .i64 y4187)] ∧ St [] h I h4180 I4181 [v4185.ownBlock, some b4170, v4190.ownBlock, v4193.ownBlock] ∧ Tr I4169 h4164 I4181 h4180 ∧ Own (kI .i64) 3 h4180 I4181 v4185 y4184 ∧ Own k_outbox_held_proto_Msg_ 280 h4180 I4181 v4190 y4189.out ∧ Own k_outbox_held_outbox_Answer_ 282 h4180 I4181 v4193 y4189.answers ∧ Box h4180 b4170 118 ((.bool y4189.made : Value) :: v4190 :: v4193 :: (.int .i64 y4189.lost : Value) :: [] : List Value) ∧ p_maundlaw29_OutboxMarks_l0 K a0 k4201 y4182 y4183 y4184 y4187 y4189 = some z4198) K ⟨0, 0, ([] : (List Int)), 0, x4162, .slice none 0 0, v4172, v4174, I4169, rfl, s4177, Tr.refl _ _, o4179, o4192, o4195, f4171, e4200⟩ ?_ ?_
    · rintro e h' ⟨_, _, _, _, _, _, _, _, _, _, _, _, _, _, _, _, H⟩; cases (show none = some _ from H)
    · rintro k4201 e h4180 ⟨y4182, y4183, y4184, y4187, y4189, v4185, v4190, v4193, I4181, rfl, s4196, t4197, o4186, o4191, o4194, f4188, H⟩
      rw [p_maundlaw29_OutboxMarks_l0] at H
      refine C.seq ?_
      refine C.seq ?_
      refine C.region 4 rfl ?_
      refine X.val rfl rfl rfl (yMove rfl) trivial ?_
      refine X.val rfl rfl rfl (yMove rfl) trivial ?_
      refine X.val rfl rfl rfl (yLenR Tryz.underlying94 rfl (r_a0.mono (t4155.trans (t4167.trans ((Tr.refl I4169 h4164).trans t4197))))) trivial ?_
      by_cases g4202 : y4187 < (a0.length : Int)
      · have H := ifT g4202 H
        refine X.val rfl rfl rfl (yBT g4202 (yLss rfl rfl)) trivial ?_
        refine X.nil ?_
        refine At.then ?_
        refine C.condT rfl ?_
        refine C.skip ?_
        refine At.then ?_
        refine C.seq ?_
        refine C.block ?_
        refine C.seq ?_
        refine C.region 6 rfl ?_
        refine X.val rfl rfl rfl (yMove rfl) trivial ?_
        refine X.val rfl rfl rfl (yMove rfl) trivial ?_
        obtain ⟨⟨g4211, g4203⟩, H⟩ := ifS H
        obtain ⟨b4204, w4205, k4206, c4207, e4208, r4209, m4210⟩ := SlR.get (r_a0.mono (t4155.trans (t4167.trans ((Tr.refl I4169 h4164).trans t4197)))) g4211 g4203
        obtain ⟨c4212, v4214, v4216, v4218, v4220, rfl, r4213, r4215, r4217, r4219, r4221⟩ := o_maundlaw29_Op r4209
        refine X.val (v := .pointer (some ⟨b4204, w4205 + (y4187).toNat * 45, none⟩)) rfl rfl rfl (yIdxS Tryz.underlying94 Tryz.sizeOf106 (by rw [← e4208]; rfl) rfl g4211 g4203) trivial ?_
        have l4222 : c4212.length = 32 := (kArr 32 (kI .u8)).len r4213
        refine X.val (v := .agg (((.int .i64 ((rd a0 y4187).Kind) : Value) :: (.int .i64 ((rd a0 y4187).Mark) : Value) :: (.int .i64 ((rd a0 y4187).M.Kind) : Value) :: (.int .i64 ((rd a0 y4187).M.From) : Value) :: (.int .i64 ((rd a0 y4187).M.To) : Value) :: (.int .i64 ((rd a0 y4187).M.Session) : Value) :: (.int .i64 ((rd a0 y4187).M.Part) : Value) :: c4212 ++ (v4214 :: v4216 :: v4218 :: (.int .i64 ((rd a0 y4187).A.ID) : Value) :: (.int .i64 ((rd a0 y4187).A.Err) : Value) :: v4220 :: []) : List Value)).toArray) rfl rfl rfl (yLoadW Tryz.isAgg106 Tryz.sizeOf106 rfl m4210.rd (by simp [l4222])) trivial ?_
        obtain ⟨c4223, e4224⟩ : ∃ c : List Value, c = (List.replicate 32 (.int .u8 0 : Value)) := ⟨_, rfl⟩
        have r4225 : (kArr 32 (kI .u8)).rp I4181 h4180 c4223 (List.replicate 32 (0 : Int)) := by rw [e4224]; exact z_T65
        refine X.ef rfl rfl rfl (eAlloc (zs := ((.int .i64 0 : Value) :: (.int .i64 0 : Value) :: (.int .i64 0 : Value) :: (.int .i64 0 : Value) :: (.int .i64 0 : Value) :: (.int .i64 0 : Value) :: (.int .i64 0 : Value) :: (List.replicate 32 (.int .u8 0 : Value)) ++ ((.slice none 0 0 : Value) :: (.slice none 0 0 : Value) :: (.slice none 0 0 : Value) :: (.int .i64 0 : Value) :: (.int .i64 0 : Value) :: (.slice none 0 0 : Value) :: []) : List Value)) Tryz.zeroValue106 rfl) ?_
        rintro _ h4227 ⟨rfl, e4232⟩
        obtain ⟨b4226, e4232b⟩ : ∃ b, b = h4180.size := ⟨_, rfl⟩
        rw [← e4232b]
        have f4231 : Box h4227 b4226 106 ((.int .i64 0 : Value) :: (.int .i64 0 : Value) :: (.int .i64 0 : Value) :: (.int .i64 0 : Value) :: (.int .i64 0 : Value) :: (.int .i64 0 : Value) :: (.int .i64 0 : Value) :: c4223 ++ ((.slice none 0 0 : Value) :: (.slice none 0 0 : Value) :: (.slice none 0 0 : Value) :: (.int .i64 0 : Value) :: (.int .i64 0 : Value) :: (.slice none 0 0 : Value) :: []) : List Value) := by subst e4232; subst e4232b; rw [e4224]; exact Box.new _ _ _
        have p4229 : Stp [] h4180 h4227 := by subst e4232; exact Stp.push _ _
        have s4230 : St [] h I h4227 I4181 (some b4226 :: [v4185.ownBlock, some b4170, v4190.ownBlock, v4193.ownBlock]) := by subst e4232; subst e4232b; exact s4196.new _
        have t4228 := s4196.tr p4229 (by simp) (fun _ hb => hb)
        clear e4232 e4232b
        refine ⟨trivial, ?_⟩
        have l4233 : c4223.length = 32 := (kArr 32 (kI .u8)).len r4225
        have l4234 : c4212.length = 32 := (kArr 32 (kI .u8)).len r4213
        refine X.ef rfl rfl rfl (eStore (vs := ((.int .i64 ((rd a0 y4187).Kind) : Value) :: (.int .i64 ((rd a0 y4187).Mark) : Value) :: (.int .i64 ((rd a0 y4187).M.Kind) : Value) :: (.int .i64 ((rd a0 y4187).M.From) : Value) :: (.int .i64 ((rd a0 y4187).M.To) : Value) :: (.int .i64 ((rd a0 y4187).M.Session) : Value) :: (.int .i64 ((rd a0 y4187).M.Part) : Value) :: c4212 ++ (v4214 :: v4216 :: v4218 :: (.int .i64 ((rd a0 y4187).A.ID) : Value) :: (.int .i64 ((rd a0 y4187).A.Err) : Value) :: v4220 :: []) : List Value)) Tryz.sizeOf106 rfl rfl rfl (by simp [l4234]) (by simp [ones, ones_append, oInt, oBool, oStr, oSl, oPtr, (kArr 32 (kI .u8)).one r4213, SlR.one (r4215.mono t4228), SlR.one (r4217.mono t4228), SlR.one (r4219.mono t4228), SlR.one (r4221.mono t4228)]) f4231 (by simp [l4233, l4234])) ?_
        rintro _ h4235 ⟨rfl, e4236⟩
        have f4240 : Box h4235 b4226 106 ((.int .i64 ((rd a0 y4187).Kind) : Value) :: (.int .i64 ((rd a0 y4187).Mark) : Value) :: (.int .i64 ((rd a0 y4187).M.Kind) : Value) :: (.int .i64 ((rd a0 y4187).M.From) : Value) :: (.int .i64 ((rd a0 y4187).M.To) : Value) :: (.int .i64 ((rd a0 y4187).M.Session) : Value) :: (.int .i64 ((rd a0 y4187).M.Part) : Value) :: c4212 ++ (v4214 :: v4216 :: v4218 :: (.int .i64 ((rd a0 y4187).A.ID) : Value) :: (.int .i64 ((rd a0 y4187).A.Err) : Value) :: v4220 :: []) : List Value) := by subst e4236; exact Box.reset f4231 (by have k := splice_mid ((.int .i64 ((rd a0 y4187).Kind) : Value) :: (.int .i64 ((rd a0 y4187).Mark) : Value) :: (.int .i64 ((rd a0 y4187).M.Kind) : Value) :: (.int .i64 ((rd a0 y4187).M.From) : Value) :: (.int .i64 ((rd a0 y4187).M.To) : Value) :: (.int .i64 ((rd a0 y4187).M.Session) : Value) :: (.int .i64 ((rd a0 y4187).M.Part) : Value) :: c4212 ++ (v4214 :: v4216 :: v4218 :: (.int .i64 ((rd a0 y4187).A.ID) : Value) :: (.int .i64 ((rd a0 y4187).A.Err) : Value) :: v4220 :: []) : List Value) ((.int .i64 0 : Value) :: (.int .i64 0 : Value) :: (.int .i64 0 : Value) :: (.int .i64 0 : Value) :: (.int .i64 0 : Value) :: (.int .i64 0 : Value) :: (.int .i64 0 : Value) :: c4223 ++ ((.slice none 0 0 : Value) :: (.slice none 0 0 : Value) :: (.slice none 0 0 : Value) :: (.int .i64 0 : Value) :: (.int .i64 0 : Value) :: (.slice none 0 0 : Value) :: []) : List Value) [] ([] : List Value) (by simp [l4233, l4234]); simpa using k)
        have p4237 : Stp [some b4226] h4227 h4235 := by subst e4236; exact Stp.set _
        have s4238 := s4230.step p4237 (by simp)
        have t4239 := s4230.tr p4237 (by simp) (fun _ hb => hb)
        clear e4236
        refine ⟨trivial, ?_⟩
        refine X.nil ?_
        refine At.then ?_
        refine C.seq ?_
        refine C.seq ?_
        refine C.region 2 rfl ?_
        refine X.val (v := .pointer (some ⟨b4226, 0, none⟩)) rfl rfl rfl (yField 3 0 Tryz.underlying106 Tryz.sizeOf3 rfl rfl rfl) trivial ?_
        have l4241 : c4212.length = 32 := (kArr 32 (kI .u8)).len r4213
        refine X.val (v := .int .i64 ((rd a0 y4187).Kind)) rfl rfl rfl (yLoadS (j := 0) Tryz.isAgg3 rfl (f4240).all rfl (by simp [l4241])) trivial ?_
        refine X.nil ?_
        refine At.then ?_
        refine C.block ?_
        refine C.seq ?_
        refine C.region 2 rfl ?_
        by_cases g4242 : ((rd a0 y4187).Kind) = 0
        · have H := ifT g4242 H
          refine X.val rfl rfl rfl (yBT g4242 (yEql rfl rfl)) trivial ?_
          refine X.val rfl rfl rfl (yAssign rfl) trivial ?_
          refine X.nil ?_
          refine At.then ?_
          refine C.condT rfl ?_
          refine C.seq ?_
          refine C.region 5 rfl ?_
          refine X.val rfl rfl rfl (yMove rfl) trivial ?_
          refine X.val rfl rfl rfl (yAdd rfl rfl) trivial ?_
          obtain ⟨c4243, e4244⟩ : ∃ c : List Value, c = (List.replicate 32 (.int .u8 0 : Value)) := ⟨_, rfl⟩
          have r4245 : (kArr 32 (kI .u8)).rp I4181 h4235 c4243 (List.replicate 32 (0 : Int)) := by rw [e4244]; exact z_T65
          have l4246 : c4243.length = 32 := (kArr 32 (kI .u8)).len r4245
          refine X.val (v := .agg (((.int .i64 4 : Value) :: (.int .i64 1 : Value) :: (.int .i64 2 : Value) :: (.int .i64 (IntKind.i64.wrap (1 + y4182)) : Value) :: (.int .i64 0 : Value) :: c4243 ++ ((.slice none 0 0 : Value) :: (.slice none 0 0 : Value) :: (.slice none 0 0 : Value) :: []) : List Value)).toArray) rfl rfl rfl (yBuild (out := ((.int .i64 4 : Value) :: (.int .i64 1 : Value) :: (.int .i64 2 : Value) :: (.int .i64 (IntKind.i64.wrap (1 + y4182)) : Value) :: (.int .i64 0 : Value) :: c4243 ++ ((.slice none 0 0 : Value) :: (.slice none 0 0 : Value) :: (.slice none 0 0 : Value) :: []) : List Value)) [1, 1, 1, 1, 1, 32, 1, 1, 1] [((.int .i64 0 : Value) :: [] : List Value), ((.int .i64 0 : Value) :: [] : List Value), ((.int .i64 0 : Value) :: [] : List Value), ((.int .i64 0 : Value) :: [] : List Value), ((.int .i64 0 : Value) :: [] : List Value), List.replicate 32 (.int .u8 0 : Value), ((.slice none 0 0 : Value) :: [] : List Value), ((.slice none 0 0 : Value) :: [] : List Value), ((.slice none 0 0 : Value) :: [] : List Value)] Tryz.zeroValue77 rfl pl_T77 rfl rfl (by simp [okp, vInt, vBool, vStr, vSl, vPtr, vAgg, l4246]) (by simp [setAll, vInt, vBool, vStr, vSl, vPtr, vAgg, e4244])) trivial ?_
          obtain ⟨c4247, e4248⟩ : ∃ c : List Value, c = (List.replicate 32 (.int .u8 0 : Value)) := ⟨_, rfl⟩
          have r4249 : (kArr 32 (kI .u8)).rp I4181 h4235 c4247 (List.replicate 32 (0 : Int)) := by rw [e4248]; exact z_T65
          refine X.ef rfl rfl rfl (eAlloc (zs := ((.int .i64 0 : Value) :: (.int .i64 0 : Value) :: (.int .i64 0 : Value) :: (.int .i64 0 : Value) :: (.int .i64 0 : Value) :: (List.replicate 32 (.int .u8 0 : Value)) ++ ((.slice none 0 0 : Value) :: (.slice none 0 0 : Value) :: (.slice none 0 0 : Value) :: []) : List Value)) Tryz.zeroValue77 rfl) ?_
          rintro _ h4251 ⟨rfl, e4256⟩
          obtain ⟨b4250, e4256b⟩ : ∃ b, b = h4235.size := ⟨_, rfl⟩
          rw [← e4256b]
          have f4255 : Box h4251 b4250 77 ((.int .i64 0 : Value) :: (.int .i64 0 : Value) :: (.int .i64 0 : Value) :: (.int .i64 0 : Value) :: (.int .i64 0 : Value) :: c4247 ++ ((.slice none 0 0 : Value) :: (.slice none 0 0 : Value) :: (.slice none 0 0 : Value) :: []) : List Value) := by subst e4256; subst e4256b; rw [e4248]; exact Box.new _ _ _
          have p4253 : Stp [] h4235 h4251 := by subst e4256; exact Stp.push _ _
          have s4254 : St [] h I h4251 I4181 (some b4250 :: [some b4226, v4185.ownBlock, some b4170, v4190.ownBlock, v4193.ownBlock]) := by subst e4256; subst e4256b; exact s4238.new _
          have t4252 := s4238.tr p4253 (by simp) (fun _ hb => hb)
          clear e4256 e4256b
          refine ⟨trivial, ?_⟩
          have l4257 : c4247.length = 32 := (kArr 32 (kI .u8)).len r4249
          have l4258 : c4243.length = 32 := (kArr 32 (kI .u8)).len r4245
          refine X.ef rfl rfl rfl (eStore (vs := ((.int .i64 4 : Value) :: (.int .i64 1 : Value) :: (.int .i64 2 : Value) :: (.int .i64 (IntKind.i64.wrap (1 + y4182)) : Value) :: (.int .i64 0 : Value) :: c4243 ++ ((.slice none 0 0 : Value) :: (.slice none 0 0 : Value) :: (.slice none 0 0 : Value) :: []) : List Value)) Tryz.sizeOf77 rfl rfl rfl (by simp [l4258]) (by simp [ones, ones_append, oInt, oBool, oStr, oSl, oPtr, (kArr 32 (kI .u8)).one r4245]) f4255 (by simp [l4257, l4258])) ?_
          rintro _ h4259 ⟨rfl, e4260⟩
          have f4264 : Box h4259 b4250 77 ((.int .i64 4 : Value) :: (.int .i64 1 : Value) :: (.int .i64 2 : Value) :: (.int .i64 (IntKind.i64.wrap (1 + y4182)) : Value) :: (.int .i64 0 : Value) :: c4243 ++ ((.slice none 0 0 : Value) :: (.slice none 0 0 : Value) :: (.slice none 0 0 : Value) :: []) : List Value) := by subst e4260; exact Box.reset f4255 (by have k := splice_mid ((.int .i64 4 : Value) :: (.int .i64 1 : Value) :: (.int .i64 2 : Value) :: (.int .i64 (IntKind.i64.wrap (1 + y4182)) : Value) :: (.int .i64 0 : Value) :: c4243 ++ ((.slice none 0 0 : Value) :: (.slice none 0 0 : Value) :: (.slice none 0 0 : Value) :: []) : List Value) ((.int .i64 0 : Value) :: (.int .i64 0 : Value) :: (.int .i64 0 : Value) :: (.int .i64 0 : Value) :: (.int .i64 0 : Value) :: c4247 ++ ((.slice none 0 0 : Value) :: (.slice none 0 0 : Value) :: (.slice none 0 0 : Value) :: []) : List Value) [] ([] : List Value) (by simp [l4257, l4258]); simpa using k)
          have p4261 : Stp [some b4250] h4251 h4259 := by subst e4260; exact Stp.set _
          have s4262 := s4254.step p4261 (by simp)
          have t4263 := s4254.tr p4261 (by simp) (fun _ hb => hb)
          clear e4260
          refine ⟨trivial, ?_⟩
          refine X.nil ?_
          refine At.then ?_
          refine C.seq ?_
          refine C.region 6 rfl ?_
          refine X.val rfl rfl rfl (yMove rfl) trivial ?_
          have l4265 : c4243.length = 32 := (kArr 32 (kI .u8)).len r4245
          refine X.val (v := .agg (((.int .i64 4 : Value) :: (.int .i64 1 : Value) :: (.int .i64 2 : Value) :: (.int .i64 (IntKind.i64.wrap (1 + y4182)) : Value) :: (.int .i64 0 : Value) :: c4243 ++ ((.slice none 0 0 : Value) :: (.slice none 0 0 : Value) :: (.slice none 0 0 : Value) :: []) : List Value)).toArray) rfl rfl rfl (yLoadW Tryz.isAgg77 Tryz.sizeOf77 rfl (f4264).all (by simp [l4265])) trivial ?_
          refine X.val (v := .pointer (some ⟨b4226, 1, none⟩)) rfl rfl rfl (yField 3 1 Tryz.underlying106 Tryz.sizeOf3 rfl rfl rfl) trivial ?_
          have b4266 := ((f4240.stp p4253 (by simp)).stp p4261 ((s4254.sep 1 [0] rfl rfl rfl) _ rfl))
          have l4267 : c4212.length = 32 := (kArr 32 (kI .u8)).len r4213
          refine X.val (v := .int .i64 ((rd a0 y4187).Mark)) rfl rfl rfl (yLoadS (j := 1) Tryz.isAgg3 rfl (b4266).all rfl (by simp [l4267])) trivial ?_
          have b4268 := ((((f4188.stp p4229 (by simp)).stp p4237 ((s4230.sep 2 [0] rfl rfl rfl) _ rfl)).stp p4253 (by simp)).stp p4261 ((s4254.sep 3 [0] rfl rfl rfl) _ rfl))
          have o4269 := ((((o4191.stp t4228 p4229 (by simp)).stp t4239 p4237 (s4230.sep 3 [0] rfl rfl rfl)).stp t4252 p4253 (by simp)).stp t4263 p4261 (s4254.sep 4 [0] rfl rfl rfl))
          have o4270 := ((((o4194.stp t4228 p4229 (by simp)).stp t4239 p4237 (s4230.sep 4 [0] rfl rfl rfl)).stp t4252 p4253 (by simp)).stp t4263 p4261 (s4254.sep 5 [0] rfl rfl rfl))
          obtain ⟨x4271, e4272, H⟩ := bnd H
          have s4277 : St [] h I h4259 I4181 ([some b4170, v4190.ownBlock, v4193.ownBlock] ++ [some b4250, some b4226, v4185.ownBlock]) := s4262.pick [3, 4, 5, 0, 1, 2] rfl (by decide) (by rintro (_ | _ | _ | _ | _ | _ | i) m h <;> first | exact h | (simp at h))
          refine X.call (all := [.pointer (some ⟨b4170, 0, none⟩), .agg (((.int .i64 4 : Value) :: (.int .i64 1 : Value) :: (.int .i64 2 : Value) :: (.int .i64 (IntKind.i64.wrap (1 + y4182)) : Value) :: (.int .i64 0 : Value) :: c4243 ++ ((.slice none 0 0 : Value) :: (.slice none 0 0 : Value) :: (.slice none 0 0 : Value) :: []) : List Value)).toArray, .int .i64 ((rd a0 y4187).Mark)]) Tryz.call58 rfl rfl rfl rfl rfl rfl (c_outbox_Box_Send s4277.left.lend b4268 o4269 o4270 (m_proto_Msg ((kArr 32 (kI .u8)).mono r4245 (t4252.trans t4263)) SlR.nil SlR.nil SlR.nil) e4272) ?_
          obtain ⟨x4271_0, x4271_1⟩ := x4271
          rintro _ h4273 ⟨I4278, v4280, v4282, k4284, rfl, f4279, o4281, o4283⟩
          have s4275 : St [] h I h4273 I4278 [some b4170, v4280.ownBlock, v4282.ownBlock, some b4250, some b4226, v4185.ownBlock] := St.callS (L := [some b4170, v4190.ownBlock, v4193.ownBlock]) (R := [some b4250, some b4226, v4185.ownBlock]) (L' := [some b4170, v4280.ownBlock, v4282.ownBlock]) s4277 k4284
          have t4276 : Tr I4181 h4259 I4278 h4273 := St.callSTr (L := [some b4170, v4190.ownBlock, v4193.ownBlock]) (R := [some b4250, some b4226, v4185.ownBlock]) (L' := [some b4170, v4280.ownBlock, v4282.ownBlock]) s4277 k4284
          have p4274 := k4284.stp
          refine ⟨trivial, ?_⟩
          by_cases g4285 : x4271_0 = 0
          · have H := ifT g4285 H
            refine X.val rfl rfl rfl (yBT g4285 (yEql rfl rfl)) trivial ?_
            refine X.nil ?_
            refine At.then ?_
            refine C.condT rfl ?_
            refine C.seq ?_
            refine C.region 3 rfl ?_
            refine X.val rfl rfl rfl (yMove rfl) trivial ?_
            refine X.val rfl rfl rfl (yAdd rfl rfl) trivial ?_
            refine X.val rfl rfl rfl (yAssign rfl) trivial ?_
            refine X.nil ?_
            refine At.then ?_
            refine C.region 6 rfl ?_
            refine X.val rfl rfl rfl (yMove rfl) trivial ?_
            refine X.val (v := .pointer (some ⟨b4226, 1, none⟩)) rfl rfl rfl (yField 3 1 Tryz.underlying106 Tryz.sizeOf3 rfl rfl rfl) trivial ?_
            have b4286 := (b4266.stp p4274 ((s4262.sep 1 [3, 4, 5] rfl rfl rfl) _ rfl))
            have l4287 : c4212.length = 32 := (kArr 32 (kI .u8)).len r4213
            refine X.val (v := .int .i64 ((rd a0 y4187).Mark)) rfl rfl rfl (yLoadS (j := 1) Tryz.isAgg3 rfl (b4286).all rfl (by simp [l4287])) trivial ?_
            refine X.ef rfl rfl rfl (eBuildSlice (out := ((.int .i64 ((rd a0 y4187).Mark) : Value) :: [] : List Value)) Tryz.underlying67 Tryz.sizeOf3 (List.replicate 1 ((.int .i64 0 : Value) :: [] : List Value)) Tryz.zeroValue3 rfl (by kernel_rfl) rfl rfl rfl (by simp [okp, vInt, vBool, vStr, vSl, vPtr, vAgg]) (by simp [setAll, vInt, vBool, vStr, vSl, vPtr, vAgg])) ?_
            rintro _ h4289 ⟨rfl, e4294⟩
            obtain ⟨b4288, e4294b⟩ : ∃ b, b = h4273.size := ⟨_, rfl⟩
            rw [← e4294b]
            have f4293 : Box h4289 b4288 3 ((.int .i64 ((rd a0 y4187).Mark) : Value) :: [] : List Value) := by subst e4294; subst e4294b; exact Box.new _ _ _
            have p4291 : Stp [] h4273 h4289 := by subst e4294; exact Stp.push _ _
            have s4292 : St [] h I h4289 I4278 (some b4288 :: [some b4170, v4280.ownBlock, v4282.ownBlock, some b4250, some b4226, v4185.ownBlock]) := by subst e4294; subst e4294b; exact s4275.new _
            have t4290 := s4275.tr p4291 (by simp) (fun _ hb => hb)
            clear e4294 e4294b
            have r4296 : rows (kI .i64) I4278 h4289 ((.int .i64 ((rd a0 y4187).Mark) : Value) :: [] : List Value) [(rd a0 y4187).Mark] := by have k : rows (kI .i64) I4278 h4289 _ [(rd a0 y4187).Mark] := (rows.cons (c := ((.int .i64 ((rd a0 y4187).Mark) : Value) :: [] : List Value)) (y := (rd a0 y4187).Mark) rfl rows.nil); first | exact k | simpa only [List.append_nil, List.append_assoc, List.cons_append, List.nil_append] using k | simpa using k
            have o4295 : Own (kI .i64) 3 h4289 I4278 (.slice (some ⟨b4288, 0, none⟩) 1 1) [(rd a0 y4187).Mark] := Own.row f4293 r4296 rfl rfl
            refine ⟨trivial, ?_⟩
            have o4297 := ((((((o4186.stp t4228 p4229 (by simp)).stp t4239 p4237 (s4230.sep 1 [0] rfl rfl rfl)).stp t4252 p4253 (by simp)).stp t4263 p4261 (s4254.sep 2 [0] rfl rfl rfl)).stp t4276 p4274 (s4262.sep 2 [3, 4, 5] rfl rfl rfl)).stp t4290 p4291 (by simp))
            obtain ⟨g4305, H⟩ := ifS H
            refine X.ef rfl rfl rfl (eAppend (bytes := 8) Tryz.underlying67 Tryz.type3 rfl rfl rfl rfl rfl rfl rfl rfl o4297 (Src.own o4295) (s4292.disOf 6 rfl) (Nat.le_trans (Nat.mul_le_mul_right _ g4305) (by decide))) ?_
            rintro v4298 h4299 ⟨o4300, p4301, n4302⟩
            have p4301 : Stp [v4185.ownBlock] h4289 h4299 := p4301
            have s4303 : St [] h I h4299 I4278 [some b4288, some b4170, v4280.ownBlock, v4282.ownBlock, some b4250, some b4226, v4298.ownBlock] := s4292.grow 6 rfl p4301 n4302
            have t4304 := s4292.tr p4301 (by simp) (fun _ hb => hb)
            refine ⟨trivial, ?_⟩
            refine X.val rfl rfl rfl (yAssign rfl) trivial ?_
            refine X.nil ?_
            refine At.blkN ?_
            refine At.then ?_
            refine C.seq ?_
            refine C.region 7 rfl ?_
            refine X.val rfl rfl rfl (yMove rfl) trivial ?_
            have b4306 := ((f4279.stp p4291 (by simp)).stp p4301 ((s4292.sep 1 [6] rfl rfl rfl) _ rfl))
            have o4307 := ((o4281.stp t4290 p4291 (by simp)).stp t4304 p4301 (s4292.sep 2 [6] rfl rfl rfl))
            have o4308 := ((o4283.stp t4290 p4291 (by simp)).stp t4304 p4301 (s4292.sep 3 [6] rfl rfl rfl))
            obtain ⟨x4309, e4310, H⟩ := bnd H
            have s4315 : St [] h I h4299 I4278 ([some b4170, v4280.ownBlock, v4282.ownBlock] ++ [some b4288, some b4250, some b4226, v4298.ownBlock]) := s4303.pick [1, 2, 3, 0, 4, 5, 6] rfl (by decide) (by rintro (_ | _ | _ | _ | _ | _ | _ | i) m h <;> first | exact h | (simp at h))
            refine X.call (all := [.pointer (some ⟨b4170, 0, none⟩)]) Tryz.call51 rfl rfl rfl rfl rfl rfl (c_outbox_Box_Waits s4315.left.lend b4306 o4307 o4308 e4310) ?_
            obtain ⟨x4309_0, x4309_1, x4309_2⟩ := x4309
            rintro _ h4311 ⟨I4316, v4318, v4320, k4322, rfl, f4317, o4319, o4321⟩
            have s4313 : St [] h I h4311 I4316 [some b4170, v4318.ownBlock, v4320.ownBlock, some b4288, some b4250, some b4226, v4298.ownBlock] := St.callS (L := [some b4170, v4280.ownBlock, v4282.ownBlock]) (R := [some b4288, some b4250, some b4226, v4298.ownBlock]) (L' := [some b4170, v4318.ownBlock, v4320.ownBlock]) s4315 k4322
            have t4314 : Tr I4278 h4299 I4316 h4311 := St.callSTr (L := [some b4170, v4280.ownBlock, v4282.ownBlock]) (R := [some b4288, some b4250, some b4226, v4298.ownBlock]) (L' := [some b4170, v4318.ownBlock, v4320.ownBlock]) s4315 k4322
            have p4312 := k4322.stp
            refine ⟨trivial, ?_⟩
            refine X.val rfl rfl rfl (yMove rfl) trivial ?_
            refine X.val rfl rfl rfl (yExtract rfl rfl) trivial ?_
            refine X.val rfl rfl rfl (yExtract rfl rfl) trivial ?_
            refine X.val rfl rfl rfl (yAssign rfl) trivial ?_
            refine X.val rfl rfl rfl (yAssign rfl) trivial ?_
            refine X.nil ?_
            refine At.then ?_
            refine C.seq ?_
            refine C.region 8 rfl ?_
            refine X.val rfl rfl rfl (yMove rfl) trivial ?_
            refine X.val rfl rfl rfl (yMove rfl) trivial ?_
            refine X.val rfl rfl rfl (yAdd rfl rfl) trivial ?_
            refine X.val rfl rfl rfl (yMove rfl) trivial ?_
            obtain ⟨x4323, e4324, H⟩ := bnd H
            have s4329 : St [] h I h4311 I4316 ([some b4170, v4318.ownBlock, v4320.ownBlock] ++ [some b4288, some b4250, some b4226, v4298.ownBlock]) := s4313.pick [0, 1, 2, 3, 4, 5, 6] rfl (by decide) (by rintro (_ | _ | _ | _ | _ | _ | _ | i) m h <;> first | exact h | (simp at h))
            refine X.call (all := [.pointer (some ⟨b4170, 0, none⟩)]) Tryz.call52 rfl rfl rfl rfl rfl rfl (c_outbox_Box_Lost s4329.left.lend f4317 o4319 o4321 e4324) ?_
            obtain ⟨x4323_0, x4323_1⟩ := x4323
            rintro _ h4325 ⟨I4330, v4332, v4334, k4336, rfl, f4331, o4333, o4335⟩
            have s4327 : St [] h I h4325 I4330 [some b4170, v4332.ownBlock, v4334.ownBlock, some b4288, some b4250, some b4226, v4298.ownBlock] := St.callS (L := [some b4170, v4318.ownBlock, v4320.ownBlock]) (R := [some b4288, some b4250, some b4226, v4298.ownBlock]) (L' := [some b4170, v4332.ownBlock, v4334.ownBlock]) s4329 k4336
            have t4328 : Tr I4316 h4311 I4330 h4325 := St.callSTr (L := [some b4170, v4318.ownBlock, v4320.ownBlock]) (R := [some b4288, some b4250, some b4226, v4298.ownBlock]) (L' := [some b4170, v4332.ownBlock, v4334.ownBlock]) s4329 k4336
            have p4326 := k4336.stp
            refine ⟨trivial, ?_⟩
            refine X.val rfl rfl rfl (yAdd rfl rfl) trivial ?_
            refine X.val rfl rfl rfl (yMove rfl) trivial ?_
            by_cases g4337 : (IntKind.i64.wrap ((IntKind.i64.wrap (x4309_0 + y4183)) + x4323_0)) ≠ (IntKind.i64.wrap (y4182 + 1))
            · have H := ifT g4337 H
              refine X.val rfl rfl rfl (yBT g4337 (yNeq rfl rfl)) trivial ?_
              refine X.nil ?_
              refine At.then ?_
              refine C.condT rfl ?_
              refine C.seq ?_
              refine C.region 1 rfl ?_
              refine X.val rfl rfl rfl (yAssign rfl) trivial ?_
              refine X.nil ?_
              refine At.then ?_
              refine C.ret ?_
              refine At.blkR ?_
              refine At.thenR ?_
              refine At.backR ?_
              obtain rfl := sm H
              have H := G4199
              try dsimp only at H
              refine At.blkR ?_
              refine At.thenR ?_
              obtain rfl := sm H
              refine At.retn (rs := [.tmp 2]) [.bool false] rfl ?_ ?_
              exact ⟨Rv.tmp rfl, trivial⟩
              exact ⟨s4327.stp, rfl⟩
            · have H := ifF g4337 H
              refine X.val rfl rfl rfl (yBF g4337 (yNeq rfl rfl)) trivial ?_
              refine X.nil ?_
              refine At.then ?_
              refine C.condF rfl ?_
              refine C.skip ?_
              refine At.blkN ?_
              refine At.then ?_
              refine C.region 3 rfl ?_
              refine X.val rfl rfl rfl (yMove rfl) trivial ?_
              refine X.val rfl rfl rfl (yAdd rfl rfl) trivial ?_
              refine X.val rfl rfl rfl (yAssign rfl) trivial ?_
              refine X.nil ?_
              have o4338 := ((o4300.stp t4314 p4312 (s4303.sep 6 [1, 2, 3] rfl rfl rfl)).stp t4328 p4326 (s4313.sep 6 [0, 1, 2] rfl rfl rfl))
              have s4339 : St [] h I h4325 I4330 [v4298.ownBlock, some b4170, v4332.ownBlock, v4334.ownBlock] := s4327.pick [6, 0, 1, 2] rfl (by decide) (by rintro (_ | _ | _ | _ | i) m h <;> first | exact h | (simp at h))
              refine At.back [(0, v_a0), (3, .pointer (some ⟨b4170, 0, none⟩)), (4, .int .i64 (IntKind.i64.wrap (y4182 + 1))), (5, .int .i64 y4183), (6, v4298), (7, .int .i64 (IntKind.i64.wrap (y4187 + 1)))] (fun a ha => (.cons ha rfl (.cons ha rfl (.cons ha rfl (.cons ha rfl (.cons ha rfl (.cons ha rfl ha.nil))))))) ?_
              exact ⟨(IntKind.i64.wrap (y4182 + 1)), y4183, (y4184 ++ [(rd a0 y4187).Mark]), (IntKind.i64.wrap (y4187 + 1)), x4323_1, v4298, v4332, v4334, I4330, rfl, s4339, (t4197.trans (t4228.trans (t4239.trans (t4252.trans (t4263.trans (t4276.trans (t4290.trans (t4304.trans (t4314.trans t4328))))))))), o4338, o4333, o4335, f4331, H⟩
          · have H := ifF g4285 H
            refine X.val rfl rfl rfl (yBF g4285 (yEql rfl rfl)) trivial ?_
            refine X.nil ?_
            refine At.then ?_
            refine C.condF rfl ?_
            refine C.skip ?_
            refine At.blkN ?_
            refine At.then ?_
            refine C.seq ?_
            refine C.region 7 rfl ?_
            refine X.val rfl rfl rfl (yMove rfl) trivial ?_
            obtain ⟨x4340, e4341, H⟩ := bnd H
            have s4346 : St [] h I h4273 I4278 ([some b4170, v4280.ownBlock, v4282.ownBlock] ++ [some b4250, some b4226, v4185.ownBlock]) := s4275.pick [0, 1, 2, 3, 4, 5] rfl (by decide) (by rintro (_ | _ | _ | _ | _ | _ | i) m h <;> first | exact h | (simp at h))
            refine X.call (all := [.pointer (some ⟨b4170, 0, none⟩)]) Tryz.call51 rfl rfl rfl rfl rfl rfl (c_outbox_Box_Waits s4346.left.lend f4279 o4281 o4283 e4341) ?_
            obtain ⟨x4340_0, x4340_1, x4340_2⟩ := x4340
            rintro _ h4342 ⟨I4347, v4349, v4351, k4353, rfl, f4348, o4350, o4352⟩
            have s4344 : St [] h I h4342 I4347 [some b4170, v4349.ownBlock, v4351.ownBlock, some b4250, some b4226, v4185.ownBlock] := St.callS (L := [some b4170, v4280.ownBlock, v4282.ownBlock]) (R := [some b4250, some b4226, v4185.ownBlock]) (L' := [some b4170, v4349.ownBlock, v4351.ownBlock]) s4346 k4353
            have t4345 : Tr I4278 h4273 I4347 h4342 := St.callSTr (L := [some b4170, v4280.ownBlock, v4282.ownBlock]) (R := [some b4250, some b4226, v4185.ownBlock]) (L' := [some b4170, v4349.ownBlock, v4351.ownBlock]) s4346 k4353
            have p4343 := k4353.stp
            refine ⟨trivial, ?_⟩
            refine X.val rfl rfl rfl (yMove rfl) trivial ?_
            refine X.val rfl rfl rfl (yExtract rfl rfl) trivial ?_
            refine X.val rfl rfl rfl (yExtract rfl rfl) trivial ?_
            refine X.val rfl rfl rfl (yAssign rfl) trivial ?_
            refine X.val rfl rfl rfl (yAssign rfl) trivial ?_
            refine X.nil ?_
            refine At.then ?_
            refine C.seq ?_
            refine C.region 8 rfl ?_
            refine X.val rfl rfl rfl (yMove rfl) trivial ?_
            refine X.val rfl rfl rfl (yMove rfl) trivial ?_
            refine X.val rfl rfl rfl (yAdd rfl rfl) trivial ?_
            refine X.val rfl rfl rfl (yMove rfl) trivial ?_
            obtain ⟨x4354, e4355, H⟩ := bnd H
            have s4360 : St [] h I h4342 I4347 ([some b4170, v4349.ownBlock, v4351.ownBlock] ++ [some b4250, some b4226, v4185.ownBlock]) := s4344.pick [0, 1, 2, 3, 4, 5] rfl (by decide) (by rintro (_ | _ | _ | _ | _ | _ | i) m h <;> first | exact h | (simp at h))
            refine X.call (all := [.pointer (some ⟨b4170, 0, none⟩)]) Tryz.call52 rfl rfl rfl rfl rfl rfl (c_outbox_Box_Lost s4360.left.lend f4348 o4350 o4352 e4355) ?_
            obtain ⟨x4354_0, x4354_1⟩ := x4354
            rintro _ h4356 ⟨I4361, v4363, v4365, k4367, rfl, f4362, o4364, o4366⟩
            have s4358 : St [] h I h4356 I4361 [some b4170, v4363.ownBlock, v4365.ownBlock, some b4250, some b4226, v4185.ownBlock] := St.callS (L := [some b4170, v4349.ownBlock, v4351.ownBlock]) (R := [some b4250, some b4226, v4185.ownBlock]) (L' := [some b4170, v4363.ownBlock, v4365.ownBlock]) s4360 k4367
            have t4359 : Tr I4347 h4342 I4361 h4356 := St.callSTr (L := [some b4170, v4349.ownBlock, v4351.ownBlock]) (R := [some b4250, some b4226, v4185.ownBlock]) (L' := [some b4170, v4363.ownBlock, v4365.ownBlock]) s4360 k4367
            have p4357 := k4367.stp
            refine ⟨trivial, ?_⟩
            refine X.val rfl rfl rfl (yAdd rfl rfl) trivial ?_
            refine X.val rfl rfl rfl (yMove rfl) trivial ?_
            by_cases g4368 : (IntKind.i64.wrap ((IntKind.i64.wrap (x4340_0 + y4183)) + x4354_0)) ≠ y4182
            · have H := ifT g4368 H
              refine X.val rfl rfl rfl (yBT g4368 (yNeq rfl rfl)) trivial ?_
              refine X.nil ?_
              refine At.then ?_
              refine C.condT rfl ?_
              refine C.seq ?_
              refine C.region 1 rfl ?_
              refine X.val rfl rfl rfl (yAssign rfl) trivial ?_
              refine X.nil ?_
              refine At.then ?_
              refine C.ret ?_
              refine At.blkR ?_
              refine At.thenR ?_
              refine At.backR ?_
              obtain rfl := sm H
              have H := G4199
              try dsimp only at H
              refine At.blkR ?_
              refine At.thenR ?_
              obtain rfl := sm H
              refine At.retn (rs := [.tmp 2]) [.bool false] rfl ?_ ?_
              exact ⟨Rv.tmp rfl, trivial⟩
              exact ⟨s4358.stp, rfl⟩
            · have H := ifF g4368 H
              refine X.val rfl rfl rfl (yBF g4368 (yNeq rfl rfl)) trivial ?_
              refine X.nil ?_
              refine At.then ?_
              refine C.condF rfl ?_
              refine C.skip ?_
              refine At.blkN ?_
              refine At.then ?_
              refine C.region 3 rfl ?_
              refine X.val rfl rfl rfl (yMove rfl) trivial ?_
              refine X.val rfl rfl rfl (yAdd rfl rfl) trivial ?_
              refine X.val rfl rfl rfl (yAssign rfl) trivial ?_
              refine X.nil ?_
              have o4369 := (((((((o4186.stp t4228 p4229 (by simp)).stp t4239 p4237 (s4230.sep 1 [0] rfl rfl rfl)).stp t4252 p4253 (by simp)).stp t4263 p4261 (s4254.sep 2 [0] rfl rfl rfl)).stp t4276 p4274 (s4262.sep 2 [3, 4, 5] rfl rfl rfl)).stp t4345 p4343 (s4275.sep 5 [0, 1, 2] rfl rfl rfl)).stp t4359 p4357 (s4344.sep 5 [0, 1, 2] rfl rfl rfl))
              have s4370 : St [] h I h4356 I4361 [v4185.ownBlock, some b4170, v4363.ownBlock, v4365.ownBlock] := s4358.pick [5, 0, 1, 2] rfl (by decide) (by rintro (_ | _ | _ | _ | i) m h <;> first | exact h | (simp at h))
              refine At.back [(0, v_a0), (3, .pointer (some ⟨b4170, 0, none⟩)), (4, .int .i64 y4182), (5, .int .i64 y4183), (6, v4185), (7, .int .i64 (IntKind.i64.wrap (y4187 + 1)))] (fun a ha => (.cons ha rfl (.cons ha rfl (.cons ha rfl (.cons ha rfl (.cons ha rfl (.cons ha rfl ha.nil))))))) ?_
              exact ⟨y4182, y4183, y4184, (IntKind.i64.wrap (y4187 + 1)), x4354_1, v4185, v4363, v4365, I4361, rfl, s4370, (t4197.trans (t4228.trans (t4239.trans (t4252.trans (t4263.trans (t4276.trans (t4345.trans t4359))))))), o4369, o4364, o4366, f4362, H⟩
        · have H := ifF g4242 H
          refine X.val rfl rfl rfl (yBF g4242 (yEql rfl rfl)) trivial ?_
          refine X.val rfl rfl rfl (yAssign rfl) trivial ?_
          refine X.nil ?_
          refine At.then ?_
          refine C.condF rfl ?_
          refine C.seq ?_
          refine C.region 2 rfl ?_
          by_cases g4371 : ((rd a0 y4187).Kind) = 2
          · have H := ifT g4371 H
            refine X.val rfl rfl rfl (yBT g4371 (yEql rfl rfl)) trivial ?_
            refine X.val rfl rfl rfl (yAssign rfl) trivial ?_
            refine X.nil ?_
            refine At.then ?_
            refine C.condT rfl ?_
            refine C.seq ?_
            refine C.region 5 rfl ?_
            refine X.val rfl rfl rfl (yMove rfl) trivial ?_
            refine X.val (v := .pointer (some ⟨b4226, 1, none⟩)) rfl rfl rfl (yField 3 1 Tryz.underlying106 Tryz.sizeOf3 rfl rfl rfl) trivial ?_
            have l4372 : c4212.length = 32 := (kArr 32 (kI .u8)).len r4213
            refine X.val (v := .int .i64 ((rd a0 y4187).Mark)) rfl rfl rfl (yLoadS (j := 1) Tryz.isAgg3 rfl (f4240).all rfl (by simp [l4372])) trivial ?_
            have b4373 := ((f4188.stp p4229 (by simp)).stp p4237 ((s4230.sep 2 [0] rfl rfl rfl) _ rfl))
            have o4374 := ((o4191.stp t4228 p4229 (by simp)).stp t4239 p4237 (s4230.sep 3 [0] rfl rfl rfl))
            have o4375 := ((o4194.stp t4228 p4229 (by simp)).stp t4239 p4237 (s4230.sep 4 [0] rfl rfl rfl))
            obtain ⟨x4376, e4377, H⟩ := bnd H
            have s4382 : St [] h I h4235 I4181 ([some b4170, v4190.ownBlock, v4193.ownBlock] ++ [some b4226, v4185.ownBlock]) := s4238.pick [2, 3, 4, 0, 1] rfl (by decide) (by rintro (_ | _ | _ | _ | _ | i) m h <;> first | exact h | (simp at h))
            refine X.call (all := [.pointer (some ⟨b4170, 0, none⟩), .int .i64 ((rd a0 y4187).Mark)]) Tryz.call55 rfl rfl rfl rfl rfl rfl (c_outbox_Box_Out s4382.left.lend b4373 o4374 o4375 e4377) ?_
            obtain ⟨x4376_0, x4376_1⟩ := x4376
            rintro v4389 h4378 ⟨I4383, v4385, v4387, _, k4391, rfl, f4384, o4386, o4388, o4390⟩
            have s4380 : St [] h I h4378 I4383 [some b4170, v4385.ownBlock, v4387.ownBlock, v4389.ownBlock, some b4226, v4185.ownBlock] := St.callS (L := [some b4170, v4190.ownBlock, v4193.ownBlock]) (R := [some b4226, v4185.ownBlock]) (L' := [some b4170, v4385.ownBlock, v4387.ownBlock, v4389.ownBlock]) s4382 k4391
            have t4381 : Tr I4181 h4235 I4383 h4378 := St.callSTr (L := [some b4170, v4190.ownBlock, v4193.ownBlock]) (R := [some b4226, v4185.ownBlock]) (L' := [some b4170, v4385.ownBlock, v4387.ownBlock, v4389.ownBlock]) s4382 k4391
            have p4379 := k4391.stp
            refine ⟨trivial, ?_⟩
            refine X.val rfl rfl rfl (yAssign rfl) trivial ?_
            refine X.nil ?_
            refine At.then ?_
            refine C.seq ?_
            refine C.region 5 rfl ?_
            refine X.val rfl rfl rfl (yMove rfl) trivial ?_
            refine X.val rfl rfl rfl (yMove rfl) trivial ?_
            refine X.val rfl rfl rfl (yLenO Tryz.underlying112 rfl o4390) trivial ?_
            refine X.val rfl rfl rfl (yAdd rfl rfl) trivial ?_
            refine X.val rfl rfl rfl (yAssign rfl) trivial ?_
            refine X.nil ?_
            refine At.then ?_
            refine C.seq ?_
            refine C.region 1 rfl ?_
            refine X.val rfl rfl rfl (yAssign rfl) trivial ?_
            refine X.nil ?_
            refine At.then ?_
            refine C.block ?_
            have o4397 := (((o4186.stp t4228 p4229 (by simp)).stp t4239 p4237 (s4230.sep 1 [0] rfl rfl rfl)).stp t4381 p4379 (s4238.sep 1 [2, 3, 4] rfl rfl rfl))
            have b4403 := (f4240.stp p4379 ((s4238.sep 0 [2, 3, 4] rfl rfl rfl) _ rfl))
            obtain ⟨z4407, e4409, G4408⟩ := bnd H
            refine C.prune [(0, v_a0), (3, .pointer (some ⟨b4170, 0, none⟩)), (4, .int .i64 y4182), (5, .int .i64 (IntKind.i64.wrap (y4183 + (x4376_0.length : Int)))), (6, v4185), (7, .int .i64 y4187), (8, .pointer (some ⟨b4226, 0, none⟩)), (10, v4389), (11, .int .i64 0)] (fun a ha => (.cons ha rfl (.cons ha rfl (.cons ha rfl (.cons ha rfl (.cons ha rfl (.cons ha rfl (.cons ha rfl (.cons ha rfl (.cons ha rfl ha.nil)))))))))) ?_
            refine C.loop (fun k4410 e h4392 => ∃ (y4394 : (List Int)) (y4399 : Int) (v4395 : Value) (I4393 : Nat → Prop), e = [(0, v_a0), (3, .pointer (some ⟨b4170, 0, none⟩)), (4, .int .i64 y4182), (5, .int .i64 (IntKind.i64.wrap (y4183 + (x4376_0.length : Int)))), (6, v4395), (7, .int .i64 y4187), (8, .pointer (some ⟨b4226, 0, none⟩)), (10, v4389), (11, .int .i64 y4399)] ∧ St [] h I h4392 I4393 [some b4170, v4385.ownBlock, v4387.ownBlock, v4389.ownBlock, some b4226, v4395.ownBlock] ∧ Tr I4383 h4378 I4393 h4392 ∧ Own (kI .i64) 3 h4392 I4393 v4395 y4394 ∧ Own k_proto_Msg 77 h4392 I4393 (v4389) x4376_0 ∧ Own k_outbox_held_proto_Msg_ 280 h4392 I4393 (v4385) x4376_1.out ∧ Own k_outbox_held_outbox_Answer_ 282 h4392 I4393 (v4387) x4376_1.answers ∧ Box h4392 b4170 118 ((.bool x4376_1.made : Value) :: v4385 :: v4387 :: (.int .i64 x4376_1.lost : Value) :: [] : List Value) ∧ Box h4392 b4226 106 ((.int .i64 ((rd a0 y4187).Kind) : Value) :: (.int .i64 ((rd a0 y4187).Mark) : Value) :: (.int .i64 ((rd a0 y4187).M.Kind) : Value) :: (.int .i64 ((rd a0 y4187).M.From) : Value) :: (.int .i64 ((rd a0 y4187).M.To) : Value) :: (.int .i64 ((rd a0 y4187).M.Session) : Value) :: (.int .i64 ((rd a0 y4187).M.Part) : Value) :: c4212 ++ (v4214 :: v4216 :: v4218 :: (.int .i64 ((rd a0 y4187).A.ID) : Value) :: (.int .i64 ((rd a0 y4187).A.Err) : Value) :: v4220 :: []) : List Value) ∧ p_maundlaw29_OutboxMarks_l1 K a0 y4187 x4376_0 k4410 y4394 y4399 = some z4407) K ⟨y4184, 0, v4185, I4383, rfl, s4380, Tr.refl _ _, o4397, o4390, o4386, o4388, f4384, b4403, e4409⟩ ?_ ?_
            · rintro e h' ⟨_, _, _, _, _, _, _, _, _, _, _, _, _, H⟩; cases (show none = some _ from H)
            · rintro k4410 e h4392 ⟨y4394, y4399, v4395, I4393, rfl, s4405, t4406, o4396, o4398, o4401, o4402, f4400, f4404, H⟩
              rw [p_maundlaw29_OutboxMarks_l1] at H
              refine C.seq ?_
              refine C.seq ?_
              refine C.region 4 rfl ?_
              refine X.val rfl rfl rfl (yMove rfl) trivial ?_
              refine X.val rfl rfl rfl (yMove rfl) trivial ?_
              refine X.val rfl rfl rfl (yLenO Tryz.underlying112 rfl o4398) trivial ?_
              by_cases g4411 : y4399 < (x4376_0.length : Int)
              · have H := ifT g4411 H
                refine X.val rfl rfl rfl (yBT g4411 (yLss rfl rfl)) trivial ?_
                refine X.nil ?_
                refine At.then ?_
                refine C.condT rfl ?_
                refine C.skip ?_
                refine At.then ?_
                refine C.seq ?_
                refine C.block ?_
                refine C.seq ?_
                refine C.region 7 rfl ?_
                refine X.val rfl rfl rfl (yMove rfl) trivial ?_
                refine X.val rfl rfl rfl (yMove rfl) trivial ?_
                obtain ⟨⟨g4412, g4413⟩, H⟩ := ifS H
                obtain ⟨b4414, k4415, c4416, c4417, c4418, e4419, f4420, l4421, l4422, r4423, w4424⟩ := Own.at o4398 g4412 g4413
                have l4421 : c4416.length = (y4399).toNat * 40 := l4421
                have l4422 : c4417.length = 40 := l4422
                obtain ⟨c4425, v4427, v4429, v4431, rfl, r4426, r4428, r4430, r4432⟩ := o_proto_Msg r4423
                refine X.val (v := .pointer (some ⟨b4414, 0 + (y4399).toNat * 40, none⟩)) rfl rfl rfl (yIdxS Tryz.underlying112 Tryz.sizeOf77 (by rw [← e4419]; rfl) rfl g4412 g4413) trivial ?_
                refine X.val (v := .pointer (some ⟨b4414, 0 + (y4399).toNat * 40 + 3, none⟩)) rfl rfl rfl (yField 3 3 Tryz.underlying77 Tryz.sizeOf3 rfl rfl rfl) trivial ?_
                have l4433 : c4425.length = 32 := (kArr 32 (kI .u8)).len r4426
                refine X.val (v := .int .i64 ((rd x4376_0 y4399).Session)) rfl rfl rfl (yLoadS (j := 3) Tryz.isAgg3 rfl (Box.rd (o := 0 + (y4399).toNat * 40) f4420 rfl (by rw [l4421, Nat.zero_add])) rfl (by simp [l4433])) trivial ?_
                refine X.val rfl rfl rfl (ySub rfl rfl) trivial ?_
                refine X.val rfl rfl rfl (yAssign rfl) trivial ?_
                refine X.nil ?_
                refine At.then ?_
                refine C.seq ?_
                refine C.seq ?_
                refine C.regionD rfl (Stp [] h4392) (.pas 0 (.pas 1 (.pas 2 (.pas 3 (.pas 4 (.pas 5 (.pas 6 (.pas 7 (.pas 8 (.pas 9 (.pas 10 (.pas 11 (.pas 12 (.pas 13 (.pas 14 (.pas 15 (.pas 16 (.pas 17 (.pas 18 (.pas 19 (.pas 20 (.pas 21 (.pas 22 (.pas 23 (.pas 24 (.pas 25 (.pas 26 (.pas 27 (.pas 28 (.pas 29 (.pas 30 (.pas 31 (.pas 32 (.pas 33 (.pas 34 .nil))))))))))))))))))))))))))))))))))) (by kernel_rfl) (Stp.refl0 _ _) ?_
                have q4434 := Stp.refl0 [] h4392
                refine X.pas rfl rfl rfl (fun _ _ => yMove rfl) ?_
                by_cases g4435 : (IntKind.i64.wrap ((rd x4376_0 y4399).Session - 1)) < 0
                · have H := ifT g4435 H
                  refine X.pas rfl rfl rfl (fun _ _ => yBT g4435 (yLss rfl rfl)) ?_
                  refine X.pas rfl rfl rfl (fun _ _ => yMove rfl) ?_
                  refine X.pasSkip rfl rfl rfl ?_
                  refine X.pasSkip rfl rfl rfl ?_
                  refine X.pasSkip rfl rfl rfl ?_
                  refine X.pasSkip rfl rfl rfl ?_
                  refine X.pas rfl rfl rfl (fun _ _ => yPickT rfl rfl) ?_
                  refine X.pas rfl rfl rfl (fun _ _ => yMove rfl) ?_
                  refine X.pasSkip rfl rfl rfl ?_
                  refine X.pasSkip rfl rfl rfl ?_
                  refine X.pasSkip rfl rfl rfl ?_
                  refine X.pasSkip rfl rfl rfl ?_
                  refine X.pasSkip rfl rfl rfl ?_
                  refine X.pasSkip rfl rfl rfl ?_
                  refine X.pasSkip rfl rfl rfl ?_
                  refine X.pas rfl rfl rfl (fun _ _ => yPickT rfl rfl) ?_
                  refine X.pas rfl rfl rfl (fun _ _ => yMove rfl) ?_
                  refine X.pasSkip rfl rfl rfl ?_
                  refine X.pasSkip rfl rfl rfl ?_
                  refine X.pasSkip rfl rfl rfl ?_
                  refine X.pasSkip rfl rfl rfl ?_
                  refine X.pasSkip rfl rfl rfl ?_
                  refine X.pasSkip rfl rfl rfl ?_
                  refine X.pasSkip rfl rfl rfl ?_
                  refine X.pasSkip rfl rfl rfl ?_
                  refine X.pasSkip rfl rfl rfl ?_
                  refine X.pasSkip rfl rfl rfl ?_
                  refine X.pasSkip rfl rfl rfl ?_
                  refine X.pasSkip rfl rfl rfl ?_
                  refine X.pasSkip rfl rfl rfl ?_
                  refine X.pasSkip rfl rfl rfl ?_
                  refine X.pasSkip rfl rfl rfl ?_
                  refine X.pasSkip rfl rfl rfl ?_
                  refine X.pas rfl rfl rfl (fun _ _ => yPickT rfl rfl) ?_
                  refine X.nil ?_
                  refine At.then ?_
                  refine C.condT rfl ?_
                  refine C.seq ?_
                  refine C.region 1 rfl ?_
                  refine X.val rfl rfl rfl (yAssign rfl) trivial ?_
                  refine X.nil ?_
                  refine At.then ?_
                  refine C.ret ?_
                  refine At.thenR ?_
                  refine At.blkR ?_
                  refine At.thenR ?_
                  refine At.backR ?_
                  obtain rfl := sm H
                  have H := G4408
                  try dsimp only at H
                  refine At.blkR ?_
                  refine At.blkR ?_
                  refine At.thenR ?_
                  refine At.blkR ?_
                  refine At.thenR ?_
                  refine At.backR ?_
                  obtain rfl := sm H
                  have H := G4199
                  try dsimp only at H
                  refine At.blkR ?_
                  refine At.thenR ?_
                  obtain rfl := sm H
                  refine At.retn (rs := [.tmp 2]) [.bool false] rfl ?_ ?_
                  exact ⟨Rv.tmp rfl, trivial⟩
                  exact ⟨s4405.stp, rfl⟩
                · have H := ifF g4435 H
                  refine X.pas rfl rfl rfl (fun _ _ => yBF g4435 (yLss rfl rfl)) ?_
                  refine X.pas rfl rfl rfl (fun _ _ => yMove rfl) ?_
                  refine X.pas rfl rfl rfl (fun _ _ => yMove rfl) ?_
                  refine X.pas rfl rfl rfl (fun _ _ => yMove rfl) ?_
                  refine X.pas rfl rfl rfl (fun _ _ => yLenO Tryz.underlying67 rfl o4396) ?_
                  by_cases g4436 : (IntKind.i64.wrap ((rd x4376_0 y4399).Session - 1)) ≥ (y4394.length : Int)
                  · have H := ifT g4436 H
                    refine X.pas rfl rfl rfl (fun _ _ => yBT g4436 (yGeq rfl rfl)) ?_
                    refine X.pas rfl rfl rfl (fun _ _ => yPickF rfl rfl) ?_
                    refine X.pas rfl rfl rfl (fun _ _ => yMove rfl) ?_
                    refine X.pasSkip rfl rfl rfl ?_
                    refine X.pasSkip rfl rfl rfl ?_
                    refine X.pasSkip rfl rfl rfl ?_
                    refine X.pasSkip rfl rfl rfl ?_
                    refine X.pasSkip rfl rfl rfl ?_
                    refine X.pasSkip rfl rfl rfl ?_
                    refine X.pasSkip rfl rfl rfl ?_
                    refine X.pas rfl rfl rfl (fun _ _ => yPickT rfl rfl) ?_
                    refine X.pas rfl rfl rfl (fun _ _ => yMove rfl) ?_
                    refine X.pasSkip rfl rfl rfl ?_
                    refine X.pasSkip rfl rfl rfl ?_
                    refine X.pasSkip rfl rfl rfl ?_
                    refine X.pasSkip rfl rfl rfl ?_
                    refine X.pasSkip rfl rfl rfl ?_
                    refine X.pasSkip rfl rfl rfl ?_
                    refine X.pasSkip rfl rfl rfl ?_
                    refine X.pasSkip rfl rfl rfl ?_
                    refine X.pasSkip rfl rfl rfl ?_
                    refine X.pasSkip rfl rfl rfl ?_
                    refine X.pasSkip rfl rfl rfl ?_
                    refine X.pasSkip rfl rfl rfl ?_
                    refine X.pasSkip rfl rfl rfl ?_
                    refine X.pasSkip rfl rfl rfl ?_
                    refine X.pasSkip rfl rfl rfl ?_
                    refine X.pasSkip rfl rfl rfl ?_
                    refine X.pas rfl rfl rfl (fun _ _ => yPickT rfl rfl) ?_
                    refine X.nil ?_
                    refine At.then ?_
                    refine C.condT rfl ?_
                    refine C.seq ?_
                    refine C.region 1 rfl ?_
                    refine X.val rfl rfl rfl (yAssign rfl) trivial ?_
                    refine X.nil ?_
                    refine At.then ?_
                    refine C.ret ?_
                    refine At.thenR ?_
                    refine At.blkR ?_
                    refine At.thenR ?_
                    refine At.backR ?_
                    obtain rfl := sm H
                    have H := G4408
                    try dsimp only at H
                    refine At.blkR ?_
                    refine At.blkR ?_
                    refine At.thenR ?_
                    refine At.blkR ?_
                    refine At.thenR ?_
                    refine At.backR ?_
                    obtain rfl := sm H
                    have H := G4199
                    try dsimp only at H
                    refine At.blkR ?_
                    refine At.thenR ?_
                    obtain rfl := sm H
                    refine At.retn (rs := [.tmp 2]) [.bool false] rfl ?_ ?_
                    exact ⟨Rv.tmp rfl, trivial⟩
                    exact ⟨s4405.stp, rfl⟩
                  · have H := ifF g4436 H
                    refine X.pas rfl rfl rfl (fun _ _ => yBF g4436 (yGeq rfl rfl)) ?_
                    refine X.pas rfl rfl rfl (fun _ _ => yPickF rfl rfl) ?_
                    refine X.pas rfl rfl rfl (fun _ _ => yMove rfl) ?_
                    refine X.pas rfl rfl rfl (fun _ _ => yMove rfl) ?_
                    refine X.pas rfl rfl rfl (fun _ _ => yMove rfl) ?_
                    obtain ⟨⟨g4437, g4438⟩, H⟩ := ifS H
                    obtain ⟨b4439, k4440, c4441, c4442, c4443, e4444, f4445, l4446, l4447, r4448, w4449⟩ := Own.at o4396 g4437 g4438
                    have l4446 : c4441.length = ((IntKind.i64.wrap ((rd x4376_0 y4399).Session - 1))).toNat * 1 := l4446
                    have l4447 : c4442.length = 1 := l4447
                    obtain rfl := r4448
                    refine X.pas (v := .pointer (some ⟨b4439, 0 + ((IntKind.i64.wrap ((rd x4376_0 y4399).Session - 1))).toNat * 1, none⟩)) rfl rfl rfl (fun _ _ => yIdxS Tryz.underlying67 Tryz.sizeOf3 (by rw [← e4444]; rfl) rfl g4437 g4438) ?_
                    refine X.pas (v := .int .i64 (rd y4394 (IntKind.i64.wrap ((rd x4376_0 y4399).Session - 1)))) rfl rfl rfl (fun h' q => yLoadS (j := 0) Tryz.isAgg3 rfl (Box.rd (o := 0 + ((IntKind.i64.wrap ((rd x4376_0 y4399).Session - 1))).toNat * 1) (Box.stp f4445 q (by simp)) rfl (by rw [l4446, Nat.zero_add])) rfl rfl) ?_
                    refine X.pas (v := .pointer (some ⟨b4226, 1, none⟩)) rfl rfl rfl (fun _ _ => yField 3 1 Tryz.underlying106 Tryz.sizeOf3 rfl rfl rfl) ?_
                    have l4450 : c4212.length = 32 := (kArr 32 (kI .u8)).len r4213
                    refine X.pas (v := .int .i64 ((rd a0 y4187).Mark)) rfl rfl rfl (fun h' q => yLoadS (j := 1) Tryz.isAgg3 rfl ((f4404.stp q (by simp))).all rfl (by simp [l4450])) ?_
                    by_cases g4451 : (rd y4394 (IntKind.i64.wrap ((rd x4376_0 y4399).Session - 1))) > ((rd a0 y4187).Mark)
                    · have H := ifT g4451 H
                      refine X.pas rfl rfl rfl (fun _ _ => yBT g4451 (yGtr rfl rfl)) ?_
                      refine X.pas rfl rfl rfl (fun _ _ => yPickF rfl rfl) ?_
                      refine X.pas rfl rfl rfl (fun _ _ => yMove rfl) ?_
                      refine X.pasSkip rfl rfl rfl ?_
                      refine X.pasSkip rfl rfl rfl ?_
                      refine X.pasSkip rfl rfl rfl ?_
                      refine X.pasSkip rfl rfl rfl ?_
                      refine X.pasSkip rfl rfl rfl ?_
                      refine X.pasSkip rfl rfl rfl ?_
                      refine X.pasSkip rfl rfl rfl ?_
                      refine X.pasSkip rfl rfl rfl ?_
                      refine X.pasSkip rfl rfl rfl ?_
                      refine X.pasSkip rfl rfl rfl ?_
                      refine X.pasSkip rfl rfl rfl ?_
                      refine X.pasSkip rfl rfl rfl ?_
                      refine X.pasSkip rfl rfl rfl ?_
                      refine X.pasSkip rfl rfl rfl ?_
                      refine X.pasSkip rfl rfl rfl ?_
                      refine X.pasSkip rfl rfl rfl ?_
                      refine X.pas rfl rfl rfl (fun _ _ => yPickT rfl rfl) ?_
                      refine X.nil ?_
                      refine At.then ?_
                      refine C.condT rfl ?_
                      refine C.seq ?_
                      refine C.region 1 rfl ?_
                      refine X.val rfl rfl rfl (yAssign rfl) trivial ?_
                      refine X.nil ?_
                      refine At.then ?_
                      refine C.ret ?_
                      refine At.thenR ?_
                      refine At.blkR ?_
                      refine At.thenR ?_
                      refine At.backR ?_
                      obtain rfl := sm H
                      have H := G4408
                      try dsimp only at H
                      refine At.blkR ?_
                      refine At.blkR ?_
                      refine At.thenR ?_
                      refine At.blkR ?_
                      refine At.thenR ?_
                      refine At.backR ?_
                      obtain rfl := sm H
                      have H := G4199
                      try dsimp only at H
                      refine At.blkR ?_
                      refine At.thenR ?_
                      obtain rfl := sm H
                      refine At.retn (rs := [.tmp 2]) [.bool false] rfl ?_ ?_
                      exact ⟨Rv.tmp rfl, trivial⟩
                      exact ⟨s4405.stp, rfl⟩
                    · have H := ifF g4451 H
                      refine X.pas rfl rfl rfl (fun _ _ => yBF g4451 (yGtr rfl rfl)) ?_
                      refine X.pas rfl rfl rfl (fun _ _ => yPickF rfl rfl) ?_
                      refine X.pas rfl rfl rfl (fun _ _ => yMove rfl) ?_
                      refine X.pas rfl rfl rfl (fun _ _ => yMove rfl) ?_
                      by_cases g4452 : y4399 > 0
                      · have H := ifT g4452 H
                        refine X.pas rfl rfl rfl (fun _ _ => yBT g4452 (yGtr rfl rfl)) ?_
                        refine X.pas rfl rfl rfl (fun _ _ => yMove rfl) ?_
                        refine X.pas rfl rfl rfl (fun _ _ => yMove rfl) ?_
                        refine X.pas rfl rfl rfl (fun _ _ => yMove rfl) ?_
                        refine X.pas rfl rfl rfl (fun _ _ => ySub rfl rfl) ?_
                        obtain ⟨⟨g4453, g4454⟩, H⟩ := ifS H
                        obtain ⟨b4455, k4456, c4457, c4458, c4459, e4460, f4461, l4462, l4463, r4464, w4465⟩ := Own.at o4398 g4453 g4454
                        have l4462 : c4457.length = ((IntKind.i64.wrap (y4399 - 1))).toNat * 40 := l4462
                        have l4463 : c4458.length = 40 := l4463
                        obtain ⟨c4466, v4468, v4470, v4472, rfl, r4467, r4469, r4471, r4473⟩ := o_proto_Msg r4464
                        refine X.pas (v := .pointer (some ⟨b4455, 0 + ((IntKind.i64.wrap (y4399 - 1))).toNat * 40, none⟩)) rfl rfl rfl (fun _ _ => yIdxS Tryz.underlying112 Tryz.sizeOf77 (by rw [← e4460]; rfl) rfl g4453 g4454) ?_
                        refine X.pas (v := .pointer (some ⟨b4455, 0 + ((IntKind.i64.wrap (y4399 - 1))).toNat * 40 + 3, none⟩)) rfl rfl rfl (fun _ _ => yField 3 3 Tryz.underlying77 Tryz.sizeOf3 rfl rfl rfl) ?_
                        have l4474 : c4466.length = 32 := (kArr 32 (kI .u8)).len r4467
                        refine X.pas (v := .int .i64 ((rd x4376_0 (IntKind.i64.wrap (y4399 - 1))).Session)) rfl rfl rfl (fun h' q => yLoadS (j := 3) Tryz.isAgg3 rfl (Box.rd (o := 0 + ((IntKind.i64.wrap (y4399 - 1))).toNat * 40) (Box.stp f4461 q (by simp)) rfl (by rw [l4462, Nat.zero_add])) rfl (by simp [l4474])) ?_
                        refine X.pas rfl rfl rfl (fun _ _ => yMove rfl) ?_
                        refine X.pas rfl rfl rfl (fun _ _ => yMove rfl) ?_
                        obtain ⟨⟨g4475, g4476⟩, H⟩ := ifS H
                        obtain ⟨b4477, k4478, c4479, c4480, c4481, e4482, f4483, l4484, l4485, r4486, w4487⟩ := Own.at o4398 g4475 g4476
                        have l4484 : c4479.length = (y4399).toNat * 40 := l4484
                        have l4485 : c4480.length = 40 := l4485
                        obtain ⟨c4488, v4490, v4492, v4494, rfl, r4489, r4491, r4493, r4495⟩ := o_proto_Msg r4486
                        refine X.pas (v := .pointer (some ⟨b4477, 0 + (y4399).toNat * 40, none⟩)) rfl rfl rfl (fun _ _ => yIdxS Tryz.underlying112 Tryz.sizeOf77 (by rw [← e4482]; rfl) rfl g4475 g4476) ?_
                        refine X.pas (v := .pointer (some ⟨b4477, 0 + (y4399).toNat * 40 + 3, none⟩)) rfl rfl rfl (fun _ _ => yField 3 3 Tryz.underlying77 Tryz.sizeOf3 rfl rfl rfl) ?_
                        have l4496 : c4488.length = 32 := (kArr 32 (kI .u8)).len r4489
                        refine X.pas (v := .int .i64 ((rd x4376_0 y4399).Session)) rfl rfl rfl (fun h' q => yLoadS (j := 3) Tryz.isAgg3 rfl (Box.rd (o := 0 + (y4399).toNat * 40) (Box.stp f4483 q (by simp)) rfl (by rw [l4484, Nat.zero_add])) rfl (by simp [l4496])) ?_
                        by_cases g4497 : ((rd x4376_0 (IntKind.i64.wrap (y4399 - 1))).Session) ≥ ((rd x4376_0 y4399).Session)
                        · have H := ifT g4497 H
                          refine X.pas rfl rfl rfl (fun _ _ => yBT g4497 (yGeq rfl rfl)) ?_
                          refine X.pas rfl rfl rfl (fun _ _ => yPickT rfl rfl) ?_
                          refine X.pas rfl rfl rfl (fun _ _ => yPickF rfl rfl) ?_
                          refine X.nil ?_
                          refine At.then ?_
                          refine C.condT rfl ?_
                          refine C.seq ?_
                          refine C.region 1 rfl ?_
                          refine X.val rfl rfl rfl (yAssign rfl) trivial ?_
                          refine X.nil ?_
                          refine At.then ?_
                          refine C.ret ?_
                          refine At.thenR ?_
                          refine At.blkR ?_
                          refine At.thenR ?_
                          refine At.backR ?_
                          obtain rfl := sm H
                          have H := G4408
                          try dsimp only at H
                          refine At.blkR ?_
                          refine At.blkR ?_
                          refine At.thenR ?_
                          refine At.blkR ?_
                          refine At.thenR ?_
                          refine At.backR ?_
                          obtain rfl := sm H
                          have H := G4199
                          try dsimp only at H
                          refine At.blkR ?_
                          refine At.thenR ?_
                          obtain rfl := sm H
                          refine At.retn (rs := [.tmp 2]) [.bool false] rfl ?_ ?_
                          exact ⟨Rv.tmp rfl, trivial⟩
                          exact ⟨s4405.stp, rfl⟩
                        · have H := ifF g4497 H
                          refine X.pas rfl rfl rfl (fun _ _ => yBF g4497 (yGeq rfl rfl)) ?_
                          refine X.pas rfl rfl rfl (fun _ _ => yPickT rfl rfl) ?_
                          refine X.pas rfl rfl rfl (fun _ _ => yPickF rfl rfl) ?_
                          refine X.nil ?_
                          refine At.then ?_
                          refine C.condF rfl ?_
                          refine C.skip ?_
                          refine At.then ?_
                          refine C.region 4 rfl ?_
                          refine X.val rfl rfl rfl (yMove rfl) trivial ?_
                          refine X.val rfl rfl rfl (yMove rfl) trivial ?_
                          obtain ⟨⟨g4498, g4499⟩, H⟩ := ifS H
                          obtain ⟨b4500, k4501, c4502, c4503, c4504, e4505, f4506, l4507, l4508, r4509, w4510⟩ := Own.at o4396 g4498 g4499
                          have l4507 : c4502.length = ((IntKind.i64.wrap ((rd x4376_0 y4399).Session - 1))).toNat * 1 := l4507
                          have l4508 : c4503.length = 1 := l4508
                          obtain rfl := r4509
                          refine X.val (v := .pointer (some ⟨b4500, 0 + ((IntKind.i64.wrap ((rd x4376_0 y4399).Session - 1))).toNat * 1, none⟩)) rfl rfl rfl (yIdxS Tryz.underlying67 Tryz.sizeOf3 (by rw [← e4505]; rfl) rfl g4498 g4499) trivial ?_
                          refine X.ef rfl rfl rfl (eStore (vs := ((.int .i64 1152921504606846976 : Value) :: [] : List Value)) Tryz.sizeOf3 rfl rfl rfl (by simp []) (by simp [ones, ones_append, oInt, oBool, oStr, oSl, oPtr]) f4506 (by simp [l4507] <;> omega)) ?_
                          rintro _ h4512 ⟨rfl, e4513⟩
                          have f4517 : Box h4512 b4500 3 (c4502 ++ (((.int .i64 1152921504606846976 : Value) :: [] : List Value) ++ c4504)) := by subst e4513; exact Box.reset f4506 (by have k := splice_mid ((.int .i64 1152921504606846976 : Value) :: [] : List Value) ((.int .i64 (rd y4394 (IntKind.i64.wrap ((rd x4376_0 y4399).Session - 1))) : Value) :: [] : List Value) (c4502 ++ ([] : List Value)) (([] : List Value) ++ c4504) (by simp []); simp [l4507] at k; simpa [Nat.add_assoc] using k)
                          have p4514 : Stp [v4395.ownBlock] h4392 h4512 := by subst e4513; rw [e4505]; exact Stp.set _
                          have s4515 := s4405.step p4514 (by simp)
                          have t4516 := s4405.tr p4514 (by simp) (fun _ hb => hb)
                          clear e4513
                          have o4518 := w4510 h4512 I4393 ((.int .i64 1152921504606846976 : Value) :: [] : List Value) 1152921504606846976 t4516 ((kI .i64).mono (cs := ((.int .i64 1152921504606846976 : Value) :: [] : List Value)) (x := 1152921504606846976) (by exact rfl) t4516) f4517
                          refine ⟨trivial, ?_⟩
                          refine X.nil ?_
                          refine At.blkN ?_
                          refine At.then ?_
                          refine C.region 3 rfl ?_
                          refine X.val rfl rfl rfl (yMove rfl) trivial ?_
                          refine X.val rfl rfl rfl (yAdd rfl rfl) trivial ?_
                          refine X.val rfl rfl rfl (yAssign rfl) trivial ?_
                          refine X.nil ?_
                          have o4519 := (o4398.stp t4516 p4514 (s4405.sep 3 [5] rfl rfl rfl))
                          have b4520 := (f4400.stp p4514 ((s4405.sep 0 [5] rfl rfl rfl) _ rfl))
                          have o4521 := (o4401.stp t4516 p4514 (s4405.sep 1 [5] rfl rfl rfl))
                          have o4522 := (o4402.stp t4516 p4514 (s4405.sep 2 [5] rfl rfl rfl))
                          have b4523 := (f4404.stp p4514 ((s4405.sep 4 [5] rfl rfl rfl) _ rfl))
                          refine At.back [(0, v_a0), (3, .pointer (some ⟨b4170, 0, none⟩)), (4, .int .i64 y4182), (5, .int .i64 (IntKind.i64.wrap (y4183 + (x4376_0.length : Int)))), (6, v4395), (7, .int .i64 y4187), (8, .pointer (some ⟨b4226, 0, none⟩)), (10, v4389), (11, .int .i64 (IntKind.i64.wrap (y4399 + 1)))] (fun a ha => (.cons ha rfl (.cons ha rfl (.cons ha rfl (.cons ha rfl (.cons ha rfl (.cons ha rfl (.cons ha rfl (.cons ha rfl (.cons ha rfl ha.nil)))))))))) ?_
                          exact ⟨(wr y4394 (IntKind.i64.wrap ((rd x4376_0 y4399).Session - 1)) 1152921504606846976), (IntKind.i64.wrap (y4399 + 1)), v4395, I4393, rfl, s4515, (t4406.trans t4516), o4518, o4519, o4521, o4522, b4520, b4523, H⟩
                      · have H := ifF g4452 H
                        refine X.pas rfl rfl rfl (fun _ _ => yBF g4452 (yGtr rfl rfl)) ?_
                        refine X.pas rfl rfl rfl (fun _ _ => yMove rfl) ?_
                        refine X.pasSkip rfl rfl rfl ?_
                        refine X.pasSkip rfl rfl rfl ?_
                        refine X.pasSkip rfl rfl rfl ?_
                        refine X.pasSkip rfl rfl rfl ?_
                        refine X.pasSkip rfl rfl rfl ?_
                        refine X.pasSkip rfl rfl rfl ?_
                        refine X.pasSkip rfl rfl rfl ?_
                        refine X.pasSkip rfl rfl rfl ?_
                        refine X.pasSkip rfl rfl rfl ?_
                        refine X.pasSkip rfl rfl rfl ?_
                        refine X.pasSkip rfl rfl rfl ?_
                        refine X.pasSkip rfl rfl rfl ?_
                        refine X.pas rfl rfl rfl (fun _ _ => yPickF rfl rfl) ?_
                        refine X.pas rfl rfl rfl (fun _ _ => yPickF rfl rfl) ?_
                        refine X.nil ?_
                        refine At.then ?_
                        refine C.condF rfl ?_
                        refine C.skip ?_
                        refine At.then ?_
                        refine C.region 4 rfl ?_
                        refine X.val rfl rfl rfl (yMove rfl) trivial ?_
                        refine X.val rfl rfl rfl (yMove rfl) trivial ?_
                        obtain ⟨⟨g4524, g4525⟩, H⟩ := ifS H
                        obtain ⟨b4526, k4527, c4528, c4529, c4530, e4531, f4532, l4533, l4534, r4535, w4536⟩ := Own.at o4396 g4524 g4525
                        have l4533 : c4528.length = ((IntKind.i64.wrap ((rd x4376_0 y4399).Session - 1))).toNat * 1 := l4533
                        have l4534 : c4529.length = 1 := l4534
                        obtain rfl := r4535
                        refine X.val (v := .pointer (some ⟨b4526, 0 + ((IntKind.i64.wrap ((rd x4376_0 y4399).Session - 1))).toNat * 1, none⟩)) rfl rfl rfl (yIdxS Tryz.underlying67 Tryz.sizeOf3 (by rw [← e4531]; rfl) rfl g4524 g4525) trivial ?_
                        refine X.ef rfl rfl rfl (eStore (vs := ((.int .i64 1152921504606846976 : Value) :: [] : List Value)) Tryz.sizeOf3 rfl rfl rfl (by simp []) (by simp [ones, ones_append, oInt, oBool, oStr, oSl, oPtr]) f4532 (by simp [l4533] <;> omega)) ?_
                        rintro _ h4538 ⟨rfl, e4539⟩
                        have f4543 : Box h4538 b4526 3 (c4528 ++ (((.int .i64 1152921504606846976 : Value) :: [] : List Value) ++ c4530)) := by subst e4539; exact Box.reset f4532 (by have k := splice_mid ((.int .i64 1152921504606846976 : Value) :: [] : List Value) ((.int .i64 (rd y4394 (IntKind.i64.wrap ((rd x4376_0 y4399).Session - 1))) : Value) :: [] : List Value) (c4528 ++ ([] : List Value)) (([] : List Value) ++ c4530) (by simp []); simp [l4533] at k; simpa [Nat.add_assoc] using k)
                        have p4540 : Stp [v4395.ownBlock] h4392 h4538 := by subst e4539; rw [e4531]; exact Stp.set _
                        have s4541 := s4405.step p4540 (by simp)
                        have t4542 := s4405.tr p4540 (by simp) (fun _ hb => hb)
                        clear e4539
                        have o4544 := w4536 h4538 I4393 ((.int .i64 1152921504606846976 : Value) :: [] : List Value) 1152921504606846976 t4542 ((kI .i64).mono (cs := ((.int .i64 1152921504606846976 : Value) :: [] : List Value)) (x := 1152921504606846976) (by exact rfl) t4542) f4543
                        refine ⟨trivial, ?_⟩
                        refine X.nil ?_
                        refine At.blkN ?_
                        refine At.then ?_
                        refine C.region 3 rfl ?_
                        refine X.val rfl rfl rfl (yMove rfl) trivial ?_
                        refine X.val rfl rfl rfl (yAdd rfl rfl) trivial ?_
                        refine X.val rfl rfl rfl (yAssign rfl) trivial ?_
                        refine X.nil ?_
                        have o4545 := (o4398.stp t4542 p4540 (s4405.sep 3 [5] rfl rfl rfl))
                        have b4546 := (f4400.stp p4540 ((s4405.sep 0 [5] rfl rfl rfl) _ rfl))
                        have o4547 := (o4401.stp t4542 p4540 (s4405.sep 1 [5] rfl rfl rfl))
                        have o4548 := (o4402.stp t4542 p4540 (s4405.sep 2 [5] rfl rfl rfl))
                        have b4549 := (f4404.stp p4540 ((s4405.sep 4 [5] rfl rfl rfl) _ rfl))
                        refine At.back [(0, v_a0), (3, .pointer (some ⟨b4170, 0, none⟩)), (4, .int .i64 y4182), (5, .int .i64 (IntKind.i64.wrap (y4183 + (x4376_0.length : Int)))), (6, v4395), (7, .int .i64 y4187), (8, .pointer (some ⟨b4226, 0, none⟩)), (10, v4389), (11, .int .i64 (IntKind.i64.wrap (y4399 + 1)))] (fun a ha => (.cons ha rfl (.cons ha rfl (.cons ha rfl (.cons ha rfl (.cons ha rfl (.cons ha rfl (.cons ha rfl (.cons ha rfl (.cons ha rfl ha.nil)))))))))) ?_
                        exact ⟨(wr y4394 (IntKind.i64.wrap ((rd x4376_0 y4399).Session - 1)) 1152921504606846976), (IntKind.i64.wrap (y4399 + 1)), v4395, I4393, rfl, s4541, (t4406.trans t4542), o4544, o4545, o4547, o4548, b4546, b4549, H⟩
              · have H := ifF g4411 H
                refine X.val rfl rfl rfl (yBF g4411 (yLss rfl rfl)) trivial ?_
                refine X.nil ?_
                refine At.then ?_
                refine C.condF rfl ?_
                refine C.exit ?_
                refine At.thenE ?_
                refine At.backE ?_
                obtain rfl := sm H
                have H := G4408
                try dsimp only at H
                refine At.blkE ?_
                refine At.blkN ?_
                refine At.then ?_
                refine C.seq ?_
                refine C.region 7 rfl ?_
                refine X.val rfl rfl rfl (yMove rfl) trivial ?_
                obtain ⟨x4550, e4551, H⟩ := bnd H
                have s4556 : St [] h I h4392 I4393 ([some b4170, v4385.ownBlock, v4387.ownBlock] ++ [v4389.ownBlock, some b4226, v4395.ownBlock]) := s4405.pick [0, 1, 2, 3, 4, 5] rfl (by decide) (by rintro (_ | _ | _ | _ | _ | _ | i) m h <;> first | exact h | (simp at h))
                refine X.call (all := [.pointer (some ⟨b4170, 0, none⟩)]) Tryz.call51 rfl rfl rfl rfl rfl rfl (c_outbox_Box_Waits s4556.left.lend f4400 o4401 o4402 e4551) ?_
                obtain ⟨x4550_0, x4550_1, x4550_2⟩ := x4550
                rintro _ h4552 ⟨I4557, v4559, v4561, k4563, rfl, f4558, o4560, o4562⟩
                have s4554 : St [] h I h4552 I4557 [some b4170, v4559.ownBlock, v4561.ownBlock, v4389.ownBlock, some b4226, v4395.ownBlock] := St.callS (L := [some b4170, v4385.ownBlock, v4387.ownBlock]) (R := [v4389.ownBlock, some b4226, v4395.ownBlock]) (L' := [some b4170, v4559.ownBlock, v4561.ownBlock]) s4556 k4563
                have t4555 : Tr I4393 h4392 I4557 h4552 := St.callSTr (L := [some b4170, v4385.ownBlock, v4387.ownBlock]) (R := [v4389.ownBlock, some b4226, v4395.ownBlock]) (L' := [some b4170, v4559.ownBlock, v4561.ownBlock]) s4556 k4563
                have p4553 := k4563.stp
                refine ⟨trivial, ?_⟩
                refine X.val rfl rfl rfl (yMove rfl) trivial ?_
                refine X.val rfl rfl rfl (yExtract rfl rfl) trivial ?_
                refine X.val rfl rfl rfl (yExtract rfl rfl) trivial ?_
                refine X.val rfl rfl rfl (yAssign rfl) trivial ?_
                refine X.val rfl rfl rfl (yAssign rfl) trivial ?_
                refine X.nil ?_
                refine At.then ?_
                refine C.seq ?_
                refine C.region 8 rfl ?_
                refine X.val rfl rfl rfl (yMove rfl) trivial ?_
                refine X.val rfl rfl rfl (yMove rfl) trivial ?_
                refine X.val rfl rfl rfl (yAdd rfl rfl) trivial ?_
                refine X.val rfl rfl rfl (yMove rfl) trivial ?_
                obtain ⟨x4564, e4565, H⟩ := bnd H
                have s4570 : St [] h I h4552 I4557 ([some b4170, v4559.ownBlock, v4561.ownBlock] ++ [v4389.ownBlock, some b4226, v4395.ownBlock]) := s4554.pick [0, 1, 2, 3, 4, 5] rfl (by decide) (by rintro (_ | _ | _ | _ | _ | _ | i) m h <;> first | exact h | (simp at h))
                refine X.call (all := [.pointer (some ⟨b4170, 0, none⟩)]) Tryz.call52 rfl rfl rfl rfl rfl rfl (c_outbox_Box_Lost s4570.left.lend f4558 o4560 o4562 e4565) ?_
                obtain ⟨x4564_0, x4564_1⟩ := x4564
                rintro _ h4566 ⟨I4571, v4573, v4575, k4577, rfl, f4572, o4574, o4576⟩
                have s4568 : St [] h I h4566 I4571 [some b4170, v4573.ownBlock, v4575.ownBlock, v4389.ownBlock, some b4226, v4395.ownBlock] := St.callS (L := [some b4170, v4559.ownBlock, v4561.ownBlock]) (R := [v4389.ownBlock, some b4226, v4395.ownBlock]) (L' := [some b4170, v4573.ownBlock, v4575.ownBlock]) s4570 k4577
                have t4569 : Tr I4557 h4552 I4571 h4566 := St.callSTr (L := [some b4170, v4559.ownBlock, v4561.ownBlock]) (R := [v4389.ownBlock, some b4226, v4395.ownBlock]) (L' := [some b4170, v4573.ownBlock, v4575.ownBlock]) s4570 k4577
                have p4567 := k4577.stp
                refine ⟨trivial, ?_⟩
                refine X.val rfl rfl rfl (yAdd rfl rfl) trivial ?_
                refine X.val rfl rfl rfl (yMove rfl) trivial ?_
                by_cases g4578 : (IntKind.i64.wrap ((IntKind.i64.wrap (x4550_0 + (IntKind.i64.wrap (y4183 + (x4376_0.length : Int))))) + x4564_0)) ≠ y4182
                · have H := ifT g4578 H
                  refine X.val rfl rfl rfl (yBT g4578 (yNeq rfl rfl)) trivial ?_
                  refine X.nil ?_
                  refine At.then ?_
                  refine C.condT rfl ?_
                  refine C.seq ?_
                  refine C.region 1 rfl ?_
                  refine X.val rfl rfl rfl (yAssign rfl) trivial ?_
                  refine X.nil ?_
                  refine At.then ?_
                  refine C.ret ?_
                  refine At.blkR ?_
                  refine At.thenR ?_
                  refine At.backR ?_
                  obtain rfl := sm H
                  have H := G4199
                  try dsimp only at H
                  refine At.blkR ?_
                  refine At.thenR ?_
                  obtain rfl := sm H
                  refine At.retn (rs := [.tmp 2]) [.bool false] rfl ?_ ?_
                  exact ⟨Rv.tmp rfl, trivial⟩
                  exact ⟨s4568.stp, rfl⟩
                · have H := ifF g4578 H
                  refine X.val rfl rfl rfl (yBF g4578 (yNeq rfl rfl)) trivial ?_
                  refine X.nil ?_
                  refine At.then ?_
                  refine C.condF rfl ?_
                  refine C.skip ?_
                  refine At.blkN ?_
                  refine At.then ?_
                  refine C.region 3 rfl ?_
                  refine X.val rfl rfl rfl (yMove rfl) trivial ?_
                  refine X.val rfl rfl rfl (yAdd rfl rfl) trivial ?_
                  refine X.val rfl rfl rfl (yAssign rfl) trivial ?_
                  refine X.nil ?_
                  have o4579 := ((o4396.stp t4555 p4553 (s4405.sep 5 [0, 1, 2] rfl rfl rfl)).stp t4569 p4567 (s4554.sep 5 [0, 1, 2] rfl rfl rfl))
                  have s4580 : St [] h I h4566 I4571 [v4395.ownBlock, some b4170, v4573.ownBlock, v4575.ownBlock] := s4568.pick [5, 0, 1, 2] rfl (by decide) (by rintro (_ | _ | _ | _ | i) m h <;> first | exact h | (simp at h))
                  refine At.back [(0, v_a0), (3, .pointer (some ⟨b4170, 0, none⟩)), (4, .int .i64 y4182), (5, .int .i64 (IntKind.i64.wrap (y4183 + (x4376_0.length : Int)))), (6, v4395), (7, .int .i64 (IntKind.i64.wrap (y4187 + 1)))] (fun a ha => (.cons ha rfl (.cons ha rfl (.cons ha rfl (.cons ha rfl (.cons ha rfl (.cons ha rfl ha.nil))))))) ?_
                  exact ⟨y4182, (IntKind.i64.wrap (y4183 + (x4376_0.length : Int))), y4394, (IntKind.i64.wrap (y4187 + 1)), x4564_1, v4395, v4573, v4575, I4571, rfl, s4580, (t4197.trans (t4228.trans (t4239.trans (t4381.trans (t4406.trans (t4555.trans t4569)))))), o4579, o4574, o4576, f4572, H⟩
          · have H := ifF g4371 H
            refine X.val rfl rfl rfl (yBF g4371 (yEql rfl rfl)) trivial ?_
            refine X.val rfl rfl rfl (yAssign rfl) trivial ?_
            refine X.nil ?_
            refine At.then ?_
            refine C.condF rfl ?_
            refine C.skip ?_
            refine At.blkN ?_
            refine At.then ?_
            refine C.seq ?_
            refine C.region 7 rfl ?_
            refine X.val rfl rfl rfl (yMove rfl) trivial ?_
            have b4614 := ((f4188.stp p4229 (by simp)).stp p4237 ((s4230.sep 2 [0] rfl rfl rfl) _ rfl))
            have o4615 := ((o4191.stp t4228 p4229 (by simp)).stp t4239 p4237 (s4230.sep 3 [0] rfl rfl rfl))
            have o4616 := ((o4194.stp t4228 p4229 (by simp)).stp t4239 p4237 (s4230.sep 4 [0] rfl rfl rfl))
            obtain ⟨x4617, e4618, H⟩ := bnd H
            have s4623 : St [] h I h4235 I4181 ([some b4170, v4190.ownBlock, v4193.ownBlock] ++ [some b4226, v4185.ownBlock]) := s4238.pick [2, 3, 4, 0, 1] rfl (by decide) (by rintro (_ | _ | _ | _ | _ | i) m h <;> first | exact h | (simp at h))
            refine X.call (all := [.pointer (some ⟨b4170, 0, none⟩)]) Tryz.call51 rfl rfl rfl rfl rfl rfl (c_outbox_Box_Waits s4623.left.lend b4614 o4615 o4616 e4618) ?_
            obtain ⟨x4617_0, x4617_1, x4617_2⟩ := x4617
            rintro _ h4619 ⟨I4624, v4626, v4628, k4630, rfl, f4625, o4627, o4629⟩
            have s4621 : St [] h I h4619 I4624 [some b4170, v4626.ownBlock, v4628.ownBlock, some b4226, v4185.ownBlock] := St.callS (L := [some b4170, v4190.ownBlock, v4193.ownBlock]) (R := [some b4226, v4185.ownBlock]) (L' := [some b4170, v4626.ownBlock, v4628.ownBlock]) s4623 k4630
            have t4622 : Tr I4181 h4235 I4624 h4619 := St.callSTr (L := [some b4170, v4190.ownBlock, v4193.ownBlock]) (R := [some b4226, v4185.ownBlock]) (L' := [some b4170, v4626.ownBlock, v4628.ownBlock]) s4623 k4630
            have p4620 := k4630.stp
            refine ⟨trivial, ?_⟩
            refine X.val rfl rfl rfl (yMove rfl) trivial ?_
            refine X.val rfl rfl rfl (yExtract rfl rfl) trivial ?_
            refine X.val rfl rfl rfl (yExtract rfl rfl) trivial ?_
            refine X.val rfl rfl rfl (yAssign rfl) trivial ?_
            refine X.val rfl rfl rfl (yAssign rfl) trivial ?_
            refine X.nil ?_
            refine At.then ?_
            refine C.seq ?_
            refine C.region 8 rfl ?_
            refine X.val rfl rfl rfl (yMove rfl) trivial ?_
            refine X.val rfl rfl rfl (yMove rfl) trivial ?_
            refine X.val rfl rfl rfl (yAdd rfl rfl) trivial ?_
            refine X.val rfl rfl rfl (yMove rfl) trivial ?_
            obtain ⟨x4631, e4632, H⟩ := bnd H
            have s4637 : St [] h I h4619 I4624 ([some b4170, v4626.ownBlock, v4628.ownBlock] ++ [some b4226, v4185.ownBlock]) := s4621.pick [0, 1, 2, 3, 4] rfl (by decide) (by rintro (_ | _ | _ | _ | _ | i) m h <;> first | exact h | (simp at h))
            refine X.call (all := [.pointer (some ⟨b4170, 0, none⟩)]) Tryz.call52 rfl rfl rfl rfl rfl rfl (c_outbox_Box_Lost s4637.left.lend f4625 o4627 o4629 e4632) ?_
            obtain ⟨x4631_0, x4631_1⟩ := x4631
            rintro _ h4633 ⟨I4638, v4640, v4642, k4644, rfl, f4639, o4641, o4643⟩
            have s4635 : St [] h I h4633 I4638 [some b4170, v4640.ownBlock, v4642.ownBlock, some b4226, v4185.ownBlock] := St.callS (L := [some b4170, v4626.ownBlock, v4628.ownBlock]) (R := [some b4226, v4185.ownBlock]) (L' := [some b4170, v4640.ownBlock, v4642.ownBlock]) s4637 k4644
            have t4636 : Tr I4624 h4619 I4638 h4633 := St.callSTr (L := [some b4170, v4626.ownBlock, v4628.ownBlock]) (R := [some b4226, v4185.ownBlock]) (L' := [some b4170, v4640.ownBlock, v4642.ownBlock]) s4637 k4644
            have p4634 := k4644.stp
            refine ⟨trivial, ?_⟩
            refine X.val rfl rfl rfl (yAdd rfl rfl) trivial ?_
            refine X.val rfl rfl rfl (yMove rfl) trivial ?_
            by_cases g4645 : (IntKind.i64.wrap ((IntKind.i64.wrap (x4617_0 + y4183)) + x4631_0)) ≠ y4182
            · have H := ifT g4645 H
              refine X.val rfl rfl rfl (yBT g4645 (yNeq rfl rfl)) trivial ?_
              refine X.nil ?_
              refine At.then ?_
              refine C.condT rfl ?_
              refine C.seq ?_
              refine C.region 1 rfl ?_
              refine X.val rfl rfl rfl (yAssign rfl) trivial ?_
              refine X.nil ?_
              refine At.then ?_
              refine C.ret ?_
              refine At.blkR ?_
              refine At.thenR ?_
              refine At.backR ?_
              obtain rfl := sm H
              have H := G4199
              try dsimp only at H
              refine At.blkR ?_
              refine At.thenR ?_
              obtain rfl := sm H
              refine At.retn (rs := [.tmp 2]) [.bool false] rfl ?_ ?_
              exact ⟨Rv.tmp rfl, trivial⟩
              exact ⟨s4635.stp, rfl⟩
            · have H := ifF g4645 H
              refine X.val rfl rfl rfl (yBF g4645 (yNeq rfl rfl)) trivial ?_
              refine X.nil ?_
              refine At.then ?_
              refine C.condF rfl ?_
              refine C.skip ?_
              refine At.blkN ?_
              refine At.then ?_
              refine C.region 3 rfl ?_
              refine X.val rfl rfl rfl (yMove rfl) trivial ?_
              refine X.val rfl rfl rfl (yAdd rfl rfl) trivial ?_
              refine X.val rfl rfl rfl (yAssign rfl) trivial ?_
              refine X.nil ?_
              have o4646 := ((((o4186.stp t4228 p4229 (by simp)).stp t4239 p4237 (s4230.sep 1 [0] rfl rfl rfl)).stp t4622 p4620 (s4238.sep 1 [2, 3, 4] rfl rfl rfl)).stp t4636 p4634 (s4621.sep 4 [0, 1, 2] rfl rfl rfl))
              have s4647 : St [] h I h4633 I4638 [v4185.ownBlock, some b4170, v4640.ownBlock, v4642.ownBlock] := s4635.pick [4, 0, 1, 2] rfl (by decide) (by rintro (_ | _ | _ | _ | i) m h <;> first | exact h | (simp at h))
              refine At.back [(0, v_a0), (3, .pointer (some ⟨b4170, 0, none⟩)), (4, .int .i64 y4182), (5, .int .i64 y4183), (6, v4185), (7, .int .i64 (IntKind.i64.wrap (y4187 + 1)))] (fun a ha => (.cons ha rfl (.cons ha rfl (.cons ha rfl (.cons ha rfl (.cons ha rfl (.cons ha rfl ha.nil))))))) ?_
              exact ⟨y4182, y4183, y4184, (IntKind.i64.wrap (y4187 + 1)), x4631_1, v4185, v4640, v4642, I4638, rfl, s4647, (t4197.trans (t4228.trans (t4239.trans (t4622.trans t4636)))), o4646, o4641, o4643, f4639, H⟩
      · have H := ifF g4202 H
        refine X.val rfl rfl rfl (yBF g4202 (yLss rfl rfl)) trivial ?_
        refine X.nil ?_
        refine At.then ?_
        refine C.condF rfl ?_
        refine C.exit ?_
        refine At.thenE ?_
        refine At.backE ?_
        obtain rfl := sm H
        have H := G4199
        try dsimp only at H
        refine At.blkE ?_
        refine At.then ?_
        refine C.seq ?_
        refine C.region 2 rfl ?_
        obtain ⟨x4648, e4649, H⟩ := bnd H
        refine X.call (all := []) Tryz.call49 rfl rfl rfl rfl rfl rfl (c_maundlaw29_alive s4196.ib  e4649) ?_
        rintro _ h4650 ⟨p4651, rfl⟩
        have s4652 := s4196.call p4651
        have t4653 := s4196.callTr p4651
        refine ⟨trivial, ?_⟩
        refine X.val rfl rfl rfl (yAssign rfl) trivial ?_
        refine X.nil ?_
        refine At.then ?_
        refine C.ret ?_
        obtain rfl := sm H
        refine At.retn (rs := [.tmp 2]) [.bool x4648] rfl ?_ ?_
        exact ⟨Rv.tmp rfl, trivial⟩
        exact ⟨s4652.stp, rfl⟩
  · have H := biT H
    refine C.condT rfl ?_
    refine C.seq ?_
    refine C.region 2 rfl ?_
    obtain ⟨x4156, e4157, H⟩ := bnd H
    refine X.call (all := []) Tryz.call49 rfl rfl rfl rfl rfl rfl (c_maundlaw29_alive s4154.ib  e4157) ?_
    rintro _ h4158 ⟨p4159, rfl⟩
    have s4160 := s4154.call p4159
    have t4161 := s4154.callTr p4159
    refine ⟨trivial, ?_⟩
    refine X.val rfl rfl rfl (yAssign rfl) trivial ?_
    refine X.nil ?_
    refine At.then ?_
    refine C.ret ?_
    refine At.thenR ?_
    obtain rfl := sm H
    refine At.retn (rs := [.tmp 2]) [.bool x4156] rfl ?_ ?_
    exact ⟨Rv.tmp rfl, trivial⟩
    exact ⟨s4160.stp, rfl⟩



end Go.Mw
