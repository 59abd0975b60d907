/- Proved here: what functions of the program that OutboxMarks reaches compute; no condition. -/
import Derived.Test.YtbpeidblbebjpaaGreatGOutboxMarks0
import Derived.Test.YtbpeidblbebjpaaGreatProg
import Derived.KernelRfl
namespace Go.Mw
set_option linter.unusedVariables false
set_option linter.unusedSimpArgs false
open Go Go.Proofs
variable [Sky]
def p_proto_own (a0 : proto_Msg) : Option (proto_Msg) :=
  (if a0.Kind = 1 then some (⟨a0.Kind, a0.From, a0.To, a0.Session, a0.Part, a0.Digest, ([] : (List Int)), ([] : (List (List Int))), ([] : (List pack_Keyed))⟩ : proto_Msg) else (if a0.Kind = 2 then some (⟨a0.Kind, a0.From, a0.To, a0.Session, a0.Part, (List.replicate 32 (0 : Int)), a0.Places, ([] : (List (List Int))), ([] : (List pack_Keyed))⟩ : proto_Msg) else (if a0.Kind = 3 then some (⟨a0.Kind, a0.From, a0.To, a0.Session, a0.Part, (List.replicate 32 (0 : Int)), a0.Places, ([] : (List (List Int))), a0.Carts⟩ : proto_Msg) else (if a0.Kind = 6 then some (⟨a0.Kind, a0.From, a0.To, a0.Session, a0.Part, (List.replicate 32 (0 : Int)), a0.Places, ([] : (List (List Int))), a0.Carts⟩ : proto_Msg) else (if a0.Kind = 5 then some (⟨a0.Kind, a0.From, a0.To, a0.Session, a0.Part, (List.replicate 32 (0 : Int)), a0.Places, a0.Digests, ([] : (List pack_Keyed))⟩ : proto_Msg) else (if a0.Kind = 7 then some (⟨a0.Kind, a0.From, a0.To, 0, 0, (List.replicate 32 (0 : Int)), ([] : (List Int)), ([] : (List (List Int))), a0.Carts⟩ : proto_Msg) else some (⟨a0.Kind, a0.From, a0.To, a0.Session, a0.Part, (List.replicate 32 (0 : Int)), ([] : (List Int)), ([] : (List (List Int))), ([] : (List pack_Keyed))⟩ : proto_Msg)))))))
theorem c_proto_own {h : Heap} {I : Nat → Prop} (hI : ∀ b, I b → b < h.size) {c_a0 : List Value} {a0 : proto_Msg} (r_a0 : (k_proto_Msg).rp I h c_a0 a0) {r : (proto_Msg)} (H : p_proto_own a0 = some r) :
    Fn Tryz.prog 157 [.agg c_a0.toArray] h (fun v h' => Stp [] h h' ∧ ∃ (u0 : List Value), v = (.agg u0.toArray : Value) ∧ (k_proto_Msg).rp (Ex I h h') h' u0 r) := by
  unfold p_proto_own at H
  obtain ⟨c897, v899, v901, v903, rfl, r898, r900, r902, r904⟩ := o_proto_Msg r_a0
  refine Fn.of 52 Tryz.func157 rfl rfl ?_
  have s0 := St.start hI
  refine C.seq ?_
  refine C.region 2 rfl ?_
  refine X.ef rfl rfl rfl (eBox (cs := ((.int .i64 a0.Kind : Value) :: (.int .i64 a0.From : Value) :: (.int .i64 a0.To : Value) :: (.int .i64 a0.Session : Value) :: (.int .i64 a0.Part : Value) :: c897 ++ (v899 :: v901 :: v903 :: []) : List Value)) rfl rfl) ?_
  rintro _ h906 ⟨rfl, e911⟩
  obtain ⟨b905, e911b⟩ : ∃ b, b = h.size := ⟨_, rfl⟩
  rw [← e911b]
  have f910 : Box h906 b905 77 ((.int .i64 a0.Kind : Value) :: (.int .i64 a0.From : Value) :: (.int .i64 a0.To : Value) :: (.int .i64 a0.Session : Value) :: (.int .i64 a0.Part : Value) :: c897 ++ (v899 :: v901 :: v903 :: []) : List Value) := by subst e911; subst e911b; exact Box.new _ _ _
  have p908 : Stp [] h h906 := by subst e911; exact Stp.push _ _
  have s909 : St [] h I h906 I (some b905 :: []) := by subst e911; subst e911b; exact s0.new _
  have t907 := s0.tr p908 (by simp) (fun _ hb => hb)
  clear e911 e911b
  refine ⟨trivial, ?_⟩
  obtain ⟨c912, e913⟩ : ∃ c : List Value, c = (List.replicate 32 (.int .u8 0 : Value)) := ⟨_, rfl⟩
  have r914 : (kArr 32 (kI .u8)).rp I h906 c912 (List.replicate 32 (0 : Int)) := by rw [e913]; exact z_T65
  refine X.ef rfl rfl rfl (eAlloc (zs := ((.int .i64 0 : Value) :: (.int .i64 0 : Value) :: (.int .i64 0 : Value) :: (.int .i64 0 : Value) :: (.int .i64 0 : Value) :: (List.replicate 32 (.int .u8 0 : Value)) ++ ((.slice none 0 0 : Value) :: (.slice none 0 0 : Value) :: (.slice none 0 0 : Value) :: []) : List Value)) Tryz.zeroValue77 rfl) ?_
  rintro _ h916 ⟨rfl, e921⟩
  obtain ⟨b915, e921b⟩ : ∃ b, b = h906.size := ⟨_, rfl⟩
  rw [← e921b]
  have f920 : Box h916 b915 77 ((.int .i64 0 : Value) :: (.int .i64 0 : Value) :: (.int .i64 0 : Value) :: (.int .i64 0 : Value) :: (.int .i64 0 : Value) :: c912 ++ ((.slice none 0 0 : Value) :: (.slice none 0 0 : Value) :: (.slice none 0 0 : Value) :: []) : List Value) := by subst e921; subst e921b; rw [e913]; exact Box.new _ _ _
  have p918 : Stp [] h906 h916 := by subst e921; exact Stp.push _ _
  have s919 : St [] h I h916 I (some b915 :: [some b905]) := by subst e921; subst e921b; exact s909.new _
  have t917 := s909.tr p918 (by simp) (fun _ hb => hb)
  clear e921 e921b
  refine ⟨trivial, ?_⟩
  refine X.nil ?_
  refine At.then ?_
  refine C.seq ?_
  refine C.region 13 rfl ?_
  refine X.val (v := .pointer (some ⟨b905, 0, none⟩)) rfl rfl rfl (yField 3 0 Tryz.underlying77 Tryz.sizeOf3 rfl rfl rfl) trivial ?_
  have b922 := (f910.stp p918 (by simp))
  have l923 : c897.length = 32 := (kArr 32 (kI .u8)).len r898
  refine X.val (v := .int .i64 a0.Kind) rfl rfl rfl (yLoadS (j := 0) Tryz.isAgg3 rfl (b922).all rfl (by simp [l923])) trivial ?_
  refine X.val (v := .pointer (some ⟨b905, 1, none⟩)) rfl rfl rfl (yField 3 1 Tryz.underlying77 Tryz.sizeOf3 rfl rfl rfl) trivial ?_
  have l924 : c897.length = 32 := (kArr 32 (kI .u8)).len r898
  refine X.val (v := .int .i64 a0.From) rfl rfl rfl (yLoadS (j := 1) Tryz.isAgg3 rfl (b922).all rfl (by simp [l924])) trivial ?_
  refine X.val (v := .pointer (some ⟨b905, 2, none⟩)) rfl rfl rfl (yField 3 2 Tryz.underlying77 Tryz.sizeOf3 rfl rfl rfl) trivial ?_
  have l925 : c897.length = 32 := (kArr 32 (kI .u8)).len r898
  refine X.val (v := .int .i64 a0.To) rfl rfl rfl (yLoadS (j := 2) Tryz.isAgg3 rfl (b922).all rfl (by simp [l925])) trivial ?_
  refine X.val (v := .pointer (some ⟨b905, 3, none⟩)) rfl rfl rfl (yField 3 3 Tryz.underlying77 Tryz.sizeOf3 rfl rfl rfl) trivial ?_
  have l926 : c897.length = 32 := (kArr 32 (kI .u8)).len r898
  refine X.val (v := .int .i64 a0.Session) rfl rfl rfl (yLoadS (j := 3) Tryz.isAgg3 rfl (b922).all rfl (by simp [l926])) trivial ?_
  refine X.val (v := .pointer (some ⟨b905, 4, none⟩)) rfl rfl rfl (yField 3 4 Tryz.underlying77 Tryz.sizeOf3 rfl rfl rfl) trivial ?_
  have l927 : c897.length = 32 := (kArr 32 (kI .u8)).len r898
  refine X.val (v := .int .i64 a0.Part) rfl rfl rfl (yLoadS (j := 4) Tryz.isAgg3 rfl (b922).all rfl (by simp [l927])) trivial ?_
  obtain ⟨c928, e929⟩ : ∃ c : List Value, c = (List.replicate 32 (.int .u8 0 : Value)) := ⟨_, rfl⟩
  have r930 : (kArr 32 (kI .u8)).rp I h916 c928 (List.replicate 32 (0 : Int)) := by rw [e929]; exact z_T65
  have l931 : c928.length = 32 := (kArr 32 (kI .u8)).len r930
  refine X.val (v := .agg (((.int .i64 a0.Kind : Value) :: (.int .i64 a0.From : Value) :: (.int .i64 a0.To : Value) :: (.int .i64 a0.Session : Value) :: (.int .i64 a0.Part : Value) :: c928 ++ ((.slice none 0 0 : Value) :: (.slice none 0 0 : Value) :: (.slice none 0 0 : Value) :: []) : List Value)).toArray) rfl rfl rfl (yBuild (out := ((.int .i64 a0.Kind : Value) :: (.int .i64 a0.From : Value) :: (.int .i64 a0.To : Value) :: (.int .i64 a0.Session : Value) :: (.int .i64 a0.Part : Value) :: c928 ++ ((.slice none 0 0 : Value) :: (.slice none 0 0 : Value) :: (.slice none 0 0 : Value) :: []) : List Value)) [1, 1, 1, 1, 1, 32, 1, 1, 1] [((.int .i64 0 : Value) :: [] : List Value), ((.int .i64 0 : Value) :: [] : List Value), ((.int .i64 0 : Value) :: [] : List Value), ((.int .i64 0 : Value) :: [] : List Value), ((.int .i64 0 : Value) :: [] : List Value), List.replicate 32 (.int .u8 0 : Value), ((.slice none 0 0 : Value) :: [] : List Value), ((.slice none 0 0 : Value) :: [] : List Value), ((.slice none 0 0 : Value) :: [] : List Value)] Tryz.zeroValue77 rfl pl_T77 rfl rfl (by simp [okp, vInt, vBool, vStr, vSl, vPtr, vAgg, l931]) (by simp [setAll, vInt, vBool, vStr, vSl, vPtr, vAgg, e929])) trivial ?_
  obtain ⟨c932, e933⟩ : ∃ c : List Value, c = (List.replicate 32 (.int .u8 0 : Value)) := ⟨_, rfl⟩
  have r934 : (kArr 32 (kI .u8)).rp I h916 c932 (List.replicate 32 (0 : Int)) := by rw [e933]; exact z_T65
  refine X.ef rfl rfl rfl (eAlloc (zs := ((.int .i64 0 : Value) :: (.int .i64 0 : Value) :: (.int .i64 0 : Value) :: (.int .i64 0 : Value) :: (.int .i64 0 : Value) :: (List.replicate 32 (.int .u8 0 : Value)) ++ ((.slice none 0 0 : Value) :: (.slice none 0 0 : Value) :: (.slice none 0 0 : Value) :: []) : List Value)) Tryz.zeroValue77 rfl) ?_
  rintro _ h936 ⟨rfl, e941⟩
  obtain ⟨b935, e941b⟩ : ∃ b, b = h916.size := ⟨_, rfl⟩
  rw [← e941b]
  have f940 : Box h936 b935 77 ((.int .i64 0 : Value) :: (.int .i64 0 : Value) :: (.int .i64 0 : Value) :: (.int .i64 0 : Value) :: (.int .i64 0 : Value) :: c932 ++ ((.slice none 0 0 : Value) :: (.slice none 0 0 : Value) :: (.slice none 0 0 : Value) :: []) : List Value) := by subst e941; subst e941b; rw [e933]; exact Box.new _ _ _
  have p938 : Stp [] h916 h936 := by subst e941; exact Stp.push _ _
  have s939 : St [] h I h936 I (some b935 :: [some b915, some b905]) := by subst e941; subst e941b; exact s919.new _
  have t937 := s919.tr p938 (by simp) (fun _ hb => hb)
  clear e941 e941b
  refine ⟨trivial, ?_⟩
  have l942 : c932.length = 32 := (kArr 32 (kI .u8)).len r934
  have l943 : c928.length = 32 := (kArr 32 (kI .u8)).len r930
  refine X.ef rfl rfl rfl (eStore (vs := ((.int .i64 a0.Kind : Value) :: (.int .i64 a0.From : Value) :: (.int .i64 a0.To : Value) :: (.int .i64 a0.Session : Value) :: (.int .i64 a0.Part : Value) :: c928 ++ ((.slice none 0 0 : Value) :: (.slice none 0 0 : Value) :: (.slice none 0 0 : Value) :: []) : List Value)) Tryz.sizeOf77 rfl rfl rfl (by simp [l943]) (by simp [ones, ones_append, oInt, oBool, oStr, oSl, oPtr, (kArr 32 (kI .u8)).one r930]) f940 (by simp [l942, l943])) ?_
  rintro _ h944 ⟨rfl, e945⟩
  have f949 : Box h944 b935 77 ((.int .i64 a0.Kind : Value) :: (.int .i64 a0.From : Value) :: (.int .i64 a0.To : Value) :: (.int .i64 a0.Session : Value) :: (.int .i64 a0.Part : Value) :: c928 ++ ((.slice none 0 0 : Value) :: (.slice none 0 0 : Value) :: (.slice none 0 0 : Value) :: []) : List Value) := by subst e945; exact Box.reset f940 (by have k := splice_mid ((.int .i64 a0.Kind : Value) :: (.int .i64 a0.From : Value) :: (.int .i64 a0.To : Value) :: (.int .i64 a0.Session : Value) :: (.int .i64 a0.Part : Value) :: c928 ++ ((.slice none 0 0 : Value) :: (.slice none 0 0 : Value) :: (.slice none 0 0 : Value) :: []) : List Value) ((.int .i64 0 : Value) :: (.int .i64 0 : Value) :: (.int .i64 0 : Value) :: (.int .i64 0 : Value) :: (.int .i64 0 : Value) :: c932 ++ ((.slice none 0 0 : Value) :: (.slice none 0 0 : Value) :: (.slice none 0 0 : Value) :: []) : List Value) [] ([] : List Value) (by simp [l942, l943]); simpa using k)
  have p946 : Stp [some b935] h936 h944 := by subst e945; exact Stp.set _
  have s947 := s939.step p946 (by simp)
  have t948 := s939.tr p946 (by simp) (fun _ hb => hb)
  clear e945
  refine ⟨trivial, ?_⟩
  refine X.nil ?_
  refine At.then ?_
  refine C.seq ?_
  refine C.seq ?_
  refine C.region 2 rfl ?_
  refine X.val (v := .pointer (some ⟨b905, 0, none⟩)) rfl rfl rfl (yField 3 0 Tryz.underlying77 Tryz.sizeOf3 rfl rfl rfl) trivial ?_
  have b950 := ((b922.stp p938 (by simp)).stp p946 ((s939.sep 2 [0] rfl rfl rfl) _ rfl))
  have l951 : c897.length = 32 := (kArr 32 (kI .u8)).len r898
  refine X.val (v := .int .i64 a0.Kind) rfl rfl rfl (yLoadS (j := 0) Tryz.isAgg3 rfl (b950).all rfl (by simp [l951])) trivial ?_
  refine X.nil ?_
  refine At.then ?_
  refine C.block ?_
  refine C.seq ?_
  refine C.region 2 rfl ?_
  by_cases g952 : a0.Kind = 1
  · have H := ifT g952 H
    refine X.val rfl rfl rfl (yBT g952 (yEql rfl rfl)) trivial ?_
    refine X.val rfl rfl rfl (yAssign rfl) trivial ?_
    refine X.nil ?_
    refine At.then ?_
    refine C.condT rfl ?_
    refine C.region 4 rfl ?_
    refine X.val (v := .pointer (some ⟨b905, 5, none⟩)) rfl rfl rfl (yField 65 5 Tryz.underlying77 Tryz.sizeOf65 rfl rfl rfl) trivial ?_
    have l953 : c897.length = 32 := (kArr 32 (kI .u8)).len r898
    refine X.val (v := .agg ((c897 : List Value)).toArray) rfl rfl rfl (yLoadA (j := 5) (mid := (c897 : List Value)) Tryz.isAgg65 Tryz.sizeOf65 rfl (b950).all rfl (by first | (simp [l953]; done) | (simp [List.take_append, List.drop_append, List.take_of_length_le, l953]; done)) (by simp [l953])) trivial ?_
    refine X.val (v := .pointer (some ⟨b935, 5, none⟩)) rfl rfl rfl (yField 65 5 Tryz.underlying77 Tryz.sizeOf65 rfl rfl rfl) trivial ?_
    have l954 : c928.length = 32 := (kArr 32 (kI .u8)).len r930
    have l955 : c897.length = 32 := (kArr 32 (kI .u8)).len r898
    refine X.ef rfl rfl rfl (eStore (vs := (c897 : List Value)) Tryz.sizeOf65 rfl rfl rfl (by simp [l955]) (by simp [ones, ones_append, oInt, oBool, oStr, oSl, oPtr, (kArr 32 (kI .u8)).one r898]) f949 (by simp [l954, l955])) ?_
    rintro _ h956 ⟨rfl, e957⟩
    have f961 : Box h956 b935 77 ((.int .i64 a0.Kind : Value) :: (.int .i64 a0.From : Value) :: (.int .i64 a0.To : Value) :: (.int .i64 a0.Session : Value) :: (.int .i64 a0.Part : Value) :: c897 ++ ((.slice none 0 0 : Value) :: (.slice none 0 0 : Value) :: (.slice none 0 0 : Value) :: []) : List Value) := by subst e957; exact Box.reset f949 (by have k := splice_mid (c897 : List Value) (c928 : List Value) ((.int .i64 a0.Kind : Value) :: (.int .i64 a0.From : Value) :: (.int .i64 a0.To : Value) :: (.int .i64 a0.Session : Value) :: (.int .i64 a0.Part : Value) :: [] : List Value) ((.slice none 0 0 : Value) :: (.slice none 0 0 : Value) :: (.slice none 0 0 : Value) :: [] : List Value) (by simp [l954, l955]); simp [l954, l955] at k; simpa using k)
    have p958 : Stp [some b935] h944 h956 := by subst e957; exact Stp.set _
    have s959 := s947.step p958 (by simp)
    have t960 := s947.tr p958 (by simp) (fun _ hb => hb)
    clear e957
    refine ⟨trivial, ?_⟩
    refine X.nil ?_
    refine At.blkN ?_
    refine At.then ?_
    refine C.seq ?_
    refine C.region 2 rfl ?_
    have l962 : c897.length = 32 := (kArr 32 (kI .u8)).len r898
    refine X.val (v := .agg (((.int .i64 a0.Kind : Value) :: (.int .i64 a0.From : Value) :: (.int .i64 a0.To : Value) :: (.int .i64 a0.Session : Value) :: (.int .i64 a0.Part : Value) :: c897 ++ ((.slice none 0 0 : Value) :: (.slice none 0 0 : Value) :: (.slice none 0 0 : Value) :: []) : List Value)).toArray) rfl rfl rfl (yLoadW Tryz.isAgg77 Tryz.sizeOf77 rfl (f961).all (by simp [l962])) trivial ?_
    have b963 := (((f920.stp p938 (by simp)).stp p946 ((s939.sep 1 [0] rfl rfl rfl) _ rfl)).stp p958 ((s947.sep 1 [0] rfl rfl rfl) _ rfl))
    have l964 : c912.length = 32 := (kArr 32 (kI .u8)).len r914
    have l965 : c897.length = 32 := (kArr 32 (kI .u8)).len r898
    refine X.ef rfl rfl rfl (eStore (vs := ((.int .i64 a0.Kind : Value) :: (.int .i64 a0.From : Value) :: (.int .i64 a0.To : Value) :: (.int .i64 a0.Session : Value) :: (.int .i64 a0.Part : Value) :: c897 ++ ((.slice none 0 0 : Value) :: (.slice none 0 0 : Value) :: (.slice none 0 0 : Value) :: []) : List Value)) Tryz.sizeOf77 rfl rfl rfl (by simp [l965]) (by simp [ones, ones_append, oInt, oBool, oStr, oSl, oPtr, (kArr 32 (kI .u8)).one r898]) b963 (by simp [l964, l965])) ?_
    rintro _ h966 ⟨rfl, e967⟩
    have f971 : Box h966 b915 77 ((.int .i64 a0.Kind : Value) :: (.int .i64 a0.From : Value) :: (.int .i64 a0.To : Value) :: (.int .i64 a0.Session : Value) :: (.int .i64 a0.Part : Value) :: c897 ++ ((.slice none 0 0 : Value) :: (.slice none 0 0 : Value) :: (.slice none 0 0 : Value) :: []) : List Value) := by subst e967; exact Box.reset b963 (by have k := splice_mid ((.int .i64 a0.Kind : Value) :: (.int .i64 a0.From : Value) :: (.int .i64 a0.To : Value) :: (.int .i64 a0.Session : Value) :: (.int .i64 a0.Part : Value) :: c897 ++ ((.slice none 0 0 : Value) :: (.slice none 0 0 : Value) :: (.slice none 0 0 : Value) :: []) : List Value) ((.int .i64 0 : Value) :: (.int .i64 0 : Value) :: (.int .i64 0 : Value) :: (.int .i64 0 : Value) :: (.int .i64 0 : Value) :: c912 ++ ((.slice none 0 0 : Value) :: (.slice none 0 0 : Value) :: (.slice none 0 0 : Value) :: []) : List Value) [] ([] : List Value) (by simp [l964, l965]); simpa using k)
    have p968 : Stp [some b915] h956 h966 := by subst e967; exact Stp.set _
    have s969 := s959.step p968 (by simp)
    have t970 := s959.tr p968 (by simp) (fun _ hb => hb)
    clear e967
    refine ⟨trivial, ?_⟩
    refine X.nil ?_
    refine At.then ?_
    refine C.ret ?_
    have l972 : c897.length = 32 := (kArr 32 (kI .u8)).len r898
    obtain rfl := sm H
    refine At.retn (rs := [.cell 2 77]) [.agg (((.int .i64 a0.Kind : Value) :: (.int .i64 a0.From : Value) :: (.int .i64 a0.To : Value) :: (.int .i64 a0.Session : Value) :: (.int .i64 a0.Part : Value) :: c897 ++ ((.slice none 0 0 : Value) :: (.slice none 0 0 : Value) :: (.slice none 0 0 : Value) :: []) : List Value)).toArray] rfl ?_ ?_
    exact ⟨Rv.cell Tryz.isAgg77 Tryz.sizeOf77 rfl f971 (by simp [l972]), trivial⟩
    exact ⟨s969.stp, ((.int .i64 a0.Kind : Value) :: (.int .i64 a0.From : Value) :: (.int .i64 a0.To : Value) :: (.int .i64 a0.Session : Value) :: (.int .i64 a0.Part : Value) :: c897 ++ ((.slice none 0 0 : Value) :: (.slice none 0 0 : Value) :: (.slice none 0 0 : Value) :: []) : List Value), rfl, (k_proto_Msg.mono (m_proto_Msg ((kArr 32 (kI .u8)).mono r898 (t907.trans (t917.trans (t937.trans (t948.trans (t960.trans t970)))))) SlR.nil SlR.nil SlR.nil) s969.outTr)⟩
  · have H := ifF g952 H
    refine X.val rfl rfl rfl (yBF g952 (yEql rfl rfl)) trivial ?_
    refine X.val rfl rfl rfl (yAssign rfl) trivial ?_
    refine X.nil ?_
    refine At.then ?_
    refine C.condF rfl ?_
    refine C.seq ?_
    refine C.region 2 rfl ?_
    by_cases g973 : a0.Kind = 2
    · have H := ifT g973 H
      refine X.val rfl rfl rfl (yBT g973 (yEql rfl rfl)) trivial ?_
      refine X.val rfl rfl rfl (yAssign rfl) trivial ?_
      refine X.nil ?_
      refine At.then ?_
      refine C.condT rfl ?_
      refine C.region 4 rfl ?_
      refine X.val (v := .pointer (some ⟨b905, 37, none⟩)) rfl rfl rfl (yField 67 37 Tryz.underlying77 Tryz.sizeOf67 rfl rfl rfl) trivial ?_
      have l974 : c897.length = 32 := (kArr 32 (kI .u8)).len r898
      refine X.val (v := v899) rfl rfl rfl (yLoadS (j := 37) Tryz.isAgg67 rfl (b950).all rfl (by simp [l974])) trivial ?_
      refine X.val (v := .pointer (some ⟨b935, 37, none⟩)) rfl rfl rfl (yField 67 37 Tryz.underlying77 Tryz.sizeOf67 rfl rfl rfl) trivial ?_
      have l975 : c928.length = 32 := (kArr 32 (kI .u8)).len r930
      refine X.ef rfl rfl rfl (eStore (vs := (v899 :: [] : List Value)) Tryz.sizeOf67 rfl rfl (cellsOne (SlR.one (r900.mono (t907.trans (t917.trans (t937.trans t948)))))) (by simp []) (by simp [ones, ones_append, oInt, oBool, oStr, oSl, oPtr, SlR.one (r900.mono (t907.trans (t917.trans (t937.trans t948))))]) f949 (by simp [l975])) ?_
      rintro _ h976 ⟨rfl, e977⟩
      have f981 : Box h976 b935 77 ((.int .i64 a0.Kind : Value) :: (.int .i64 a0.From : Value) :: (.int .i64 a0.To : Value) :: (.int .i64 a0.Session : Value) :: (.int .i64 a0.Part : Value) :: c928 ++ (v899 :: (.slice none 0 0 : Value) :: (.slice none 0 0 : Value) :: []) : List Value) := by subst e977; exact Box.reset f949 (by have k := splice_mid (v899 :: [] : List Value) ((.slice none 0 0 : Value) :: [] : List Value) ((.int .i64 a0.Kind : Value) :: (.int .i64 a0.From : Value) :: (.int .i64 a0.To : Value) :: (.int .i64 a0.Session : Value) :: (.int .i64 a0.Part : Value) :: c928 : List Value) ((.slice none 0 0 : Value) :: (.slice none 0 0 : Value) :: [] : List Value) (by simp [l975]); simp [l975] at k; simpa using k)
      have p978 : Stp [some b935] h944 h976 := by subst e977; exact Stp.set _
      have s979 := s947.step p978 (by simp)
      have t980 := s947.tr p978 (by simp) (fun _ hb => hb)
      clear e977
      refine ⟨trivial, ?_⟩
      refine X.nil ?_
      refine At.blkN ?_
      refine At.then ?_
      refine C.seq ?_
      refine C.region 2 rfl ?_
      have l982 : c928.length = 32 := (kArr 32 (kI .u8)).len r930
      refine X.val (v := .agg (((.int .i64 a0.Kind : Value) :: (.int .i64 a0.From : Value) :: (.int .i64 a0.To : Value) :: (.int .i64 a0.Session : Value) :: (.int .i64 a0.Part : Value) :: c928 ++ (v899 :: (.slice none 0 0 : Value) :: (.slice none 0 0 : Value) :: []) : List Value)).toArray) rfl rfl rfl (yLoadW Tryz.isAgg77 Tryz.sizeOf77 rfl (f981).all (by simp [l982])) trivial ?_
      have b983 := (((f920.stp p938 (by simp)).stp p946 ((s939.sep 1 [0] rfl rfl rfl) _ rfl)).stp p978 ((s947.sep 1 [0] rfl rfl rfl) _ rfl))
      have l984 : c912.length = 32 := (kArr 32 (kI .u8)).len r914
      have l985 : c928.length = 32 := (kArr 32 (kI .u8)).len r930
      refine X.ef rfl rfl rfl (eStore (vs := ((.int .i64 a0.Kind : Value) :: (.int .i64 a0.From : Value) :: (.int .i64 a0.To : Value) :: (.int .i64 a0.Session : Value) :: (.int .i64 a0.Part : Value) :: c928 ++ (v899 :: (.slice none 0 0 : Value) :: (.slice none 0 0 : Value) :: []) : List Value)) Tryz.sizeOf77 rfl rfl rfl (by simp [l985]) (by simp [ones, ones_append, oInt, oBool, oStr, oSl, oPtr, (kArr 32 (kI .u8)).one r930, SlR.one (r900.mono (t907.trans (t917.trans (t937.trans (t948.trans t980)))))]) b983 (by simp [l984, l985])) ?_
      rintro _ h986 ⟨rfl, e987⟩
      have f991 : Box h986 b915 77 ((.int .i64 a0.Kind : Value) :: (.int .i64 a0.From : Value) :: (.int .i64 a0.To : Value) :: (.int .i64 a0.Session : Value) :: (.int .i64 a0.Part : Value) :: c928 ++ (v899 :: (.slice none 0 0 : Value) :: (.slice none 0 0 : Value) :: []) : List Value) := by subst e987; exact Box.reset b983 (by have k := splice_mid ((.int .i64 a0.Kind : Value) :: (.int .i64 a0.From : Value) :: (.int .i64 a0.To : Value) :: (.int .i64 a0.Session : Value) :: (.int .i64 a0.Part : Value) :: c928 ++ (v899 :: (.slice none 0 0 : Value) :: (.slice none 0 0 : Value) :: []) : List Value) ((.int .i64 0 : Value) :: (.int .i64 0 : Value) :: (.int .i64 0 : Value) :: (.int .i64 0 : Value) :: (.int .i64 0 : Value) :: c912 ++ ((.slice none 0 0 : Value) :: (.slice none 0 0 : Value) :: (.slice none 0 0 : Value) :: []) : List Value) [] ([] : List Value) (by simp [l984, l985]); simpa using k)
      have p988 : Stp [some b915] h976 h986 := by subst e987; exact Stp.set _
      have s989 := s979.step p988 (by simp)
      have t990 := s979.tr p988 (by simp) (fun _ hb => hb)
      clear e987
      refine ⟨trivial, ?_⟩
      refine X.nil ?_
      refine At.then ?_
      refine C.ret ?_
      have l992 : c928.length = 32 := (kArr 32 (kI .u8)).len r930
      obtain rfl := sm H
      refine At.retn (rs := [.cell 2 77]) [.agg (((.int .i64 a0.Kind : Value) :: (.int .i64 a0.From : Value) :: (.int .i64 a0.To : Value) :: (.int .i64 a0.Session : Value) :: (.int .i64 a0.Part : Value) :: c928 ++ (v899 :: (.slice none 0 0 : Value) :: (.slice none 0 0 : Value) :: []) : List Value)).toArray] rfl ?_ ?_
      exact ⟨Rv.cell Tryz.isAgg77 Tryz.sizeOf77 rfl f991 (by simp [l992]), trivial⟩
      exact ⟨s989.stp, ((.int .i64 a0.Kind : Value) :: (.int .i64 a0.From : Value) :: (.int .i64 a0.To : Value) :: (.int .i64 a0.Session : Value) :: (.int .i64 a0.Part : Value) :: c928 ++ (v899 :: (.slice none 0 0 : Value) :: (.slice none 0 0 : Value) :: []) : List Value), rfl, (k_proto_Msg.mono (m_proto_Msg ((kArr 32 (kI .u8)).mono r930 (t937.trans (t948.trans (t980.trans t990)))) (r900.mono (t907.trans (t917.trans (t937.trans (t948.trans (t980.trans t990)))))) SlR.nil SlR.nil) s989.outTr)⟩
    · have H := ifF g973 H
      refine X.val rfl rfl rfl (yBF g973 (yEql rfl rfl)) trivial ?_
      refine X.val rfl rfl rfl (yAssign rfl) trivial ?_
      refine X.nil ?_
      refine At.then ?_
      refine C.condF rfl ?_
      refine C.seq ?_
      refine C.seq ?_
      refine C.region 2 rfl ?_
      by_cases g993 : a0.Kind = 3
      · have H := ifT g993 H
        refine X.val rfl rfl rfl (yBT g993 (yEql rfl rfl)) trivial ?_
        refine X.val rfl rfl rfl (yAssign rfl) trivial ?_
        refine X.nil ?_
        refine At.then ?_
        refine C.condT rfl ?_
        refine C.skip ?_
        refine At.then ?_
        refine C.condT rfl ?_
        refine C.regionD rfl (Stp [some b935] h944) (.pas 0 (.pas 1 (.pas 2 (.pas 3 (.pas 4 (.alt 5 (.pas 6 (.alt 7 .nil .stop)) .stop)))))) (by kernel_rfl) (Stp.refl0 _ _) ?_
        have q994 := Stp.refl0 [some b935] h944
        refine X.pas (v := .pointer (some ⟨b905, 37, none⟩)) rfl rfl rfl (fun _ _ => yField 67 37 Tryz.underlying77 Tryz.sizeOf67 rfl rfl rfl) ?_
        have l995 : c897.length = 32 := (kArr 32 (kI .u8)).len r898
        refine X.pas (v := v899) rfl rfl rfl (fun h' q => yLoadS (j := 37) Tryz.isAgg67 rfl ((b950.stp q (s947.sep 2 [0] rfl rfl rfl _ rfl))).all rfl (by simp [l995])) ?_
        refine X.pas (v := .pointer (some ⟨b905, 39, none⟩)) rfl rfl rfl (fun _ _ => yField 58 39 Tryz.underlying77 Tryz.sizeOf58 rfl rfl rfl) ?_
        have l996 : c897.length = 32 := (kArr 32 (kI .u8)).len r898
        refine X.pas (v := v903) rfl rfl rfl (fun h' q => yLoadS (j := 39) Tryz.isAgg58 rfl ((b950.stp q (s947.sep 2 [0] rfl rfl rfl _ rfl))).all rfl (by simp [l996])) ?_
        refine X.pas (v := .pointer (some ⟨b935, 37, none⟩)) rfl rfl rfl (fun _ _ => yField 67 37 Tryz.underlying77 Tryz.sizeOf67 rfl rfl rfl) ?_
        have l997 : c928.length = 32 := (kArr 32 (kI .u8)).len r930
        refine X.ef rfl rfl rfl (eStore (vs := (v899 :: [] : List Value)) Tryz.sizeOf67 rfl rfl (cellsOne (SlR.one (r900.mono (t907.trans (t917.trans (t937.trans t948)))))) (by simp []) (by simp [ones, ones_append, oInt, oBool, oStr, oSl, oPtr, SlR.one (r900.mono (t907.trans (t917.trans (t937.trans t948))))]) f949 (by simp [l997])) ?_
        rintro _ h998 ⟨rfl, e999⟩
        have f1003 : Box h998 b935 77 ((.int .i64 a0.Kind : Value) :: (.int .i64 a0.From : Value) :: (.int .i64 a0.To : Value) :: (.int .i64 a0.Session : Value) :: (.int .i64 a0.Part : Value) :: c928 ++ (v899 :: (.slice none 0 0 : Value) :: (.slice none 0 0 : Value) :: []) : List Value) := by subst e999; exact Box.reset f949 (by have k := splice_mid (v899 :: [] : List Value) ((.slice none 0 0 : Value) :: [] : List Value) ((.int .i64 a0.Kind : Value) :: (.int .i64 a0.From : Value) :: (.int .i64 a0.To : Value) :: (.int .i64 a0.Session : Value) :: (.int .i64 a0.Part : Value) :: c928 : List Value) ((.slice none 0 0 : Value) :: (.slice none 0 0 : Value) :: [] : List Value) (by simp [l997]); simp [l997] at k; simpa using k)
        have p1000 : Stp [some b935] h944 h998 := by subst e999; exact Stp.set _
        have s1001 := s947.step p1000 (by simp)
        have t1002 := s947.tr p1000 (by simp) (fun _ hb => hb)
        clear e999
        have q1004 := q994.cat p1000 (by simp)
        refine ⟨q1004, ?_⟩
        refine X.pas (v := .pointer (some ⟨b935, 39, none⟩)) rfl rfl rfl (fun _ _ => yField 58 39 Tryz.underlying77 Tryz.sizeOf58 rfl rfl rfl) ?_
        have l1005 : c928.length = 32 := (kArr 32 (kI .u8)).len r930
        refine X.ef rfl rfl rfl (eStore (vs := (v903 :: [] : List Value)) Tryz.sizeOf58 rfl rfl (cellsOne (SlR.one (r904.mono (t907.trans (t917.trans (t937.trans (t948.trans t1002))))))) (by simp []) (by simp [ones, ones_append, oInt, oBool, oStr, oSl, oPtr, SlR.one (r904.mono (t907.trans (t917.trans (t937.trans (t948.trans t1002)))))]) f1003 (by simp [l1005])) ?_
        rintro _ h1006 ⟨rfl, e1007⟩
        have f1011 : Box h1006 b935 77 ((.int .i64 a0.Kind : Value) :: (.int .i64 a0.From : Value) :: (.int .i64 a0.To : Value) :: (.int .i64 a0.Session : Value) :: (.int .i64 a0.Part : Value) :: c928 ++ (v899 :: (.slice none 0 0 : Value) :: v903 :: []) : List Value) := by subst e1007; exact Box.reset f1003 (by have k := splice_mid (v903 :: [] : List Value) ((.slice none 0 0 : Value) :: [] : List Value) ((.int .i64 a0.Kind : Value) :: (.int .i64 a0.From : Value) :: (.int .i64 a0.To : Value) :: (.int .i64 a0.Session : Value) :: (.int .i64 a0.Part : Value) :: c928 ++ (v899 :: (.slice none 0 0 : Value) :: []) : List Value) ([] : List Value) (by simp [l1005]); simp [l1005] at k; simpa using k)
        have p1008 : Stp [some b935] h998 h1006 := by subst e1007; exact Stp.set _
        have s1009 := s1001.step p1008 (by simp)
        have t1010 := s1001.tr p1008 (by simp) (fun _ hb => hb)
        clear e1007
        have q1012 := q1004.cat p1008 (by simp)
        refine ⟨q1012, ?_⟩
        refine X.nil ?_
        refine At.blkN ?_
        refine At.then ?_
        refine C.seq ?_
        refine C.region 2 rfl ?_
        have l1013 : c928.length = 32 := (kArr 32 (kI .u8)).len r930
        refine X.val (v := .agg (((.int .i64 a0.Kind : Value) :: (.int .i64 a0.From : Value) :: (.int .i64 a0.To : Value) :: (.int .i64 a0.Session : Value) :: (.int .i64 a0.Part : Value) :: c928 ++ (v899 :: (.slice none 0 0 : Value) :: v903 :: []) : List Value)).toArray) rfl rfl rfl (yLoadW Tryz.isAgg77 Tryz.sizeOf77 rfl (f1011).all (by simp [l1013])) trivial ?_
        have b1014 := ((((f920.stp p938 (by simp)).stp p946 ((s939.sep 1 [0] rfl rfl rfl) _ rfl)).stp p1000 ((s947.sep 1 [0] rfl rfl rfl) _ rfl)).stp p1008 ((s1001.sep 1 [0] rfl rfl rfl) _ rfl))
        have l1015 : c912.length = 32 := (kArr 32 (kI .u8)).len r914
        have l1016 : c928.length = 32 := (kArr 32 (kI .u8)).len r930
        refine X.ef rfl rfl rfl (eStore (vs := ((.int .i64 a0.Kind : Value) :: (.int .i64 a0.From : Value) :: (.int .i64 a0.To : Value) :: (.int .i64 a0.Session : Value) :: (.int .i64 a0.Part : Value) :: c928 ++ (v899 :: (.slice none 0 0 : Value) :: v903 :: []) : List Value)) Tryz.sizeOf77 rfl rfl rfl (by simp [l1016]) (by simp [ones, ones_append, oInt, oBool, oStr, oSl, oPtr, (kArr 32 (kI .u8)).one r930, SlR.one (r900.mono (t907.trans (t917.trans (t937.trans (t948.trans (t1002.trans t1010)))))), SlR.one (r904.mono (t907.trans (t917.trans (t937.trans (t948.trans (t1002.trans t1010))))))]) b1014 (by simp [l1015, l1016])) ?_
        rintro _ h1017 ⟨rfl, e1018⟩
        have f1022 : Box h1017 b915 77 ((.int .i64 a0.Kind : Value) :: (.int .i64 a0.From : Value) :: (.int .i64 a0.To : Value) :: (.int .i64 a0.Session : Value) :: (.int .i64 a0.Part : Value) :: c928 ++ (v899 :: (.slice none 0 0 : Value) :: v903 :: []) : List Value) := by subst e1018; exact Box.reset b1014 (by have k := splice_mid ((.int .i64 a0.Kind : Value) :: (.int .i64 a0.From : Value) :: (.int .i64 a0.To : Value) :: (.int .i64 a0.Session : Value) :: (.int .i64 a0.Part : Value) :: c928 ++ (v899 :: (.slice none 0 0 : Value) :: v903 :: []) : List Value) ((.int .i64 0 : Value) :: (.int .i64 0 : Value) :: (.int .i64 0 : Value) :: (.int .i64 0 : Value) :: (.int .i64 0 : Value) :: c912 ++ ((.slice none 0 0 : Value) :: (.slice none 0 0 : Value) :: (.slice none 0 0 : Value) :: []) : List Value) [] ([] : List Value) (by simp [l1015, l1016]); simpa using k)
        have p1019 : Stp [some b915] h1006 h1017 := by subst e1018; exact Stp.set _
        have s1020 := s1009.step p1019 (by simp)
        have t1021 := s1009.tr p1019 (by simp) (fun _ hb => hb)
        clear e1018
        refine ⟨trivial, ?_⟩
        refine X.nil ?_
        refine At.then ?_
        refine C.ret ?_
        have l1023 : c928.length = 32 := (kArr 32 (kI .u8)).len r930
        obtain rfl := sm H
        refine At.retn (rs := [.cell 2 77]) [.agg (((.int .i64 a0.Kind : Value) :: (.int .i64 a0.From : Value) :: (.int .i64 a0.To : Value) :: (.int .i64 a0.Session : Value) :: (.int .i64 a0.Part : Value) :: c928 ++ (v899 :: (.slice none 0 0 : Value) :: v903 :: []) : List Value)).toArray] rfl ?_ ?_
        exact ⟨Rv.cell Tryz.isAgg77 Tryz.sizeOf77 rfl f1022 (by simp [l1023]), trivial⟩
        exact ⟨s1020.stp, ((.int .i64 a0.Kind : Value) :: (.int .i64 a0.From : Value) :: (.int .i64 a0.To : Value) :: (.int .i64 a0.Session : Value) :: (.int .i64 a0.Part : Value) :: c928 ++ (v899 :: (.slice none 0 0 : Value) :: v903 :: []) : List Value), rfl, (k_proto_Msg.mono (m_proto_Msg ((kArr 32 (kI .u8)).mono r930 (t937.trans (t948.trans (t1002.trans (t1010.trans t1021))))) (r900.mono (t907.trans (t917.trans (t937.trans (t948.trans (t1002.trans (t1010.trans t1021))))))) SlR.nil (r904.mono (t907.trans (t917.trans (t937.trans (t948.trans (t1002.trans (t1010.trans t1021)))))))) s1020.outTr)⟩
      · have H := ifF g993 H
        refine X.val rfl rfl rfl (yBF g993 (yEql rfl rfl)) trivial ?_
        refine X.val rfl rfl rfl (yAssign rfl) trivial ?_
        refine X.nil ?_
        refine At.then ?_
        refine C.condF rfl ?_
        refine C.region 2 rfl ?_
        by_cases g1024 : a0.Kind = 6
        · have H := ifT g1024 H
          refine X.val rfl rfl rfl (yBT g1024 (yEql rfl rfl)) trivial ?_
          refine X.val rfl rfl rfl (yAssign rfl) trivial ?_
          refine X.nil ?_
          refine At.then ?_
          refine C.condT rfl ?_
          refine C.regionD rfl (Stp [some b935] h944) (.pas 0 (.pas 1 (.pas 2 (.pas 3 (.pas 4 (.alt 5 (.pas 6 (.alt 7 .nil .stop)) .stop)))))) (by kernel_rfl) (Stp.refl0 _ _) ?_
          have q1025 := Stp.refl0 [some b935] h944
          refine X.pas (v := .pointer (some ⟨b905, 37, none⟩)) rfl rfl rfl (fun _ _ => yField 67 37 Tryz.underlying77 Tryz.sizeOf67 rfl rfl rfl) ?_
          have l1026 : c897.length = 32 := (kArr 32 (kI .u8)).len r898
          refine X.pas (v := v899) rfl rfl rfl (fun h' q => yLoadS (j := 37) Tryz.isAgg67 rfl ((b950.stp q (s947.sep 2 [0] rfl rfl rfl _ rfl))).all rfl (by simp [l1026])) ?_
          refine X.pas (v := .pointer (some ⟨b905, 39, none⟩)) rfl rfl rfl (fun _ _ => yField 58 39 Tryz.underlying77 Tryz.sizeOf58 rfl rfl rfl) ?_
          have l1027 : c897.length = 32 := (kArr 32 (kI .u8)).len r898
          refine X.pas (v := v903) rfl rfl rfl (fun h' q => yLoadS (j := 39) Tryz.isAgg58 rfl ((b950.stp q (s947.sep 2 [0] rfl rfl rfl _ rfl))).all rfl (by simp [l1027])) ?_
          refine X.pas (v := .pointer (some ⟨b935, 37, none⟩)) rfl rfl rfl (fun _ _ => yField 67 37 Tryz.underlying77 Tryz.sizeOf67 rfl rfl rfl) ?_
          have l1028 : c928.length = 32 := (kArr 32 (kI .u8)).len r930
          refine X.ef rfl rfl rfl (eStore (vs := (v899 :: [] : List Value)) Tryz.sizeOf67 rfl rfl (cellsOne (SlR.one (r900.mono (t907.trans (t917.trans (t937.trans t948)))))) (by simp []) (by simp [ones, ones_append, oInt, oBool, oStr, oSl, oPtr, SlR.one (r900.mono (t907.trans (t917.trans (t937.trans t948))))]) f949 (by simp [l1028])) ?_
          rintro _ h1029 ⟨rfl, e1030⟩
          have f1034 : Box h1029 b935 77 ((.int .i64 a0.Kind : Value) :: (.int .i64 a0.From : Value) :: (.int .i64 a0.To : Value) :: (.int .i64 a0.Session : Value) :: (.int .i64 a0.Part : Value) :: c928 ++ (v899 :: (.slice none 0 0 : Value) :: (.slice none 0 0 : Value) :: []) : List Value) := by subst e1030; exact Box.reset f949 (by have k := splice_mid (v899 :: [] : List Value) ((.slice none 0 0 : Value) :: [] : List Value) ((.int .i64 a0.Kind : Value) :: (.int .i64 a0.From : Value) :: (.int .i64 a0.To : Value) :: (.int .i64 a0.Session : Value) :: (.int .i64 a0.Part : Value) :: c928 : List Value) ((.slice none 0 0 : Value) :: (.slice none 0 0 : Value) :: [] : List Value) (by simp [l1028]); simp [l1028] at k; simpa using k)
          have p1031 : Stp [some b935] h944 h1029 := by subst e1030; exact Stp.set _
          have s1032 := s947.step p1031 (by simp)
          have t1033 := s947.tr p1031 (by simp) (fun _ hb => hb)
          clear e1030
          have q1035 := q1025.cat p1031 (by simp)
          refine ⟨q1035, ?_⟩
          refine X.pas (v := .pointer (some ⟨b935, 39, none⟩)) rfl rfl rfl (fun _ _ => yField 58 39 Tryz.underlying77 Tryz.sizeOf58 rfl rfl rfl) ?_
          have l1036 : c928.length = 32 := (kArr 32 (kI .u8)).len r930
          refine X.ef rfl rfl rfl (eStore (vs := (v903 :: [] : List Value)) Tryz.sizeOf58 rfl rfl (cellsOne (SlR.one (r904.mono (t907.trans (t917.trans (t937.trans (t948.trans t1033))))))) (by simp []) (by simp [ones, ones_append, oInt, oBool, oStr, oSl, oPtr, SlR.one (r904.mono (t907.trans (t917.trans (t937.trans (t948.trans t1033)))))]) f1034 (by simp [l1036])) ?_
          rintro _ h1037 ⟨rfl, e1038⟩
          have f1042 : Box h1037 b935 77 ((.int .i64 a0.Kind : Value) :: (.int .i64 a0.From : Value) :: (.int .i64 a0.To : Value) :: (.int .i64 a0.Session : Value) :: (.int .i64 a0.Part : Value) :: c928 ++ (v899 :: (.slice none 0 0 : Value) :: v903 :: []) : List Value) := by subst e1038; exact Box.reset f1034 (by have k := splice_mid (v903 :: [] : List Value) ((.slice none 0 0 : Value) :: [] : List Value) ((.int .i64 a0.Kind : Value) :: (.int .i64 a0.From : Value) :: (.int .i64 a0.To : Value) :: (.int .i64 a0.Session : Value) :: (.int .i64 a0.Part : Value) :: c928 ++ (v899 :: (.slice none 0 0 : Value) :: []) : List Value) ([] : List Value) (by simp [l1036]); simp [l1036] at k; simpa using k)
          have p1039 : Stp [some b935] h1029 h1037 := by subst e1038; exact Stp.set _
          have s1040 := s1032.step p1039 (by simp)
          have t1041 := s1032.tr p1039 (by simp) (fun _ hb => hb)
          clear e1038
          have q1043 := q1035.cat p1039 (by simp)
          refine ⟨q1043, ?_⟩
          refine X.nil ?_
          refine At.blkN ?_
          refine At.then ?_
          refine C.seq ?_
          refine C.region 2 rfl ?_
          have l1044 : c928.length = 32 := (kArr 32 (kI .u8)).len r930
          refine X.val (v := .agg (((.int .i64 a0.Kind : Value) :: (.int .i64 a0.From : Value) :: (.int .i64 a0.To : Value) :: (.int .i64 a0.Session : Value) :: (.int .i64 a0.Part : Value) :: c928 ++ (v899 :: (.slice none 0 0 : Value) :: v903 :: []) : List Value)).toArray) rfl rfl rfl (yLoadW Tryz.isAgg77 Tryz.sizeOf77 rfl (f1042).all (by simp [l1044])) trivial ?_
          have b1045 := ((((f920.stp p938 (by simp)).stp p946 ((s939.sep 1 [0] rfl rfl rfl) _ rfl)).stp p1031 ((s947.sep 1 [0] rfl rfl rfl) _ rfl)).stp p1039 ((s1032.sep 1 [0] rfl rfl rfl) _ rfl))
          have l1046 : c912.length = 32 := (kArr 32 (kI .u8)).len r914
          have l1047 : c928.length = 32 := (kArr 32 (kI .u8)).len r930
          refine X.ef rfl rfl rfl (eStore (vs := ((.int .i64 a0.Kind : Value) :: (.int .i64 a0.From : Value) :: (.int .i64 a0.To : Value) :: (.int .i64 a0.Session : Value) :: (.int .i64 a0.Part : Value) :: c928 ++ (v899 :: (.slice none 0 0 : Value) :: v903 :: []) : List Value)) Tryz.sizeOf77 rfl rfl rfl (by simp [l1047]) (by simp [ones, ones_append, oInt, oBool, oStr, oSl, oPtr, (kArr 32 (kI .u8)).one r930, SlR.one (r900.mono (t907.trans (t917.trans (t937.trans (t948.trans (t1033.trans t1041)))))), SlR.one (r904.mono (t907.trans (t917.trans (t937.trans (t948.trans (t1033.trans t1041))))))]) b1045 (by simp [l1046, l1047])) ?_
          rintro _ h1048 ⟨rfl, e1049⟩
          have f1053 : Box h1048 b915 77 ((.int .i64 a0.Kind : Value) :: (.int .i64 a0.From : Value) :: (.int .i64 a0.To : Value) :: (.int .i64 a0.Session : Value) :: (.int .i64 a0.Part : Value) :: c928 ++ (v899 :: (.slice none 0 0 : Value) :: v903 :: []) : List Value) := by subst e1049; exact Box.reset b1045 (by have k := splice_mid ((.int .i64 a0.Kind : Value) :: (.int .i64 a0.From : Value) :: (.int .i64 a0.To : Value) :: (.int .i64 a0.Session : Value) :: (.int .i64 a0.Part : Value) :: c928 ++ (v899 :: (.slice none 0 0 : Value) :: v903 :: []) : List Value) ((.int .i64 0 : Value) :: (.int .i64 0 : Value) :: (.int .i64 0 : Value) :: (.int .i64 0 : Value) :: (.int .i64 0 : Value) :: c912 ++ ((.slice none 0 0 : Value) :: (.slice none 0 0 : Value) :: (.slice none 0 0 : Value) :: []) : List Value) [] ([] : List Value) (by simp [l1046, l1047]); simpa using k)
          have p1050 : Stp [some b915] h1037 h1048 := by subst e1049; exact Stp.set _
          have s1051 := s1040.step p1050 (by simp)
          have t1052 := s1040.tr p1050 (by simp) (fun _ hb => hb)
          clear e1049
          refine ⟨trivial, ?_⟩
          refine X.nil ?_
          refine At.then ?_
          refine C.ret ?_
          have l1054 : c928.length = 32 := (kArr 32 (kI .u8)).len r930
          obtain rfl := sm H
          refine At.retn (rs := [.cell 2 77]) [.agg (((.int .i64 a0.Kind : Value) :: (.int .i64 a0.From : Value) :: (.int .i64 a0.To : Value) :: (.int .i64 a0.Session : Value) :: (.int .i64 a0.Part : Value) :: c928 ++ (v899 :: (.slice none 0 0 : Value) :: v903 :: []) : List Value)).toArray] rfl ?_ ?_
          exact ⟨Rv.cell Tryz.isAgg77 Tryz.sizeOf77 rfl f1053 (by simp [l1054]), trivial⟩
          exact ⟨s1051.stp, ((.int .i64 a0.Kind : Value) :: (.int .i64 a0.From : Value) :: (.int .i64 a0.To : Value) :: (.int .i64 a0.Session : Value) :: (.int .i64 a0.Part : Value) :: c928 ++ (v899 :: (.slice none 0 0 : Value) :: v903 :: []) : List Value), rfl, (k_proto_Msg.mono (m_proto_Msg ((kArr 32 (kI .u8)).mono r930 (t937.trans (t948.trans (t1033.trans (t1041.trans t1052))))) (r900.mono (t907.trans (t917.trans (t937.trans (t948.trans (t1033.trans (t1041.trans t1052))))))) SlR.nil (r904.mono (t907.trans (t917.trans (t937.trans (t948.trans (t1033.trans (t1041.trans t1052)))))))) s1051.outTr)⟩
        · have H := ifF g1024 H
          refine X.val rfl rfl rfl (yBF g1024 (yEql rfl rfl)) trivial ?_
          refine X.val rfl rfl rfl (yAssign rfl) trivial ?_
          refine X.nil ?_
          refine At.then ?_
          refine C.condF rfl ?_
          refine C.seq ?_
          refine C.region 2 rfl ?_
          by_cases g1055 : a0.Kind = 5
          · have H := ifT g1055 H
            refine X.val rfl rfl rfl (yBT g1055 (yEql rfl rfl)) trivial ?_
            refine X.val rfl rfl rfl (yAssign rfl) trivial ?_
            refine X.nil ?_
            refine At.then ?_
            refine C.condT rfl ?_
            refine C.regionD rfl (Stp [some b935] h944) (.pas 0 (.pas 1 (.pas 2 (.pas 3 (.pas 4 (.alt 5 (.pas 6 (.alt 7 .nil .stop)) .stop)))))) (by kernel_rfl) (Stp.refl0 _ _) ?_
            have q1056 := Stp.refl0 [some b935] h944
            refine X.pas (v := .pointer (some ⟨b905, 37, none⟩)) rfl rfl rfl (fun _ _ => yField 67 37 Tryz.underlying77 Tryz.sizeOf67 rfl rfl rfl) ?_
            have l1057 : c897.length = 32 := (kArr 32 (kI .u8)).len r898
            refine X.pas (v := v899) rfl rfl rfl (fun h' q => yLoadS (j := 37) Tryz.isAgg67 rfl ((b950.stp q (s947.sep 2 [0] rfl rfl rfl _ rfl))).all rfl (by simp [l1057])) ?_
            refine X.pas (v := .pointer (some ⟨b905, 38, none⟩)) rfl rfl rfl (fun _ _ => yField 75 38 Tryz.underlying77 Tryz.sizeOf75 rfl rfl rfl) ?_
            have l1058 : c897.length = 32 := (kArr 32 (kI .u8)).len r898
            refine X.pas (v := v901) rfl rfl rfl (fun h' q => yLoadS (j := 38) Tryz.isAgg75 rfl ((b950.stp q (s947.sep 2 [0] rfl rfl rfl _ rfl))).all rfl (by simp [l1058])) ?_
            refine X.pas (v := .pointer (some ⟨b935, 37, none⟩)) rfl rfl rfl (fun _ _ => yField 67 37 Tryz.underlying77 Tryz.sizeOf67 rfl rfl rfl) ?_
            have l1059 : c928.length = 32 := (kArr 32 (kI .u8)).len r930
            refine X.ef rfl rfl rfl (eStore (vs := (v899 :: [] : List Value)) Tryz.sizeOf67 rfl rfl (cellsOne (SlR.one (r900.mono (t907.trans (t917.trans (t937.trans t948)))))) (by simp []) (by simp [ones, ones_append, oInt, oBool, oStr, oSl, oPtr, SlR.one (r900.mono (t907.trans (t917.trans (t937.trans t948))))]) f949 (by simp [l1059])) ?_
            rintro _ h1060 ⟨rfl, e1061⟩
            have f1065 : Box h1060 b935 77 ((.int .i64 a0.Kind : Value) :: (.int .i64 a0.From : Value) :: (.int .i64 a0.To : Value) :: (.int .i64 a0.Session : Value) :: (.int .i64 a0.Part : Value) :: c928 ++ (v899 :: (.slice none 0 0 : Value) :: (.slice none 0 0 : Value) :: []) : List Value) := by subst e1061; exact Box.reset f949 (by have k := splice_mid (v899 :: [] : List Value) ((.slice none 0 0 : Value) :: [] : List Value) ((.int .i64 a0.Kind : Value) :: (.int .i64 a0.From : Value) :: (.int .i64 a0.To : Value) :: (.int .i64 a0.Session : Value) :: (.int .i64 a0.Part : Value) :: c928 : List Value) ((.slice none 0 0 : Value) :: (.slice none 0 0 : Value) :: [] : List Value) (by simp [l1059]); simp [l1059] at k; simpa using k)
            have p1062 : Stp [some b935] h944 h1060 := by subst e1061; exact Stp.set _
            have s1063 := s947.step p1062 (by simp)
            have t1064 := s947.tr p1062 (by simp) (fun _ hb => hb)
            clear e1061
            have q1066 := q1056.cat p1062 (by simp)
            refine ⟨q1066, ?_⟩
            refine X.pas (v := .pointer (some ⟨b935, 38, none⟩)) rfl rfl rfl (fun _ _ => yField 75 38 Tryz.underlying77 Tryz.sizeOf75 rfl rfl rfl) ?_
            have l1067 : c928.length = 32 := (kArr 32 (kI .u8)).len r930
            refine X.ef rfl rfl rfl (eStore (vs := (v901 :: [] : List Value)) Tryz.sizeOf75 rfl rfl (cellsOne (SlR.one (r902.mono (t907.trans (t917.trans (t937.trans (t948.trans t1064))))))) (by simp []) (by simp [ones, ones_append, oInt, oBool, oStr, oSl, oPtr, SlR.one (r902.mono (t907.trans (t917.trans (t937.trans (t948.trans t1064)))))]) f1065 (by simp [l1067])) ?_
            rintro _ h1068 ⟨rfl, e1069⟩
            have f1073 : Box h1068 b935 77 ((.int .i64 a0.Kind : Value) :: (.int .i64 a0.From : Value) :: (.int .i64 a0.To : Value) :: (.int .i64 a0.Session : Value) :: (.int .i64 a0.Part : Value) :: c928 ++ (v899 :: v901 :: (.slice none 0 0 : Value) :: []) : List Value) := by subst e1069; exact Box.reset f1065 (by have k := splice_mid (v901 :: [] : List Value) ((.slice none 0 0 : Value) :: [] : List Value) ((.int .i64 a0.Kind : Value) :: (.int .i64 a0.From : Value) :: (.int .i64 a0.To : Value) :: (.int .i64 a0.Session : Value) :: (.int .i64 a0.Part : Value) :: c928 ++ (v899 :: []) : List Value) ((.slice none 0 0 : Value) :: [] : List Value) (by simp [l1067]); simp [l1067] at k; simpa using k)
            have p1070 : Stp [some b935] h1060 h1068 := by subst e1069; exact Stp.set _
            have s1071 := s1063.step p1070 (by simp)
            have t1072 := s1063.tr p1070 (by simp) (fun _ hb => hb)
            clear e1069
            have q1074 := q1066.cat p1070 (by simp)
            refine ⟨q1074, ?_⟩
            refine X.nil ?_
            refine At.blkN ?_
            refine At.then ?_
            refine C.seq ?_
            refine C.region 2 rfl ?_
            have l1075 : c928.length = 32 := (kArr 32 (kI .u8)).len r930
            refine X.val (v := .agg (((.int .i64 a0.Kind : Value) :: (.int .i64 a0.From : Value) :: (.int .i64 a0.To : Value) :: (.int .i64 a0.Session : Value) :: (.int .i64 a0.Part : Value) :: c928 ++ (v899 :: v901 :: (.slice none 0 0 : Value) :: []) : List Value)).toArray) rfl rfl rfl (yLoadW Tryz.isAgg77 Tryz.sizeOf77 rfl (f1073).all (by simp [l1075])) trivial ?_
            have b1076 := ((((f920.stp p938 (by simp)).stp p946 ((s939.sep 1 [0] rfl rfl rfl) _ rfl)).stp p1062 ((s947.sep 1 [0] rfl rfl rfl) _ rfl)).stp p1070 ((s1063.sep 1 [0] rfl rfl rfl) _ rfl))
            have l1077 : c912.length = 32 := (kArr 32 (kI .u8)).len r914
            have l1078 : c928.length = 32 := (kArr 32 (kI .u8)).len r930
            refine X.ef rfl rfl rfl (eStore (vs := ((.int .i64 a0.Kind : Value) :: (.int .i64 a0.From : Value) :: (.int .i64 a0.To : Value) :: (.int .i64 a0.Session : Value) :: (.int .i64 a0.Part : Value) :: c928 ++ (v899 :: v901 :: (.slice none 0 0 : Value) :: []) : List Value)) Tryz.sizeOf77 rfl rfl rfl (by simp [l1078]) (by simp [ones, ones_append, oInt, oBool, oStr, oSl, oPtr, (kArr 32 (kI .u8)).one r930, SlR.one (r900.mono (t907.trans (t917.trans (t937.trans (t948.trans (t1064.trans t1072)))))), SlR.one (r902.mono (t907.trans (t917.trans (t937.trans (t948.trans (t1064.trans t1072))))))]) b1076 (by simp [l1077, l1078])) ?_
            rintro _ h1079 ⟨rfl, e1080⟩
            have f1084 : Box h1079 b915 77 ((.int .i64 a0.Kind : Value) :: (.int .i64 a0.From : Value) :: (.int .i64 a0.To : Value) :: (.int .i64 a0.Session : Value) :: (.int .i64 a0.Part : Value) :: c928 ++ (v899 :: v901 :: (.slice none 0 0 : Value) :: []) : List Value) := by subst e1080; exact Box.reset b1076 (by have k := splice_mid ((.int .i64 a0.Kind : Value) :: (.int .i64 a0.From : Value) :: (.int .i64 a0.To : Value) :: (.int .i64 a0.Session : Value) :: (.int .i64 a0.Part : Value) :: c928 ++ (v899 :: v901 :: (.slice none 0 0 : Value) :: []) : List Value) ((.int .i64 0 : Value) :: (.int .i64 0 : Value) :: (.int .i64 0 : Value) :: (.int .i64 0 : Value) :: (.int .i64 0 : Value) :: c912 ++ ((.slice none 0 0 : Value) :: (.slice none 0 0 : Value) :: (.slice none 0 0 : Value) :: []) : List Value) [] ([] : List Value) (by simp [l1077, l1078]); simpa using k)
            have p1081 : Stp [some b915] h1068 h1079 := by subst e1080; exact Stp.set _
            have s1082 := s1071.step p1081 (by simp)
            have t1083 := s1071.tr p1081 (by simp) (fun _ hb => hb)
            clear e1080
            refine ⟨trivial, ?_⟩
            refine X.nil ?_
            refine At.then ?_
            refine C.ret ?_
            have l1085 : c928.length = 32 := (kArr 32 (kI .u8)).len r930
            obtain rfl := sm H
            refine At.retn (rs := [.cell 2 77]) [.agg (((.int .i64 a0.Kind : Value) :: (.int .i64 a0.From : Value) :: (.int .i64 a0.To : Value) :: (.int .i64 a0.Session : Value) :: (.int .i64 a0.Part : Value) :: c928 ++ (v899 :: v901 :: (.slice none 0 0 : Value) :: []) : List Value)).toArray] rfl ?_ ?_
            exact ⟨Rv.cell Tryz.isAgg77 Tryz.sizeOf77 rfl f1084 (by simp [l1085]), trivial⟩
            exact ⟨s1082.stp, ((.int .i64 a0.Kind : Value) :: (.int .i64 a0.From : Value) :: (.int .i64 a0.To : Value) :: (.int .i64 a0.Session : Value) :: (.int .i64 a0.Part : Value) :: c928 ++ (v899 :: v901 :: (.slice none 0 0 : Value) :: []) : List Value), rfl, (k_proto_Msg.mono (m_proto_Msg ((kArr 32 (kI .u8)).mono r930 (t937.trans (t948.trans (t1064.trans (t1072.trans t1083))))) (r900.mono (t907.trans (t917.trans (t937.trans (t948.trans (t1064.trans (t1072.trans t1083))))))) (r902.mono (t907.trans (t917.trans (t937.trans (t948.trans (t1064.trans (t1072.trans t1083))))))) SlR.nil) s1082.outTr)⟩
          · have H := ifF g1055 H
            refine X.val rfl rfl rfl (yBF g1055 (yEql rfl rfl)) trivial ?_
            refine X.val rfl rfl rfl (yAssign rfl) trivial ?_
            refine X.nil ?_
            refine At.then ?_
            refine C.condF rfl ?_
            refine C.seq ?_
            refine C.region 2 rfl ?_
            by_cases g1086 : a0.Kind = 7
            · have H := ifT g1086 H
              refine X.val rfl rfl rfl (yBT g1086 (yEql rfl rfl)) trivial ?_
              refine X.val rfl rfl rfl (yAssign rfl) trivial ?_
              refine X.nil ?_
              refine At.then ?_
              refine C.condT rfl ?_
              refine C.regionD rfl (Stp [some b935] h944) (.pas 0 (.pas 1 (.pas 2 (.alt 3 (.pas 4 (.alt 5 (.pas 6 (.alt 7 .nil .stop)) .stop)) .stop)))) (by kernel_rfl) (Stp.refl0 _ _) ?_
              have q1087 := Stp.refl0 [some b935] h944
              refine X.pas (v := .pointer (some ⟨b905, 39, none⟩)) rfl rfl rfl (fun _ _ => yField 58 39 Tryz.underlying77 Tryz.sizeOf58 rfl rfl rfl) ?_
              have l1088 : c897.length = 32 := (kArr 32 (kI .u8)).len r898
              refine X.pas (v := v903) rfl rfl rfl (fun h' q => yLoadS (j := 39) Tryz.isAgg58 rfl ((b950.stp q (s947.sep 2 [0] rfl rfl rfl _ rfl))).all rfl (by simp [l1088])) ?_
              refine X.pas (v := .pointer (some ⟨b935, 3, none⟩)) rfl rfl rfl (fun _ _ => yField 3 3 Tryz.underlying77 Tryz.sizeOf3 rfl rfl rfl) ?_
              have l1089 : c928.length = 32 := (kArr 32 (kI .u8)).len r930
              refine X.ef rfl rfl rfl (eStore (vs := ((.int .i64 0 : Value) :: [] : List Value)) Tryz.sizeOf3 rfl rfl rfl (by simp []) (by simp [ones, ones_append, oInt, oBool, oStr, oSl, oPtr]) f949 (by simp [l1089])) ?_
              rintro _ h1090 ⟨rfl, e1091⟩
              have f1095 : Box h1090 b935 77 ((.int .i64 a0.Kind : Value) :: (.int .i64 a0.From : Value) :: (.int .i64 a0.To : Value) :: (.int .i64 0 : Value) :: (.int .i64 a0.Part : Value) :: c928 ++ ((.slice none 0 0 : Value) :: (.slice none 0 0 : Value) :: (.slice none 0 0 : Value) :: []) : List Value) := by subst e1091; exact Box.reset f949 (by have k := splice_mid ((.int .i64 0 : Value) :: [] : List Value) ((.int .i64 a0.Session : Value) :: [] : List Value) ((.int .i64 a0.Kind : Value) :: (.int .i64 a0.From : Value) :: (.int .i64 a0.To : Value) :: [] : List Value) ((.int .i64 a0.Part : Value) :: c928 ++ ((.slice none 0 0 : Value) :: (.slice none 0 0 : Value) :: (.slice none 0 0 : Value) :: []) : List Value) (by simp [l1089]); simp [l1089] at k; simpa using k)
              have p1092 : Stp [some b935] h944 h1090 := by subst e1091; exact Stp.set _
              have s1093 := s947.step p1092 (by simp)
              have t1094 := s947.tr p1092 (by simp) (fun _ hb => hb)
              clear e1091
              have q1096 := q1087.cat p1092 (by simp)
              refine ⟨q1096, ?_⟩
              refine X.pas (v := .pointer (some ⟨b935, 4, none⟩)) rfl rfl rfl (fun _ _ => yField 3 4 Tryz.underlying77 Tryz.sizeOf3 rfl rfl rfl) ?_
              have l1097 : c928.length = 32 := (kArr 32 (kI .u8)).len r930
              refine X.ef rfl rfl rfl (eStore (vs := ((.int .i64 0 : Value) :: [] : List Value)) Tryz.sizeOf3 rfl rfl rfl (by simp []) (by simp [ones, ones_append, oInt, oBool, oStr, oSl, oPtr]) f1095 (by simp [l1097])) ?_
              rintro _ h1098 ⟨rfl, e1099⟩
              have f1103 : Box h1098 b935 77 ((.int .i64 a0.Kind : Value) :: (.int .i64 a0.From : Value) :: (.int .i64 a0.To : Value) :: (.int .i64 0 : Value) :: (.int .i64 0 : Value) :: c928 ++ ((.slice none 0 0 : Value) :: (.slice none 0 0 : Value) :: (.slice none 0 0 : Value) :: []) : List Value) := by subst e1099; exact Box.reset f1095 (by have k := splice_mid ((.int .i64 0 : Value) :: [] : List Value) ((.int .i64 a0.Part : Value) :: [] : List Value) ((.int .i64 a0.Kind : Value) :: (.int .i64 a0.From : Value) :: (.int .i64 a0.To : Value) :: (.int .i64 0 : Value) :: [] : List Value) (c928 ++ ((.slice none 0 0 : Value) :: (.slice none 0 0 : Value) :: (.slice none 0 0 : Value) :: []) : List Value) (by simp [l1097]); simp [l1097] at k; simpa using k)
              have p1100 : Stp [some b935] h1090 h1098 := by subst e1099; exact Stp.set _
              have s1101 := s1093.step p1100 (by simp)
              have t1102 := s1093.tr p1100 (by simp) (fun _ hb => hb)
              clear e1099
              have q1104 := q1096.cat p1100 (by simp)
              refine ⟨q1104, ?_⟩
              refine X.pas (v := .pointer (some ⟨b935, 39, none⟩)) rfl rfl rfl (fun _ _ => yField 58 39 Tryz.underlying77 Tryz.sizeOf58 rfl rfl rfl) ?_
              have l1105 : c928.length = 32 := (kArr 32 (kI .u8)).len r930
              refine X.ef rfl rfl rfl (eStore (vs := (v903 :: [] : List Value)) Tryz.sizeOf58 rfl rfl (cellsOne (SlR.one (r904.mono (t907.trans (t917.trans (t937.trans (t948.trans (t1094.trans t1102)))))))) (by simp []) (by simp [ones, ones_append, oInt, oBool, oStr, oSl, oPtr, SlR.one (r904.mono (t907.trans (t917.trans (t937.trans (t948.trans (t1094.trans t1102))))))]) f1103 (by simp [l1105])) ?_
              rintro _ h1106 ⟨rfl, e1107⟩
              have f1111 : Box h1106 b935 77 ((.int .i64 a0.Kind : Value) :: (.int .i64 a0.From : Value) :: (.int .i64 a0.To : Value) :: (.int .i64 0 : Value) :: (.int .i64 0 : Value) :: c928 ++ ((.slice none 0 0 : Value) :: (.slice none 0 0 : Value) :: v903 :: []) : List Value) := by subst e1107; exact Box.reset f1103 (by have k := splice_mid (v903 :: [] : List Value) ((.slice none 0 0 : Value) :: [] : List Value) ((.int .i64 a0.Kind : Value) :: (.int .i64 a0.From : Value) :: (.int .i64 a0.To : Value) :: (.int .i64 0 : Value) :: (.int .i64 0 : Value) :: c928 ++ ((.slice none 0 0 : Value) :: (.slice none 0 0 : Value) :: []) : List Value) ([] : List Value) (by simp [l1105]); simp [l1105] at k; simpa using k)
              have p1108 : Stp [some b935] h1098 h1106 := by subst e1107; exact Stp.set _
              have s1109 := s1101.step p1108 (by simp)
              have t1110 := s1101.tr p1108 (by simp) (fun _ hb => hb)
              clear e1107
              have q1112 := q1104.cat p1108 (by simp)
              refine ⟨q1112, ?_⟩
              refine X.nil ?_
              refine At.blkN ?_
              refine At.then ?_
              refine C.seq ?_
              refine C.region 2 rfl ?_
              have l1113 : c928.length = 32 := (kArr 32 (kI .u8)).len r930
              refine X.val (v := .agg (((.int .i64 a0.Kind : Value) :: (.int .i64 a0.From : Value) :: (.int .i64 a0.To : Value) :: (.int .i64 0 : Value) :: (.int .i64 0 : Value) :: c928 ++ ((.slice none 0 0 : Value) :: (.slice none 0 0 : Value) :: v903 :: []) : List Value)).toArray) rfl rfl rfl (yLoadW Tryz.isAgg77 Tryz.sizeOf77 rfl (f1111).all (by simp [l1113])) trivial ?_
              have b1114 := (((((f920.stp p938 (by simp)).stp p946 ((s939.sep 1 [0] rfl rfl rfl) _ rfl)).stp p1092 ((s947.sep 1 [0] rfl rfl rfl) _ rfl)).stp p1100 ((s1093.sep 1 [0] rfl rfl rfl) _ rfl)).stp p1108 ((s1101.sep 1 [0] rfl rfl rfl) _ rfl))
              have l1115 : c912.length = 32 := (kArr 32 (kI .u8)).len r914
              have l1116 : c928.length = 32 := (kArr 32 (kI .u8)).len r930
              refine X.ef rfl rfl rfl (eStore (vs := ((.int .i64 a0.Kind : Value) :: (.int .i64 a0.From : Value) :: (.int .i64 a0.To : Value) :: (.int .i64 0 : Value) :: (.int .i64 0 : Value) :: c928 ++ ((.slice none 0 0 : Value) :: (.slice none 0 0 : Value) :: v903 :: []) : List Value)) Tryz.sizeOf77 rfl rfl rfl (by simp [l1116]) (by simp [ones, ones_append, oInt, oBool, oStr, oSl, oPtr, (kArr 32 (kI .u8)).one r930, SlR.one (r904.mono (t907.trans (t917.trans (t937.trans (t948.trans (t1094.trans (t1102.trans t1110)))))))]) b1114 (by simp [l1115, l1116])) ?_
              rintro _ h1117 ⟨rfl, e1118⟩
              have f1122 : Box h1117 b915 77 ((.int .i64 a0.Kind : Value) :: (.int .i64 a0.From : Value) :: (.int .i64 a0.To : Value) :: (.int .i64 0 : Value) :: (.int .i64 0 : Value) :: c928 ++ ((.slice none 0 0 : Value) :: (.slice none 0 0 : Value) :: v903 :: []) : List Value) := by subst e1118; exact Box.reset b1114 (by have k := splice_mid ((.int .i64 a0.Kind : Value) :: (.int .i64 a0.From : Value) :: (.int .i64 a0.To : Value) :: (.int .i64 0 : Value) :: (.int .i64 0 : Value) :: c928 ++ ((.slice none 0 0 : Value) :: (.slice none 0 0 : Value) :: v903 :: []) : List Value) ((.int .i64 0 : Value) :: (.int .i64 0 : Value) :: (.int .i64 0 : Value) :: (.int .i64 0 : Value) :: (.int .i64 0 : Value) :: c912 ++ ((.slice none 0 0 : Value) :: (.slice none 0 0 : Value) :: (.slice none 0 0 : Value) :: []) : List Value) [] ([] : List Value) (by simp [l1115, l1116]); simpa using k)
              have p1119 : Stp [some b915] h1106 h1117 := by subst e1118; exact Stp.set _
              have s1120 := s1109.step p1119 (by simp)
              have t1121 := s1109.tr p1119 (by simp) (fun _ hb => hb)
              clear e1118
              refine ⟨trivial, ?_⟩
              refine X.nil ?_
              refine At.then ?_
              refine C.ret ?_
              have l1123 : c928.length = 32 := (kArr 32 (kI .u8)).len r930
              obtain rfl := sm H
              refine At.retn (rs := [.cell 2 77]) [.agg (((.int .i64 a0.Kind : Value) :: (.int .i64 a0.From : Value) :: (.int .i64 a0.To : Value) :: (.int .i64 0 : Value) :: (.int .i64 0 : Value) :: c928 ++ ((.slice none 0 0 : Value) :: (.slice none 0 0 : Value) :: v903 :: []) : List Value)).toArray] rfl ?_ ?_
              exact ⟨Rv.cell Tryz.isAgg77 Tryz.sizeOf77 rfl f1122 (by simp [l1123]), trivial⟩
              exact ⟨s1120.stp, ((.int .i64 a0.Kind : Value) :: (.int .i64 a0.From : Value) :: (.int .i64 a0.To : Value) :: (.int .i64 0 : Value) :: (.int .i64 0 : Value) :: c928 ++ ((.slice none 0 0 : Value) :: (.slice none 0 0 : Value) :: v903 :: []) : List Value), rfl, (k_proto_Msg.mono (m_proto_Msg ((kArr 32 (kI .u8)).mono r930 (t937.trans (t948.trans (t1094.trans (t1102.trans (t1110.trans t1121)))))) SlR.nil SlR.nil (r904.mono (t907.trans (t917.trans (t937.trans (t948.trans (t1094.trans (t1102.trans (t1110.trans t1121))))))))) s1120.outTr)⟩
            · have H := ifF g1086 H
              refine X.val rfl rfl rfl (yBF g1086 (yEql rfl rfl)) trivial ?_
              refine X.val rfl rfl rfl (yAssign rfl) trivial ?_
              refine X.nil ?_
              refine At.then ?_
              refine C.condF rfl ?_
              refine C.skip ?_
              refine At.blkN ?_
              refine At.then ?_
              refine C.seq ?_
              refine C.region 2 rfl ?_
              have l1124 : c928.length = 32 := (kArr 32 (kI .u8)).len r930
              refine X.val (v := .agg (((.int .i64 a0.Kind : Value) :: (.int .i64 a0.From : Value) :: (.int .i64 a0.To : Value) :: (.int .i64 a0.Session : Value) :: (.int .i64 a0.Part : Value) :: c928 ++ ((.slice none 0 0 : Value) :: (.slice none 0 0 : Value) :: (.slice none 0 0 : Value) :: []) : List Value)).toArray) rfl rfl rfl (yLoadW Tryz.isAgg77 Tryz.sizeOf77 rfl (f949).all (by simp [l1124])) trivial ?_
              have b1125 := ((f920.stp p938 (by simp)).stp p946 ((s939.sep 1 [0] rfl rfl rfl) _ rfl))
              have l1126 : c912.length = 32 := (kArr 32 (kI .u8)).len r914
              have l1127 : c928.length = 32 := (kArr 32 (kI .u8)).len r930
              refine X.ef rfl rfl rfl (eStore (vs := ((.int .i64 a0.Kind : Value) :: (.int .i64 a0.From : Value) :: (.int .i64 a0.To : Value) :: (.int .i64 a0.Session : Value) :: (.int .i64 a0.Part : Value) :: c928 ++ ((.slice none 0 0 : Value) :: (.slice none 0 0 : Value) :: (.slice none 0 0 : Value) :: []) : List Value)) Tryz.sizeOf77 rfl rfl rfl (by simp [l1127]) (by simp [ones, ones_append, oInt, oBool, oStr, oSl, oPtr, (kArr 32 (kI .u8)).one r930]) b1125 (by simp [l1126, l1127])) ?_
              rintro _ h1128 ⟨rfl, e1129⟩
              have f1133 : Box h1128 b915 77 ((.int .i64 a0.Kind : Value) :: (.int .i64 a0.From : Value) :: (.int .i64 a0.To : Value) :: (.int .i64 a0.Session : Value) :: (.int .i64 a0.Part : Value) :: c928 ++ ((.slice none 0 0 : Value) :: (.slice none 0 0 : Value) :: (.slice none 0 0 : Value) :: []) : List Value) := by subst e1129; exact Box.reset b1125 (by have k := splice_mid ((.int .i64 a0.Kind : Value) :: (.int .i64 a0.From : Value) :: (.int .i64 a0.To : Value) :: (.int .i64 a0.Session : Value) :: (.int .i64 a0.Part : Value) :: c928 ++ ((.slice none 0 0 : Value) :: (.slice none 0 0 : Value) :: (.slice none 0 0 : Value) :: []) : List Value) ((.int .i64 0 : Value) :: (.int .i64 0 : Value) :: (.int .i64 0 : Value) :: (.int .i64 0 : Value) :: (.int .i64 0 : Value) :: c912 ++ ((.slice none 0 0 : Value) :: (.slice none 0 0 : Value) :: (.slice none 0 0 : Value) :: []) : List Value) [] ([] : List Value) (by simp [l1126, l1127]); simpa using k)
              have p1130 : Stp [some b915] h944 h1128 := by subst e1129; exact Stp.set _
              have s1131 := s947.step p1130 (by simp)
              have t1132 := s947.tr p1130 (by simp) (fun _ hb => hb)
              clear e1129
              refine ⟨trivial, ?_⟩
              refine X.nil ?_
              refine At.then ?_
              refine C.ret ?_
              have l1134 : c928.length = 32 := (kArr 32 (kI .u8)).len r930
              obtain rfl := sm H
              refine At.retn (rs := [.cell 2 77]) [.agg (((.int .i64 a0.Kind : Value) :: (.int .i64 a0.From : Value) :: (.int .i64 a0.To : Value) :: (.int .i64 a0.Session : Value) :: (.int .i64 a0.Part : Value) :: c928 ++ ((.slice none 0 0 : Value) :: (.slice none 0 0 : Value) :: (.slice none 0 0 : Value) :: []) : List Value)).toArray] rfl ?_ ?_
              exact ⟨Rv.cell Tryz.isAgg77 Tryz.sizeOf77 rfl f1133 (by simp [l1134]), trivial⟩
              exact ⟨s1131.stp, ((.int .i64 a0.Kind : Value) :: (.int .i64 a0.From : Value) :: (.int .i64 a0.To : Value) :: (.int .i64 a0.Session : Value) :: (.int .i64 a0.Part : Value) :: c928 ++ ((.slice none 0 0 : Value) :: (.slice none 0 0 : Value) :: (.slice none 0 0 : Value) :: []) : List Value), rfl, (k_proto_Msg.mono (m_proto_Msg ((kArr 32 (kI .u8)).mono r930 (t937.trans (t948.trans t1132))) SlR.nil SlR.nil SlR.nil) s1131.outTr)⟩

def p_proto_Right (K : Nat) (a0 : proto_Msg) : Option (Bool) :=
  (if a0.Kind = 1 then (if a0.Kind = 7 then (p_proto_isNode a0.From).bind fun x1156 => (bif x1156 then (p_proto_isNode a0.To).bind fun x1164 => (bif x1164 then (if a0.From ≠ a0.To then (p_proto_own a0).bind fun x1176 => (p_proto_Same K a0 x1176).bind fun x1193 => some x1193 else some false) else some false) else some false) else (p_proto_session a0).bind fun x1201 => (bif x1201 then (p_proto_isNode a0.From).bind fun x1209 => (bif x1209 then (p_proto_isNode a0.To).bind fun x1217 => (bif x1217 then (if a0.From ≠ a0.To then (p_proto_own a0).bind fun x1229 => (p_proto_Same K a0 x1229).bind fun x1246 => some x1246 else some false) else some false) else some false) else some false)) else (if a0.Kind = 4 then (if a0.Kind = 7 then (p_proto_isNode a0.From).bind fun x1258 => (bif x1258 then (p_proto_isNode a0.To).bind fun x1266 => (bif x1266 then (if a0.From ≠ a0.To then (p_proto_own a0).bind fun x1278 => (p_proto_Same K a0 x1278).bind fun x1295 => some x1295 else some false) else some false) else some false) else (p_proto_session a0).bind fun x1303 => (bif x1303 then (p_proto_isNode a0.From).bind fun x1311 => (bif x1311 then (p_proto_isNode a0.To).bind fun x1319 => (bif x1319 then (if a0.From ≠ a0.To then (p_proto_own a0).bind fun x1331 => (p_proto_Same K a0 x1331).bind fun x1348 => some x1348 else some false) else some false) else some false) else some false)) else (if a0.Kind = 2 then none else (if a0.Kind = 3 then none else (if a0.Kind = 6 then none else (if a0.Kind = 5 then none else (if a0.Kind = 7 then (if (a0.Carts.length : Int) = 1 then (p_pack_Right K a0.Carts).bind fun x1367 => (bif x1367 then (if 0 ≤ (0 : Int) ∧ (0 : Int) < (a0.Carts.length : Int) then none else none) else some false) else some false) else some false)))))))
theorem c_proto_Right {K : Nat} {h : Heap} {I : Nat → Prop} (hI : ∀ b, I b → b < h.size) {c_a0 : List Value} {a0 : proto_Msg} (r_a0 : (k_proto_Msg).rp I h c_a0 a0) {r : (Bool)} (H : p_proto_Right K a0 = some r) :
    Fn Tryz.prog 42 [.agg c_a0.toArray] h (fun v h' => Stp [] h h' ∧ v = (.bool r : Value)) := by
  unfold p_proto_Right at H
  obtain ⟨c1135, v1137, v1139, v1141, rfl, r1136, r1138, r1140, r1142⟩ := o_proto_Msg r_a0
  refine Fn.of 96 Tryz.func42 rfl rfl ?_
  have s0 := St.start hI
  refine C.seq ?_
  refine C.region 2 rfl ?_
  refine X.ef rfl rfl rfl (eBox (cs := ((.int .i64 a0.Kind : Value) :: (.int .i64 a0.From : Value) :: (.int .i64 a0.To : Value) :: (.int .i64 a0.Session : Value) :: (.int .i64 a0.Part : Value) :: c1135 ++ (v1137 :: v1139 :: v1141 :: []) : List Value)) rfl rfl) ?_
  rintro _ h1144 ⟨rfl, e1149⟩
  obtain ⟨b1143, e1149b⟩ : ∃ b, b = h.size := ⟨_, rfl⟩
  rw [← e1149b]
  have f1148 : Box h1144 b1143 77 ((.int .i64 a0.Kind : Value) :: (.int .i64 a0.From : Value) :: (.int .i64 a0.To : Value) :: (.int .i64 a0.Session : Value) :: (.int .i64 a0.Part : Value) :: c1135 ++ (v1137 :: v1139 :: v1141 :: []) : List Value) := by subst e1149; subst e1149b; exact Box.new _ _ _
  have p1146 : Stp [] h h1144 := by subst e1149; exact Stp.push _ _
  have s1147 : St [] h I h1144 I (some b1143 :: []) := by subst e1149; subst e1149b; exact s0.new _
  have t1145 := s0.tr p1146 (by simp) (fun _ hb => hb)
  clear e1149 e1149b
  refine ⟨trivial, ?_⟩
  refine X.val rfl rfl rfl (yAssign rfl) trivial ?_
  refine X.nil ?_
  refine At.then ?_
  refine C.seq ?_
  refine C.region 1 rfl ?_
  refine X.val rfl rfl rfl (yAssign rfl) trivial ?_
  refine X.nil ?_
  refine At.then ?_
  refine C.seq ?_
  refine C.seq ?_
  refine C.region 2 rfl ?_
  refine X.val (v := .pointer (some ⟨b1143, 0, none⟩)) rfl rfl rfl (yField 3 0 Tryz.underlying77 Tryz.sizeOf3 rfl rfl rfl) trivial ?_
  have l1150 : c1135.length = 32 := (kArr 32 (kI .u8)).len r1136
  refine X.val (v := .int .i64 a0.Kind) rfl rfl rfl (yLoadS (j := 0) Tryz.isAgg3 rfl (f1148).all rfl (by simp [l1150])) trivial ?_
  refine X.nil ?_
  refine At.then ?_
  refine C.block ?_
  refine C.seq ?_
  refine C.seq ?_
  refine C.region 2 rfl ?_
  by_cases g1151 : a0.Kind = 1
  · have H := ifT g1151 H
    refine X.val rfl rfl rfl (yBT g1151 (yEql rfl rfl)) trivial ?_
    refine X.val rfl rfl rfl (yAssign rfl) trivial ?_
    refine X.nil ?_
    refine At.then ?_
    refine C.condT rfl ?_
    refine C.skip ?_
    refine At.then ?_
    refine C.condT rfl ?_
    refine C.region 1 rfl ?_
    refine X.val rfl rfl rfl (yAssign rfl) trivial ?_
    refine X.nil ?_
    refine At.blkN ?_
    refine At.then ?_
    refine C.seq ?_
    refine C.regionD rfl (Stp [] h1144) (.pas 0 (.pas 1 (.pas 2 (.pas 3 (.pas 4 (.pas 5 (.pas 6 (.alt 7 (.pas 8 (.pas 9 (.pas 10 (.pas 11 (.pas 12 (.alt 13 (.pas 14 (.pas 15 (.pas 16 (.pas 17 (.alt 18 (.pas 19 (.pas 20 (.pas 21 (.pas 22 (.pas 23 (.pas 24 (.pas 25 (.pas 26 (.pas 27 (.pas 28 (.pas 29 (.alt 30 (.alt 31 (.pas 32 (.pas 33 .nil)) .stop) .stop)))))))))))) .stop))))) .stop)))))) .stop)))))))) (by kernel_rfl) (Stp.refl0 _ _) ?_
    have q1152 := Stp.refl0 [] h1144
    refine X.pas rfl rfl rfl (fun _ _ => yMove rfl) ?_
    refine X.pas rfl rfl rfl (fun _ _ => yMove rfl) ?_
    refine X.pas (v := .pointer (some ⟨b1143, 0, none⟩)) rfl rfl rfl (fun _ _ => yField 3 0 Tryz.underlying77 Tryz.sizeOf3 rfl rfl rfl) ?_
    have l1153 : c1135.length = 32 := (kArr 32 (kI .u8)).len r1136
    refine X.pas (v := .int .i64 a0.Kind) rfl rfl rfl (fun h' q => yLoadS (j := 0) Tryz.isAgg3 rfl ((f1148.stp q (by simp))).all rfl (by simp [l1153])) ?_
    by_cases g1154 : a0.Kind = 7
    · have H := ifT g1154 H
      refine X.pas rfl rfl rfl (fun _ _ => yBT g1154 (yEql rfl rfl)) ?_
      refine X.pas rfl rfl rfl (fun _ _ => yMove rfl) ?_
      refine X.pasSkip rfl rfl rfl ?_
      refine X.skip rfl rfl rfl q1152 ?_
      refine X.pas rfl rfl rfl (fun _ _ => yPickT rfl rfl) ?_
      refine X.pas rfl rfl rfl (fun _ _ => yPickT rfl rfl) ?_
      refine X.pas rfl rfl rfl (fun _ _ => yMove rfl) ?_
      refine X.pas (v := .pointer (some ⟨b1143, 1, none⟩)) rfl rfl rfl (fun _ _ => yField 3 1 Tryz.underlying77 Tryz.sizeOf3 rfl rfl rfl) ?_
      have l1155 : c1135.length = 32 := (kArr 32 (kI .u8)).len r1136
      refine X.pas (v := .int .i64 a0.From) rfl rfl rfl (fun h' q => yLoadS (j := 1) Tryz.isAgg3 rfl ((f1148.stp q (by simp))).all rfl (by simp [l1155])) ?_
      obtain ⟨x1156, e1157, H⟩ := bnd H
      refine X.call (all := [.int .i64 a0.From]) Tryz.call156 rfl rfl rfl rfl rfl rfl (c_proto_isNode s1147.ib  e1157) ?_
      rintro _ h1158 ⟨p1159, rfl⟩
      have s1160 := s1147.call p1159
      have t1161 := s1147.callTr p1159
      have q1162 := q1152.cat p1159 (by simp)
      refine ⟨q1162, ?_⟩
      refine X.pas rfl rfl rfl (fun _ _ => yPickT rfl rfl) ?_
      refine X.pas rfl rfl rfl (fun _ _ => yMove rfl) ?_
      cases x1156
      · have H := biF H
        refine X.pasSkip rfl rfl rfl ?_
        refine X.pasSkip rfl rfl rfl ?_
        refine X.skip rfl rfl rfl q1162 ?_
        refine X.pas rfl rfl rfl (fun _ _ => yPickF rfl rfl) ?_
        refine X.pas rfl rfl rfl (fun _ _ => yMove rfl) ?_
        refine X.pasSkip rfl rfl rfl ?_
        refine X.pasSkip rfl rfl rfl ?_
        refine X.pasSkip rfl rfl rfl ?_
        refine X.pasSkip rfl rfl rfl ?_
        refine X.pasSkip rfl rfl rfl ?_
        refine X.pas rfl rfl rfl (fun _ _ => yPickF rfl rfl) ?_
        refine X.pas rfl rfl rfl (fun _ _ => yMove rfl) ?_
        refine X.pasSkip rfl rfl rfl ?_
        refine X.pasSkip rfl rfl rfl ?_
        refine X.skip rfl rfl rfl q1162 ?_
        refine X.skip rfl rfl rfl q1162 ?_
        refine X.pas rfl rfl rfl (fun _ _ => yPickF rfl rfl) ?_
        refine X.pas rfl rfl rfl (fun _ _ => yAssign rfl) ?_
        refine X.nil ?_
        refine At.then ?_
        refine C.ret ?_
        obtain rfl := sm H
        refine At.retn (rs := [.tmp 2]) [.bool false] rfl ?_ ?_
        exact ⟨Rv.tmp rfl, trivial⟩
        exact ⟨s1160.stp, rfl⟩
      · have H := biT H
        refine X.pas (v := .pointer (some ⟨b1143, 2, none⟩)) rfl rfl rfl (fun _ _ => yField 3 2 Tryz.underlying77 Tryz.sizeOf3 rfl rfl rfl) ?_
        have l1163 : c1135.length = 32 := (kArr 32 (kI .u8)).len r1136
        refine X.pas (v := .int .i64 a0.To) rfl rfl rfl (fun h' q => yLoadS (j := 2) Tryz.isAgg3 rfl ((f1148.stp q (by simp))).all rfl (by simp [l1163])) ?_
        obtain ⟨x1164, e1165, H⟩ := bnd H
        refine X.call (all := [.int .i64 a0.To]) Tryz.call156 rfl rfl rfl rfl rfl rfl (c_proto_isNode s1160.ib  e1165) ?_
        rintro _ h1166 ⟨p1167, rfl⟩
        have s1168 := s1160.call p1167
        have t1169 := s1160.callTr p1167
        have q1170 := q1162.cat p1167 (by simp)
        refine ⟨q1170, ?_⟩
        refine X.pas rfl rfl rfl (fun _ _ => yPickT rfl rfl) ?_
        refine X.pas rfl rfl rfl (fun _ _ => yMove rfl) ?_
        cases x1164
        · have H := biF H
          refine X.pasSkip rfl rfl rfl ?_
          refine X.pasSkip rfl rfl rfl ?_
          refine X.pasSkip rfl rfl rfl ?_
          refine X.pasSkip rfl rfl rfl ?_
          refine X.pasSkip rfl rfl rfl ?_
          refine X.pas rfl rfl rfl (fun _ _ => yPickF rfl rfl) ?_
          refine X.pas rfl rfl rfl (fun _ _ => yMove rfl) ?_
          refine X.pasSkip rfl rfl rfl ?_
          refine X.pasSkip rfl rfl rfl ?_
          refine X.skip rfl rfl rfl q1170 ?_
          refine X.skip rfl rfl rfl q1170 ?_
          refine X.pas rfl rfl rfl (fun _ _ => yPickF rfl rfl) ?_
          refine X.pas rfl rfl rfl (fun _ _ => yAssign rfl) ?_
          refine X.nil ?_
          refine At.then ?_
          refine C.ret ?_
          obtain rfl := sm H
          refine At.retn (rs := [.tmp 2]) [.bool false] rfl ?_ ?_
          exact ⟨Rv.tmp rfl, trivial⟩
          exact ⟨s1168.stp, rfl⟩
        · have H := biT H
          refine X.pas (v := .pointer (some ⟨b1143, 1, none⟩)) rfl rfl rfl (fun _ _ => yField 3 1 Tryz.underlying77 Tryz.sizeOf3 rfl rfl rfl) ?_
          have l1171 : c1135.length = 32 := (kArr 32 (kI .u8)).len r1136
          refine X.pas (v := .int .i64 a0.From) rfl rfl rfl (fun h' q => yLoadS (j := 1) Tryz.isAgg3 rfl ((f1148.stp q (by simp))).all rfl (by simp [l1171])) ?_
          refine X.pas (v := .pointer (some ⟨b1143, 2, none⟩)) rfl rfl rfl (fun _ _ => yField 3 2 Tryz.underlying77 Tryz.sizeOf3 rfl rfl rfl) ?_
          have l1172 : c1135.length = 32 := (kArr 32 (kI .u8)).len r1136
          refine X.pas (v := .int .i64 a0.To) rfl rfl rfl (fun h' q => yLoadS (j := 2) Tryz.isAgg3 rfl ((f1148.stp q (by simp))).all rfl (by simp [l1172])) ?_
          by_cases g1173 : a0.From ≠ a0.To
          · have H := ifT g1173 H
            refine X.pas rfl rfl rfl (fun _ _ => yBT g1173 (yNeq rfl rfl)) ?_
            refine X.pas rfl rfl rfl (fun _ _ => yPickT rfl rfl) ?_
            refine X.pas rfl rfl rfl (fun _ _ => yMove rfl) ?_
            have l1174 : c1135.length = 32 := (kArr 32 (kI .u8)).len r1136
            refine X.pas (v := .agg (((.int .i64 a0.Kind : Value) :: (.int .i64 a0.From : Value) :: (.int .i64 a0.To : Value) :: (.int .i64 a0.Session : Value) :: (.int .i64 a0.Part : Value) :: c1135 ++ (v1137 :: v1139 :: v1141 :: []) : List Value)).toArray) rfl rfl rfl (fun h' q => yLoadW Tryz.isAgg77 Tryz.sizeOf77 rfl ((f1148.stp q (by simp))).all (by simp [l1174])) ?_
            have l1175 : c1135.length = 32 := (kArr 32 (kI .u8)).len r1136
            refine X.pas (v := .agg (((.int .i64 a0.Kind : Value) :: (.int .i64 a0.From : Value) :: (.int .i64 a0.To : Value) :: (.int .i64 a0.Session : Value) :: (.int .i64 a0.Part : Value) :: c1135 ++ (v1137 :: v1139 :: v1141 :: []) : List Value)).toArray) rfl rfl rfl (fun h' q => yLoadW Tryz.isAgg77 Tryz.sizeOf77 rfl ((f1148.stp q (by simp))).all (by simp [l1175])) ?_
            obtain ⟨x1176, e1177, H⟩ := bnd H
            refine X.call (all := [.agg (((.int .i64 a0.Kind : Value) :: (.int .i64 a0.From : Value) :: (.int .i64 a0.To : Value) :: (.int .i64 a0.Session : Value) :: (.int .i64 a0.Part : Value) :: c1135 ++ (v1137 :: v1139 :: v1141 :: []) : List Value)).toArray]) Tryz.call157 rfl rfl rfl rfl rfl rfl (c_proto_own s1168.ib (m_proto_Msg ((kArr 32 (kI .u8)).mono r1136 (t1145.trans (t1161.trans t1169))) (r1138.mono (t1145.trans (t1161.trans t1169))) (r1140.mono (t1145.trans (t1161.trans t1169))) (r1142.mono (t1145.trans (t1161.trans t1169)))) e1177) ?_
            rintro _ h1178 ⟨p1179, c1182, rfl, r1183⟩
            have s1180 := s1168.call p1179
            have t1181 := s1168.callTr p1179
            have q1184 := q1170.cat p1179 (by simp)
            obtain ⟨c1185, v1187, v1189, v1191, rfl, r1186, r1188, r1190, r1192⟩ := o_proto_Msg r1183
            refine ⟨q1184, ?_⟩
            obtain ⟨x1193, e1194, H⟩ := bnd H
            refine X.call (all := [.agg (((.int .i64 a0.Kind : Value) :: (.int .i64 a0.From : Value) :: (.int .i64 a0.To : Value) :: (.int .i64 a0.Session : Value) :: (.int .i64 a0.Part : Value) :: c1135 ++ (v1137 :: v1139 :: v1141 :: []) : List Value)).toArray, .agg (((.int .i64 x1176.Kind : Value) :: (.int .i64 x1176.From : Value) :: (.int .i64 x1176.To : Value) :: (.int .i64 x1176.Session : Value) :: (.int .i64 x1176.Part : Value) :: c1185 ++ (v1187 :: v1189 :: v1191 :: []) : List Value)).toArray]) Tryz.call44 rfl rfl rfl rfl rfl rfl (c_proto_Same s1180.ib (m_proto_Msg ((kArr 32 (kI .u8)).mono r1136 (t1145.trans (t1161.trans (t1169.trans t1181)))) (r1138.mono (t1145.trans (t1161.trans (t1169.trans t1181)))) (r1140.mono (t1145.trans (t1161.trans (t1169.trans t1181)))) (r1142.mono (t1145.trans (t1161.trans (t1169.trans t1181))))) (m_proto_Msg r1186 r1188 r1190 r1192) e1194) ?_
            rintro _ h1195 ⟨p1196, rfl⟩
            have s1197 := s1180.call p1196
            have t1198 := s1180.callTr p1196
            have q1199 := q1184.cat p1196 (by simp)
            refine ⟨q1199, ?_⟩
            refine X.pas rfl rfl rfl (fun _ _ => yPickT rfl rfl) ?_
            refine X.pas rfl rfl rfl (fun _ _ => yAssign rfl) ?_
            refine X.nil ?_
            refine At.then ?_
            refine C.ret ?_
            obtain rfl := sm H
            refine At.retn (rs := [.tmp 2]) [.bool x1193] rfl ?_ ?_
            exact ⟨Rv.tmp rfl, trivial⟩
            exact ⟨s1197.stp, rfl⟩
          · have H := ifF g1173 H
            refine X.pas rfl rfl rfl (fun _ _ => yBF g1173 (yNeq rfl rfl)) ?_
            refine X.pas rfl rfl rfl (fun _ _ => yPickT rfl rfl) ?_
            refine X.pas rfl rfl rfl (fun _ _ => yMove rfl) ?_
            refine X.pasSkip rfl rfl rfl ?_
            refine X.pasSkip rfl rfl rfl ?_
            refine X.skip rfl rfl rfl q1170 ?_
            refine X.skip rfl rfl rfl q1170 ?_
            refine X.pas rfl rfl rfl (fun _ _ => yPickF rfl rfl) ?_
            refine X.pas rfl rfl rfl (fun _ _ => yAssign rfl) ?_
            refine X.nil ?_
            refine At.then ?_
            refine C.ret ?_
            obtain rfl := sm H
            refine At.retn (rs := [.tmp 2]) [.bool false] rfl ?_ ?_
            exact ⟨Rv.tmp rfl, trivial⟩
            exact ⟨s1168.stp, rfl⟩
    · have H := ifF g1154 H
      refine X.pas rfl rfl rfl (fun _ _ => yBF g1154 (yEql rfl rfl)) ?_
      refine X.pas rfl rfl rfl (fun _ _ => yMove rfl) ?_
      have l1200 : c1135.length = 32 := (kArr 32 (kI .u8)).len r1136
      refine X.pas (v := .agg (((.int .i64 a0.Kind : Value) :: (.int .i64 a0.From : Value) :: (.int .i64 a0.To : Value) :: (.int .i64 a0.Session : Value) :: (.int .i64 a0.Part : Value) :: c1135 ++ (v1137 :: v1139 :: v1141 :: []) : List Value)).toArray) rfl rfl rfl (fun h' q => yLoadW Tryz.isAgg77 Tryz.sizeOf77 rfl ((f1148.stp q (by simp))).all (by simp [l1200])) ?_
      obtain ⟨x1201, e1202, H⟩ := bnd H
      refine X.call (all := [.agg (((.int .i64 a0.Kind : Value) :: (.int .i64 a0.From : Value) :: (.int .i64 a0.To : Value) :: (.int .i64 a0.Session : Value) :: (.int .i64 a0.Part : Value) :: c1135 ++ (v1137 :: v1139 :: v1141 :: []) : List Value)).toArray]) Tryz.call155 rfl rfl rfl rfl rfl rfl (c_proto_session s1147.ib (m_proto_Msg ((kArr 32 (kI .u8)).mono r1136 t1145) (r1138.mono t1145) (r1140.mono t1145) (r1142.mono t1145)) e1202) ?_
      rintro _ h1203 ⟨p1204, rfl⟩
      have s1205 := s1147.call p1204
      have t1206 := s1147.callTr p1204
      have q1207 := q1152.cat p1204 (by simp)
      refine ⟨q1207, ?_⟩
      refine X.pas rfl rfl rfl (fun _ _ => yPickF rfl rfl) ?_
      refine X.pas rfl rfl rfl (fun _ _ => yPickT rfl rfl) ?_
      refine X.pas rfl rfl rfl (fun _ _ => yMove rfl) ?_
      cases x1201
      · have H := biF H
        refine X.pasSkip rfl rfl rfl ?_
        refine X.pasSkip rfl rfl rfl ?_
        refine X.skip rfl rfl rfl q1207 ?_
        refine X.pas rfl rfl rfl (fun _ _ => yPickF rfl rfl) ?_
        refine X.pas rfl rfl rfl (fun _ _ => yMove rfl) ?_
        refine X.pasSkip rfl rfl rfl ?_
        refine X.pasSkip rfl rfl rfl ?_
        refine X.skip rfl rfl rfl q1207 ?_
        refine X.pas rfl rfl rfl (fun _ _ => yPickF rfl rfl) ?_
        refine X.pas rfl rfl rfl (fun _ _ => yMove rfl) ?_
        refine X.pasSkip rfl rfl rfl ?_
        refine X.pasSkip rfl rfl rfl ?_
        refine X.pasSkip rfl rfl rfl ?_
        refine X.pasSkip rfl rfl rfl ?_
        refine X.pasSkip rfl rfl rfl ?_
        refine X.pas rfl rfl rfl (fun _ _ => yPickF rfl rfl) ?_
        refine X.pas rfl rfl rfl (fun _ _ => yMove rfl) ?_
        refine X.pasSkip rfl rfl rfl ?_
        refine X.pasSkip rfl rfl rfl ?_
        refine X.skip rfl rfl rfl q1207 ?_
        refine X.skip rfl rfl rfl q1207 ?_
        refine X.pas rfl rfl rfl (fun _ _ => yPickF rfl rfl) ?_
        refine X.pas rfl rfl rfl (fun _ _ => yAssign rfl) ?_
        refine X.nil ?_
        refine At.then ?_
        refine C.ret ?_
        obtain rfl := sm H
        refine At.retn (rs := [.tmp 2]) [.bool false] rfl ?_ ?_
        exact ⟨Rv.tmp rfl, trivial⟩
        exact ⟨s1205.stp, rfl⟩
      · have H := biT H
        refine X.pas (v := .pointer (some ⟨b1143, 1, none⟩)) rfl rfl rfl (fun _ _ => yField 3 1 Tryz.underlying77 Tryz.sizeOf3 rfl rfl rfl) ?_
        have l1208 : c1135.length = 32 := (kArr 32 (kI .u8)).len r1136
        refine X.pas (v := .int .i64 a0.From) rfl rfl rfl (fun h' q => yLoadS (j := 1) Tryz.isAgg3 rfl ((f1148.stp q (by simp))).all rfl (by simp [l1208])) ?_
        obtain ⟨x1209, e1210, H⟩ := bnd H
        refine X.call (all := [.int .i64 a0.From]) Tryz.call156 rfl rfl rfl rfl rfl rfl (c_proto_isNode s1205.ib  e1210) ?_
        rintro _ h1211 ⟨p1212, rfl⟩
        have s1213 := s1205.call p1212
        have t1214 := s1205.callTr p1212
        have q1215 := q1207.cat p1212 (by simp)
        refine ⟨q1215, ?_⟩
        refine X.pas rfl rfl rfl (fun _ _ => yPickT rfl rfl) ?_
        refine X.pas rfl rfl rfl (fun _ _ => yMove rfl) ?_
        cases x1209
        · have H := biF H
          refine X.pasSkip rfl rfl rfl ?_
          refine X.pasSkip rfl rfl rfl ?_
          refine X.skip rfl rfl rfl q1215 ?_
          refine X.pas rfl rfl rfl (fun _ _ => yPickF rfl rfl) ?_
          refine X.pas rfl rfl rfl (fun _ _ => yMove rfl) ?_
          refine X.pasSkip rfl rfl rfl ?_
          refine X.pasSkip rfl rfl rfl ?_
          refine X.pasSkip rfl rfl rfl ?_
          refine X.pasSkip rfl rfl rfl ?_
          refine X.pasSkip rfl rfl rfl ?_
          refine X.pas rfl rfl rfl (fun _ _ => yPickF rfl rfl) ?_
          refine X.pas rfl rfl rfl (fun _ _ => yMove rfl) ?_
          refine X.pasSkip rfl rfl rfl ?_
          refine X.pasSkip rfl rfl rfl ?_
          refine X.skip rfl rfl rfl q1215 ?_
          refine X.skip rfl rfl rfl q1215 ?_
          refine X.pas rfl rfl rfl (fun _ _ => yPickF rfl rfl) ?_
          refine X.pas rfl rfl rfl (fun _ _ => yAssign rfl) ?_
          refine X.nil ?_
          refine At.then ?_
          refine C.ret ?_
          obtain rfl := sm H
          refine At.retn (rs := [.tmp 2]) [.bool false] rfl ?_ ?_
          exact ⟨Rv.tmp rfl, trivial⟩
          exact ⟨s1213.stp, rfl⟩
        · have H := biT H
          refine X.pas (v := .pointer (some ⟨b1143, 2, none⟩)) rfl rfl rfl (fun _ _ => yField 3 2 Tryz.underlying77 Tryz.sizeOf3 rfl rfl rfl) ?_
          have l1216 : c1135.length = 32 := (kArr 32 (kI .u8)).len r1136
          refine X.pas (v := .int .i64 a0.To) rfl rfl rfl (fun h' q => yLoadS (j := 2) Tryz.isAgg3 rfl ((f1148.stp q (by simp))).all rfl (by simp [l1216])) ?_
          obtain ⟨x1217, e1218, H⟩ := bnd H
          refine X.call (all := [.int .i64 a0.To]) Tryz.call156 rfl rfl rfl rfl rfl rfl (c_proto_isNode s1213.ib  e1218) ?_
          rintro _ h1219 ⟨p1220, rfl⟩
          have s1221 := s1213.call p1220
          have t1222 := s1213.callTr p1220
          have q1223 := q1215.cat p1220 (by simp)
          refine ⟨q1223, ?_⟩
          refine X.pas rfl rfl rfl (fun _ _ => yPickT rfl rfl) ?_
          refine X.pas rfl rfl rfl (fun _ _ => yMove rfl) ?_
          cases x1217
          · have H := biF H
            refine X.pasSkip rfl rfl rfl ?_
            refine X.pasSkip rfl rfl rfl ?_
            refine X.pasSkip rfl rfl rfl ?_
            refine X.pasSkip rfl rfl rfl ?_
            refine X.pasSkip rfl rfl rfl ?_
            refine X.pas rfl rfl rfl (fun _ _ => yPickF rfl rfl) ?_
            refine X.pas rfl rfl rfl (fun _ _ => yMove rfl) ?_
            refine X.pasSkip rfl rfl rfl ?_
            refine X.pasSkip rfl rfl rfl ?_
            refine X.skip rfl rfl rfl q1223 ?_
            refine X.skip rfl rfl rfl q1223 ?_
            refine X.pas rfl rfl rfl (fun _ _ => yPickF rfl rfl) ?_
            refine X.pas rfl rfl rfl (fun _ _ => yAssign rfl) ?_
            refine X.nil ?_
            refine At.then ?_
            refine C.ret ?_
            obtain rfl := sm H
            refine At.retn (rs := [.tmp 2]) [.bool false] rfl ?_ ?_
            exact ⟨Rv.tmp rfl, trivial⟩
            exact ⟨s1221.stp, rfl⟩
          · have H := biT H
            refine X.pas (v := .pointer (some ⟨b1143, 1, none⟩)) rfl rfl rfl (fun _ _ => yField 3 1 Tryz.underlying77 Tryz.sizeOf3 rfl rfl rfl) ?_
            have l1224 : c1135.length = 32 := (kArr 32 (kI .u8)).len r1136
            refine X.pas (v := .int .i64 a0.From) rfl rfl rfl (fun h' q => yLoadS (j := 1) Tryz.isAgg3 rfl ((f1148.stp q (by simp))).all rfl (by simp [l1224])) ?_
            refine X.pas (v := .pointer (some ⟨b1143, 2, none⟩)) rfl rfl rfl (fun _ _ => yField 3 2 Tryz.underlying77 Tryz.sizeOf3 rfl rfl rfl) ?_
            have l1225 : c1135.length = 32 := (kArr 32 (kI .u8)).len r1136
            refine X.pas (v := .int .i64 a0.To) rfl rfl rfl (fun h' q => yLoadS (j := 2) Tryz.isAgg3 rfl ((f1148.stp q (by simp))).all rfl (by simp [l1225])) ?_
            by_cases g1226 : a0.From ≠ a0.To
            · have H := ifT g1226 H
              refine X.pas rfl rfl rfl (fun _ _ => yBT g1226 (yNeq rfl rfl)) ?_
              refine X.pas rfl rfl rfl (fun _ _ => yPickT rfl rfl) ?_
              refine X.pas rfl rfl rfl (fun _ _ => yMove rfl) ?_
              have l1227 : c1135.length = 32 := (kArr 32 (kI .u8)).len r1136
              refine X.pas (v := .agg (((.int .i64 a0.Kind : Value) :: (.int .i64 a0.From : Value) :: (.int .i64 a0.To : Value) :: (.int .i64 a0.Session : Value) :: (.int .i64 a0.Part : Value) :: c1135 ++ (v1137 :: v1139 :: v1141 :: []) : List Value)).toArray) rfl rfl rfl (fun h' q => yLoadW Tryz.isAgg77 Tryz.sizeOf77 rfl ((f1148.stp q (by simp))).all (by simp [l1227])) ?_
              have l1228 : c1135.length = 32 := (kArr 32 (kI .u8)).len r1136
              refine X.pas (v := .agg (((.int .i64 a0.Kind : Value) :: (.int .i64 a0.From : Value) :: (.int .i64 a0.To : Value) :: (.int .i64 a0.Session : Value) :: (.int .i64 a0.Part : Value) :: c1135 ++ (v1137 :: v1139 :: v1141 :: []) : List Value)).toArray) rfl rfl rfl (fun h' q => yLoadW Tryz.isAgg77 Tryz.sizeOf77 rfl ((f1148.stp q (by simp))).all (by simp [l1228])) ?_
              obtain ⟨x1229, e1230, H⟩ := bnd H
              refine X.call (all := [.agg (((.int .i64 a0.Kind : Value) :: (.int .i64 a0.From : Value) :: (.int .i64 a0.To : Value) :: (.int .i64 a0.Session : Value) :: (.int .i64 a0.Part : Value) :: c1135 ++ (v1137 :: v1139 :: v1141 :: []) : List Value)).toArray]) Tryz.call157 rfl rfl rfl rfl rfl rfl (c_proto_own s1221.ib (m_proto_Msg ((kArr 32 (kI .u8)).mono r1136 (t1145.trans (t1206.trans (t1214.trans t1222)))) (r1138.mono (t1145.trans (t1206.trans (t1214.trans t1222)))) (r1140.mono (t1145.trans (t1206.trans (t1214.trans t1222)))) (r1142.mono (t1145.trans (t1206.trans (t1214.trans t1222))))) e1230) ?_
              rintro _ h1231 ⟨p1232, c1235, rfl, r1236⟩
              have s1233 := s1221.call p1232
              have t1234 := s1221.callTr p1232
              have q1237 := q1223.cat p1232 (by simp)
              obtain ⟨c1238, v1240, v1242, v1244, rfl, r1239, r1241, r1243, r1245⟩ := o_proto_Msg r1236
              refine ⟨q1237, ?_⟩
              obtain ⟨x1246, e1247, H⟩ := bnd H
              refine X.call (all := [.agg (((.int .i64 a0.Kind : Value) :: (.int .i64 a0.From : Value) :: (.int .i64 a0.To : Value) :: (.int .i64 a0.Session : Value) :: (.int .i64 a0.Part : Value) :: c1135 ++ (v1137 :: v1139 :: v1141 :: []) : List Value)).toArray, .agg (((.int .i64 x1229.Kind : Value) :: (.int .i64 x1229.From : Value) :: (.int .i64 x1229.To : Value) :: (.int .i64 x1229.Session : Value) :: (.int .i64 x1229.Part : Value) :: c1238 ++ (v1240 :: v1242 :: v1244 :: []) : List Value)).toArray]) Tryz.call44 rfl rfl rfl rfl rfl rfl (c_proto_Same s1233.ib (m_proto_Msg ((kArr 32 (kI .u8)).mono r1136 (t1145.trans (t1206.trans (t1214.trans (t1222.trans t1234))))) (r1138.mono (t1145.trans (t1206.trans (t1214.trans (t1222.trans t1234))))) (r1140.mono (t1145.trans (t1206.trans (t1214.trans (t1222.trans t1234))))) (r1142.mono (t1145.trans (t1206.trans (t1214.trans (t1222.trans t1234)))))) (m_proto_Msg r1239 r1241 r1243 r1245) e1247) ?_
              rintro _ h1248 ⟨p1249, rfl⟩
              have s1250 := s1233.call p1249
              have t1251 := s1233.callTr p1249
              have q1252 := q1237.cat p1249 (by simp)
              refine ⟨q1252, ?_⟩
              refine X.pas rfl rfl rfl (fun _ _ => yPickT rfl rfl) ?_
              refine X.pas rfl rfl rfl (fun _ _ => yAssign rfl) ?_
              refine X.nil ?_
              refine At.then ?_
              refine C.ret ?_
              obtain rfl := sm H
              refine At.retn (rs := [.tmp 2]) [.bool x1246] rfl ?_ ?_
              exact ⟨Rv.tmp rfl, trivial⟩
              exact ⟨s1250.stp, rfl⟩
            · have H := ifF g1226 H
              refine X.pas rfl rfl rfl (fun _ _ => yBF g1226 (yNeq rfl rfl)) ?_
              refine X.pas rfl rfl rfl (fun _ _ => yPickT rfl rfl) ?_
              refine X.pas rfl rfl rfl (fun _ _ => yMove rfl) ?_
              refine X.pasSkip rfl rfl rfl ?_
              refine X.pasSkip rfl rfl rfl ?_
              refine X.skip rfl rfl rfl q1223 ?_
              refine X.skip rfl rfl rfl q1223 ?_
              refine X.pas rfl rfl rfl (fun _ _ => yPickF rfl rfl) ?_
              refine X.pas rfl rfl rfl (fun _ _ => yAssign rfl) ?_
              refine X.nil ?_
              refine At.then ?_
              refine C.ret ?_
              obtain rfl := sm H
              refine At.retn (rs := [.tmp 2]) [.bool false] rfl ?_ ?_
              exact ⟨Rv.tmp rfl, trivial⟩
              exact ⟨s1221.stp, rfl⟩
  · have H := ifF g1151 H
    refine X.val rfl rfl rfl (yBF g1151 (yEql rfl rfl)) trivial ?_
    refine X.val rfl rfl rfl (yAssign rfl) trivial ?_
    refine X.nil ?_
    refine At.then ?_
    refine C.condF rfl ?_
    refine C.region 2 rfl ?_
    by_cases g1253 : a0.Kind = 4
    · have H := ifT g1253 H
      refine X.val rfl rfl rfl (yBT g1253 (yEql rfl rfl)) trivial ?_
      refine X.val rfl rfl rfl (yAssign rfl) trivial ?_
      refine X.nil ?_
      refine At.then ?_
      refine C.condT rfl ?_
      refine C.region 1 rfl ?_
      refine X.val rfl rfl rfl (yAssign rfl) trivial ?_
      refine X.nil ?_
      refine At.blkN ?_
      refine At.then ?_
      refine C.seq ?_
      refine C.regionD rfl (Stp [] h1144) (.pas 0 (.pas 1 (.pas 2 (.pas 3 (.pas 4 (.pas 5 (.pas 6 (.alt 7 (.pas 8 (.pas 9 (.pas 10 (.pas 11 (.pas 12 (.alt 13 (.pas 14 (.pas 15 (.pas 16 (.pas 17 (.alt 18 (.pas 19 (.pas 20 (.pas 21 (.pas 22 (.pas 23 (.pas 24 (.pas 25 (.pas 26 (.pas 27 (.pas 28 (.pas 29 (.alt 30 (.alt 31 (.pas 32 (.pas 33 .nil)) .stop) .stop)))))))))))) .stop))))) .stop)))))) .stop)))))))) (by kernel_rfl) (Stp.refl0 _ _) ?_
      have q1254 := Stp.refl0 [] h1144
      refine X.pas rfl rfl rfl (fun _ _ => yMove rfl) ?_
      refine X.pas rfl rfl rfl (fun _ _ => yMove rfl) ?_
      refine X.pas (v := .pointer (some ⟨b1143, 0, none⟩)) rfl rfl rfl (fun _ _ => yField 3 0 Tryz.underlying77 Tryz.sizeOf3 rfl rfl rfl) ?_
      have l1255 : c1135.length = 32 := (kArr 32 (kI .u8)).len r1136
      refine X.pas (v := .int .i64 a0.Kind) rfl rfl rfl (fun h' q => yLoadS (j := 0) Tryz.isAgg3 rfl ((f1148.stp q (by simp))).all rfl (by simp [l1255])) ?_
      by_cases g1256 : a0.Kind = 7
      · have H := ifT g1256 H
        refine X.pas rfl rfl rfl (fun _ _ => yBT g1256 (yEql rfl rfl)) ?_
        refine X.pas rfl rfl rfl (fun _ _ => yMove rfl) ?_
        refine X.pasSkip rfl rfl rfl ?_
        refine X.skip rfl rfl rfl q1254 ?_
        refine X.pas rfl rfl rfl (fun _ _ => yPickT rfl rfl) ?_
        refine X.pas rfl rfl rfl (fun _ _ => yPickT rfl rfl) ?_
        refine X.pas rfl rfl rfl (fun _ _ => yMove rfl) ?_
        refine X.pas (v := .pointer (some ⟨b1143, 1, none⟩)) rfl rfl rfl (fun _ _ => yField 3 1 Tryz.underlying77 Tryz.sizeOf3 rfl rfl rfl) ?_
        have l1257 : c1135.length = 32 := (kArr 32 (kI .u8)).len r1136
        refine X.pas (v := .int .i64 a0.From) rfl rfl rfl (fun h' q => yLoadS (j := 1) Tryz.isAgg3 rfl ((f1148.stp q (by simp))).all rfl (by simp [l1257])) ?_
        obtain ⟨x1258, e1259, H⟩ := bnd H
        refine X.call (all := [.int .i64 a0.From]) Tryz.call156 rfl rfl rfl rfl rfl rfl (c_proto_isNode s1147.ib  e1259) ?_
        rintro _ h1260 ⟨p1261, rfl⟩
        have s1262 := s1147.call p1261
        have t1263 := s1147.callTr p1261
        have q1264 := q1254.cat p1261 (by simp)
        refine ⟨q1264, ?_⟩
        refine X.pas rfl rfl rfl (fun _ _ => yPickT rfl rfl) ?_
        refine X.pas rfl rfl rfl (fun _ _ => yMove rfl) ?_
        cases x1258
        · have H := biF H
          refine X.pasSkip rfl rfl rfl ?_
          refine X.pasSkip rfl rfl rfl ?_
          refine X.skip rfl rfl rfl q1264 ?_
          refine X.pas rfl rfl rfl (fun _ _ => yPickF rfl rfl) ?_
          refine X.pas rfl rfl rfl (fun _ _ => yMove rfl) ?_
          refine X.pasSkip rfl rfl rfl ?_
          refine X.pasSkip rfl rfl rfl ?_
          refine X.pasSkip rfl rfl rfl ?_
          refine X.pasSkip rfl rfl rfl ?_
          refine X.pasSkip rfl rfl rfl ?_
          refine X.pas rfl rfl rfl (fun _ _ => yPickF rfl rfl) ?_
          refine X.pas rfl rfl rfl (fun _ _ => yMove rfl) ?_
          refine X.pasSkip rfl rfl rfl ?_
          refine X.pasSkip rfl rfl rfl ?_
          refine X.skip rfl rfl rfl q1264 ?_
          refine X.skip rfl rfl rfl q1264 ?_
          refine X.pas rfl rfl rfl (fun _ _ => yPickF rfl rfl) ?_
          refine X.pas rfl rfl rfl (fun _ _ => yAssign rfl) ?_
          refine X.nil ?_
          refine At.then ?_
          refine C.ret ?_
          obtain rfl := sm H
          refine At.retn (rs := [.tmp 2]) [.bool false] rfl ?_ ?_
          exact ⟨Rv.tmp rfl, trivial⟩
          exact ⟨s1262.stp, rfl⟩
        · have H := biT H
          refine X.pas (v := .pointer (some ⟨b1143, 2, none⟩)) rfl rfl rfl (fun _ _ => yField 3 2 Tryz.underlying77 Tryz.sizeOf3 rfl rfl rfl) ?_
          have l1265 : c1135.length = 32 := (kArr 32 (kI .u8)).len r1136
          refine X.pas (v := .int .i64 a0.To) rfl rfl rfl (fun h' q => yLoadS (j := 2) Tryz.isAgg3 rfl ((f1148.stp q (by simp))).all rfl (by simp [l1265])) ?_
          obtain ⟨x1266, e1267, H⟩ := bnd H
          refine X.call (all := [.int .i64 a0.To]) Tryz.call156 rfl rfl rfl rfl rfl rfl (c_proto_isNode s1262.ib  e1267) ?_
          rintro _ h1268 ⟨p1269, rfl⟩
          have s1270 := s1262.call p1269
          have t1271 := s1262.callTr p1269
          have q1272 := q1264.cat p1269 (by simp)
          refine ⟨q1272, ?_⟩
          refine X.pas rfl rfl rfl (fun _ _ => yPickT rfl rfl) ?_
          refine X.pas rfl rfl rfl (fun _ _ => yMove rfl) ?_
          cases x1266
          · have H := biF H
            refine X.pasSkip rfl rfl rfl ?_
            refine X.pasSkip rfl rfl rfl ?_
            refine X.pasSkip rfl rfl rfl ?_
            refine X.pasSkip rfl rfl rfl ?_
            refine X.pasSkip rfl rfl rfl ?_
            refine X.pas rfl rfl rfl (fun _ _ => yPickF rfl rfl) ?_
            refine X.pas rfl rfl rfl (fun _ _ => yMove rfl) ?_
            refine X.pasSkip rfl rfl rfl ?_
            refine X.pasSkip rfl rfl rfl ?_
            refine X.skip rfl rfl rfl q1272 ?_
            refine X.skip rfl rfl rfl q1272 ?_
            refine X.pas rfl rfl rfl (fun _ _ => yPickF rfl rfl) ?_
            refine X.pas rfl rfl rfl (fun _ _ => yAssign rfl) ?_
            refine X.nil ?_
            refine At.then ?_
            refine C.ret ?_
            obtain rfl := sm H
            refine At.retn (rs := [.tmp 2]) [.bool false] rfl ?_ ?_
            exact ⟨Rv.tmp rfl, trivial⟩
            exact ⟨s1270.stp, rfl⟩
          · have H := biT H
            refine X.pas (v := .pointer (some ⟨b1143, 1, none⟩)) rfl rfl rfl (fun _ _ => yField 3 1 Tryz.underlying77 Tryz.sizeOf3 rfl rfl rfl) ?_
            have l1273 : c1135.length = 32 := (kArr 32 (kI .u8)).len r1136
            refine X.pas (v := .int .i64 a0.From) rfl rfl rfl (fun h' q => yLoadS (j := 1) Tryz.isAgg3 rfl ((f1148.stp q (by simp))).all rfl (by simp [l1273])) ?_
            refine X.pas (v := .pointer (some ⟨b1143, 2, none⟩)) rfl rfl rfl (fun _ _ => yField 3 2 Tryz.underlying77 Tryz.sizeOf3 rfl rfl rfl) ?_
            have l1274 : c1135.length = 32 := (kArr 32 (kI .u8)).len r1136
            refine X.pas (v := .int .i64 a0.To) rfl rfl rfl (fun h' q => yLoadS (j := 2) Tryz.isAgg3 rfl ((f1148.stp q (by simp))).all rfl (by simp [l1274])) ?_
            by_cases g1275 : a0.From ≠ a0.To
            · have H := ifT g1275 H
              refine X.pas rfl rfl rfl (fun _ _ => yBT g1275 (yNeq rfl rfl)) ?_
              refine X.pas rfl rfl rfl (fun _ _ => yPickT rfl rfl) ?_
              refine X.pas rfl rfl rfl (fun _ _ => yMove rfl) ?_
              have l1276 : c1135.length = 32 := (kArr 32 (kI .u8)).len r1136
              refine X.pas (v := .agg (((.int .i64 a0.Kind : Value) :: (.int .i64 a0.From : Value) :: (.int .i64 a0.To : Value) :: (.int .i64 a0.Session : Value) :: (.int .i64 a0.Part : Value) :: c1135 ++ (v1137 :: v1139 :: v1141 :: []) : List Value)).toArray) rfl rfl rfl (fun h' q => yLoadW Tryz.isAgg77 Tryz.sizeOf77 rfl ((f1148.stp q (by simp))).all (by simp [l1276])) ?_
              have l1277 : c1135.length = 32 := (kArr 32 (kI .u8)).len r1136
              refine X.pas (v := .agg (((.int .i64 a0.Kind : Value) :: (.int .i64 a0.From : Value) :: (.int .i64 a0.To : Value) :: (.int .i64 a0.Session : Value) :: (.int .i64 a0.Part : Value) :: c1135 ++ (v1137 :: v1139 :: v1141 :: []) : List Value)).toArray) rfl rfl rfl (fun h' q => yLoadW Tryz.isAgg77 Tryz.sizeOf77 rfl ((f1148.stp q (by simp))).all (by simp [l1277])) ?_
              obtain ⟨x1278, e1279, H⟩ := bnd H
              refine X.call (all := [.agg (((.int .i64 a0.Kind : Value) :: (.int .i64 a0.From : Value) :: (.int .i64 a0.To : Value) :: (.int .i64 a0.Session : Value) :: (.int .i64 a0.Part : Value) :: c1135 ++ (v1137 :: v1139 :: v1141 :: []) : List Value)).toArray]) Tryz.call157 rfl rfl rfl rfl rfl rfl (c_proto_own s1270.ib (m_proto_Msg ((kArr 32 (kI .u8)).mono r1136 (t1145.trans (t1263.trans t1271))) (r1138.mono (t1145.trans (t1263.trans t1271))) (r1140.mono (t1145.trans (t1263.trans t1271))) (r1142.mono (t1145.trans (t1263.trans t1271)))) e1279) ?_
              rintro _ h1280 ⟨p1281, c1284, rfl, r1285⟩
              have s1282 := s1270.call p1281
              have t1283 := s1270.callTr p1281
              have q1286 := q1272.cat p1281 (by simp)
              obtain ⟨c1287, v1289, v1291, v1293, rfl, r1288, r1290, r1292, r1294⟩ := o_proto_Msg r1285
              refine ⟨q1286, ?_⟩
              obtain ⟨x1295, e1296, H⟩ := bnd H
              refine X.call (all := [.agg (((.int .i64 a0.Kind : Value) :: (.int .i64 a0.From : Value) :: (.int .i64 a0.To : Value) :: (.int .i64 a0.Session : Value) :: (.int .i64 a0.Part : Value) :: c1135 ++ (v1137 :: v1139 :: v1141 :: []) : List Value)).toArray, .agg (((.int .i64 x1278.Kind : Value) :: (.int .i64 x1278.From : Value) :: (.int .i64 x1278.To : Value) :: (.int .i64 x1278.Session : Value) :: (.int .i64 x1278.Part : Value) :: c1287 ++ (v1289 :: v1291 :: v1293 :: []) : List Value)).toArray]) Tryz.call44 rfl rfl rfl rfl rfl rfl (c_proto_Same s1282.ib (m_proto_Msg ((kArr 32 (kI .u8)).mono r1136 (t1145.trans (t1263.trans (t1271.trans t1283)))) (r1138.mono (t1145.trans (t1263.trans (t1271.trans t1283)))) (r1140.mono (t1145.trans (t1263.trans (t1271.trans t1283)))) (r1142.mono (t1145.trans (t1263.trans (t1271.trans t1283))))) (m_proto_Msg r1288 r1290 r1292 r1294) e1296) ?_
              rintro _ h1297 ⟨p1298, rfl⟩
              have s1299 := s1282.call p1298
              have t1300 := s1282.callTr p1298
              have q1301 := q1286.cat p1298 (by simp)
              refine ⟨q1301, ?_⟩
              refine X.pas rfl rfl rfl (fun _ _ => yPickT rfl rfl) ?_
              refine X.pas rfl rfl rfl (fun _ _ => yAssign rfl) ?_
              refine X.nil ?_
              refine At.then ?_
              refine C.ret ?_
              obtain rfl := sm H
              refine At.retn (rs := [.tmp 2]) [.bool x1295] rfl ?_ ?_
              exact ⟨Rv.tmp rfl, trivial⟩
              exact ⟨s1299.stp, rfl⟩
            · have H := ifF g1275 H
              refine X.pas rfl rfl rfl (fun _ _ => yBF g1275 (yNeq rfl rfl)) ?_
              refine X.pas rfl rfl rfl (fun _ _ => yPickT rfl rfl) ?_
              refine X.pas rfl rfl rfl (fun _ _ => yMove rfl) ?_
              refine X.pasSkip rfl rfl rfl ?_
              refine X.pasSkip rfl rfl rfl ?_
              refine X.skip rfl rfl rfl q1272 ?_
              refine X.skip rfl rfl rfl q1272 ?_
              refine X.pas rfl rfl rfl (fun _ _ => yPickF rfl rfl) ?_
              refine X.pas rfl rfl rfl (fun _ _ => yAssign rfl) ?_
              refine X.nil ?_
              refine At.then ?_
              refine C.ret ?_
              obtain rfl := sm H
              refine At.retn (rs := [.tmp 2]) [.bool false] rfl ?_ ?_
              exact ⟨Rv.tmp rfl, trivial⟩
              exact ⟨s1270.stp, rfl⟩
      · have H := ifF g1256 H
        refine X.pas rfl rfl rfl (fun _ _ => yBF g1256 (yEql rfl rfl)) ?_
        refine X.pas rfl rfl rfl (fun _ _ => yMove rfl) ?_
        have l1302 : c1135.length = 32 := (kArr 32 (kI .u8)).len r1136
        refine X.pas (v := .agg (((.int .i64 a0.Kind : Value) :: (.int .i64 a0.From : Value) :: (.int .i64 a0.To : Value) :: (.int .i64 a0.Session : Value) :: (.int .i64 a0.Part : Value) :: c1135 ++ (v1137 :: v1139 :: v1141 :: []) : List Value)).toArray) rfl rfl rfl (fun h' q => yLoadW Tryz.isAgg77 Tryz.sizeOf77 rfl ((f1148.stp q (by simp))).all (by simp [l1302])) ?_
        obtain ⟨x1303, e1304, H⟩ := bnd H
        refine X.call (all := [.agg (((.int .i64 a0.Kind : Value) :: (.int .i64 a0.From : Value) :: (.int .i64 a0.To : Value) :: (.int .i64 a0.Session : Value) :: (.int .i64 a0.Part : Value) :: c1135 ++ (v1137 :: v1139 :: v1141 :: []) : List Value)).toArray]) Tryz.call155 rfl rfl rfl rfl rfl rfl (c_proto_session s1147.ib (m_proto_Msg ((kArr 32 (kI .u8)).mono r1136 t1145) (r1138.mono t1145) (r1140.mono t1145) (r1142.mono t1145)) e1304) ?_
        rintro _ h1305 ⟨p1306, rfl⟩
        have s1307 := s1147.call p1306
        have t1308 := s1147.callTr p1306
        have q1309 := q1254.cat p1306 (by simp)
        refine ⟨q1309, ?_⟩
        refine X.pas rfl rfl rfl (fun _ _ => yPickF rfl rfl) ?_
        refine X.pas rfl rfl rfl (fun _ _ => yPickT rfl rfl) ?_
        refine X.pas rfl rfl rfl (fun _ _ => yMove rfl) ?_
        cases x1303
        · have H := biF H
          refine X.pasSkip rfl rfl rfl ?_
          refine X.pasSkip rfl rfl rfl ?_
          refine X.skip rfl rfl rfl q1309 ?_
          refine X.pas rfl rfl rfl (fun _ _ => yPickF rfl rfl) ?_
          refine X.pas rfl rfl rfl (fun _ _ => yMove rfl) ?_
          refine X.pasSkip rfl rfl rfl ?_
          refine X.pasSkip rfl rfl rfl ?_
          refine X.skip rfl rfl rfl q1309 ?_
          refine X.pas rfl rfl rfl (fun _ _ => yPickF rfl rfl) ?_
          refine X.pas rfl rfl rfl (fun _ _ => yMove rfl) ?_
          refine X.pasSkip rfl rfl rfl ?_
          refine X.pasSkip rfl rfl rfl ?_
          refine X.pasSkip rfl rfl rfl ?_
          refine X.pasSkip rfl rfl rfl ?_
          refine X.pasSkip rfl rfl rfl ?_
          refine X.pas rfl rfl rfl (fun _ _ => yPickF rfl rfl) ?_
          refine X.pas rfl rfl rfl (fun _ _ => yMove rfl) ?_
          refine X.pasSkip rfl rfl rfl ?_
          refine X.pasSkip rfl rfl rfl ?_
          refine X.skip rfl rfl rfl q1309 ?_
          refine X.skip rfl rfl rfl q1309 ?_
          refine X.pas rfl rfl rfl (fun _ _ => yPickF rfl rfl) ?_
          refine X.pas rfl rfl rfl (fun _ _ => yAssign rfl) ?_
          refine X.nil ?_
          refine At.then ?_
          refine C.ret ?_
          obtain rfl := sm H
          refine At.retn (rs := [.tmp 2]) [.bool false] rfl ?_ ?_
          exact ⟨Rv.tmp rfl, trivial⟩
          exact ⟨s1307.stp, rfl⟩
        · have H := biT H
          refine X.pas (v := .pointer (some ⟨b1143, 1, none⟩)) rfl rfl rfl (fun _ _ => yField 3 1 Tryz.underlying77 Tryz.sizeOf3 rfl rfl rfl) ?_
          have l1310 : c1135.length = 32 := (kArr 32 (kI .u8)).len r1136
          refine X.pas (v := .int .i64 a0.From) rfl rfl rfl (fun h' q => yLoadS (j := 1) Tryz.isAgg3 rfl ((f1148.stp q (by simp))).all rfl (by simp [l1310])) ?_
          obtain ⟨x1311, e1312, H⟩ := bnd H
          refine X.call (all := [.int .i64 a0.From]) Tryz.call156 rfl rfl rfl rfl rfl rfl (c_proto_isNode s1307.ib  e1312) ?_
          rintro _ h1313 ⟨p1314, rfl⟩
          have s1315 := s1307.call p1314
          have t1316 := s1307.callTr p1314
          have q1317 := q1309.cat p1314 (by simp)
          refine ⟨q1317, ?_⟩
          refine X.pas rfl rfl rfl (fun _ _ => yPickT rfl rfl) ?_
          refine X.pas rfl rfl rfl (fun _ _ => yMove rfl) ?_
          cases x1311
          · have H := biF H
            refine X.pasSkip rfl rfl rfl ?_
            refine X.pasSkip rfl rfl rfl ?_
            refine X.skip rfl rfl rfl q1317 ?_
            refine X.pas rfl rfl rfl (fun _ _ => yPickF rfl rfl) ?_
            refine X.pas rfl rfl rfl (fun _ _ => yMove rfl) ?_
            refine X.pasSkip rfl rfl rfl ?_
            refine X.pasSkip rfl rfl rfl ?_
            refine X.pasSkip rfl rfl rfl ?_
            refine X.pasSkip rfl rfl rfl ?_
            refine X.pasSkip rfl rfl rfl ?_
            refine X.pas rfl rfl rfl (fun _ _ => yPickF rfl rfl) ?_
            refine X.pas rfl rfl rfl (fun _ _ => yMove rfl) ?_
            refine X.pasSkip rfl rfl rfl ?_
            refine X.pasSkip rfl rfl rfl ?_
            refine X.skip rfl rfl rfl q1317 ?_
            refine X.skip rfl rfl rfl q1317 ?_
            refine X.pas rfl rfl rfl (fun _ _ => yPickF rfl rfl) ?_
            refine X.pas rfl rfl rfl (fun _ _ => yAssign rfl) ?_
            refine X.nil ?_
            refine At.then ?_
            refine C.ret ?_
            obtain rfl := sm H
            refine At.retn (rs := [.tmp 2]) [.bool false] rfl ?_ ?_
            exact ⟨Rv.tmp rfl, trivial⟩
            exact ⟨s1315.stp, rfl⟩
          · have H := biT H
            refine X.pas (v := .pointer (some ⟨b1143, 2, none⟩)) rfl rfl rfl (fun _ _ => yField 3 2 Tryz.underlying77 Tryz.sizeOf3 rfl rfl rfl) ?_
            have l1318 : c1135.length = 32 := (kArr 32 (kI .u8)).len r1136
            refine X.pas (v := .int .i64 a0.To) rfl rfl rfl (fun h' q => yLoadS (j := 2) Tryz.isAgg3 rfl ((f1148.stp q (by simp))).all rfl (by simp [l1318])) ?_
            obtain ⟨x1319, e1320, H⟩ := bnd H
            refine X.call (all := [.int .i64 a0.To]) Tryz.call156 rfl rfl rfl rfl rfl rfl (c_proto_isNode s1315.ib  e1320) ?_
            rintro _ h1321 ⟨p1322, rfl⟩
            have s1323 := s1315.call p1322
            have t1324 := s1315.callTr p1322
            have q1325 := q1317.cat p1322 (by simp)
            refine ⟨q1325, ?_⟩
            refine X.pas rfl rfl rfl (fun _ _ => yPickT rfl rfl) ?_
            refine X.pas rfl rfl rfl (fun _ _ => yMove rfl) ?_
            cases x1319
            · have H := biF H
              refine X.pasSkip rfl rfl rfl ?_
              refine X.pasSkip rfl rfl rfl ?_
              refine X.pasSkip rfl rfl rfl ?_
              refine X.pasSkip rfl rfl rfl ?_
              refine X.pasSkip rfl rfl rfl ?_
              refine X.pas rfl rfl rfl (fun _ _ => yPickF rfl rfl) ?_
              refine X.pas rfl rfl rfl (fun _ _ => yMove rfl) ?_
              refine X.pasSkip rfl rfl rfl ?_
              refine X.pasSkip rfl rfl rfl ?_
              refine X.skip rfl rfl rfl q1325 ?_
              refine X.skip rfl rfl rfl q1325 ?_
              refine X.pas rfl rfl rfl (fun _ _ => yPickF rfl rfl) ?_
              refine X.pas rfl rfl rfl (fun _ _ => yAssign rfl) ?_
              refine X.nil ?_
              refine At.then ?_
              refine C.ret ?_
              obtain rfl := sm H
              refine At.retn (rs := [.tmp 2]) [.bool false] rfl ?_ ?_
              exact ⟨Rv.tmp rfl, trivial⟩
              exact ⟨s1323.stp, rfl⟩
            · have H := biT H
              refine X.pas (v := .pointer (some ⟨b1143, 1, none⟩)) rfl rfl rfl (fun _ _ => yField 3 1 Tryz.underlying77 Tryz.sizeOf3 rfl rfl rfl) ?_
              have l1326 : c1135.length = 32 := (kArr 32 (kI .u8)).len r1136
              refine X.pas (v := .int .i64 a0.From) rfl rfl rfl (fun h' q => yLoadS (j := 1) Tryz.isAgg3 rfl ((f1148.stp q (by simp))).all rfl (by simp [l1326])) ?_
              refine X.pas (v := .pointer (some ⟨b1143, 2, none⟩)) rfl rfl rfl (fun _ _ => yField 3 2 Tryz.underlying77 Tryz.sizeOf3 rfl rfl rfl) ?_
              have l1327 : c1135.length = 32 := (kArr 32 (kI .u8)).len r1136
              refine X.pas (v := .int .i64 a0.To) rfl rfl rfl (fun h' q => yLoadS (j := 2) Tryz.isAgg3 rfl ((f1148.stp q (by simp))).all rfl (by simp [l1327])) ?_
              by_cases g1328 : a0.From ≠ a0.To
              · have H := ifT g1328 H
                refine X.pas rfl rfl rfl (fun _ _ => yBT g1328 (yNeq rfl rfl)) ?_
                refine X.pas rfl rfl rfl (fun _ _ => yPickT rfl rfl) ?_
                refine X.pas rfl rfl rfl (fun _ _ => yMove rfl) ?_
                have l1329 : c1135.length = 32 := (kArr 32 (kI .u8)).len r1136
                refine X.pas (v := .agg (((.int .i64 a0.Kind : Value) :: (.int .i64 a0.From : Value) :: (.int .i64 a0.To : Value) :: (.int .i64 a0.Session : Value) :: (.int .i64 a0.Part : Value) :: c1135 ++ (v1137 :: v1139 :: v1141 :: []) : List Value)).toArray) rfl rfl rfl (fun h' q => yLoadW Tryz.isAgg77 Tryz.sizeOf77 rfl ((f1148.stp q (by simp))).all (by simp [l1329])) ?_
                have l1330 : c1135.length = 32 := (kArr 32 (kI .u8)).len r1136
                refine X.pas (v := .agg (((.int .i64 a0.Kind : Value) :: (.int .i64 a0.From : Value) :: (.int .i64 a0.To : Value) :: (.int .i64 a0.Session : Value) :: (.int .i64 a0.Part : Value) :: c1135 ++ (v1137 :: v1139 :: v1141 :: []) : List Value)).toArray) rfl rfl rfl (fun h' q => yLoadW Tryz.isAgg77 Tryz.sizeOf77 rfl ((f1148.stp q (by simp))).all (by simp [l1330])) ?_
                obtain ⟨x1331, e1332, H⟩ := bnd H
                refine X.call (all := [.agg (((.int .i64 a0.Kind : Value) :: (.int .i64 a0.From : Value) :: (.int .i64 a0.To : Value) :: (.int .i64 a0.Session : Value) :: (.int .i64 a0.Part : Value) :: c1135 ++ (v1137 :: v1139 :: v1141 :: []) : List Value)).toArray]) Tryz.call157 rfl rfl rfl rfl rfl rfl (c_proto_own s1323.ib (m_proto_Msg ((kArr 32 (kI .u8)).mono r1136 (t1145.trans (t1308.trans (t1316.trans t1324)))) (r1138.mono (t1145.trans (t1308.trans (t1316.trans t1324)))) (r1140.mono (t1145.trans (t1308.trans (t1316.trans t1324)))) (r1142.mono (t1145.trans (t1308.trans (t1316.trans t1324))))) e1332) ?_
                rintro _ h1333 ⟨p1334, c1337, rfl, r1338⟩
                have s1335 := s1323.call p1334
                have t1336 := s1323.callTr p1334
                have q1339 := q1325.cat p1334 (by simp)
                obtain ⟨c1340, v1342, v1344, v1346, rfl, r1341, r1343, r1345, r1347⟩ := o_proto_Msg r1338
                refine ⟨q1339, ?_⟩
                obtain ⟨x1348, e1349, H⟩ := bnd H
                refine X.call (all := [.agg (((.int .i64 a0.Kind : Value) :: (.int .i64 a0.From : Value) :: (.int .i64 a0.To : Value) :: (.int .i64 a0.Session : Value) :: (.int .i64 a0.Part : Value) :: c1135 ++ (v1137 :: v1139 :: v1141 :: []) : List Value)).toArray, .agg (((.int .i64 x1331.Kind : Value) :: (.int .i64 x1331.From : Value) :: (.int .i64 x1331.To : Value) :: (.int .i64 x1331.Session : Value) :: (.int .i64 x1331.Part : Value) :: c1340 ++ (v1342 :: v1344 :: v1346 :: []) : List Value)).toArray]) Tryz.call44 rfl rfl rfl rfl rfl rfl (c_proto_Same s1335.ib (m_proto_Msg ((kArr 32 (kI .u8)).mono r1136 (t1145.trans (t1308.trans (t1316.trans (t1324.trans t1336))))) (r1138.mono (t1145.trans (t1308.trans (t1316.trans (t1324.trans t1336))))) (r1140.mono (t1145.trans (t1308.trans (t1316.trans (t1324.trans t1336))))) (r1142.mono (t1145.trans (t1308.trans (t1316.trans (t1324.trans t1336)))))) (m_proto_Msg r1341 r1343 r1345 r1347) e1349) ?_
                rintro _ h1350 ⟨p1351, rfl⟩
                have s1352 := s1335.call p1351
                have t1353 := s1335.callTr p1351
                have q1354 := q1339.cat p1351 (by simp)
                refine ⟨q1354, ?_⟩
                refine X.pas rfl rfl rfl (fun _ _ => yPickT rfl rfl) ?_
                refine X.pas rfl rfl rfl (fun _ _ => yAssign rfl) ?_
                refine X.nil ?_
                refine At.then ?_
                refine C.ret ?_
                obtain rfl := sm H
                refine At.retn (rs := [.tmp 2]) [.bool x1348] rfl ?_ ?_
                exact ⟨Rv.tmp rfl, trivial⟩
                exact ⟨s1352.stp, rfl⟩
              · have H := ifF g1328 H
                refine X.pas rfl rfl rfl (fun _ _ => yBF g1328 (yNeq rfl rfl)) ?_
                refine X.pas rfl rfl rfl (fun _ _ => yPickT rfl rfl) ?_
                refine X.pas rfl rfl rfl (fun _ _ => yMove rfl) ?_
                refine X.pasSkip rfl rfl rfl ?_
                refine X.pasSkip rfl rfl rfl ?_
                refine X.skip rfl rfl rfl q1325 ?_
                refine X.skip rfl rfl rfl q1325 ?_
                refine X.pas rfl rfl rfl (fun _ _ => yPickF rfl rfl) ?_
                refine X.pas rfl rfl rfl (fun _ _ => yAssign rfl) ?_
                refine X.nil ?_
                refine At.then ?_
                refine C.ret ?_
                obtain rfl := sm H
                refine At.retn (rs := [.tmp 2]) [.bool false] rfl ?_ ?_
                exact ⟨Rv.tmp rfl, trivial⟩
                exact ⟨s1323.stp, rfl⟩
    · have H := ifF g1253 H
      refine X.val rfl rfl rfl (yBF g1253 (yEql rfl rfl)) trivial ?_
      refine X.val rfl rfl rfl (yAssign rfl) trivial ?_
      refine X.nil ?_
      refine At.then ?_
      refine C.condF rfl ?_
      refine C.seq ?_
      refine C.region 2 rfl ?_
      by_cases g1355 : a0.Kind = 2
      · have H := ifT g1355 H
        refine X.val rfl rfl rfl (yBT g1355 (yEql rfl rfl)) trivial ?_
        refine X.val rfl rfl rfl (yAssign rfl) trivial ?_
        refine X.nil ?_
        refine At.then ?_
        refine C.condT rfl ?_
        refine C.region 4 rfl ?_
        refine X.val (v := .pointer (some ⟨b1143, 37, none⟩)) rfl rfl rfl (yField 67 37 Tryz.underlying77 Tryz.sizeOf67 rfl rfl rfl) trivial ?_
        have l1356 : c1135.length = 32 := (kArr 32 (kI .u8)).len r1136
        refine X.val (v := v1137) rfl rfl rfl (yLoadS (j := 37) Tryz.isAgg67 rfl (f1148).all rfl (by simp [l1356])) trivial ?_
        cases H
      · have H := ifF g1355 H
        refine X.val rfl rfl rfl (yBF g1355 (yEql rfl rfl)) trivial ?_
        refine X.val rfl rfl rfl (yAssign rfl) trivial ?_
        refine X.nil ?_
        refine At.then ?_
        refine C.condF rfl ?_
        refine C.seq ?_
        refine C.seq ?_
        refine C.region 2 rfl ?_
        by_cases g1357 : a0.Kind = 3
        · have H := ifT g1357 H
          refine X.val rfl rfl rfl (yBT g1357 (yEql rfl rfl)) trivial ?_
          refine X.val rfl rfl rfl (yAssign rfl) trivial ?_
          refine X.nil ?_
          refine At.then ?_
          refine C.condT rfl ?_
          refine C.skip ?_
          refine At.then ?_
          refine C.condT rfl ?_
          refine C.region 8 rfl ?_
          refine X.val (v := .pointer (some ⟨b1143, 37, none⟩)) rfl rfl rfl (yField 67 37 Tryz.underlying77 Tryz.sizeOf67 rfl rfl rfl) trivial ?_
          have l1358 : c1135.length = 32 := (kArr 32 (kI .u8)).len r1136
          refine X.val (v := v1137) rfl rfl rfl (yLoadS (j := 37) Tryz.isAgg67 rfl (f1148).all rfl (by simp [l1358])) trivial ?_
          cases H
        · have H := ifF g1357 H
          refine X.val rfl rfl rfl (yBF g1357 (yEql rfl rfl)) trivial ?_
          refine X.val rfl rfl rfl (yAssign rfl) trivial ?_
          refine X.nil ?_
          refine At.then ?_
          refine C.condF rfl ?_
          refine C.region 2 rfl ?_
          by_cases g1359 : a0.Kind = 6
          · have H := ifT g1359 H
            refine X.val rfl rfl rfl (yBT g1359 (yEql rfl rfl)) trivial ?_
            refine X.val rfl rfl rfl (yAssign rfl) trivial ?_
            refine X.nil ?_
            refine At.then ?_
            refine C.condT rfl ?_
            refine C.region 8 rfl ?_
            refine X.val (v := .pointer (some ⟨b1143, 37, none⟩)) rfl rfl rfl (yField 67 37 Tryz.underlying77 Tryz.sizeOf67 rfl rfl rfl) trivial ?_
            have l1360 : c1135.length = 32 := (kArr 32 (kI .u8)).len r1136
            refine X.val (v := v1137) rfl rfl rfl (yLoadS (j := 37) Tryz.isAgg67 rfl (f1148).all rfl (by simp [l1360])) trivial ?_
            cases H
          · have H := ifF g1359 H
            refine X.val rfl rfl rfl (yBF g1359 (yEql rfl rfl)) trivial ?_
            refine X.val rfl rfl rfl (yAssign rfl) trivial ?_
            refine X.nil ?_
            refine At.then ?_
            refine C.condF rfl ?_
            refine C.seq ?_
            refine C.region 2 rfl ?_
            by_cases g1361 : a0.Kind = 5
            · have H := ifT g1361 H
              refine X.val rfl rfl rfl (yBT g1361 (yEql rfl rfl)) trivial ?_
              refine X.val rfl rfl rfl (yAssign rfl) trivial ?_
              refine X.nil ?_
              refine At.then ?_
              refine C.condT rfl ?_
              refine C.region 19 rfl ?_
              refine X.val (v := .pointer (some ⟨b1143, 37, none⟩)) rfl rfl rfl (yField 67 37 Tryz.underlying77 Tryz.sizeOf67 rfl rfl rfl) trivial ?_
              have l1362 : c1135.length = 32 := (kArr 32 (kI .u8)).len r1136
              refine X.val (v := v1137) rfl rfl rfl (yLoadS (j := 37) Tryz.isAgg67 rfl (f1148).all rfl (by simp [l1362])) trivial ?_
              cases H
            · have H := ifF g1361 H
              refine X.val rfl rfl rfl (yBF g1361 (yEql rfl rfl)) trivial ?_
              refine X.val rfl rfl rfl (yAssign rfl) trivial ?_
              refine X.nil ?_
              refine At.then ?_
              refine C.condF rfl ?_
              refine C.seq ?_
              refine C.region 2 rfl ?_
              by_cases g1363 : a0.Kind = 7
              · have H := ifT g1363 H
                refine X.val rfl rfl rfl (yBT g1363 (yEql rfl rfl)) trivial ?_
                refine X.val rfl rfl rfl (yAssign rfl) trivial ?_
                refine X.nil ?_
                refine At.then ?_
                refine C.condT rfl ?_
                refine C.region 18 rfl ?_
                refine X.val (v := .pointer (some ⟨b1143, 39, none⟩)) rfl rfl rfl (yField 58 39 Tryz.underlying77 Tryz.sizeOf58 rfl rfl rfl) trivial ?_
                have l1364 : c1135.length = 32 := (kArr 32 (kI .u8)).len r1136
                refine X.val (v := v1141) rfl rfl rfl (yLoadS (j := 39) Tryz.isAgg58 rfl (f1148).all rfl (by simp [l1364])) trivial ?_
                refine X.val rfl rfl rfl (yLenR Tryz.underlying58 rfl (r1142.mono t1145)) trivial ?_
                by_cases g1365 : (a0.Carts.length : Int) = 1
                · have H := ifT g1365 H
                  refine X.val rfl rfl rfl (yBT g1365 (yEql rfl rfl)) trivial ?_
                  refine X.val rfl rfl rfl (yMove rfl) trivial ?_
                  refine X.val (v := .pointer (some ⟨b1143, 39, none⟩)) rfl rfl rfl (yField 58 39 Tryz.underlying77 Tryz.sizeOf58 rfl rfl rfl) trivial ?_
                  have l1366 : c1135.length = 32 := (kArr 32 (kI .u8)).len r1136
                  refine X.val (v := v1141) rfl rfl rfl (yLoadS (j := 39) Tryz.isAgg58 rfl (f1148).all rfl (by simp [l1366])) trivial ?_
                  obtain ⟨x1367, e1368, H⟩ := bnd H
                  refine X.call (all := [v1141]) Tryz.call98 rfl rfl rfl rfl rfl rfl (c_pack_Right s1147.ib (r1142.mono t1145) e1368) ?_
                  rintro _ h1369 ⟨p1370, rfl⟩
                  have s1371 := s1147.call p1370
                  have t1372 := s1147.callTr p1370
                  refine ⟨trivial, ?_⟩
                  refine X.val rfl rfl rfl (yPickT rfl rfl) trivial ?_
                  refine X.val rfl rfl rfl (yMove rfl) trivial ?_
                  cases x1367
                  · have H := biF H
                    refine X.skip rfl rfl rfl trivial ?_
                    refine X.skip rfl rfl rfl trivial ?_
                    refine X.skip rfl rfl rfl trivial ?_
                    refine X.skip rfl rfl rfl trivial ?_
                    refine X.skip rfl rfl rfl trivial ?_
                    refine X.skip rfl rfl rfl trivial ?_
                    refine X.val rfl rfl rfl (yPickF rfl rfl) trivial ?_
                    refine X.val rfl rfl rfl (yAssign rfl) trivial ?_
                    refine X.nil ?_
                    refine At.blkN ?_
                    refine At.then ?_
                    refine C.seq ?_
                    have b1389 := (f1148.stp p1370 (by simp))
                    refine C.regionD rfl (Stp [] h1369) (.pas 0 (.pas 1 (.pas 2 (.pas 3 (.pas 4 (.pas 5 (.pas 6 (.alt 7 (.pas 8 (.pas 9 (.pas 10 (.pas 11 (.pas 12 (.alt 13 (.pas 14 (.pas 15 (.pas 16 (.pas 17 (.alt 18 (.pas 19 (.pas 20 (.pas 21 (.pas 22 (.pas 23 (.pas 24 (.pas 25 (.pas 26 (.pas 27 (.pas 28 (.pas 29 (.alt 30 (.alt 31 (.pas 32 (.pas 33 .nil)) .stop) .stop)))))))))))) .stop))))) .stop)))))) .stop)))))))) (by kernel_rfl) (Stp.refl0 _ _) ?_
                    have q1390 := Stp.refl0 [] h1369
                    refine X.pas rfl rfl rfl (fun _ _ => yMove rfl) ?_
                    refine X.pas rfl rfl rfl (fun _ _ => yMove rfl) ?_
                    refine X.pasSkip rfl rfl rfl ?_
                    refine X.pasSkip rfl rfl rfl ?_
                    refine X.pasSkip rfl rfl rfl ?_
                    refine X.pasSkip rfl rfl rfl ?_
                    refine X.pasSkip rfl rfl rfl ?_
                    refine X.skip rfl rfl rfl q1390 ?_
                    refine X.pasSkip rfl rfl rfl ?_
                    refine X.pas rfl rfl rfl (fun _ _ => yPickF rfl rfl) ?_
                    refine X.pas rfl rfl rfl (fun _ _ => yMove rfl) ?_
                    refine X.pasSkip rfl rfl rfl ?_
                    refine X.pasSkip rfl rfl rfl ?_
                    refine X.skip rfl rfl rfl q1390 ?_
                    refine X.pas rfl rfl rfl (fun _ _ => yPickF rfl rfl) ?_
                    refine X.pas rfl rfl rfl (fun _ _ => yMove rfl) ?_
                    refine X.pasSkip rfl rfl rfl ?_
                    refine X.pasSkip rfl rfl rfl ?_
                    refine X.skip rfl rfl rfl q1390 ?_
                    refine X.pas rfl rfl rfl (fun _ _ => yPickF rfl rfl) ?_
                    refine X.pas rfl rfl rfl (fun _ _ => yMove rfl) ?_
                    refine X.pasSkip rfl rfl rfl ?_
                    refine X.pasSkip rfl rfl rfl ?_
                    refine X.pasSkip rfl rfl rfl ?_
                    refine X.pasSkip rfl rfl rfl ?_
                    refine X.pasSkip rfl rfl rfl ?_
                    refine X.pas rfl rfl rfl (fun _ _ => yPickF rfl rfl) ?_
                    refine X.pas rfl rfl rfl (fun _ _ => yMove rfl) ?_
                    refine X.pasSkip rfl rfl rfl ?_
                    refine X.pasSkip rfl rfl rfl ?_
                    refine X.skip rfl rfl rfl q1390 ?_
                    refine X.skip rfl rfl rfl q1390 ?_
                    refine X.pas rfl rfl rfl (fun _ _ => yPickF rfl rfl) ?_
                    refine X.pas rfl rfl rfl (fun _ _ => yAssign rfl) ?_
                    refine X.nil ?_
                    refine At.then ?_
                    refine C.ret ?_
                    obtain rfl := sm H
                    refine At.retn (rs := [.tmp 2]) [.bool false] rfl ?_ ?_
                    exact ⟨Rv.tmp rfl, trivial⟩
                    exact ⟨s1371.stp, rfl⟩
                  · have H := biT H
                    refine X.val (v := .pointer (some ⟨b1143, 39, none⟩)) rfl rfl rfl (yField 58 39 Tryz.underlying77 Tryz.sizeOf58 rfl rfl rfl) trivial ?_
                    have b1373 := (f1148.stp p1370 (by simp))
                    have l1374 : c1135.length = 32 := (kArr 32 (kI .u8)).len r1136
                    refine X.val (v := v1141) rfl rfl rfl (yLoadS (j := 39) Tryz.isAgg58 rfl (b1373).all rfl (by simp [l1374])) trivial ?_
                    obtain ⟨⟨g1383, g1375⟩, H⟩ := ifS H
                    obtain ⟨b1376, w1377, k1378, c1379, e1380, r1381, m1382⟩ := SlR.get (r1142.mono (t1145.trans t1372)) g1383 g1375
                    obtain ⟨c1384, v1386, rfl, r1385, r1387⟩ := o_pack_Keyed r1381
                    refine X.val (v := .pointer (some ⟨b1376, w1377 + ((0 : Int)).toNat * 10, none⟩)) rfl rfl rfl (yIdxS Tryz.underlying58 Tryz.sizeOf172 (by rw [← e1380]; rfl) rfl g1383 g1375) trivial ?_
                    refine X.val (v := .pointer (some ⟨b1376, w1377 + ((0 : Int)).toNat * 10 + 0, none⟩)) rfl rfl rfl (yField 9 0 Tryz.underlying172 Tryz.sizeOf9 rfl rfl rfl) trivial ?_
                    have l1388 : c1384.length = 8 := (kArr 8 (kI .u64)).len r1385
                    refine X.val (v := .string ⟨((rd a0.Carts (0 : Int)).Key).toArray⟩) rfl rfl rfl (yLoadS (j := 0) Tryz.isAgg9 rfl m1382.rd rfl (by simp [l1388])) trivial ?_
                    cases H
                · have H := ifF g1365 H
                  refine X.val rfl rfl rfl (yBF g1365 (yEql rfl rfl)) trivial ?_
                  refine X.val rfl rfl rfl (yMove rfl) trivial ?_
                  refine X.skip rfl rfl rfl trivial ?_
                  refine X.skip rfl rfl rfl trivial ?_
                  refine X.skip rfl rfl rfl trivial ?_
                  refine X.val rfl rfl rfl (yPickF rfl rfl) trivial ?_
                  refine X.val rfl rfl rfl (yMove rfl) trivial ?_
                  refine X.skip rfl rfl rfl trivial ?_
                  refine X.skip rfl rfl rfl trivial ?_
                  refine X.skip rfl rfl rfl trivial ?_
                  refine X.skip rfl rfl rfl trivial ?_
                  refine X.skip rfl rfl rfl trivial ?_
                  refine X.skip rfl rfl rfl trivial ?_
                  refine X.val rfl rfl rfl (yPickF rfl rfl) trivial ?_
                  refine X.val rfl rfl rfl (yAssign rfl) trivial ?_
                  refine X.nil ?_
                  refine At.blkN ?_
                  refine At.then ?_
                  refine C.seq ?_
                  refine C.regionD rfl (Stp [] h1144) (.pas 0 (.pas 1 (.pas 2 (.pas 3 (.pas 4 (.pas 5 (.pas 6 (.alt 7 (.pas 8 (.pas 9 (.pas 10 (.pas 11 (.pas 12 (.alt 13 (.pas 14 (.pas 15 (.pas 16 (.pas 17 (.alt 18 (.pas 19 (.pas 20 (.pas 21 (.pas 22 (.pas 23 (.pas 24 (.pas 25 (.pas 26 (.pas 27 (.pas 28 (.pas 29 (.alt 30 (.alt 31 (.pas 32 (.pas 33 .nil)) .stop) .stop)))))))))))) .stop))))) .stop)))))) .stop)))))))) (by kernel_rfl) (Stp.refl0 _ _) ?_
                  have q1391 := Stp.refl0 [] h1144
                  refine X.pas rfl rfl rfl (fun _ _ => yMove rfl) ?_
                  refine X.pas rfl rfl rfl (fun _ _ => yMove rfl) ?_
                  refine X.pasSkip rfl rfl rfl ?_
                  refine X.pasSkip rfl rfl rfl ?_
                  refine X.pasSkip rfl rfl rfl ?_
                  refine X.pasSkip rfl rfl rfl ?_
                  refine X.pasSkip rfl rfl rfl ?_
                  refine X.skip rfl rfl rfl q1391 ?_
                  refine X.pasSkip rfl rfl rfl ?_
                  refine X.pas rfl rfl rfl (fun _ _ => yPickF rfl rfl) ?_
                  refine X.pas rfl rfl rfl (fun _ _ => yMove rfl) ?_
                  refine X.pasSkip rfl rfl rfl ?_
                  refine X.pasSkip rfl rfl rfl ?_
                  refine X.skip rfl rfl rfl q1391 ?_
                  refine X.pas rfl rfl rfl (fun _ _ => yPickF rfl rfl) ?_
                  refine X.pas rfl rfl rfl (fun _ _ => yMove rfl) ?_
                  refine X.pasSkip rfl rfl rfl ?_
                  refine X.pasSkip rfl rfl rfl ?_
                  refine X.skip rfl rfl rfl q1391 ?_
                  refine X.pas rfl rfl rfl (fun _ _ => yPickF rfl rfl) ?_
                  refine X.pas rfl rfl rfl (fun _ _ => yMove rfl) ?_
                  refine X.pasSkip rfl rfl rfl ?_
                  refine X.pasSkip rfl rfl rfl ?_
                  refine X.pasSkip rfl rfl rfl ?_
                  refine X.pasSkip rfl rfl rfl ?_
                  refine X.pasSkip rfl rfl rfl ?_
                  refine X.pas rfl rfl rfl (fun _ _ => yPickF rfl rfl) ?_
                  refine X.pas rfl rfl rfl (fun _ _ => yMove rfl) ?_
                  refine X.pasSkip rfl rfl rfl ?_
                  refine X.pasSkip rfl rfl rfl ?_
                  refine X.skip rfl rfl rfl q1391 ?_
                  refine X.skip rfl rfl rfl q1391 ?_
                  refine X.pas rfl rfl rfl (fun _ _ => yPickF rfl rfl) ?_
                  refine X.pas rfl rfl rfl (fun _ _ => yAssign rfl) ?_
                  refine X.nil ?_
                  refine At.then ?_
                  refine C.ret ?_
                  obtain rfl := sm H
                  refine At.retn (rs := [.tmp 2]) [.bool false] rfl ?_ ?_
                  exact ⟨Rv.tmp rfl, trivial⟩
                  exact ⟨s1147.stp, rfl⟩
              · have H := ifF g1363 H
                refine X.val rfl rfl rfl (yBF g1363 (yEql rfl rfl)) trivial ?_
                refine X.val rfl rfl rfl (yAssign rfl) trivial ?_
                refine X.nil ?_
                refine At.then ?_
                refine C.condF rfl ?_
                refine C.skip ?_
                refine At.blkN ?_
                refine At.then ?_
                refine C.seq ?_
                refine C.regionD rfl (Stp [] h1144) (.pas 0 (.pas 1 (.pas 2 (.pas 3 (.pas 4 (.pas 5 (.pas 6 (.alt 7 (.pas 8 (.pas 9 (.pas 10 (.pas 11 (.pas 12 (.alt 13 (.pas 14 (.pas 15 (.pas 16 (.pas 17 (.alt 18 (.pas 19 (.pas 20 (.pas 21 (.pas 22 (.pas 23 (.pas 24 (.pas 25 (.pas 26 (.pas 27 (.pas 28 (.pas 29 (.alt 30 (.alt 31 (.pas 32 (.pas 33 .nil)) .stop) .stop)))))))))))) .stop))))) .stop)))))) .stop)))))))) (by kernel_rfl) (Stp.refl0 _ _) ?_
                have q1392 := Stp.refl0 [] h1144
                refine X.pas rfl rfl rfl (fun _ _ => yMove rfl) ?_
                refine X.pas rfl rfl rfl (fun _ _ => yMove rfl) ?_
                refine X.pasSkip rfl rfl rfl ?_
                refine X.pasSkip rfl rfl rfl ?_
                refine X.pasSkip rfl rfl rfl ?_
                refine X.pasSkip rfl rfl rfl ?_
                refine X.pasSkip rfl rfl rfl ?_
                refine X.skip rfl rfl rfl q1392 ?_
                refine X.pasSkip rfl rfl rfl ?_
                refine X.pas rfl rfl rfl (fun _ _ => yPickF rfl rfl) ?_
                refine X.pas rfl rfl rfl (fun _ _ => yMove rfl) ?_
                refine X.pasSkip rfl rfl rfl ?_
                refine X.pasSkip rfl rfl rfl ?_
                refine X.skip rfl rfl rfl q1392 ?_
                refine X.pas rfl rfl rfl (fun _ _ => yPickF rfl rfl) ?_
                refine X.pas rfl rfl rfl (fun _ _ => yMove rfl) ?_
                refine X.pasSkip rfl rfl rfl ?_
                refine X.pasSkip rfl rfl rfl ?_
                refine X.skip rfl rfl rfl q1392 ?_
                refine X.pas rfl rfl rfl (fun _ _ => yPickF rfl rfl) ?_
                refine X.pas rfl rfl rfl (fun _ _ => yMove rfl) ?_
                refine X.pasSkip rfl rfl rfl ?_
                refine X.pasSkip rfl rfl rfl ?_
                refine X.pasSkip rfl rfl rfl ?_
                refine X.pasSkip rfl rfl rfl ?_
                refine X.pasSkip rfl rfl rfl ?_
                refine X.pas rfl rfl rfl (fun _ _ => yPickF rfl rfl) ?_
                refine X.pas rfl rfl rfl (fun _ _ => yMove rfl) ?_
                refine X.pasSkip rfl rfl rfl ?_
                refine X.pasSkip rfl rfl rfl ?_
                refine X.skip rfl rfl rfl q1392 ?_
                refine X.skip rfl rfl rfl q1392 ?_
                refine X.pas rfl rfl rfl (fun _ _ => yPickF rfl rfl) ?_
                refine X.pas rfl rfl rfl (fun _ _ => yAssign rfl) ?_
                refine X.nil ?_
                refine At.then ?_
                refine C.ret ?_
                obtain rfl := sm H
                refine At.retn (rs := [.tmp 2]) [.bool false] rfl ?_ ?_
                exact ⟨Rv.tmp rfl, trivial⟩
                exact ⟨s1147.stp, rfl⟩

def p_slices_Clone_byte (a0 : (List Int)) : Option ((List Int)) :=
  (if ([] : (List Int)).length + a0.length ≤ 140737488355328 then some (([] : (List Int)) ++ a0) else none)
theorem c_slices_Clone_byte {h : Heap} {I : Nat → Prop} {v_a0 : Value} {a0 : (List Int)} (s0 : St [] h I h I []) (r_a0 : SlR (kI .u8) I h v_a0 a0) {r : ((List Int))} (H : p_slices_Clone_byte a0 = some r) :
    Fn Tryz.prog 198 [v_a0] h (fun v h' => ∃ (I' : Nat → Prop) (u0 : Value) , St [] h I h' I' [u0.ownBlock] ∧ v = (u0 : Value) ∧ Own (kI .u8) 5 h' I' u0 r) := by
  unfold p_slices_Clone_byte at H
  refine Fn.of 8 Tryz.func198 rfl rfl ?_
  refine C.seq ?_
  refine C.region 1 rfl ?_
  refine X.val rfl rfl rfl (yAssign rfl) trivial ?_
  refine X.nil ?_
  refine At.then ?_
  refine C.seq ?_
  refine C.seq ?_
  refine C.region 2 rfl ?_
  refine X.val rfl rfl rfl (yMove rfl) trivial ?_
  have rr := r_a0
  rcases rr.nilOr with ⟨rfl, rfl⟩ | ⟨u1413, u1414, u1415, rfl⟩
  · have H := eqH (b := some ([] : (List Int))) (by simp) H
    refine X.val (v := .bool true) rfl rfl rfl (ySlNilT Tryz.underlying23 rfl rfl) trivial ?_
    refine X.nil ?_
    refine At.then ?_
    refine C.condT rfl ?_
    refine C.seq ?_
    refine C.region 1 rfl ?_
    refine X.val rfl rfl rfl (yAssign rfl) trivial ?_
    refine X.nil ?_
    refine At.then ?_
    refine C.ret ?_
    refine At.thenR ?_
    have s1393 := s0.addNone
    have o1395 : Own (kI .u8) 5 h I (.slice none 0 0) ([] : (List Int)) := Own.nil
    obtain rfl := sm H
    refine At.retn (rs := [.tmp 2]) [.slice none 0 0] rfl ?_ ?_
    exact ⟨Rv.tmp rfl, trivial⟩
    exact ⟨I, .slice none 0 0, s1393, rfl, o1395⟩
  · refine X.val (v := .bool false) rfl rfl rfl (ySlNilF Tryz.underlying23 rfl rfl) trivial ?_
    refine X.nil ?_
    refine At.then ?_
    refine C.condF rfl ?_
    refine C.skip ?_
    refine At.then ?_
    refine C.seq ?_
    refine C.region 4 rfl ?_
    refine X.ef rfl rfl rfl (eBuildSlice0 Tryz.underlying23 Tryz.sizeOf5 rfl) ?_
    rintro _ h1397 ⟨rfl, e1402⟩
    obtain ⟨b1396, e1402b⟩ : ∃ b, b = h.size := ⟨_, rfl⟩
    rw [← e1402b]
    have f1401 : Box h1397 b1396 5 ([] : List Value) := by subst e1402; subst e1402b; exact Box.new _ _ _
    have p1399 : Stp [] h h1397 := by subst e1402; exact Stp.push _ _
    have s1400 : St [] h I h1397 I (some b1396 :: []) := by subst e1402; subst e1402b; exact s0.new _
    have t1398 := s0.tr p1399 (by simp) (fun _ hb => hb)
    clear e1402 e1402b
    have r1404 : rows (kI .u8) I h1397 ([] : List Value) ([] : (List Int)) := by have k : rows (kI .u8) I h1397 _ ([] : (List Int)) := rows.nil; first | exact k | simpa only [List.append_nil, List.append_assoc, List.cons_append, List.nil_append] using k | simpa using k
    have o1403 : Own (kI .u8) 5 h1397 I (.slice (some ⟨b1396, 0, none⟩) 0 0) ([] : (List Int)) := Own.row f1401 r1404 rfl rfl
    refine ⟨trivial, ?_⟩
    refine X.val rfl rfl rfl (yMove rfl) trivial ?_
    obtain ⟨g1412, H⟩ := ifS H
    refine X.ef rfl rfl rfl (eAppend (bytes := 1) Tryz.underlying23 Tryz.type5 rfl rfl rfl rfl rfl rfl rfl rfl o1403 (Src.sl (r_a0.mono t1398)) (s1400.disOf 0 rfl) (Nat.le_trans (Nat.mul_le_mul_right _ g1412) (by decide))) ?_
    rintro v1405 h1406 ⟨o1407, p1408, n1409⟩
    have p1408 : Stp [some b1396] h1397 h1406 := p1408
    have s1410 : St [] h I h1406 I [v1405.ownBlock] := s1400.grow 0 rfl p1408 n1409
    have t1411 := s1400.tr p1408 (by simp) (fun _ hb => hb)
    refine ⟨trivial, ?_⟩
    refine X.val rfl rfl rfl (yAssign rfl) trivial ?_
    refine X.nil ?_
    refine At.then ?_
    refine C.ret ?_
    obtain rfl := sm H
    refine At.retn (rs := [.tmp 2]) [v1405] rfl ?_ ?_
    exact ⟨Rv.tmp rfl, trivial⟩
    exact ⟨I, v1405, s1410, rfl, o1407⟩

def p_wire_Writer_Bytes (a0 : wire_Writer) : Option ((List Int) × wire_Writer) :=
  (p_slices_Clone_byte a0.b).bind fun x1419 => some (x1419, a0)
theorem c_wire_Writer_Bytes {h : Heap} {I : Nat → Prop} {b_a0 : Nat} {a0 : wire_Writer} {v0_a0 : Value} (s0 : St [some b_a0, v0_a0.ownBlock] h I h I [some b_a0, v0_a0.ownBlock]) (f_a0 : Box h b_a0 213 (v0_a0 :: [] : List Value)) (o0_a0 : Own (kI .u8) 5 h I v0_a0 a0.b) {r : ((List Int) × wire_Writer)} (H : p_wire_Writer_Bytes a0 = some r) :
    Fn Tryz.prog 115 [.pointer (some ⟨b_a0, 0, none⟩)] h (fun v h' => ∃ (I' : Nat → Prop) (w0s : Value) (u0 : Value) , St [some b_a0, v0_a0.ownBlock] h I h' I' [some b_a0, u0.ownBlock] ∧ v = (u0 : Value) ∧ Box h' b_a0 213 (w0s :: [] : List Value) ∧ SlR (kI .u8) I' h' w0s r.2.b ∧ Own (kI .u8) 5 h' I' u0 r.1) := by
  unfold p_wire_Writer_Bytes at H
  refine Fn.of 10 Tryz.func115 rfl rfl ?_
  refine C.seq ?_
  refine C.region 1 rfl ?_
  refine X.val rfl rfl rfl (yAssign rfl) trivial ?_
  refine X.nil ?_
  refine At.then ?_
  refine C.seq ?_
  refine C.seq ?_
  refine C.region 2 rfl ?_
  refine X.val rfl rfl rfl (yMove rfl) trivial ?_
  refine X.val (v := .bool false) rfl rfl rfl (yPEq Tryz.underlying211 rfl rfl) trivial ?_
  refine X.nil ?_
  refine At.then ?_
  refine C.condF rfl ?_
  refine C.skip ?_
  refine At.then ?_
  refine C.seq ?_
  refine C.region 6 rfl ?_
  refine X.val rfl rfl rfl (yMove rfl) trivial ?_
  refine X.val rfl rfl rfl (yNil rfl) trivial ?_
  refine X.val (v := .pointer (some ⟨b_a0, 0, none⟩)) rfl rfl rfl (yField 23 0 Tryz.underlying213 Tryz.sizeOf23 rfl rfl rfl) trivial ?_
  refine X.val (v := v0_a0) rfl rfl rfl (yLoadS (j := 0) Tryz.isAgg23 rfl (f_a0).all rfl rfl) trivial ?_
  have s1416 : St [some b_a0, v0_a0.ownBlock] h I h (fun b => I b ∨ some b = v0_a0.ownBlock) [some b_a0] := s0.claim 1 rfl
  have t1417 : Tr I h (fun b => I b ∨ some b = v0_a0.ownBlock) h := fun b hb => ⟨.inl hb, rfl⟩
  have r1418 := Own.read (I' := (fun b => I b ∨ some b = v0_a0.ownBlock)) o0_a0 (fun _ hb => .inl hb) (fun b e => .inr e.symm)
  obtain ⟨x1419, e1420, H⟩ := bnd H
  have s1425 : St [some b_a0, v0_a0.ownBlock] h I h (fun b => I b ∨ some b = v0_a0.ownBlock) ([] ++ [some b_a0]) := s1416.pick [0] rfl (by decide) (by rintro (_ | i) m h <;> first | exact h | (simp at h))
  refine X.call (all := [v0_a0]) Tryz.call198 rfl rfl rfl rfl rfl rfl (c_slices_Clone_byte s1425.left.lend r1418 e1420) ?_
  rintro v1427 h1421 ⟨I1426, _, k1429, rfl, o1428⟩
  have s1423 : St [some b_a0, v0_a0.ownBlock] h I h1421 I1426 [v1427.ownBlock, some b_a0] := St.callS (L := []) (R := [some b_a0]) (L' := [v1427.ownBlock]) s1425 k1429
  have t1424 : Tr (fun b => I b ∨ some b = v0_a0.ownBlock) h I1426 h1421 := St.callSTr (L := []) (R := [some b_a0]) (L' := [v1427.ownBlock]) s1425 k1429
  have p1422 := k1429.stp
  refine ⟨trivial, ?_⟩
  refine X.val rfl rfl rfl (yAssign rfl) trivial ?_
  refine X.nil ?_
  refine At.then ?_
  refine C.ret ?_
  have b1430 := (f_a0.stp p1422 (by simp))
  obtain rfl := sm H
  refine At.retn (rs := [.tmp 2]) [v1427] rfl ?_ ?_
  exact ⟨Rv.tmp rfl, trivial⟩
  exact ⟨I1426, v0_a0, v1427, (s1423.pick [1, 0] rfl (by decide) (by rintro (_ | _ | i) m h <;> first | exact h | (simp at h))), rfl, b1430, (r1418.mono t1424), o1428⟩

def p_wire_Writer_Num_l1 (K : Nat) (a1 : Int) : Nat → Int → wire_Writer → Option (Int × wire_Writer)
  | 0, _, _ => none
  | k1482 + 1, y1471, y1473 => (if y1471 ≥ 0 then (if 0 ≤ (IntKind.i64.wrap (8 * y1471)) then (if y1473.b.length + [(IntKind.u8.wrap (ishr .u64 a1 (IntKind.i64.wrap (8 * y1471))))].length ≤ 140737488355328 then (p_wire_Writer_Num_l1 K a1 k1482 (IntKind.i64.wrap (y1471 - 1)) (⟨(y1473.b ++ [(IntKind.u8.wrap (ishr .u64 a1 (IntKind.i64.wrap (8 * y1471))))])⟩ : wire_Writer)) else none) else none) else some (y1471, y1473))
def p_wire_Writer_Num_l0 (K : Nat)  : Nat → Int → Int → Option (Int × Int)
  | 0, _, _ => none
  | k1442 + 1, y1433, y1434 => (if y1434 > 0 then (p_wire_Writer_Num_l0 K k1442 (IntKind.i64.wrap (y1433 + 1)) (ishr .u64 y1434 8)) else some (y1433, y1434))
def p_wire_Writer_Num (K : Nat) (a0 : wire_Writer) (a1 : Int) : Option (wire_Writer) :=
  (p_wire_Writer_Num_l0 K K 0 a1).bind fun (w1549, w1550) => (if a0.b.length + [(IntKind.u8.wrap w1549)].length ≤ 140737488355328 then (p_wire_Writer_Num_l1 K a1 K (IntKind.i64.wrap (w1549 - 1)) (⟨(a0.b ++ [(IntKind.u8.wrap w1549)])⟩ : wire_Writer)).bind fun (w1654, w1655) => some w1655 else none)
theorem c_wire_Writer_Num {K : Nat} {h : Heap} {I : Nat → Prop} {b_a0 : Nat} {a0 : wire_Writer} {v0_a0 : Value} {a1 : Int} (s0 : St [some b_a0, v0_a0.ownBlock] h I h I [some b_a0, v0_a0.ownBlock]) (f_a0 : Box h b_a0 213 (v0_a0 :: [] : List Value)) (o0_a0 : Own (kI .u8) 5 h I v0_a0 a0.b) {r : (wire_Writer)} (H : p_wire_Writer_Num K a0 a1 = some r) :
    Fn Tryz.prog 140 [.pointer (some ⟨b_a0, 0, none⟩), .int .u64 a1] h (fun v h' => ∃ (I' : Nat → Prop) (w0s : Value) , St [some b_a0, v0_a0.ownBlock] h I h' I' [some b_a0, w0s.ownBlock] ∧ v = (.tuple #[] : Value) ∧ Box h' b_a0 213 (w0s :: [] : List Value) ∧ Own (kI .u8) 5 h' I' w0s r.b) := by
  unfold p_wire_Writer_Num at H
  refine Fn.of 47 Tryz.func140 rfl rfl ?_
  refine C.seq ?_
  refine C.seq ?_
  refine C.region 2 rfl ?_
  refine X.val rfl rfl rfl (yMove rfl) trivial ?_
  refine X.val (v := .bool false) rfl rfl rfl (yPEq Tryz.underlying211 rfl rfl) trivial ?_
  refine X.nil ?_
  refine At.then ?_
  refine C.condF rfl ?_
  refine C.skip ?_
  refine At.then ?_
  refine C.seq ?_
  refine C.region 1 rfl ?_
  refine X.val rfl rfl rfl (yAssign rfl) trivial ?_
  refine X.nil ?_
  refine At.then ?_
  refine C.seq ?_
  refine C.seq ?_
  refine C.region 2 rfl ?_
  refine X.val rfl rfl rfl (yMove rfl) trivial ?_
  refine X.val rfl rfl rfl (yAssign rfl) trivial ?_
  refine X.nil ?_
  refine At.then ?_
  refine C.block ?_
  obtain ⟨z1439, e1441, G1440⟩ := bnd H
  refine C.prune [(0, .pointer (some ⟨b_a0, 0, none⟩)), (1, .int .u64 a1), (4, .int .i64 0), (5, .int .u64 a1)] (fun a ha => (.cons ha rfl (.cons ha rfl (.cons ha rfl (.cons ha rfl ha.nil))))) ?_
  refine C.loop (fun k1442 e h1431 => ∃ (y1433 : Int) (y1434 : Int) (I1432 : Nat → Prop), e = [(0, .pointer (some ⟨b_a0, 0, none⟩)), (1, .int .u64 a1), (4, .int .i64 y1433), (5, .int .u64 y1434)] ∧ St [some b_a0, v0_a0.ownBlock] h I h1431 I1432 [some b_a0, v0_a0.ownBlock] ∧ Tr I h I1432 h1431 ∧ Own (kI .u8) 5 h1431 I1432 (v0_a0) a0.b ∧ Box h1431 b_a0 213 (v0_a0 :: [] : List Value) ∧ p_wire_Writer_Num_l0 K k1442 y1433 y1434 = some z1439) K ⟨0, a1, I, rfl, s0, Tr.refl _ _, o0_a0, f_a0, e1441⟩ ?_ ?_
  · rintro e h' ⟨_, _, _, _, _, _, _, _, H⟩; cases (show none = some _ from H)
  · rintro k1442 e h1431 ⟨y1433, y1434, I1432, rfl, s1437, t1438, o1436, f1435, H⟩
    rw [p_wire_Writer_Num_l0] at H
    refine C.seq ?_
    refine C.seq ?_
    refine C.region 2 rfl ?_
    refine X.val rfl rfl rfl (yMove rfl) trivial ?_
    by_cases g1443 : y1434 > 0
    · have H := ifT g1443 H
      refine X.val rfl rfl rfl (yBT g1443 (yGtr rfl rfl)) trivial ?_
      refine X.nil ?_
      refine At.then ?_
      refine C.condT rfl ?_
      refine C.skip ?_
      refine At.then ?_
      refine C.seq ?_
      refine C.block ?_
      refine C.region 3 rfl ?_
      refine X.val rfl rfl rfl (yMove rfl) trivial ?_
      refine X.val rfl rfl rfl (yAdd rfl rfl) trivial ?_
      refine X.val rfl rfl rfl (yAssign rfl) trivial ?_
      refine X.nil ?_
      refine At.blkN ?_
      refine At.then ?_
      refine C.region 3 rfl ?_
      refine X.val rfl rfl rfl (yMove rfl) trivial ?_
      refine X.val rfl rfl rfl (yShr rfl rfl (by decide)) trivial ?_
      refine X.val rfl rfl rfl (yAssign rfl) trivial ?_
      refine X.nil ?_
      refine At.back [(0, .pointer (some ⟨b_a0, 0, none⟩)), (1, .int .u64 a1), (4, .int .i64 (IntKind.i64.wrap (y1433 + 1))), (5, .int .u64 (ishr .u64 y1434 8))] (fun a ha => (.cons ha rfl (.cons ha rfl (.cons ha rfl (.cons ha rfl ha.nil))))) ?_
      exact ⟨(IntKind.i64.wrap (y1433 + 1)), (ishr .u64 y1434 8), I1432, rfl, s1437, t1438, o1436, f1435, H⟩
    · have H := ifF g1443 H
      refine X.val rfl rfl rfl (yBF g1443 (yGtr rfl rfl)) trivial ?_
      refine X.nil ?_
      refine At.then ?_
      refine C.condF rfl ?_
      refine C.exit ?_
      refine At.thenE ?_
      refine At.backE ?_
      obtain rfl := sm H
      have H := G1440
      try dsimp only at H
      refine At.blkE ?_
      refine At.then ?_
      refine C.seq ?_
      refine C.region 12 rfl ?_
      refine X.val rfl rfl rfl (yMove rfl) trivial ?_
      refine X.val rfl rfl rfl (yMove rfl) trivial ?_
      refine X.val rfl rfl rfl (yNil rfl) trivial ?_
      refine X.val (v := .pointer (some ⟨b_a0, 0, none⟩)) rfl rfl rfl (yField 23 0 Tryz.underlying213 Tryz.sizeOf23 rfl rfl rfl) trivial ?_
      refine X.val (v := v0_a0) rfl rfl rfl (yLoadS (j := 0) Tryz.isAgg23 rfl (f1435).all rfl rfl) trivial ?_
      refine X.val rfl rfl rfl (yMove rfl) trivial ?_
      refine X.val rfl rfl rfl (yConv Tryz.underlying3 Tryz.underlying5 rfl) trivial ?_
      refine X.ef rfl rfl rfl (eBuildSlice (out := ((.int .u8 (IntKind.u8.wrap y1433) : Value) :: [] : List Value)) Tryz.underlying23 Tryz.sizeOf5 (List.replicate 1 ((.int .u8 0 : Value) :: [] : List Value)) Tryz.zeroValue5 rfl (by kernel_rfl) rfl rfl rfl (by simp [okp, vInt, vBool, vStr, vSl, vPtr, vAgg]) (by simp [setAll, vInt, vBool, vStr, vSl, vPtr, vAgg])) ?_
      rintro _ h1445 ⟨rfl, e1450⟩
      obtain ⟨b1444, e1450b⟩ : ∃ b, b = h1431.size := ⟨_, rfl⟩
      rw [← e1450b]
      have f1449 : Box h1445 b1444 5 ((.int .u8 (IntKind.u8.wrap y1433) : Value) :: [] : List Value) := by subst e1450; subst e1450b; exact Box.new _ _ _
      have p1447 : Stp [] h1431 h1445 := by subst e1450; exact Stp.push _ _
      have s1448 : St [some b_a0, v0_a0.ownBlock] h I h1445 I1432 (some b1444 :: [some b_a0, v0_a0.ownBlock]) := by subst e1450; subst e1450b; exact s1437.new _
      have t1446 := s1437.tr p1447 (by simp) (fun _ hb => hb)
      clear e1450 e1450b
      have r1452 : rows (kI .u8) I1432 h1445 ((.int .u8 (IntKind.u8.wrap y1433) : Value) :: [] : List Value) [(IntKind.u8.wrap y1433)] := by have k : rows (kI .u8) I1432 h1445 _ [(IntKind.u8.wrap y1433)] := (rows.cons (c := ((.int .u8 (IntKind.u8.wrap y1433) : Value) :: [] : List Value)) (y := (IntKind.u8.wrap y1433)) rfl rows.nil); first | exact k | simpa only [List.append_nil, List.append_assoc, List.cons_append, List.nil_append] using k | simpa using k
      have o1451 : Own (kI .u8) 5 h1445 I1432 (.slice (some ⟨b1444, 0, none⟩) 1 1) [(IntKind.u8.wrap y1433)] := Own.row f1449 r1452 rfl rfl
      refine ⟨trivial, ?_⟩
      have o1453 := (o1436.stp t1446 p1447 (by simp))
      obtain ⟨g1461, H⟩ := ifS H
      refine X.ef rfl rfl rfl (eAppend (bytes := 1) Tryz.underlying23 Tryz.type5 rfl rfl rfl rfl rfl rfl rfl rfl o1453 (Src.own o1451) (s1448.disOf 2 rfl) (Nat.le_trans (Nat.mul_le_mul_right _ g1461) (by decide))) ?_
      rintro v1454 h1455 ⟨o1456, p1457, n1458⟩
      have p1457 : Stp [v0_a0.ownBlock] h1445 h1455 := p1457
      have s1459 : St [some b_a0, v0_a0.ownBlock] h I h1455 I1432 [some b1444, some b_a0, v1454.ownBlock] := s1448.grow 2 rfl p1457 n1458
      have t1460 := s1448.tr p1457 (by simp) (fun _ hb => hb)
      refine ⟨trivial, ?_⟩
      refine X.val rfl rfl rfl (yNil rfl) trivial ?_
      refine X.val (v := .pointer (some ⟨b_a0, 0, none⟩)) rfl rfl rfl (yField 23 0 Tryz.underlying213 Tryz.sizeOf23 rfl rfl rfl) trivial ?_
      have b1462 := ((f1435.stp p1447 (by simp)).stp p1457 ((s1448.sep 1 [2] rfl rfl rfl) _ rfl))
      refine X.ef rfl rfl rfl (eStore (vs := (v1454 :: [] : List Value)) Tryz.sizeOf23 rfl rfl (cellsOne (Own.one o1456)) (by simp []) (by simp [ones, ones_append, oInt, oBool, oStr, oSl, oPtr, Own.one o1456]) b1462 (by simp [])) ?_
      rintro _ h1463 ⟨rfl, e1464⟩
      have f1468 : Box h1463 b_a0 213 (v1454 :: [] : List Value) := by subst e1464; exact Box.reset b1462 (rfl)
      have p1465 : Stp [some b_a0] h1455 h1463 := by subst e1464; exact Stp.set _
      have s1466 := s1459.step p1465 (by simp)
      have t1467 := s1459.tr p1465 (by simp) (fun _ hb => hb)
      clear e1464
      refine ⟨trivial, ?_⟩
      refine X.nil ?_
      refine At.then ?_
      refine C.seq ?_
      refine C.region 3 rfl ?_
      refine X.val rfl rfl rfl (yMove rfl) trivial ?_
      refine X.val rfl rfl rfl (ySub rfl rfl) trivial ?_
      refine X.val rfl rfl rfl (yAssign rfl) trivial ?_
      refine X.nil ?_
      refine At.then ?_
      refine C.block ?_
      have o1476 := (o1456.stp t1467 p1465 (s1459.sep 2 [1] rfl rfl rfl))
      obtain ⟨z1479, e1481, G1480⟩ := bnd H
      refine C.prune [(0, .pointer (some ⟨b_a0, 0, none⟩)), (1, .int .u64 a1), (6, .int .i64 (IntKind.i64.wrap (y1433 - 1)))] (fun a ha => (.cons ha rfl (.cons ha rfl (.cons ha rfl ha.nil)))) ?_
      refine C.loop (fun k1482 e h1469 => ∃ (y1471 : Int) (y1473 : wire_Writer) (v1474 : Value) (I1470 : Nat → Prop), e = [(0, .pointer (some ⟨b_a0, 0, none⟩)), (1, .int .u64 a1), (6, .int .i64 y1471)] ∧ St [some b_a0, v0_a0.ownBlock] h I h1469 I1470 [some b1444, some b_a0, v1474.ownBlock] ∧ Tr I1432 h1463 I1470 h1469 ∧ Own (kI .u8) 5 h1469 I1470 v1474 y1473.b ∧ Box h1469 b_a0 213 (v1474 :: [] : List Value) ∧ p_wire_Writer_Num_l1 K a1 k1482 y1471 y1473 = some z1479) K ⟨(IntKind.i64.wrap (y1433 - 1)), (⟨(a0.b ++ [(IntKind.u8.wrap y1433)])⟩ : wire_Writer), v1454, I1432, rfl, s1466, Tr.refl _ _, o1476, f1468, e1481⟩ ?_ ?_
      · rintro e h' ⟨_, _, _, _, _, _, _, _, _, H⟩; cases (show none = some _ from H)
      · rintro k1482 e h1469 ⟨y1471, y1473, v1474, I1470, rfl, s1477, t1478, o1475, f1472, H⟩
        rw [p_wire_Writer_Num_l1] at H
        refine C.seq ?_
        refine C.seq ?_
        refine C.region 2 rfl ?_
        refine X.val rfl rfl rfl (yMove rfl) trivial ?_
        by_cases g1483 : y1471 ≥ 0
        · have H := ifT g1483 H
          refine X.val rfl rfl rfl (yBT g1483 (yGeq rfl rfl)) trivial ?_
          refine X.nil ?_
          refine At.then ?_
          refine C.condT rfl ?_
          refine C.skip ?_
          refine At.then ?_
          refine C.seq ?_
          refine C.block ?_
          refine C.regionD rfl (Stp [v1474.ownBlock, some b_a0] h1469) (.pas 0 (.pas 1 (.pas 2 (.pas 3 (.pas 5 (.pas 6 (.pas 7 (.pas 8 (.pas 9 (.alt 4 (.alt 10 (.alt 11 (.pas 12 (.pas 13 (.alt 14 .nil .stop))) .stop) .stop) (.alt 10 (.alt 4 (.alt 11 (.pas 12 (.pas 13 (.alt 14 .nil .stop))) .stop) .stop) .stop))))))))))) (by kernel_rfl) (Stp.refl0 _ _) ?_
          have q1484 := Stp.refl0 [v1474.ownBlock, some b_a0] h1469
          refine X.pas rfl rfl rfl (fun _ _ => yMove rfl) ?_
          refine X.pas rfl rfl rfl (fun _ _ => yMove rfl) ?_
          refine X.pas rfl rfl rfl (fun _ _ => yNil rfl) ?_
          refine X.pas (v := .pointer (some ⟨b_a0, 0, none⟩)) rfl rfl rfl (fun _ _ => yField 23 0 Tryz.underlying213 Tryz.sizeOf23 rfl rfl rfl) ?_
          refine X.pas rfl rfl rfl (fun _ _ => yMove rfl) ?_
          refine X.pas rfl rfl rfl (fun _ _ => yMove rfl) ?_
          refine X.pas rfl rfl rfl (fun _ _ => yMul rfl rfl) ?_
          obtain ⟨g1485, H⟩ := ifS H
          refine X.pas rfl rfl rfl (fun _ _ => yShr rfl rfl g1485) ?_
          refine X.pas rfl rfl rfl (fun _ _ => yConv Tryz.underlying24 Tryz.underlying5 rfl) ?_
          refine X.fork ?_ ?_
          · refine X.val (v := v1474) rfl rfl rfl (yLoadS (j := 0) Tryz.isAgg23 rfl (f1472).all rfl rfl) q1484 ?_
            refine X.ef rfl rfl rfl (eBuildSlice (out := ((.int .u8 (IntKind.u8.wrap (ishr .u64 a1 (IntKind.i64.wrap (8 * y1471)))) : Value) :: [] : List Value)) Tryz.underlying23 Tryz.sizeOf5 (List.replicate 1 ((.int .u8 0 : Value) :: [] : List Value)) Tryz.zeroValue5 rfl (by kernel_rfl) rfl rfl rfl (by simp [okp, vInt, vBool, vStr, vSl, vPtr, vAgg]) (by simp [setAll, vInt, vBool, vStr, vSl, vPtr, vAgg])) ?_
            rintro _ h1487 ⟨rfl, e1492⟩
            obtain ⟨b1486, e1492b⟩ : ∃ b, b = h1469.size := ⟨_, rfl⟩
            rw [← e1492b]
            have f1491 : Box h1487 b1486 5 ((.int .u8 (IntKind.u8.wrap (ishr .u64 a1 (IntKind.i64.wrap (8 * y1471)))) : Value) :: [] : List Value) := by subst e1492; subst e1492b; exact Box.new _ _ _
            have p1489 : Stp [] h1469 h1487 := by subst e1492; exact Stp.push _ _
            have s1490 : St [some b_a0, v0_a0.ownBlock] h I h1487 I1470 (some b1486 :: [some b1444, some b_a0, v1474.ownBlock]) := by subst e1492; subst e1492b; exact s1477.new _
            have t1488 := s1477.tr p1489 (by simp) (fun _ hb => hb)
            clear e1492 e1492b
            have q1494 := q1484.cat p1489 (by simp)
            have r1495 : rows (kI .u8) I1470 h1487 ((.int .u8 (IntKind.u8.wrap (ishr .u64 a1 (IntKind.i64.wrap (8 * y1471)))) : Value) :: [] : List Value) [(IntKind.u8.wrap (ishr .u64 a1 (IntKind.i64.wrap (8 * y1471))))] := by have k : rows (kI .u8) I1470 h1487 _ [(IntKind.u8.wrap (ishr .u64 a1 (IntKind.i64.wrap (8 * y1471))))] := (rows.cons (c := ((.int .u8 (IntKind.u8.wrap (ishr .u64 a1 (IntKind.i64.wrap (8 * y1471)))) : Value) :: [] : List Value)) (y := (IntKind.u8.wrap (ishr .u64 a1 (IntKind.i64.wrap (8 * y1471))))) rfl rows.nil); first | exact k | simpa only [List.append_nil, List.append_assoc, List.cons_append, List.nil_append] using k | simpa using k
            have o1493 : Own (kI .u8) 5 h1487 I1470 (.slice (some ⟨b1486, 0, none⟩) 1 1) [(IntKind.u8.wrap (ishr .u64 a1 (IntKind.i64.wrap (8 * y1471))))] := Own.row f1491 r1495 rfl rfl
            refine ⟨q1494, ?_⟩
            have o1496 := (o1475.stp t1488 p1489 (by simp))
            obtain ⟨g1504, H⟩ := ifS H
            refine X.ef rfl rfl rfl (eAppend (bytes := 1) Tryz.underlying23 Tryz.type5 rfl rfl rfl rfl rfl rfl rfl rfl o1496 (Src.own o1493) (s1490.disOf 3 rfl) (Nat.le_trans (Nat.mul_le_mul_right _ g1504) (by decide))) ?_
            rintro v1497 h1498 ⟨o1499, p1500, n1501⟩
            have p1500 : Stp [v1474.ownBlock] h1487 h1498 := p1500
            have s1502 : St [some b_a0, v0_a0.ownBlock] h I h1498 I1470 [some b1486, some b1444, some b_a0, v1497.ownBlock] := s1490.grow 3 rfl p1500 n1501
            have t1503 := s1490.tr p1500 (by simp) (fun _ hb => hb)
            have q1505 := q1494.cat p1500 (by simp)
            refine ⟨q1505, ?_⟩
            refine X.pas rfl rfl rfl (fun _ _ => yNil rfl) ?_
            refine X.pas (v := .pointer (some ⟨b_a0, 0, none⟩)) rfl rfl rfl (fun _ _ => yField 23 0 Tryz.underlying213 Tryz.sizeOf23 rfl rfl rfl) ?_
            have b1506 := ((f1472.stp p1489 (by simp)).stp p1500 ((s1490.sep 2 [3] rfl rfl rfl) _ rfl))
            refine X.ef rfl rfl rfl (eStore (vs := (v1497 :: [] : List Value)) Tryz.sizeOf23 rfl rfl (cellsOne (Own.one o1499)) (by simp []) (by simp [ones, ones_append, oInt, oBool, oStr, oSl, oPtr, Own.one o1499]) b1506 (by simp [])) ?_
            rintro _ h1507 ⟨rfl, e1508⟩
            have f1512 : Box h1507 b_a0 213 (v1497 :: [] : List Value) := by subst e1508; exact Box.reset b1506 (rfl)
            have p1509 : Stp [some b_a0] h1498 h1507 := by subst e1508; exact Stp.set _
            have s1510 := s1502.step p1509 (by simp)
            have t1511 := s1502.tr p1509 (by simp) (fun _ hb => hb)
            clear e1508
            have q1513 := q1505.cat p1509 (by simp)
            refine ⟨q1513, ?_⟩
            refine X.nil ?_
            refine At.blkN ?_
            refine At.then ?_
            refine C.region 3 rfl ?_
            refine X.val rfl rfl rfl (yMove rfl) trivial ?_
            refine X.val rfl rfl rfl (ySub rfl rfl) trivial ?_
            refine X.val rfl rfl rfl (yAssign rfl) trivial ?_
            refine X.nil ?_
            have o1514 := (o1499.stp t1511 p1509 (s1502.sep 3 [2] rfl rfl rfl))
            have s1515 : St [some b_a0, v0_a0.ownBlock] h I h1507 I1470 [some b1444, some b_a0, v1497.ownBlock] := s1510.pick [1, 2, 3] rfl (by decide) (by rintro (_ | _ | _ | i) m h <;> first | exact h | (simp at h))
            refine At.back [(0, .pointer (some ⟨b_a0, 0, none⟩)), (1, .int .u64 a1), (6, .int .i64 (IntKind.i64.wrap (y1471 - 1)))] (fun a ha => (.cons ha rfl (.cons ha rfl (.cons ha rfl ha.nil)))) ?_
            exact ⟨(IntKind.i64.wrap (y1471 - 1)), (⟨(y1473.b ++ [(IntKind.u8.wrap (ishr .u64 a1 (IntKind.i64.wrap (8 * y1471))))])⟩ : wire_Writer), v1497, I1470, rfl, s1515, (t1478.trans (t1488.trans (t1503.trans t1511))), o1514, f1512, H⟩
          refine X.ef rfl rfl rfl (eBuildSlice (out := ((.int .u8 (IntKind.u8.wrap (ishr .u64 a1 (IntKind.i64.wrap (8 * y1471)))) : Value) :: [] : List Value)) Tryz.underlying23 Tryz.sizeOf5 (List.replicate 1 ((.int .u8 0 : Value) :: [] : List Value)) Tryz.zeroValue5 rfl (by kernel_rfl) rfl rfl rfl (by simp [okp, vInt, vBool, vStr, vSl, vPtr, vAgg]) (by simp [setAll, vInt, vBool, vStr, vSl, vPtr, vAgg])) ?_
          rintro _ h1517 ⟨rfl, e1522⟩
          obtain ⟨b1516, e1522b⟩ : ∃ b, b = h1469.size := ⟨_, rfl⟩
          rw [← e1522b]
          have f1521 : Box h1517 b1516 5 ((.int .u8 (IntKind.u8.wrap (ishr .u64 a1 (IntKind.i64.wrap (8 * y1471)))) : Value) :: [] : List Value) := by subst e1522; subst e1522b; exact Box.new _ _ _
          have p1519 : Stp [] h1469 h1517 := by subst e1522; exact Stp.push _ _
          have s1520 : St [some b_a0, v0_a0.ownBlock] h I h1517 I1470 (some b1516 :: [some b1444, some b_a0, v1474.ownBlock]) := by subst e1522; subst e1522b; exact s1477.new _
          have t1518 := s1477.tr p1519 (by simp) (fun _ hb => hb)
          clear e1522 e1522b
          have q1524 := q1484.cat p1519 (by simp)
          have r1525 : rows (kI .u8) I1470 h1517 ((.int .u8 (IntKind.u8.wrap (ishr .u64 a1 (IntKind.i64.wrap (8 * y1471)))) : Value) :: [] : List Value) [(IntKind.u8.wrap (ishr .u64 a1 (IntKind.i64.wrap (8 * y1471))))] := by have k : rows (kI .u8) I1470 h1517 _ [(IntKind.u8.wrap (ishr .u64 a1 (IntKind.i64.wrap (8 * y1471))))] := (rows.cons (c := ((.int .u8 (IntKind.u8.wrap (ishr .u64 a1 (IntKind.i64.wrap (8 * y1471)))) : Value) :: [] : List Value)) (y := (IntKind.u8.wrap (ishr .u64 a1 (IntKind.i64.wrap (8 * y1471))))) rfl rows.nil); first | exact k | simpa only [List.append_nil, List.append_assoc, List.cons_append, List.nil_append] using k | simpa using k
          have o1523 : Own (kI .u8) 5 h1517 I1470 (.slice (some ⟨b1516, 0, none⟩) 1 1) [(IntKind.u8.wrap (ishr .u64 a1 (IntKind.i64.wrap (8 * y1471))))] := Own.row f1521 r1525 rfl rfl
          refine ⟨q1524, ?_⟩
          have b1526 := (f1472.stp p1519 (by simp))
          refine X.val (v := v1474) rfl rfl rfl (yLoadS (j := 0) Tryz.isAgg23 rfl (b1526).all rfl rfl) q1524 ?_
          have o1527 := (o1475.stp t1518 p1519 (by simp))
          obtain ⟨g1535, H⟩ := ifS H
          refine X.ef rfl rfl rfl (eAppend (bytes := 1) Tryz.underlying23 Tryz.type5 rfl rfl rfl rfl rfl rfl rfl rfl o1527 (Src.own o1523) (s1520.disOf 3 rfl) (Nat.le_trans (Nat.mul_le_mul_right _ g1535) (by decide))) ?_
          rintro v1528 h1529 ⟨o1530, p1531, n1532⟩
          have p1531 : Stp [v1474.ownBlock] h1517 h1529 := p1531
          have s1533 : St [some b_a0, v0_a0.ownBlock] h I h1529 I1470 [some b1516, some b1444, some b_a0, v1528.ownBlock] := s1520.grow 3 rfl p1531 n1532
          have t1534 := s1520.tr p1531 (by simp) (fun _ hb => hb)
          have q1536 := q1524.cat p1531 (by simp)
          refine ⟨q1536, ?_⟩
          refine X.pas rfl rfl rfl (fun _ _ => yNil rfl) ?_
          refine X.pas (v := .pointer (some ⟨b_a0, 0, none⟩)) rfl rfl rfl (fun _ _ => yField 23 0 Tryz.underlying213 Tryz.sizeOf23 rfl rfl rfl) ?_
          have b1537 := (b1526.stp p1531 ((s1520.sep 2 [3] rfl rfl rfl) _ rfl))
          refine X.ef rfl rfl rfl (eStore (vs := (v1528 :: [] : List Value)) Tryz.sizeOf23 rfl rfl (cellsOne (Own.one o1530)) (by simp []) (by simp [ones, ones_append, oInt, oBool, oStr, oSl, oPtr, Own.one o1530]) b1537 (by simp [])) ?_
          rintro _ h1538 ⟨rfl, e1539⟩
          have f1543 : Box h1538 b_a0 213 (v1528 :: [] : List Value) := by subst e1539; exact Box.reset b1537 (rfl)
          have p1540 : Stp [some b_a0] h1529 h1538 := by subst e1539; exact Stp.set _
          have s1541 := s1533.step p1540 (by simp)
          have t1542 := s1533.tr p1540 (by simp) (fun _ hb => hb)
          clear e1539
          have q1544 := q1536.cat p1540 (by simp)
          refine ⟨q1544, ?_⟩
          refine X.nil ?_
          refine At.blkN ?_
          refine At.then ?_
          refine C.region 3 rfl ?_
          refine X.val rfl rfl rfl (yMove rfl) trivial ?_
          refine X.val rfl rfl rfl (ySub rfl rfl) trivial ?_
          refine X.val rfl rfl rfl (yAssign rfl) trivial ?_
          refine X.nil ?_
          have o1545 := (o1530.stp t1542 p1540 (s1533.sep 3 [2] rfl rfl rfl))
          have s1546 : St [some b_a0, v0_a0.ownBlock] h I h1538 I1470 [some b1444, some b_a0, v1528.ownBlock] := s1541.pick [1, 2, 3] rfl (by decide) (by rintro (_ | _ | _ | i) m h <;> first | exact h | (simp at h))
          refine At.back [(0, .pointer (some ⟨b_a0, 0, none⟩)), (1, .int .u64 a1), (6, .int .i64 (IntKind.i64.wrap (y1471 - 1)))] (fun a ha => (.cons ha rfl (.cons ha rfl (.cons ha rfl ha.nil)))) ?_
          exact ⟨(IntKind.i64.wrap (y1471 - 1)), (⟨(y1473.b ++ [(IntKind.u8.wrap (ishr .u64 a1 (IntKind.i64.wrap (8 * y1471))))])⟩ : wire_Writer), v1528, I1470, rfl, s1546, (t1478.trans (t1518.trans (t1534.trans t1542))), o1545, f1543, H⟩
        · have H := ifF g1483 H
          refine X.val rfl rfl rfl (yBF g1483 (yGeq rfl rfl)) trivial ?_
          refine X.nil ?_
          refine At.then ?_
          refine C.condF rfl ?_
          refine C.exit ?_
          refine At.thenE ?_
          refine At.backE ?_
          obtain rfl := sm H
          have H := G1480
          try dsimp only at H
          refine At.blkE ?_
          obtain rfl := sm H
          refine At.endn (rs := []) [] rfl ?_ ?_
          exact trivial
          exact ⟨I1470, v1474, (s1477.pick [1, 2] rfl (by decide) (by rintro (_ | _ | i) m h <;> first | exact h | (simp at h))), rfl, f1472, o1475⟩

def p_pack_WriteAll_l0 (K : Nat) (a0 : (List pack_Keyed)) : Nat → Int → Option (Int)
  | 0, _ => none
  | k1695 + 1, y1687 => (if y1687 < (a0.length : Int) then (if 0 ≤ y1687 ∧ y1687 < (a0.length : Int) then none else none) else some y1687)
def p_pack_WriteAll (K : Nat) (a0 : (List pack_Keyed)) : Option ((List Int) × Int) :=
  (p_pack_Right K a0).bind fun x1656 => (bif (!x1656) then some (([] : (List Int)), 3) else (p_wire_Writer_Num K (⟨([] : (List Int))⟩ : wire_Writer) (IntKind.u64.wrap (a0.length : Int))).bind fun x1673 => (p_pack_WriteAll_l0 K a0 K 0).bind fun w1747 => (p_wire_Writer_Bytes x1673).bind fun (x1748_0, x1748_1) => some (x1748_0, 0))
theorem c_pack_WriteAll {K : Nat} {h : Heap} {I : Nat → Prop} (hI : ∀ b, I b → b < h.size) {v_a0 : Value} {a0 : (List pack_Keyed)} (r_a0 : SlR k_pack_Keyed I h v_a0 a0) {r : ((List Int) × Int)} (H : p_pack_WriteAll K a0 = some r) :
    Fn Tryz.prog 131 [v_a0] h (fun v h' => Stp [] h h' ∧ ∃ (u0 : Value), v = (.tuple #[u0, .int .i64 r.2] : Value) ∧ SlR (kI .u8) (Ex I h h') h' u0 r.1) := by
  unfold p_pack_WriteAll at H
  refine Fn.of 35 Tryz.func131 rfl rfl ?_
  have s0 := St.start hI
  refine C.seq ?_
  refine C.region 2 rfl ?_
  refine X.val rfl rfl rfl (yAssign rfl) trivial ?_
  refine X.val rfl rfl rfl (yAssign rfl) trivial ?_
  refine X.nil ?_
  refine At.then ?_
  refine C.seq ?_
  refine C.seq ?_
  refine C.region 3 rfl ?_
  refine X.val rfl rfl rfl (yMove rfl) trivial ?_
  obtain ⟨x1656, e1657, H⟩ := bnd H
  refine X.call (all := [v_a0]) Tryz.call98 rfl rfl rfl rfl rfl rfl (c_pack_Right s0.ib r_a0 e1657) ?_
  rintro _ h1658 ⟨p1659, rfl⟩
  have s1660 := s0.call p1659
  have t1661 := s0.callTr p1659
  refine ⟨trivial, ?_⟩
  cases g1662 : (!x1656)
  · have H := biFe g1662 H
    refine X.val rfl rfl rfl (yBE g1662 (yNot rfl)) trivial ?_
    refine X.nil ?_
    refine At.then ?_
    refine C.condF rfl ?_
    refine C.skip ?_
    refine At.then ?_
    refine C.seq ?_
    refine C.region 3 rfl ?_
    refine X.val (v := .agg (((.slice none 0 0 : Value) :: [] : List Value)).toArray) rfl rfl rfl (yBuild (out := ((.slice none 0 0 : Value) :: [] : List Value)) [1] [((.slice none 0 0 : Value) :: [] : List Value)] Tryz.zeroValue213 rfl pl_T213 rfl rfl (by simp [okp, vInt, vBool, vStr, vSl, vPtr, vAgg]) (by simp [setAll, vInt, vBool, vStr, vSl, vPtr, vAgg])) trivial ?_
    refine X.ef rfl rfl rfl (eBox (cs := ((.slice none 0 0 : Value) :: [] : List Value)) rfl rfl) ?_
    rintro _ h1664 ⟨rfl, e1669⟩
    obtain ⟨b1663, e1669b⟩ : ∃ b, b = h1658.size := ⟨_, rfl⟩
    rw [← e1669b]
    have f1668 : Box h1664 b1663 213 ((.slice none 0 0 : Value) :: [] : List Value) := by subst e1669; subst e1669b; exact Box.new _ _ _
    have p1666 : Stp [] h1658 h1664 := by subst e1669; exact Stp.push _ _
    have s1667 : St [] h I h1664 (Ex I h h1658) (some b1663 :: []) := by subst e1669; subst e1669b; exact s1660.new _
    have t1665 := s1660.tr p1666 (by simp) (fun _ hb => hb)
    clear e1669 e1669b
    refine ⟨trivial, ?_⟩
    refine X.val rfl rfl rfl (yAssign rfl) trivial ?_
    refine X.nil ?_
    refine At.then ?_
    refine C.seq ?_
    refine C.region 5 rfl ?_
    refine X.val rfl rfl rfl (yMove rfl) trivial ?_
    refine X.val rfl rfl rfl (yMove rfl) trivial ?_
    refine X.val rfl rfl rfl (yLenR Tryz.underlying58 rfl (r_a0.mono (t1661.trans t1665))) trivial ?_
    refine X.val rfl rfl rfl (yConv Tryz.underlying3 Tryz.underlying24 rfl) trivial ?_
    have s1670 := s1667.addNone
    have o1672 : Own (kI .u8) 5 h1664 (Ex I h h1658) (.slice none 0 0) ([] : (List Int)) := Own.nil
    obtain ⟨x1673, e1674, H⟩ := bnd H
    have s1679 : St [] h I h1664 (Ex I h h1658) ([some b1663, none] ++ []) := s1670.pick [1, 0] rfl (by decide) (by rintro (_ | _ | i) m h <;> first | exact h | (simp at h))
    refine X.call (all := [.pointer (some ⟨b1663, 0, none⟩), .int .u64 (IntKind.u64.wrap (a0.length : Int))]) Tryz.call140 rfl rfl rfl rfl rfl rfl (c_wire_Writer_Num s1679.left.lend f1668 o1672 e1674) ?_
    rintro _ h1675 ⟨I1680, v1682, k1684, rfl, f1681, o1683⟩
    have s1677 : St [] h I h1675 I1680 [some b1663, v1682.ownBlock] := St.callS (L := [some b1663, none]) (R := []) (L' := [some b1663, v1682.ownBlock]) s1679 k1684
    have t1678 : Tr (Ex I h h1658) h1664 I1680 h1675 := St.callSTr (L := [some b1663, none]) (R := []) (L' := [some b1663, v1682.ownBlock]) s1679 k1684
    have p1676 := k1684.stp
    refine ⟨trivial, ?_⟩
    refine X.nil ?_
    refine At.then ?_
    refine C.seq ?_
    refine C.seq ?_
    refine C.region 3 rfl ?_
    refine X.val rfl rfl rfl (yMove rfl) trivial ?_
    refine X.val rfl rfl rfl (yLenR Tryz.underlying58 rfl (r_a0.mono (t1661.trans (t1665.trans ((Tr.refl (Ex I h h1658) h1664).trans t1678))))) trivial ?_
    refine X.val rfl rfl rfl (yMove rfl) trivial ?_
    refine X.nil ?_
    refine At.then ?_
    refine C.block ?_
    obtain ⟨z1692, e1694, G1693⟩ := bnd H
    refine C.prune [(4, .pointer (some ⟨b1663, 0, none⟩)), (17, v_a0), (18, .int .i64 (a0.length : Int)), (19, .int .i64 0)] (fun a ha => (.cons ha rfl (.cons ha rfl (.cons ha rfl (.cons ha rfl ha.nil))))) ?_
    refine C.loop (fun k1695 e h1685 => ∃ (y1687 : Int) (I1686 : Nat → Prop), e = [(4, .pointer (some ⟨b1663, 0, none⟩)), (17, v_a0), (18, .int .i64 (a0.length : Int)), (19, .int .i64 y1687)] ∧ St [] h I h1685 I1686 [some b1663, v1682.ownBlock] ∧ Tr I1680 h1675 I1686 h1685 ∧ Own (kI .u8) 5 h1685 I1686 (v1682) x1673.b ∧ Box h1685 b1663 213 (v1682 :: [] : List Value) ∧ p_pack_WriteAll_l0 K a0 k1695 y1687 = some z1692) K ⟨0, I1680, rfl, s1677, Tr.refl _ _, o1683, f1681, e1694⟩ ?_ ?_
    · rintro e h' ⟨_, _, _, _, _, _, _, H⟩; cases (show none = some _ from H)
    · rintro k1695 e h1685 ⟨y1687, I1686, rfl, s1690, t1691, o1689, f1688, H⟩
      rw [p_pack_WriteAll_l0] at H
      refine C.seq ?_
      refine C.region 1 rfl ?_
      by_cases g1696 : y1687 < (a0.length : Int)
      · have H := ifT g1696 H
        refine X.val rfl rfl rfl (yBT g1696 (yLss rfl rfl)) trivial ?_
        refine X.nil ?_
        refine At.then ?_
        refine C.seq ?_
        refine C.condT rfl ?_
        refine C.skip ?_
        refine At.then ?_
        refine C.seq ?_
        refine C.block ?_
        refine C.seq ?_
        refine C.region 4 rfl ?_
        obtain ⟨⟨g1705, g1697⟩, H⟩ := ifS H
        obtain ⟨b1698, w1699, k1700, c1701, e1702, r1703, m1704⟩ := SlR.get (r_a0.mono (t1661.trans (t1665.trans ((Tr.refl (Ex I h h1658) h1664).trans (t1678.trans t1691))))) g1705 g1697
        obtain ⟨c1706, v1708, rfl, r1707, r1709⟩ := o_pack_Keyed r1703
        refine X.val (v := .pointer (some ⟨b1698, w1699 + (y1687).toNat * 10, none⟩)) rfl rfl rfl (yIdxS Tryz.underlying58 Tryz.sizeOf172 (by rw [← e1702]; rfl) rfl g1705 g1697) trivial ?_
        have l1710 : c1706.length = 8 := (kArr 8 (kI .u64)).len r1707
        refine X.val (v := .agg (((.string ⟨((rd a0 y1687).Key).toArray⟩ : Value) :: c1706 ++ (v1708 :: []) : List Value)).toArray) rfl rfl rfl (yLoadW Tryz.isAgg172 Tryz.sizeOf172 rfl m1704.rd (by simp [l1710])) trivial ?_
        obtain ⟨c1711, e1712⟩ : ∃ c : List Value, c = (List.replicate 8 (.int .u64 0 : Value)) := ⟨_, rfl⟩
        have r1713 : (kArr 8 (kI .u64)).rp I1686 h1685 c1711 (List.replicate 8 (0 : Int)) := by rw [e1712]; exact z_T26
        refine X.ef rfl rfl rfl (eAlloc (zs := ((.string ⟨(([] : List UInt8)).toArray⟩ : Value) :: (List.replicate 8 (.int .u64 0 : Value)) ++ ((.slice none 0 0 : Value) :: []) : List Value)) Tryz.zeroValue172 rfl) ?_
        rintro _ h1715 ⟨rfl, e1720⟩
        obtain ⟨b1714, e1720b⟩ : ∃ b, b = h1685.size := ⟨_, rfl⟩
        rw [← e1720b]
        have f1719 : Box h1715 b1714 172 ((.string ⟨(([] : List UInt8)).toArray⟩ : Value) :: c1711 ++ ((.slice none 0 0 : Value) :: []) : List Value) := by subst e1720; subst e1720b; rw [e1712]; exact Box.new _ _ _
        have p1717 : Stp [] h1685 h1715 := by subst e1720; exact Stp.push _ _
        have s1718 : St [] h I h1715 I1686 (some b1714 :: [some b1663, v1682.ownBlock]) := by subst e1720; subst e1720b; exact s1690.new _
        have t1716 := s1690.tr p1717 (by simp) (fun _ hb => hb)
        clear e1720 e1720b
        refine ⟨trivial, ?_⟩
        have l1721 : c1711.length = 8 := (kArr 8 (kI .u64)).len r1713
        have l1722 : c1706.length = 8 := (kArr 8 (kI .u64)).len r1707
        refine X.ef rfl rfl rfl (eStore (vs := ((.string ⟨((rd a0 y1687).Key).toArray⟩ : Value) :: c1706 ++ (v1708 :: []) : List Value)) Tryz.sizeOf172 rfl rfl rfl (by simp [l1722]) (by simp [ones, ones_append, oInt, oBool, oStr, oSl, oPtr, (kArr 8 (kI .u64)).one r1707, SlR.one (r1709.mono t1716)]) f1719 (by simp [l1721, l1722])) ?_
        rintro _ h1723 ⟨rfl, e1724⟩
        have f1728 : Box h1723 b1714 172 ((.string ⟨((rd a0 y1687).Key).toArray⟩ : Value) :: c1706 ++ (v1708 :: []) : List Value) := by subst e1724; exact Box.reset f1719 (by have k := splice_mid ((.string ⟨((rd a0 y1687).Key).toArray⟩ : Value) :: c1706 ++ (v1708 :: []) : List Value) ((.string ⟨(([] : List UInt8)).toArray⟩ : Value) :: c1711 ++ ((.slice none 0 0 : Value) :: []) : List Value) [] ([] : List Value) (by simp [l1721, l1722]); simpa using k)
        have p1725 : Stp [some b1714] h1715 h1723 := by subst e1724; exact Stp.set _
        have s1726 := s1718.step p1725 (by simp)
        have t1727 := s1718.tr p1725 (by simp) (fun _ hb => hb)
        clear e1724
        refine ⟨trivial, ?_⟩
        refine X.nil ?_
        refine At.then ?_
        refine C.seq ?_
        refine C.region 5 rfl ?_
        refine X.val rfl rfl rfl (yMove rfl) trivial ?_
        refine X.val (v := .pointer (some ⟨b1714, 0, none⟩)) rfl rfl rfl (yField 9 0 Tryz.underlying172 Tryz.sizeOf9 rfl rfl rfl) trivial ?_
        have l1729 : c1706.length = 8 := (kArr 8 (kI .u64)).len r1707
        refine X.val (v := .string ⟨((rd a0 y1687).Key).toArray⟩) rfl rfl rfl (yLoadS (j := 0) Tryz.isAgg9 rfl (f1728).all rfl (by simp [l1729])) trivial ?_
        cases H
      · have H := ifF g1696 H
        refine X.val rfl rfl rfl (yBF g1696 (yLss rfl rfl)) trivial ?_
        refine X.nil ?_
        refine At.then ?_
        refine C.seq ?_
        refine C.condF rfl ?_
        refine C.exit ?_
        refine At.thenE ?_
        refine At.backE ?_
        obtain rfl := sm H
        have H := G1693
        try dsimp only at H
        refine At.blkE ?_
        refine At.then ?_
        refine C.seq ?_
        refine C.region 4 rfl ?_
        refine X.val rfl rfl rfl (yMove rfl) trivial ?_
        obtain ⟨x1730, e1731, H⟩ := bnd H
        have s1736 : St [] h I h1685 I1686 ([some b1663, v1682.ownBlock] ++ []) := s1690.pick [0, 1] rfl (by decide) (by rintro (_ | _ | i) m h <;> first | exact h | (simp at h))
        refine X.call (all := [.pointer (some ⟨b1663, 0, none⟩)]) Tryz.call115 rfl rfl rfl rfl rfl rfl (c_wire_Writer_Bytes s1736.left.lend f1688 o1689 e1731) ?_
        obtain ⟨x1730_0, x1730_1⟩ := x1730
        rintro v1741 h1732 ⟨I1737, v1739, _, k1743, rfl, f1738, r1740, o1742⟩
        have s1734 : St [] h I h1732 I1737 [some b1663, v1741.ownBlock] := St.callS (L := [some b1663, v1682.ownBlock]) (R := []) (L' := [some b1663, v1741.ownBlock]) s1736 k1743
        have t1735 : Tr I1686 h1685 I1737 h1732 := St.callSTr (L := [some b1663, v1682.ownBlock]) (R := []) (L' := [some b1663, v1741.ownBlock]) s1736 k1743
        have p1733 := k1743.stp
        refine ⟨trivial, ?_⟩
        refine X.val rfl rfl rfl (yAssign rfl) trivial ?_
        refine X.val rfl rfl rfl (yAssign rfl) trivial ?_
        refine X.nil ?_
        refine At.then ?_
        refine C.ret ?_
        have s1744 : St [] h I h1732 (fun b => I1737 b ∨ some b = v1741.ownBlock) [some b1663] := s1734.claim 1 rfl
        have t1745 : Tr I1737 h1732 (fun b => I1737 b ∨ some b = v1741.ownBlock) h1732 := fun b hb => ⟨.inl hb, rfl⟩
        have r1746 := Own.read (I' := (fun b => I1737 b ∨ some b = v1741.ownBlock)) o1742 (fun _ hb => .inl hb) (fun b e => .inr e.symm)
        obtain rfl := sm H
        refine At.retn (rs := [.tmp 2, .tmp 3]) [v1741, .int .i64 0] rfl ?_ ?_
        exact ⟨Rv.tmp rfl, Rv.tmp rfl, trivial⟩
        exact ⟨s1744.stp, v1741, rfl, (r1746.mono s1744.outTr)⟩
  · have H := biTe g1662 H
    refine X.val rfl rfl rfl (yBE g1662 (yNot rfl)) trivial ?_
    refine X.nil ?_
    refine At.then ?_
    refine C.condT rfl ?_
    refine C.seq ?_
    refine C.region 2 rfl ?_
    refine X.val rfl rfl rfl (yAssign rfl) trivial ?_
    refine X.val rfl rfl rfl (yAssign rfl) trivial ?_
    refine X.nil ?_
    refine At.then ?_
    refine C.ret ?_
    refine At.thenR ?_
    obtain rfl := sm H
    refine At.retn (rs := [.tmp 2, .tmp 3]) [.slice none 0 0, .int .i64 3] rfl ?_ ?_
    exact ⟨Rv.tmp rfl, Rv.tmp rfl, trivial⟩
    exact ⟨s1660.stp, .slice none 0 0, rfl, SlR.nil⟩

def p_proto_Write_l2 (K : Nat) (a0 : proto_Msg) : Nat → Int → Option (Int)
  | 0, _ => none
  | k1923 + 1, y1914 => (if y1914 < (a0.Digests.length : Int) then (if 0 ≤ y1914 ∧ y1914 < (a0.Digests.length : Int) then none else none) else some y1914)
def p_proto_Write_l1 (K : Nat) (a0 : proto_Msg) : Nat → Int → wire_Writer → Option (Int × wire_Writer)
  | 0, _, _ => none
  | k1873 + 1, y1862, y1865 => (if y1862 < (a0.Places.length : Int) then (if 0 ≤ y1862 ∧ y1862 < (a0.Places.length : Int) then (p_wire_Writer_Num K y1865 (IntKind.u64.wrap (rd a0.Places y1862))).bind fun x1884 => (p_proto_Write_l1 K a0 k1873 (IntKind.i64.wrap (y1862 + 1)) x1884) else none) else some (y1862, y1865))
def p_proto_Write_l0 (K : Nat) (a0 : proto_Msg) : Nat → Int → wire_Writer → Option (Int × wire_Writer)
  | 0, _, _ => none
  | k1820 + 1, y1809, y1812 => (if y1809 < 5 then (if 0 ≤ y1809 ∧ y1809 < 5 then (p_wire_Writer_Num K y1812 (IntKind.u64.wrap (rd [a0.Kind, a0.From, a0.To, a0.Session, a0.Part] y1809))).bind fun x1828 => (p_proto_Write_l0 K a0 k1820 (IntKind.i64.wrap (y1809 + 1)) x1828) else none) else some (y1809, y1812))
def p_proto_Write (K : Nat) (a0 : proto_Msg) : Option ((List Int) × Int) :=
  (p_proto_Right K a0).bind fun x1781 => (bif (!x1781) then some (([] : (List Int)), 3) else (p_proto_Write_l0 K a0 K 0 (⟨([] : (List Int))⟩ : wire_Writer)).bind fun (w2159, w2160) => (if a0.Kind = 1 then none else (p_wire_Writer_Num K w2160 (IntKind.u64.wrap (a0.Places.length : Int))).bind fun x2165 => (p_proto_Write_l1 K a0 K 0 x2165).bind fun (w2346, w2347) => (p_wire_Writer_Num K w2347 (IntKind.u64.wrap (a0.Digests.length : Int))).bind fun x2349 => (p_proto_Write_l2 K a0 K 0).bind fun w2441 => (p_pack_WriteAll K a0.Carts).bind fun (x2443_0, x2443_1) => (p_wire_Writer_Bytes x2349).bind fun (x2453_0, x2453_1) => (if x2453_0.length + x2443_0.length ≤ 140737488355328 then some ((x2453_0 ++ x2443_0), 0) else none)))
theorem c_proto_Write {K : Nat} {h : Heap} {I : Nat → Prop} (hI : ∀ b, I b → b < h.size) {c_a0 : List Value} {a0 : proto_Msg} (r_a0 : (k_proto_Msg).rp I h c_a0 a0) {r : ((List Int) × Int)} (H : p_proto_Write K a0 = some r) :
    Fn Tryz.prog 39 [.agg c_a0.toArray] h (fun v h' => Stp [] h h' ∧ ∃ (u0 : Value), v = (.tuple #[u0, .int .i64 r.2] : Value) ∧ SlR (kI .u8) (Ex I h h') h' u0 r.1) := by
  unfold p_proto_Write at H
  obtain ⟨c1765, v1767, v1769, v1771, rfl, r1766, r1768, r1770, r1772⟩ := o_proto_Msg r_a0
  refine Fn.of 89 Tryz.func39 rfl rfl ?_
  have s0 := St.start hI
  refine C.seq ?_
  refine C.region 3 rfl ?_
  refine X.ef rfl rfl rfl (eBox (cs := ((.int .i64 a0.Kind : Value) :: (.int .i64 a0.From : Value) :: (.int .i64 a0.To : Value) :: (.int .i64 a0.Session : Value) :: (.int .i64 a0.Part : Value) :: c1765 ++ (v1767 :: v1769 :: v1771 :: []) : List Value)) rfl rfl) ?_
  rintro _ h1774 ⟨rfl, e1779⟩
  obtain ⟨b1773, e1779b⟩ : ∃ b, b = h.size := ⟨_, rfl⟩
  rw [← e1779b]
  have f1778 : Box h1774 b1773 77 ((.int .i64 a0.Kind : Value) :: (.int .i64 a0.From : Value) :: (.int .i64 a0.To : Value) :: (.int .i64 a0.Session : Value) :: (.int .i64 a0.Part : Value) :: c1765 ++ (v1767 :: v1769 :: v1771 :: []) : List Value) := by subst e1779; subst e1779b; exact Box.new _ _ _
  have p1776 : Stp [] h h1774 := by subst e1779; exact Stp.push _ _
  have s1777 : St [] h I h1774 I (some b1773 :: []) := by subst e1779; subst e1779b; exact s0.new _
  have t1775 := s0.tr p1776 (by simp) (fun _ hb => hb)
  clear e1779 e1779b
  refine ⟨trivial, ?_⟩
  refine X.val rfl rfl rfl (yAssign rfl) trivial ?_
  refine X.val rfl rfl rfl (yAssign rfl) trivial ?_
  refine X.nil ?_
  refine At.then ?_
  refine C.seq ?_
  refine C.seq ?_
  refine C.region 3 rfl ?_
  have l1780 : c1765.length = 32 := (kArr 32 (kI .u8)).len r1766
  refine X.val (v := .agg (((.int .i64 a0.Kind : Value) :: (.int .i64 a0.From : Value) :: (.int .i64 a0.To : Value) :: (.int .i64 a0.Session : Value) :: (.int .i64 a0.Part : Value) :: c1765 ++ (v1767 :: v1769 :: v1771 :: []) : List Value)).toArray) rfl rfl rfl (yLoadW Tryz.isAgg77 Tryz.sizeOf77 rfl (f1778).all (by simp [l1780])) trivial ?_
  obtain ⟨x1781, e1782, H⟩ := bnd H
  refine X.call (all := [.agg (((.int .i64 a0.Kind : Value) :: (.int .i64 a0.From : Value) :: (.int .i64 a0.To : Value) :: (.int .i64 a0.Session : Value) :: (.int .i64 a0.Part : Value) :: c1765 ++ (v1767 :: v1769 :: v1771 :: []) : List Value)).toArray]) Tryz.call42 rfl rfl rfl rfl rfl rfl (c_proto_Right s1777.ib (m_proto_Msg ((kArr 32 (kI .u8)).mono r1766 t1775) (r1768.mono t1775) (r1770.mono t1775) (r1772.mono t1775)) e1782) ?_
  rintro _ h1783 ⟨p1784, rfl⟩
  have s1785 := s1777.call p1784
  have t1786 := s1777.callTr p1784
  refine ⟨trivial, ?_⟩
  cases g1787 : (!x1781)
  · have H := biFe g1787 H
    refine X.val rfl rfl rfl (yBE g1787 (yNot rfl)) trivial ?_
    refine X.nil ?_
    refine At.then ?_
    refine C.condF rfl ?_
    refine C.skip ?_
    refine At.then ?_
    refine C.seq ?_
    refine C.region 3 rfl ?_
    refine X.val (v := .agg (((.slice none 0 0 : Value) :: [] : List Value)).toArray) rfl rfl rfl (yBuild (out := ((.slice none 0 0 : Value) :: [] : List Value)) [1] [((.slice none 0 0 : Value) :: [] : List Value)] Tryz.zeroValue213 rfl pl_T213 rfl rfl (by simp [okp, vInt, vBool, vStr, vSl, vPtr, vAgg]) (by simp [setAll, vInt, vBool, vStr, vSl, vPtr, vAgg])) trivial ?_
    refine X.ef rfl rfl rfl (eBox (cs := ((.slice none 0 0 : Value) :: [] : List Value)) rfl rfl) ?_
    rintro _ h1789 ⟨rfl, e1794⟩
    obtain ⟨b1788, e1794b⟩ : ∃ b, b = h1783.size := ⟨_, rfl⟩
    rw [← e1794b]
    have f1793 : Box h1789 b1788 213 ((.slice none 0 0 : Value) :: [] : List Value) := by subst e1794; subst e1794b; exact Box.new _ _ _
    have p1791 : Stp [] h1783 h1789 := by subst e1794; exact Stp.push _ _
    have s1792 : St [] h I h1789 (Ex I h1774 h1783) (some b1788 :: [some b1773]) := by subst e1794; subst e1794b; exact s1785.new _
    have t1790 := s1785.tr p1791 (by simp) (fun _ hb => hb)
    clear e1794 e1794b
    refine ⟨trivial, ?_⟩
    refine X.val rfl rfl rfl (yAssign rfl) trivial ?_
    refine X.nil ?_
    refine At.then ?_
    refine C.seq ?_
    refine C.seq ?_
    refine C.region 12 rfl ?_
    refine X.val (v := .pointer (some ⟨b1773, 0, none⟩)) rfl rfl rfl (yField 3 0 Tryz.underlying77 Tryz.sizeOf3 rfl rfl rfl) trivial ?_
    have b1795 := ((f1778.stp p1784 (by simp)).stp p1791 (by simp))
    have l1796 : c1765.length = 32 := (kArr 32 (kI .u8)).len r1766
    refine X.val (v := .int .i64 a0.Kind) rfl rfl rfl (yLoadS (j := 0) Tryz.isAgg3 rfl (b1795).all rfl (by simp [l1796])) trivial ?_
    refine X.val (v := .pointer (some ⟨b1773, 1, none⟩)) rfl rfl rfl (yField 3 1 Tryz.underlying77 Tryz.sizeOf3 rfl rfl rfl) trivial ?_
    have l1797 : c1765.length = 32 := (kArr 32 (kI .u8)).len r1766
    refine X.val (v := .int .i64 a0.From) rfl rfl rfl (yLoadS (j := 1) Tryz.isAgg3 rfl (b1795).all rfl (by simp [l1797])) trivial ?_
    refine X.val (v := .pointer (some ⟨b1773, 2, none⟩)) rfl rfl rfl (yField 3 2 Tryz.underlying77 Tryz.sizeOf3 rfl rfl rfl) trivial ?_
    have l1798 : c1765.length = 32 := (kArr 32 (kI .u8)).len r1766
    refine X.val (v := .int .i64 a0.To) rfl rfl rfl (yLoadS (j := 2) Tryz.isAgg3 rfl (b1795).all rfl (by simp [l1798])) trivial ?_
    refine X.val (v := .pointer (some ⟨b1773, 3, none⟩)) rfl rfl rfl (yField 3 3 Tryz.underlying77 Tryz.sizeOf3 rfl rfl rfl) trivial ?_
    have l1799 : c1765.length = 32 := (kArr 32 (kI .u8)).len r1766
    refine X.val (v := .int .i64 a0.Session) rfl rfl rfl (yLoadS (j := 3) Tryz.isAgg3 rfl (b1795).all rfl (by simp [l1799])) trivial ?_
    refine X.val (v := .pointer (some ⟨b1773, 4, none⟩)) rfl rfl rfl (yField 3 4 Tryz.underlying77 Tryz.sizeOf3 rfl rfl rfl) trivial ?_
    have l1800 : c1765.length = 32 := (kArr 32 (kI .u8)).len r1766
    refine X.val (v := .int .i64 a0.Part) rfl rfl rfl (yLoadS (j := 4) Tryz.isAgg3 rfl (b1795).all rfl (by simp [l1800])) trivial ?_
    obtain ⟨c1802, e1803⟩ : ∃ c : List Value, c = ((.int .i64 a0.Kind : Value) :: (.int .i64 a0.From : Value) :: (.int .i64 a0.To : Value) :: (.int .i64 a0.Session : Value) :: (.int .i64 a0.Part : Value) :: [] : List Value) := ⟨_, rfl⟩
    have r1801 : (kArr 5 (kI .i64)).rp (Ex I h1774 h1783) h1789 c1802 [a0.Kind, a0.From, a0.To, a0.Session, a0.Part] := ⟨by have k : rows (kI .i64) (Ex I h1774 h1783) h1789 _ [a0.Kind, a0.From, a0.To, a0.Session, a0.Part] := (rows.cons (c := ((.int .i64 a0.Kind : Value) :: [] : List Value)) (y := a0.Kind) rfl (rows.cons (c := ((.int .i64 a0.From : Value) :: [] : List Value)) (y := a0.From) rfl (rows.cons (c := ((.int .i64 a0.To : Value) :: [] : List Value)) (y := a0.To) rfl (rows.cons (c := ((.int .i64 a0.Session : Value) :: [] : List Value)) (y := a0.Session) rfl (rows.cons (c := ((.int .i64 a0.Part : Value) :: [] : List Value)) (y := a0.Part) rfl rows.nil))))); rw [e1803]; first | exact k | simpa only [List.append_nil, List.append_assoc, List.cons_append, List.nil_append] using k | simpa using k, rfl⟩
    refine X.val (v := .agg c1802.toArray) rfl rfl rfl (by rw [e1803]; exact yBuildArr (List.replicate 5 ((.int .i64 0 : Value) :: [] : List Value)) Tryz.zeroValue245 (by kernel_rfl) Tryz.underlying245 Tryz.sizeOf3 (by rfl) rfl (by simp [okp, vInt, vBool, vStr, vSl, vPtr, vAgg]) (by simp [setAll, vInt, vBool, vStr, vSl, vPtr, vAgg])) trivial ?_
    refine X.val rfl rfl rfl (yMove rfl) trivial ?_
    refine X.nil ?_
    refine At.then ?_
    refine C.block ?_
    have s1804 := s1792.addNone
    have o1806 : Own (kI .u8) 5 h1789 (Ex I h1774 h1783) (.slice none 0 0) ([] : (List Int)) := Own.nil
    obtain ⟨z1817, e1819, G1818⟩ := bnd H
    refine C.prune [(1, .pointer (some ⟨b1773, 0, none⟩)), (4, .pointer (some ⟨b1788, 0, none⟩)), (28, .agg ((c1802 : List Value)).toArray), (29, .int .i64 0)] (fun a ha => (.cons ha rfl (.cons ha rfl (.cons ha rfl (.cons ha rfl ha.nil))))) ?_
    refine C.loop (fun k1820 e h1807 => ∃ (y1809 : Int) (y1812 : wire_Writer) (v1813 : Value) (I1808 : Nat → Prop), e = [(1, .pointer (some ⟨b1773, 0, none⟩)), (4, .pointer (some ⟨b1788, 0, none⟩)), (28, .agg ((c1802 : List Value)).toArray), (29, .int .i64 y1809)] ∧ St [] h I h1807 I1808 [v1813.ownBlock, some b1788, some b1773] ∧ Tr (Ex I h1774 h1783) h1789 I1808 h1807 ∧ Box h1807 b1773 77 ((.int .i64 a0.Kind : Value) :: (.int .i64 a0.From : Value) :: (.int .i64 a0.To : Value) :: (.int .i64 a0.Session : Value) :: (.int .i64 a0.Part : Value) :: c1765 ++ (v1767 :: v1769 :: v1771 :: []) : List Value) ∧ Own (kI .u8) 5 h1807 I1808 v1813 y1812.b ∧ Box h1807 b1788 213 (v1813 :: [] : List Value) ∧ p_proto_Write_l0 K a0 k1820 y1809 y1812 = some z1817) K ⟨0, (⟨([] : (List Int))⟩ : wire_Writer), .slice none 0 0, (Ex I h1774 h1783), rfl, s1804, Tr.refl _ _, b1795, o1806, f1793, e1819⟩ ?_ ?_
    · rintro e h' ⟨_, _, _, _, _, _, _, _, _, _, H⟩; cases (show none = some _ from H)
    · rintro k1820 e h1807 ⟨y1809, y1812, v1813, I1808, rfl, s1815, t1816, f1810, o1814, f1811, H⟩
      rw [p_proto_Write_l0] at H
      refine C.seq ?_
      refine C.region 1 rfl ?_
      by_cases g1821 : y1809 < 5
      · have H := ifT g1821 H
        refine X.val rfl rfl rfl (yBT g1821 (yLss rfl rfl)) trivial ?_
        refine X.nil ?_
        refine At.then ?_
        refine C.seq ?_
        refine C.condT rfl ?_
        refine C.skip ?_
        refine At.then ?_
        refine C.seq ?_
        refine C.block ?_
        refine C.seq ?_
        refine C.region 2 rfl ?_
        obtain ⟨⟨g1822, g1823⟩, H⟩ := ifS H
        obtain ⟨c1824, r1825, e1826, q1827⟩ := arrAt ((kArr 5 (kI .i64)).mono r1801 ((Tr.refl (Ex I h1774 h1783) h1789).trans t1816)) g1822 g1823
        have lr1825 := ((kI .i64)).len r1825
        obtain rfl := r1825
        refine X.val (v := .int .i64 (rd [a0.Kind, a0.From, a0.To, a0.Session, a0.Part] y1809)) rfl rfl rfl (yIdxArr (g := false) Tryz.underlying245 Tryz.isAgg3 Tryz.sizeOf3 (by decide) rfl rfl g1822 g1823 e1826 lr1825) trivial ?_
        refine X.val rfl rfl rfl (yAssign rfl) trivial ?_
        refine X.nil ?_
        refine At.then ?_
        refine C.region 4 rfl ?_
        refine X.val rfl rfl rfl (yMove rfl) trivial ?_
        refine X.val rfl rfl rfl (yMove rfl) trivial ?_
        refine X.val rfl rfl rfl (yConv Tryz.underlying3 Tryz.underlying24 rfl) trivial ?_
        obtain ⟨x1828, e1829, H⟩ := bnd H
        have s1834 : St [] h I h1807 I1808 ([some b1788, v1813.ownBlock] ++ [some b1773]) := s1815.pick [1, 0, 2] rfl (by decide) (by rintro (_ | _ | _ | i) m h <;> first | exact h | (simp at h))
        refine X.call (all := [.pointer (some ⟨b1788, 0, none⟩), .int .u64 (IntKind.u64.wrap (rd [a0.Kind, a0.From, a0.To, a0.Session, a0.Part] y1809))]) Tryz.call140 rfl rfl rfl rfl rfl rfl (c_wire_Writer_Num s1834.left.lend f1811 o1814 e1829) ?_
        rintro _ h1830 ⟨I1835, v1837, k1839, rfl, f1836, o1838⟩
        have s1832 : St [] h I h1830 I1835 [some b1788, v1837.ownBlock, some b1773] := St.callS (L := [some b1788, v1813.ownBlock]) (R := [some b1773]) (L' := [some b1788, v1837.ownBlock]) s1834 k1839
        have t1833 : Tr I1808 h1807 I1835 h1830 := St.callSTr (L := [some b1788, v1813.ownBlock]) (R := [some b1773]) (L' := [some b1788, v1837.ownBlock]) s1834 k1839
        have p1831 := k1839.stp
        refine ⟨trivial, ?_⟩
        refine X.nil ?_
        refine At.blkN ?_
        refine At.then ?_
        refine C.region 2 rfl ?_
        refine X.val rfl rfl rfl (yAdd rfl rfl) trivial ?_
        refine X.val rfl rfl rfl (yMove rfl) trivial ?_
        refine X.nil ?_
        have b1840 := (f1810.stp p1831 ((s1815.sep 2 [1, 0] rfl rfl rfl) _ rfl))
        have s1841 : St [] h I h1830 I1835 [v1837.ownBlock, some b1788, some b1773] := s1832.pick [1, 0, 2] rfl (by decide) (by rintro (_ | _ | _ | i) m h <;> first | exact h | (simp at h))
        refine At.back [(1, .pointer (some ⟨b1773, 0, none⟩)), (4, .pointer (some ⟨b1788, 0, none⟩)), (28, .agg ((c1802 : List Value)).toArray), (29, .int .i64 (IntKind.i64.wrap (y1809 + 1)))] (fun a ha => (.cons ha rfl (.cons ha rfl (.cons ha rfl (.cons ha rfl ha.nil))))) ?_
        exact ⟨(IntKind.i64.wrap (y1809 + 1)), x1828, v1837, I1835, rfl, s1841, (t1816.trans t1833), b1840, o1838, f1836, H⟩
      · have H := ifF g1821 H
        refine X.val rfl rfl rfl (yBF g1821 (yLss rfl rfl)) trivial ?_
        refine X.nil ?_
        refine At.then ?_
        refine C.seq ?_
        refine C.condF rfl ?_
        refine C.exit ?_
        refine At.thenE ?_
        refine At.backE ?_
        obtain rfl := sm H
        have H := G1818
        try dsimp only at H
        refine At.blkE ?_
        refine At.then ?_
        refine C.seq ?_
        refine C.seq ?_
        refine C.region 3 rfl ?_
        refine X.val (v := .pointer (some ⟨b1773, 0, none⟩)) rfl rfl rfl (yField 3 0 Tryz.underlying77 Tryz.sizeOf3 rfl rfl rfl) trivial ?_
        have l1842 : c1765.length = 32 := (kArr 32 (kI .u8)).len r1766
        refine X.val (v := .int .i64 a0.Kind) rfl rfl rfl (yLoadS (j := 0) Tryz.isAgg3 rfl (f1810).all rfl (by simp [l1842])) trivial ?_
        by_cases g1843 : a0.Kind = 1
        · have H := ifT g1843 H
          refine X.val rfl rfl rfl (yBT g1843 (yEql rfl rfl)) trivial ?_
          refine X.nil ?_
          refine At.then ?_
          refine C.condT rfl ?_
          refine C.region 4 rfl ?_
          refine X.val rfl rfl rfl (yMove rfl) trivial ?_
          refine X.val (v := .pointer (some ⟨b1773, 5, none⟩)) rfl rfl rfl (yField 65 5 Tryz.underlying77 Tryz.sizeOf65 rfl rfl rfl) trivial ?_
          have l1844 : c1765.length = 32 := (kArr 32 (kI .u8)).len r1766
          refine X.val (v := .agg ((c1765 : List Value)).toArray) rfl rfl rfl (yLoadA (j := 5) (mid := (c1765 : List Value)) Tryz.isAgg65 Tryz.sizeOf65 rfl (f1810).all rfl (by first | (simp [l1844]; done) | (simp [List.take_append, List.drop_append, List.take_of_length_le, l1844]; done)) (by simp [l1844])) trivial ?_
          cases H
        · have H := ifF g1843 H
          refine X.val rfl rfl rfl (yBF g1843 (yEql rfl rfl)) trivial ?_
          refine X.nil ?_
          refine At.then ?_
          refine C.condF rfl ?_
          refine C.skip ?_
          refine At.then ?_
          refine C.seq ?_
          refine C.region 6 rfl ?_
          refine X.val rfl rfl rfl (yMove rfl) trivial ?_
          refine X.val (v := .pointer (some ⟨b1773, 37, none⟩)) rfl rfl rfl (yField 67 37 Tryz.underlying77 Tryz.sizeOf67 rfl rfl rfl) trivial ?_
          have l1845 : c1765.length = 32 := (kArr 32 (kI .u8)).len r1766
          refine X.val (v := v1767) rfl rfl rfl (yLoadS (j := 37) Tryz.isAgg67 rfl (f1810).all rfl (by simp [l1845])) trivial ?_
          refine X.val rfl rfl rfl (yLenR Tryz.underlying67 rfl (r1768.mono (t1775.trans (t1786.trans (t1790.trans ((Tr.refl (Ex I h1774 h1783) h1789).trans t1816)))))) trivial ?_
          refine X.val rfl rfl rfl (yConv Tryz.underlying3 Tryz.underlying24 rfl) trivial ?_
          obtain ⟨x1846, e1847, H⟩ := bnd H
          have s1852 : St [] h I h1807 I1808 ([some b1788, v1813.ownBlock] ++ [some b1773]) := s1815.pick [1, 0, 2] rfl (by decide) (by rintro (_ | _ | _ | i) m h <;> first | exact h | (simp at h))
          refine X.call (all := [.pointer (some ⟨b1788, 0, none⟩), .int .u64 (IntKind.u64.wrap (a0.Places.length : Int))]) Tryz.call140 rfl rfl rfl rfl rfl rfl (c_wire_Writer_Num s1852.left.lend f1811 o1814 e1847) ?_
          rintro _ h1848 ⟨I1853, v1855, k1857, rfl, f1854, o1856⟩
          have s1850 : St [] h I h1848 I1853 [some b1788, v1855.ownBlock, some b1773] := St.callS (L := [some b1788, v1813.ownBlock]) (R := [some b1773]) (L' := [some b1788, v1855.ownBlock]) s1852 k1857
          have t1851 : Tr I1808 h1807 I1853 h1848 := St.callSTr (L := [some b1788, v1813.ownBlock]) (R := [some b1773]) (L' := [some b1788, v1855.ownBlock]) s1852 k1857
          have p1849 := k1857.stp
          refine ⟨trivial, ?_⟩
          refine X.nil ?_
          refine At.then ?_
          refine C.seq ?_
          refine C.seq ?_
          refine C.region 4 rfl ?_
          refine X.val (v := .pointer (some ⟨b1773, 37, none⟩)) rfl rfl rfl (yField 67 37 Tryz.underlying77 Tryz.sizeOf67 rfl rfl rfl) trivial ?_
          have b1858 := (f1810.stp p1849 ((s1815.sep 2 [1, 0] rfl rfl rfl) _ rfl))
          have l1859 : c1765.length = 32 := (kArr 32 (kI .u8)).len r1766
          refine X.val (v := v1767) rfl rfl rfl (yLoadS (j := 37) Tryz.isAgg67 rfl (b1858).all rfl (by simp [l1859])) trivial ?_
          refine X.val rfl rfl rfl (yLenR Tryz.underlying67 rfl (r1768.mono (t1775.trans (t1786.trans (t1790.trans ((Tr.refl (Ex I h1774 h1783) h1789).trans (t1816.trans t1851))))))) trivial ?_
          refine X.val rfl rfl rfl (yMove rfl) trivial ?_
          refine X.nil ?_
          refine At.then ?_
          refine C.block ?_
          obtain ⟨z1870, e1872, G1871⟩ := bnd H
          refine C.prune [(1, .pointer (some ⟨b1773, 0, none⟩)), (4, .pointer (some ⟨b1788, 0, none⟩)), (51, v1767), (52, .int .i64 (a0.Places.length : Int)), (53, .int .i64 0)] (fun a ha => (.cons ha rfl (.cons ha rfl (.cons ha rfl (.cons ha rfl (.cons ha rfl ha.nil)))))) ?_
          refine C.loop (fun k1873 e h1860 => ∃ (y1862 : Int) (y1865 : wire_Writer) (v1866 : Value) (I1861 : Nat → Prop), e = [(1, .pointer (some ⟨b1773, 0, none⟩)), (4, .pointer (some ⟨b1788, 0, none⟩)), (51, v1767), (52, .int .i64 (a0.Places.length : Int)), (53, .int .i64 y1862)] ∧ St [] h I h1860 I1861 [some b1788, v1866.ownBlock, some b1773] ∧ Tr I1853 h1848 I1861 h1860 ∧ Box h1860 b1773 77 ((.int .i64 a0.Kind : Value) :: (.int .i64 a0.From : Value) :: (.int .i64 a0.To : Value) :: (.int .i64 a0.Session : Value) :: (.int .i64 a0.Part : Value) :: c1765 ++ (v1767 :: v1769 :: v1771 :: []) : List Value) ∧ Own (kI .u8) 5 h1860 I1861 v1866 y1865.b ∧ Box h1860 b1788 213 (v1866 :: [] : List Value) ∧ p_proto_Write_l1 K a0 k1873 y1862 y1865 = some z1870) K ⟨0, x1846, v1855, I1853, rfl, s1850, Tr.refl _ _, b1858, o1856, f1854, e1872⟩ ?_ ?_
          · rintro e h' ⟨_, _, _, _, _, _, _, _, _, _, H⟩; cases (show none = some _ from H)
          · rintro k1873 e h1860 ⟨y1862, y1865, v1866, I1861, rfl, s1868, t1869, f1863, o1867, f1864, H⟩
            rw [p_proto_Write_l1] at H
            refine C.seq ?_
            refine C.region 1 rfl ?_
            by_cases g1874 : y1862 < (a0.Places.length : Int)
            · have H := ifT g1874 H
              refine X.val rfl rfl rfl (yBT g1874 (yLss rfl rfl)) trivial ?_
              refine X.nil ?_
              refine At.then ?_
              refine C.seq ?_
              refine C.condT rfl ?_
              refine C.skip ?_
              refine At.then ?_
              refine C.seq ?_
              refine C.block ?_
              refine C.seq ?_
              refine C.region 3 rfl ?_
              obtain ⟨⟨g1883, g1875⟩, H⟩ := ifS H
              obtain ⟨b1876, w1877, k1878, c1879, e1880, r1881, m1882⟩ := SlR.get (r1768.mono (t1775.trans (t1786.trans (t1790.trans ((Tr.refl (Ex I h1774 h1783) h1789).trans (t1816.trans (t1851.trans t1869))))))) g1883 g1875
              obtain rfl := r1881
              refine X.val (v := .pointer (some ⟨b1876, w1877 + (y1862).toNat * 1, none⟩)) rfl rfl rfl (yIdxS Tryz.underlying67 Tryz.sizeOf3 (by rw [← e1880]; rfl) rfl g1883 g1875) trivial ?_
              refine X.val (v := .int .i64 (rd a0.Places y1862)) rfl rfl rfl (yLoadS (j := 0) Tryz.isAgg3 rfl m1882.rd rfl rfl) trivial ?_
              refine X.val rfl rfl rfl (yAssign rfl) trivial ?_
              refine X.nil ?_
              refine At.then ?_
              refine C.region 4 rfl ?_
              refine X.val rfl rfl rfl (yMove rfl) trivial ?_
              refine X.val rfl rfl rfl (yMove rfl) trivial ?_
              refine X.val rfl rfl rfl (yConv Tryz.underlying3 Tryz.underlying24 rfl) trivial ?_
              obtain ⟨x1884, e1885, H⟩ := bnd H
              have s1890 : St [] h I h1860 I1861 ([some b1788, v1866.ownBlock] ++ [some b1773]) := s1868.pick [0, 1, 2] rfl (by decide) (by rintro (_ | _ | _ | i) m h <;> first | exact h | (simp at h))
              refine X.call (all := [.pointer (some ⟨b1788, 0, none⟩), .int .u64 (IntKind.u64.wrap (rd a0.Places y1862))]) Tryz.call140 rfl rfl rfl rfl rfl rfl (c_wire_Writer_Num s1890.left.lend f1864 o1867 e1885) ?_
              rintro _ h1886 ⟨I1891, v1893, k1895, rfl, f1892, o1894⟩
              have s1888 : St [] h I h1886 I1891 [some b1788, v1893.ownBlock, some b1773] := St.callS (L := [some b1788, v1866.ownBlock]) (R := [some b1773]) (L' := [some b1788, v1893.ownBlock]) s1890 k1895
              have t1889 : Tr I1861 h1860 I1891 h1886 := St.callSTr (L := [some b1788, v1866.ownBlock]) (R := [some b1773]) (L' := [some b1788, v1893.ownBlock]) s1890 k1895
              have p1887 := k1895.stp
              refine ⟨trivial, ?_⟩
              refine X.nil ?_
              refine At.blkN ?_
              refine At.then ?_
              refine C.region 2 rfl ?_
              refine X.val rfl rfl rfl (yAdd rfl rfl) trivial ?_
              refine X.val rfl rfl rfl (yMove rfl) trivial ?_
              refine X.nil ?_
              have b1896 := (f1863.stp p1887 ((s1868.sep 2 [0, 1] rfl rfl rfl) _ rfl))
              refine At.back [(1, .pointer (some ⟨b1773, 0, none⟩)), (4, .pointer (some ⟨b1788, 0, none⟩)), (51, v1767), (52, .int .i64 (a0.Places.length : Int)), (53, .int .i64 (IntKind.i64.wrap (y1862 + 1)))] (fun a ha => (.cons ha rfl (.cons ha rfl (.cons ha rfl (.cons ha rfl (.cons ha rfl ha.nil)))))) ?_
              exact ⟨(IntKind.i64.wrap (y1862 + 1)), x1884, v1893, I1891, rfl, s1888, (t1869.trans t1889), b1896, o1894, f1892, H⟩
            · have H := ifF g1874 H
              refine X.val rfl rfl rfl (yBF g1874 (yLss rfl rfl)) trivial ?_
              refine X.nil ?_
              refine At.then ?_
              refine C.seq ?_
              refine C.condF rfl ?_
              refine C.exit ?_
              refine At.thenE ?_
              refine At.backE ?_
              obtain rfl := sm H
              have H := G1871
              try dsimp only at H
              refine At.blkE ?_
              refine At.then ?_
              refine C.seq ?_
              refine C.region 6 rfl ?_
              refine X.val rfl rfl rfl (yMove rfl) trivial ?_
              refine X.val (v := .pointer (some ⟨b1773, 38, none⟩)) rfl rfl rfl (yField 75 38 Tryz.underlying77 Tryz.sizeOf75 rfl rfl rfl) trivial ?_
              have l1897 : c1765.length = 32 := (kArr 32 (kI .u8)).len r1766
              refine X.val (v := v1769) rfl rfl rfl (yLoadS (j := 38) Tryz.isAgg75 rfl (f1863).all rfl (by simp [l1897])) trivial ?_
              refine X.val rfl rfl rfl (yLenR Tryz.underlying75 rfl (r1770.mono (t1775.trans (t1786.trans (t1790.trans ((Tr.refl (Ex I h1774 h1783) h1789).trans (t1816.trans (t1851.trans t1869)))))))) trivial ?_
              refine X.val rfl rfl rfl (yConv Tryz.underlying3 Tryz.underlying24 rfl) trivial ?_
              obtain ⟨x1898, e1899, H⟩ := bnd H
              have s1904 : St [] h I h1860 I1861 ([some b1788, v1866.ownBlock] ++ [some b1773]) := s1868.pick [0, 1, 2] rfl (by decide) (by rintro (_ | _ | _ | i) m h <;> first | exact h | (simp at h))
              refine X.call (all := [.pointer (some ⟨b1788, 0, none⟩), .int .u64 (IntKind.u64.wrap (a0.Digests.length : Int))]) Tryz.call140 rfl rfl rfl rfl rfl rfl (c_wire_Writer_Num s1904.left.lend f1864 o1867 e1899) ?_
              rintro _ h1900 ⟨I1905, v1907, k1909, rfl, f1906, o1908⟩
              have s1902 : St [] h I h1900 I1905 [some b1788, v1907.ownBlock, some b1773] := St.callS (L := [some b1788, v1866.ownBlock]) (R := [some b1773]) (L' := [some b1788, v1907.ownBlock]) s1904 k1909
              have t1903 : Tr I1861 h1860 I1905 h1900 := St.callSTr (L := [some b1788, v1866.ownBlock]) (R := [some b1773]) (L' := [some b1788, v1907.ownBlock]) s1904 k1909
              have p1901 := k1909.stp
              refine ⟨trivial, ?_⟩
              refine X.nil ?_
              refine At.then ?_
              refine C.seq ?_
              refine C.seq ?_
              refine C.region 4 rfl ?_
              refine X.val (v := .pointer (some ⟨b1773, 38, none⟩)) rfl rfl rfl (yField 75 38 Tryz.underlying77 Tryz.sizeOf75 rfl rfl rfl) trivial ?_
              have b1910 := (f1863.stp p1901 ((s1868.sep 2 [0, 1] rfl rfl rfl) _ rfl))
              have l1911 : c1765.length = 32 := (kArr 32 (kI .u8)).len r1766
              refine X.val (v := v1769) rfl rfl rfl (yLoadS (j := 38) Tryz.isAgg75 rfl (b1910).all rfl (by simp [l1911])) trivial ?_
              refine X.val rfl rfl rfl (yLenR Tryz.underlying75 rfl (r1770.mono (t1775.trans (t1786.trans (t1790.trans ((Tr.refl (Ex I h1774 h1783) h1789).trans (t1816.trans (t1851.trans (t1869.trans t1903))))))))) trivial ?_
              refine X.val rfl rfl rfl (yMove rfl) trivial ?_
              refine X.nil ?_
              refine At.then ?_
              refine C.block ?_
              obtain ⟨z1920, e1922, G1921⟩ := bnd H
              refine C.prune [(1, .pointer (some ⟨b1773, 0, none⟩)), (4, .pointer (some ⟨b1788, 0, none⟩)), (69, v1769), (70, .int .i64 (a0.Digests.length : Int)), (71, .int .i64 0)] (fun a ha => (.cons ha rfl (.cons ha rfl (.cons ha rfl (.cons ha rfl (.cons ha rfl ha.nil)))))) ?_
              refine C.loop (fun k1923 e h1912 => ∃ (y1914 : Int) (I1913 : Nat → Prop), e = [(1, .pointer (some ⟨b1773, 0, none⟩)), (4, .pointer (some ⟨b1788, 0, none⟩)), (69, v1769), (70, .int .i64 (a0.Digests.length : Int)), (71, .int .i64 y1914)] ∧ St [] h I h1912 I1913 [some b1788, v1907.ownBlock, some b1773] ∧ Tr I1905 h1900 I1913 h1912 ∧ Box h1912 b1773 77 ((.int .i64 a0.Kind : Value) :: (.int .i64 a0.From : Value) :: (.int .i64 a0.To : Value) :: (.int .i64 a0.Session : Value) :: (.int .i64 a0.Part : Value) :: c1765 ++ (v1767 :: v1769 :: v1771 :: []) : List Value) ∧ Own (kI .u8) 5 h1912 I1913 (v1907) x1898.b ∧ Box h1912 b1788 213 (v1907 :: [] : List Value) ∧ p_proto_Write_l2 K a0 k1923 y1914 = some z1920) K ⟨0, I1905, rfl, s1902, Tr.refl _ _, b1910, o1908, f1906, e1922⟩ ?_ ?_
              · rintro e h' ⟨_, _, _, _, _, _, _, _, H⟩; cases (show none = some _ from H)
              · rintro k1923 e h1912 ⟨y1914, I1913, rfl, s1918, t1919, f1915, o1917, f1916, H⟩
                rw [p_proto_Write_l2] at H
                refine C.seq ?_
                refine C.region 1 rfl ?_
                by_cases g1924 : y1914 < (a0.Digests.length : Int)
                · have H := ifT g1924 H
                  refine X.val rfl rfl rfl (yBT g1924 (yLss rfl rfl)) trivial ?_
                  refine X.nil ?_
                  refine At.then ?_
                  refine C.seq ?_
                  refine C.condT rfl ?_
                  refine C.skip ?_
                  refine At.then ?_
                  refine C.seq ?_
                  refine C.block ?_
                  refine C.seq ?_
                  refine C.region 4 rfl ?_
                  obtain ⟨⟨g1933, g1925⟩, H⟩ := ifS H
                  obtain ⟨b1926, w1927, k1928, c1929, e1930, r1931, m1932⟩ := SlR.get (r1770.mono (t1775.trans (t1786.trans (t1790.trans ((Tr.refl (Ex I h1774 h1783) h1789).trans (t1816.trans (t1851.trans (t1869.trans (t1903.trans t1919))))))))) g1933 g1925
                  refine X.val (v := .pointer (some ⟨b1926, w1927 + (y1914).toNat * 32, none⟩)) rfl rfl rfl (yIdxS Tryz.underlying75 Tryz.sizeOf65 (by rw [← e1930]; rfl) rfl g1933 g1925) trivial ?_
                  have l1934 : c1929.length = 32 := (kArr 32 (kI .u8)).len r1931
                  refine X.val (v := .agg ((c1929 : List Value)).toArray) rfl rfl rfl (yLoadW Tryz.isAgg65 Tryz.sizeOf65 rfl m1932.rd (by simp [l1934])) trivial ?_
                  obtain ⟨c1935, e1936⟩ : ∃ c : List Value, c = (List.replicate 32 (.int .u8 0 : Value)) := ⟨_, rfl⟩
                  have r1937 : (kArr 32 (kI .u8)).rp I1913 h1912 c1935 (List.replicate 32 (0 : Int)) := by rw [e1936]; exact z_T65
                  refine X.ef rfl rfl rfl (eAlloc (zs := ((List.replicate 32 (.int .u8 0 : Value)) : List Value)) Tryz.zeroValue65 rfl) ?_
                  rintro _ h1939 ⟨rfl, e1944⟩
                  obtain ⟨b1938, e1944b⟩ : ∃ b, b = h1912.size := ⟨_, rfl⟩
                  rw [← e1944b]
                  have f1943 : Box h1939 b1938 65 (c1935 : List Value) := by subst e1944; subst e1944b; rw [e1936]; exact Box.new _ _ _
                  have p1941 : Stp [] h1912 h1939 := by subst e1944; exact Stp.push _ _
                  have s1942 : St [] h I h1939 I1913 (some b1938 :: [some b1788, v1907.ownBlock, some b1773]) := by subst e1944; subst e1944b; exact s1918.new _
                  have t1940 := s1918.tr p1941 (by simp) (fun _ hb => hb)
                  clear e1944 e1944b
                  refine ⟨trivial, ?_⟩
                  have l1945 : c1935.length = 32 := (kArr 32 (kI .u8)).len r1937
                  have l1946 : c1929.length = 32 := (kArr 32 (kI .u8)).len r1931
                  refine X.ef rfl rfl rfl (eStore (vs := (c1929 : List Value)) Tryz.sizeOf65 rfl rfl rfl (by simp [l1946]) (by simp [ones, ones_append, oInt, oBool, oStr, oSl, oPtr, (kArr 32 (kI .u8)).one r1931]) f1943 (by simp [l1945, l1946])) ?_
                  rintro _ h1947 ⟨rfl, e1948⟩
                  have f1952 : Box h1947 b1938 65 (c1929 : List Value) := by subst e1948; exact Box.reset f1943 (by have k := splice_mid (c1929 : List Value) (c1935 : List Value) [] ([] : List Value) (by simp [l1945, l1946]); simpa using k)
                  have p1949 : Stp [some b1938] h1939 h1947 := by subst e1948; exact Stp.set _
                  have s1950 := s1942.step p1949 (by simp)
                  have t1951 := s1942.tr p1949 (by simp) (fun _ hb => hb)
                  clear e1948
                  refine ⟨trivial, ?_⟩
                  refine X.nil ?_
                  refine At.then ?_
                  refine C.region 3 rfl ?_
                  refine X.val rfl rfl rfl (yMove rfl) trivial ?_
                  have l1953 : c1929.length = 32 := (kArr 32 (kI .u8)).len r1931
                  refine X.val (v := .agg ((c1929 : List Value)).toArray) rfl rfl rfl (yLoadW Tryz.isAgg65 Tryz.sizeOf65 rfl (f1952).all (by simp [l1953])) trivial ?_
                  cases H
                · have H := ifF g1924 H
                  refine X.val rfl rfl rfl (yBF g1924 (yLss rfl rfl)) trivial ?_
                  refine X.nil ?_
                  refine At.then ?_
                  refine C.seq ?_
                  refine C.condF rfl ?_
                  refine C.exit ?_
                  refine At.thenE ?_
                  refine At.backE ?_
                  obtain rfl := sm H
                  have H := G1921
                  try dsimp only at H
                  refine At.blkE ?_
                  refine At.then ?_
                  refine C.seq ?_
                  refine C.region 8 rfl ?_
                  refine X.val (v := .pointer (some ⟨b1773, 39, none⟩)) rfl rfl rfl (yField 58 39 Tryz.underlying77 Tryz.sizeOf58 rfl rfl rfl) trivial ?_
                  have l1954 : c1765.length = 32 := (kArr 32 (kI .u8)).len r1766
                  refine X.val (v := v1771) rfl rfl rfl (yLoadS (j := 39) Tryz.isAgg58 rfl (f1915).all rfl (by simp [l1954])) trivial ?_
                  obtain ⟨x1955, e1956, H⟩ := bnd H
                  refine X.call (all := [v1771]) Tryz.call131 rfl rfl rfl rfl rfl rfl (c_pack_WriteAll s1918.ib (r1772.mono (t1775.trans (t1786.trans (t1790.trans ((Tr.refl (Ex I h1774 h1783) h1789).trans (t1816.trans (t1851.trans (t1869.trans (t1903.trans t1919))))))))) e1956) ?_
                  obtain ⟨x1955_0, x1955_1⟩ := x1955
                  rintro _ h1957 ⟨p1958, v1962, rfl, r1961⟩
                  have s1959 := s1918.call p1958
                  have t1960 := s1918.callTr p1958
                  refine ⟨trivial, ?_⟩
                  refine X.val rfl rfl rfl (yMove rfl) trivial ?_
                  refine X.val rfl rfl rfl (yExtract rfl rfl) trivial ?_
                  refine X.val rfl rfl rfl (yExtract rfl rfl) trivial ?_
                  refine X.val rfl rfl rfl (yAssign rfl) trivial ?_
                  refine X.val rfl rfl rfl (yAssign rfl) trivial ?_
                  refine X.nil ?_
                  refine At.then ?_
                  refine C.seq ?_
                  refine C.region 6 rfl ?_
                  refine X.val rfl rfl rfl (yMove rfl) trivial ?_
                  have b1963 := (f1916.stp p1958 (by simp))
                  have o1964 := (o1917.stp t1960 p1958 (by simp))
                  obtain ⟨x1965, e1966, H⟩ := bnd H
                  have s1971 : St [] h I h1957 (Ex I1913 h1912 h1957) ([some b1788, v1907.ownBlock] ++ [some b1773]) := s1959.pick [0, 1, 2] rfl (by decide) (by rintro (_ | _ | _ | i) m h <;> first | exact h | (simp at h))
                  refine X.call (all := [.pointer (some ⟨b1788, 0, none⟩)]) Tryz.call115 rfl rfl rfl rfl rfl rfl (c_wire_Writer_Bytes s1971.left.lend b1963 o1964 e1966) ?_
                  obtain ⟨x1965_0, x1965_1⟩ := x1965
                  rintro v1976 h1967 ⟨I1972, v1974, _, k1978, rfl, f1973, r1975, o1977⟩
                  have s1969 : St [] h I h1967 I1972 [some b1788, v1976.ownBlock, some b1773] := St.callS (L := [some b1788, v1907.ownBlock]) (R := [some b1773]) (L' := [some b1788, v1976.ownBlock]) s1971 k1978
                  have t1970 : Tr (Ex I1913 h1912 h1957) h1957 I1972 h1967 := St.callSTr (L := [some b1788, v1907.ownBlock]) (R := [some b1773]) (L' := [some b1788, v1976.ownBlock]) s1971 k1978
                  have p1968 := k1978.stp
                  refine ⟨trivial, ?_⟩
                  refine X.val rfl rfl rfl (yMove rfl) trivial ?_
                  obtain ⟨g1986, H⟩ := ifS H
                  refine X.ef rfl rfl rfl (eAppend (bytes := 1) Tryz.underlying23 Tryz.type5 rfl rfl rfl rfl rfl rfl rfl rfl o1977 (Src.sl (r1961.mono t1970)) (s1969.disOf 1 rfl) (Nat.le_trans (Nat.mul_le_mul_right _ g1986) (by decide))) ?_
                  rintro v1979 h1980 ⟨o1981, p1982, n1983⟩
                  have p1982 : Stp [v1976.ownBlock] h1967 h1980 := p1982
                  have s1984 : St [] h I h1980 I1972 [some b1788, v1979.ownBlock, some b1773] := s1969.grow 1 rfl p1982 n1983
                  have t1985 := s1969.tr p1982 (by simp) (fun _ hb => hb)
                  refine ⟨trivial, ?_⟩
                  refine X.val rfl rfl rfl (yAssign rfl) trivial ?_
                  refine X.val rfl rfl rfl (yAssign rfl) trivial ?_
                  refine X.nil ?_
                  refine At.then ?_
                  refine C.ret ?_
                  have s1987 : St [] h I h1980 (fun b => I1972 b ∨ some b = v1979.ownBlock) [some b1788, some b1773] := s1984.claim 1 rfl
                  have t1988 : Tr I1972 h1980 (fun b => I1972 b ∨ some b = v1979.ownBlock) h1980 := fun b hb => ⟨.inl hb, rfl⟩
                  have r1989 := Own.read (I' := (fun b => I1972 b ∨ some b = v1979.ownBlock)) o1981 (fun _ hb => .inl hb) (fun b e => .inr e.symm)
                  obtain rfl := sm H
                  refine At.retn (rs := [.tmp 2, .tmp 3]) [v1979, .int .i64 0] rfl ?_ ?_
                  exact ⟨Rv.tmp rfl, Rv.tmp rfl, trivial⟩
                  exact ⟨s1987.stp, v1979, rfl, (r1989.mono s1987.outTr)⟩
  · have H := biTe g1787 H
    refine X.val rfl rfl rfl (yBE g1787 (yNot rfl)) trivial ?_
    refine X.nil ?_
    refine At.then ?_
    refine C.condT rfl ?_
    refine C.seq ?_
    refine C.region 2 rfl ?_
    refine X.val rfl rfl rfl (yAssign rfl) trivial ?_
    refine X.val rfl rfl rfl (yAssign rfl) trivial ?_
    refine X.nil ?_
    refine At.then ?_
    refine C.ret ?_
    refine At.thenR ?_
    obtain rfl := sm H
    refine At.retn (rs := [.tmp 2, .tmp 3]) [.slice none 0 0, .int .i64 3] rfl ?_ ?_
    exact ⟨Rv.tmp rfl, Rv.tmp rfl, trivial⟩
    exact ⟨s1785.stp, .slice none 0 0, rfl, SlR.nil⟩

def p_wire_From (a0 : (List Int)) : Option (wire_Reader) :=
  (p_slices_Clone_byte a0).bind fun x2478 => some (⟨true, x2478, 0⟩ : wire_Reader)
theorem c_wire_From {h : Heap} {I : Nat → Prop} {v_a0 : Value} {a0 : (List Int)} (s0 : St [] h I h I []) (r_a0 : SlR (kI .u8) I h v_a0 a0) {r : (wire_Reader)} (H : p_wire_From a0 = some r) :
    Fn Tryz.prog 142 [v_a0] h (fun v h' => ∃ (I' : Nat → Prop) (u0 : Nat) (w1n0 : Value) , St [] h I h' I' [some u0] ∧ v = (.pointer (some ⟨u0, 0, none⟩) : Value) ∧ Box h' u0 373 ((.bool r.made : Value) :: w1n0 :: (.int .i64 r.e : Value) :: [] : List Value) ∧ SlR (kI .u8) I' h' w1n0 r.b) := by
  unfold p_wire_From at H
  refine Fn.of 7 Tryz.func142 rfl rfl ?_
  refine C.seq ?_
  refine C.region 1 rfl ?_
  refine X.val rfl rfl rfl (yAssign rfl) trivial ?_
  refine X.nil ?_
  refine At.then ?_
  refine C.seq ?_
  refine C.region 5 rfl ?_
  refine X.val rfl rfl rfl (yMove rfl) trivial ?_
  obtain ⟨x2478, e2479, H⟩ := bnd H
  have s2484 : St [] h I h I ([] ++ []) := s0.pick [] rfl (by decide) (by intro i m h; simp at h)
  refine X.call (all := [v_a0]) Tryz.call198 rfl rfl rfl rfl rfl rfl (c_slices_Clone_byte s2484.left.lend r_a0 e2479) ?_
  rintro v2486 h2480 ⟨I2485, _, k2488, rfl, o2487⟩
  have s2482 : St [] h I h2480 I2485 [v2486.ownBlock] := St.callS (L := []) (R := []) (L' := [v2486.ownBlock]) s2484 k2488
  have t2483 : Tr I h I2485 h2480 := St.callSTr (L := []) (R := []) (L' := [v2486.ownBlock]) s2484 k2488
  have p2481 := k2488.stp
  refine ⟨trivial, ?_⟩
  have s2489 : St [] h I h2480 (fun b => I2485 b ∨ some b = v2486.ownBlock) [] := s2482.claim 0 rfl
  have t2490 : Tr I2485 h2480 (fun b => I2485 b ∨ some b = v2486.ownBlock) h2480 := fun b hb => ⟨.inl hb, rfl⟩
  have r2491 := Own.read (I' := (fun b => I2485 b ∨ some b = v2486.ownBlock)) o2487 (fun _ hb => .inl hb) (fun b e => .inr e.symm)
  refine X.val (v := .agg (((.bool true : Value) :: v2486 :: (.int .i64 0 : Value) :: [] : List Value)).toArray) rfl rfl rfl (yBuild (out := ((.bool true : Value) :: v2486 :: (.int .i64 0 : Value) :: [] : List Value)) [1, 1, 1] [((.bool false : Value) :: [] : List Value), ((.slice none 0 0 : Value) :: [] : List Value), ((.int .i64 0 : Value) :: [] : List Value)] Tryz.zeroValue373 rfl pl_T373 rfl rfl (by simp [okp, vInt, vBool, vStr, vSl, vPtr, vAgg, vOne (SlR.one r2491)]) (by simp [setAll, vInt, vBool, vStr, vSl, vPtr, vAgg, vOne (SlR.one r2491)])) trivial ?_
  refine X.ef rfl rfl rfl (eBox (cs := ((.bool true : Value) :: v2486 :: (.int .i64 0 : Value) :: [] : List Value)) rfl rfl) ?_
  rintro _ h2493 ⟨rfl, e2498⟩
  obtain ⟨b2492, e2498b⟩ : ∃ b, b = h2480.size := ⟨_, rfl⟩
  rw [← e2498b]
  have f2497 : Box h2493 b2492 373 ((.bool true : Value) :: v2486 :: (.int .i64 0 : Value) :: [] : List Value) := by subst e2498; subst e2498b; exact Box.new _ _ _
  have p2495 : Stp [] h2480 h2493 := by subst e2498; exact Stp.push _ _
  have s2496 : St [] h I h2493 (fun b => I2485 b ∨ some b = v2486.ownBlock) (some b2492 :: []) := by subst e2498; subst e2498b; exact s2489.new _
  have t2494 := s2489.tr p2495 (by simp) (fun _ hb => hb)
  clear e2498 e2498b
  refine ⟨trivial, ?_⟩
  refine X.val rfl rfl rfl (yAssign rfl) trivial ?_
  refine X.nil ?_
  refine At.then ?_
  refine C.ret ?_
  obtain rfl := sm H
  refine At.retn (rs := [.tmp 2]) [.pointer (some ⟨b2492, 0, none⟩)] rfl ?_ ?_
  exact ⟨Rv.tmp rfl, trivial⟩
  exact ⟨(fun b => I2485 b ∨ some b = v2486.ownBlock), b2492, v2486, s2496, rfl, f2497, (r2491.mono t2494)⟩

def p_wire_Reader_Err (a0 : wire_Reader) : Option (Int × wire_Reader) :=
  (bif a0.made then some (a0.e, a0) else some (6, a0))
theorem c_wire_Reader_Err {h : Heap} {I : Nat → Prop} {b_a0 : Nat} {a0 : wire_Reader} {v0_a0 : Value} (s0 : St [some b_a0] h I h I [some b_a0]) (f_a0 : Box h b_a0 373 ((.bool a0.made : Value) :: v0_a0 :: (.int .i64 a0.e : Value) :: [] : List Value)) (r0_a0 : SlR (kI .u8) I h v0_a0 a0.b) {r : (Int × wire_Reader)} (H : p_wire_Reader_Err a0 = some r) :
    Fn Tryz.prog 148 [.pointer (some ⟨b_a0, 0, none⟩)] h (fun v h' => ∃ (I' : Nat → Prop) (w0s : Value) , St [some b_a0] h I h' I' [some b_a0] ∧ v = (.int .i64 r.1 : Value) ∧ Box h' b_a0 373 ((.bool r.2.made : Value) :: w0s :: (.int .i64 r.2.e : Value) :: [] : List Value) ∧ SlR (kI .u8) I' h' w0s r.2.b) := by
  unfold p_wire_Reader_Err at H
  refine Fn.of 16 Tryz.func148 rfl rfl ?_
  refine C.seq ?_
  refine C.region 1 rfl ?_
  refine X.val rfl rfl rfl (yAssign rfl) trivial ?_
  refine X.nil ?_
  refine At.then ?_
  refine C.seq ?_
  refine C.seq ?_
  refine C.region 9 rfl ?_
  refine X.val rfl rfl rfl (yMove rfl) trivial ?_
  refine X.val (v := .bool false) rfl rfl rfl (yPEq Tryz.underlying248 rfl rfl) trivial ?_
  refine X.val rfl rfl rfl (yMove rfl) trivial ?_
  refine X.val rfl rfl rfl (yMove rfl) trivial ?_
  refine X.val rfl rfl rfl (yNil rfl) trivial ?_
  refine X.val (v := .pointer (some ⟨b_a0, 0, none⟩)) rfl rfl rfl (yField 4 0 Tryz.underlying373 Tryz.sizeOf4 rfl rfl rfl) trivial ?_
  cases g2499 : a0.made
  · have H := biFe g2499 H
    refine X.val rfl rfl rfl (yBE g2499 (yLoadS (j := 0) Tryz.isAgg4 rfl (f_a0).all rfl rfl)) trivial ?_
    refine X.val rfl rfl rfl (yNot rfl) trivial ?_
    refine X.val rfl rfl rfl (yPickF rfl rfl) trivial ?_
    refine X.nil ?_
    refine At.then ?_
    refine C.condT rfl ?_
    refine C.seq ?_
    refine C.region 1 rfl ?_
    refine X.val rfl rfl rfl (yAssign rfl) trivial ?_
    refine X.nil ?_
    refine At.then ?_
    refine C.ret ?_
    refine At.thenR ?_
    obtain rfl := sm H
    refine At.retn (rs := [.tmp 2]) [.int .i64 6] rfl ?_ ?_
    exact ⟨Rv.tmp rfl, trivial⟩
    exact ⟨I, v0_a0, s0, rfl, f_a0, r0_a0⟩
  · have H := biTe g2499 H
    refine X.val rfl rfl rfl (yBE g2499 (yLoadS (j := 0) Tryz.isAgg4 rfl (f_a0).all rfl rfl)) trivial ?_
    refine X.val rfl rfl rfl (yNot rfl) trivial ?_
    refine X.val rfl rfl rfl (yPickF rfl rfl) trivial ?_
    refine X.nil ?_
    refine At.then ?_
    refine C.condF rfl ?_
    refine C.skip ?_
    refine At.then ?_
    refine C.seq ?_
    refine C.region 5 rfl ?_
    refine X.val rfl rfl rfl (yMove rfl) trivial ?_
    refine X.val rfl rfl rfl (yNil rfl) trivial ?_
    refine X.val (v := .pointer (some ⟨b_a0, 2, none⟩)) rfl rfl rfl (yField 44 2 Tryz.underlying373 Tryz.sizeOf44 rfl rfl rfl) trivial ?_
    refine X.val (v := .int .i64 a0.e) rfl rfl rfl (yLoadS (j := 2) Tryz.isAgg44 rfl (f_a0).all rfl rfl) trivial ?_
    refine X.val rfl rfl rfl (yAssign rfl) trivial ?_
    refine X.nil ?_
    refine At.then ?_
    refine C.ret ?_
    obtain rfl := sm H
    refine At.retn (rs := [.tmp 2]) [.int .i64 a0.e] rfl ?_ ?_
    exact ⟨Rv.tmp rfl, trivial⟩
    exact ⟨I, v0_a0, s0, rfl, f_a0, r0_a0⟩

def p_wire_Reader_Must (a0 : wire_Reader) (a1 : Bool) : Option (wire_Reader) :=
  (p_wire_Reader_Err a0).bind fun (x2500_0, x2500_1) => (if x2500_0 = 0 then (bif (!a1) then some (⟨x2500_1.made, x2500_1.b, 3⟩ : wire_Reader) else some x2500_1) else some x2500_1)
theorem c_wire_Reader_Must {h : Heap} {I : Nat → Prop} {b_a0 : Nat} {a0 : wire_Reader} {v0_a0 : Value} {a1 : Bool} (s0 : St [some b_a0] h I h I [some b_a0]) (f_a0 : Box h b_a0 373 ((.bool a0.made : Value) :: v0_a0 :: (.int .i64 a0.e : Value) :: [] : List Value)) (r0_a0 : SlR (kI .u8) I h v0_a0 a0.b) {r : (wire_Reader)} (H : p_wire_Reader_Must a0 a1 = some r) :
    Fn Tryz.prog 179 [.pointer (some ⟨b_a0, 0, none⟩), .bool a1] h (fun v h' => ∃ (I' : Nat → Prop) (w0s : Value) , St [some b_a0] h I h' I' [some b_a0] ∧ v = (.tuple #[] : Value) ∧ Box h' b_a0 373 ((.bool r.made : Value) :: w0s :: (.int .i64 r.e : Value) :: [] : List Value) ∧ SlR (kI .u8) I' h' w0s r.b) := by
  unfold p_wire_Reader_Must at H
  refine Fn.of 14 Tryz.func179 rfl rfl ?_
  refine C.seq ?_
  refine C.region 7 rfl ?_
  refine X.val rfl rfl rfl (yMove rfl) trivial ?_
  obtain ⟨x2500, e2501, H⟩ := bnd H
  have s2506 : St [some b_a0] h I h I ([some b_a0] ++ []) := s0.pick [0] rfl (by decide) (by rintro (_ | i) m h <;> first | exact h | (simp at h))
  refine X.call (all := [.pointer (some ⟨b_a0, 0, none⟩)]) Tryz.call148 rfl rfl rfl rfl rfl rfl (c_wire_Reader_Err s2506.left.lend f_a0 r0_a0 e2501) ?_
  obtain ⟨x2500_0, x2500_1⟩ := x2500
  rintro _ h2502 ⟨I2507, v2509, k2511, rfl, f2508, r2510⟩
  have s2504 : St [some b_a0] h I h2502 I2507 [some b_a0] := St.callS (L := [some b_a0]) (R := []) (L' := [some b_a0]) s2506 k2511
  have t2505 : Tr I h I2507 h2502 := St.callSTr (L := [some b_a0]) (R := []) (L' := [some b_a0]) s2506 k2511
  have p2503 := k2511.stp
  refine ⟨trivial, ?_⟩
  by_cases g2512 : x2500_0 = 0
  · have H := ifT g2512 H
    refine X.val rfl rfl rfl (yBT g2512 (yEql rfl rfl)) trivial ?_
    refine X.val rfl rfl rfl (yMove rfl) trivial ?_
    refine X.val rfl rfl rfl (yMove rfl) trivial ?_
    cases g2513 : (!a1)
    · have H := biFe g2513 H
      refine X.val rfl rfl rfl (yBE g2513 (yNot rfl)) trivial ?_
      refine X.val rfl rfl rfl (yPickT rfl rfl) trivial ?_
      refine X.nil ?_
      refine At.then ?_
      refine C.condF rfl ?_
      refine C.skip ?_
      obtain rfl := sm H
      refine At.endn (rs := []) [] rfl ?_ ?_
      exact trivial
      exact ⟨I2507, v2509, s2504, rfl, f2508, r2510⟩
    · have H := biTe g2513 H
      refine X.val rfl rfl rfl (yBE g2513 (yNot rfl)) trivial ?_
      refine X.val rfl rfl rfl (yPickT rfl rfl) trivial ?_
      refine X.nil ?_
      refine At.then ?_
      refine C.condT rfl ?_
      refine C.region 4 rfl ?_
      refine X.val rfl rfl rfl (yMove rfl) trivial ?_
      refine X.val rfl rfl rfl (yNil rfl) trivial ?_
      refine X.val (v := .pointer (some ⟨b_a0, 2, none⟩)) rfl rfl rfl (yField 44 2 Tryz.underlying373 Tryz.sizeOf44 rfl rfl rfl) trivial ?_
      refine X.ef rfl rfl rfl (eStore (vs := ((.int .i64 3 : Value) :: [] : List Value)) Tryz.sizeOf44 rfl rfl rfl (by simp []) (by simp [ones, ones_append, oInt, oBool, oStr, oSl, oPtr]) f2508 (by simp [])) ?_
      rintro _ h2514 ⟨rfl, e2515⟩
      have f2519 : Box h2514 b_a0 373 ((.bool x2500_1.made : Value) :: v2509 :: (.int .i64 3 : Value) :: [] : List Value) := by subst e2515; exact Box.reset f2508 (rfl)
      have p2516 : Stp [some b_a0] h2502 h2514 := by subst e2515; exact Stp.set _
      have s2517 := s2504.step p2516 (by simp)
      have t2518 := s2504.tr p2516 (by simp) (fun _ hb => hb)
      clear e2515
      refine ⟨trivial, ?_⟩
      refine X.nil ?_
      obtain rfl := sm H
      refine At.endn (rs := []) [] rfl ?_ ?_
      exact trivial
      exact ⟨I2507, v2509, s2517, rfl, f2519, (r2510.mono t2518)⟩
  · have H := ifF g2512 H
    refine X.val rfl rfl rfl (yBF g2512 (yEql rfl rfl)) trivial ?_
    refine X.val rfl rfl rfl (yMove rfl) trivial ?_
    refine X.skip rfl rfl rfl trivial ?_
    refine X.skip rfl rfl rfl trivial ?_
    refine X.val rfl rfl rfl (yPickF rfl rfl) trivial ?_
    refine X.nil ?_
    refine At.then ?_
    refine C.condF rfl ?_
    refine C.skip ?_
    obtain rfl := sm H
    refine At.endn (rs := []) [] rfl ?_ ?_
    exact trivial
    exact ⟨I2507, v2509, s2504, rfl, f2508, r2510⟩


end Go.Mw
