/- Proved here: what functions of the program that OutboxMarks reaches compute; no condition. -/
import Derived.Test.YtbpeidblbebjpaaGreatWg
import Derived.Test.YtbpeidblbebjpaaGreatProg
import Derived.KernelRfl
namespace Go.Mw
set_option linter.unusedVariables false
set_option linter.unusedSimpArgs false
open Go Go.Proofs
structure cart_Entry where
  Item : Int
  Node : Int
  N : Int
  Qty : Int
  deriving DecidableEq
instance : Inhabited cart_Entry := ⟨⟨default, default, default, default⟩⟩
def k_cart_Entry : Kd cart_Entry := kM (kP (kI .i64) (kP (kI .i64) (kP (kI .u64) (kP (kI .i64) kU)))) (fun x => (x.Item, x.Node, x.N, x.Qty, ()))
theorem o_cart_Entry {I : Nat → Prop} {h : Heap} {cs : List Value} {x : cart_Entry} (r : k_cart_Entry.rp I h cs x) : cs = ((.int .i64 x.Item : Value) :: (.int .i64 x.Node : Value) :: (.int .u64 x.N : Value) :: (.int .i64 x.Qty : Value) :: [] : List Value) := by
  obtain ⟨d0, q0, e0, r0, ⟨d1, q1, e1, r1, ⟨d2, q2, e2, r2, ⟨d3, q3, e3, r3, z_⟩⟩⟩⟩ := r
  simp only at r0 r1 r2 r3 z_
  obtain rfl := r0
  obtain rfl := r1
  obtain rfl := r2
  obtain rfl := r3
  obtain rfl := z_
  subst e3
  subst e2
  subst e1
  subst e0
  exact by simp
theorem m_cart_Entry {I : Nat → Prop} {h : Heap} {x_Item : Int} {x_Node : Int} {x_N : Int} {x_Qty : Int}   : k_cart_Entry.rp I h ((.int .i64 x_Item : Value) :: (.int .i64 x_Node : Value) :: (.int .u64 x_N : Value) :: (.int .i64 x_Qty : Value) :: [] : List Value) (⟨x_Item, x_Node, x_N, x_Qty⟩ : cart_Entry) := by
  have k : k_cart_Entry.rp I h _ (⟨x_Item, x_Node, x_N, x_Qty⟩ : cart_Entry) := ⟨_, _, rfl, rfl, ⟨_, _, rfl, rfl, ⟨_, _, rfl, rfl, ⟨_, _, rfl, rfl, rfl⟩⟩⟩⟩
  exact k
structure cart_Cart where
  Ctx : (List Int)
  L : (List cart_Entry)
  deriving DecidableEq
instance : Inhabited cart_Cart := ⟨⟨default, default⟩⟩
def k_cart_Cart : Kd cart_Cart := kM (kP (kArr 8 (kI .u64)) (kP (kSl k_cart_Entry) kU)) (fun x => (x.Ctx, x.L, ()))
theorem o_cart_Cart {I : Nat → Prop} {h : Heap} {cs : List Value} {x : cart_Cart} (r : k_cart_Cart.rp I h cs x) : ∃ c0 v1, cs = (c0 ++ (v1 :: []) : List Value) ∧ ((kArr 8 (kI .u64))).rp I h c0 x.Ctx ∧ SlR k_cart_Entry I h v1 x.L := by
  obtain ⟨d0, q0, e0, r0, ⟨d1, q1, e1, r1, z_⟩⟩ := r
  simp only at r0 r1 z_
  obtain ⟨u1, rfl, r1⟩ := r1
  obtain rfl := z_
  subst e1
  subst e0
  exact ⟨d0, u1, by simp, r0, r1⟩
theorem m_cart_Cart {I : Nat → Prop} {h : Heap} {x_Ctx : (List Int)} {x_L : (List cart_Entry)} {c0 : List Value} {v1 : Value} (r0 : ((kArr 8 (kI .u64))).rp I h c0 x_Ctx) (r1 : SlR k_cart_Entry I h v1 x_L) : k_cart_Cart.rp I h (c0 ++ (v1 :: []) : List Value) (⟨x_Ctx, x_L⟩ : cart_Cart) := by
  have k : k_cart_Cart.rp I h _ (⟨x_Ctx, x_L⟩ : cart_Cart) := ⟨_, _, rfl, r0, ⟨_, _, rfl, ⟨_, rfl, r1⟩, rfl⟩⟩
  simpa using k
structure pack_Keyed where
  Key : (List UInt8)
  Cart : cart_Cart
  deriving DecidableEq
instance : Inhabited pack_Keyed := ⟨⟨default, default⟩⟩
def k_pack_Keyed : Kd pack_Keyed := kM (kP kStr (kP k_cart_Cart kU)) (fun x => (x.Key, x.Cart, ()))
theorem o_pack_Keyed {I : Nat → Prop} {h : Heap} {cs : List Value} {x : pack_Keyed} (r : k_pack_Keyed.rp I h cs x) : ∃ c0 v1, cs = ((.string ⟨(x.Key).toArray⟩ : Value) :: c0 ++ (v1 :: []) : List Value) ∧ ((kArr 8 (kI .u64))).rp I h c0 x.Cart.Ctx ∧ SlR k_cart_Entry I h v1 x.Cart.L := by
  obtain ⟨d0, q0, e0, r0, ⟨d1, q1, e1, r1, z_⟩⟩ := r
  simp only at r0 r1 z_
  obtain rfl := r0
  obtain ⟨w1_0, w1_1, rfl, s1_0, s1_1⟩ := o_cart_Cart r1
  obtain rfl := z_
  subst e1
  subst e0
  exact ⟨w1_0, w1_1, by simp, s1_0, s1_1⟩
theorem m_pack_Keyed {I : Nat → Prop} {h : Heap} {x_Key : (List UInt8)} {x_Cart_Ctx : (List Int)} {x_Cart_L : (List cart_Entry)} {c0 : List Value} {v1 : Value} (r0 : ((kArr 8 (kI .u64))).rp I h c0 x_Cart_Ctx) (r1 : SlR k_cart_Entry I h v1 x_Cart_L) : k_pack_Keyed.rp I h ((.string ⟨(x_Key).toArray⟩ : Value) :: c0 ++ (v1 :: []) : List Value) (⟨x_Key, (⟨x_Cart_Ctx, x_Cart_L⟩ : cart_Cart)⟩ : pack_Keyed) := by
  have k : k_pack_Keyed.rp I h _ (⟨x_Key, (⟨x_Cart_Ctx, x_Cart_L⟩ : cart_Cart)⟩ : pack_Keyed) := ⟨_, _, rfl, rfl, ⟨_, _, rfl, m_cart_Cart r0 r1, rfl⟩⟩
  simpa using k
structure proto_Msg where
  Kind : Int
  From : Int
  To : Int
  Session : Int
  Part : Int
  Digest : (List Int)
  Places : (List Int)
  Digests : (List (List Int))
  Carts : (List pack_Keyed)
  deriving DecidableEq
instance : Inhabited proto_Msg := ⟨⟨default, default, default, default, default, default, default, default, default⟩⟩
def k_proto_Msg : Kd proto_Msg := kM (kP (kI .i64) (kP (kI .i64) (kP (kI .i64) (kP (kI .i64) (kP (kI .i64) (kP (kArr 32 (kI .u8)) (kP (kSl (kI .i64)) (kP (kSl (kArr 32 (kI .u8))) (kP (kSl k_pack_Keyed) kU))))))))) (fun x => (x.Kind, x.From, x.To, x.Session, x.Part, x.Digest, x.Places, x.Digests, x.Carts, ()))
theorem o_proto_Msg {I : Nat → Prop} {h : Heap} {cs : List Value} {x : proto_Msg} (r : k_proto_Msg.rp I h cs x) : ∃ c0 v1 v2 v3, cs = ((.int .i64 x.Kind : Value) :: (.int .i64 x.From : Value) :: (.int .i64 x.To : Value) :: (.int .i64 x.Session : Value) :: (.int .i64 x.Part : Value) :: c0 ++ (v1 :: v2 :: v3 :: []) : List Value) ∧ ((kArr 32 (kI .u8))).rp I h c0 x.Digest ∧ SlR (kI .i64) I h v1 x.Places ∧ SlR (kArr 32 (kI .u8)) I h v2 x.Digests ∧ SlR k_pack_Keyed I h v3 x.Carts := by
  obtain ⟨d0, q0, e0, r0, ⟨d1, q1, e1, r1, ⟨d2, q2, e2, r2, ⟨d3, q3, e3, r3, ⟨d4, q4, e4, r4, ⟨d5, q5, e5, r5, ⟨d6, q6, e6, r6, ⟨d7, q7, e7, r7, ⟨d8, q8, e8, r8, z_⟩⟩⟩⟩⟩⟩⟩⟩⟩ := r
  simp only at r0 r1 r2 r3 r4 r5 r6 r7 r8 z_
  obtain rfl := r0
  obtain rfl := r1
  obtain rfl := r2
  obtain rfl := r3
  obtain rfl := r4
  obtain ⟨u6, rfl, r6⟩ := r6
  obtain ⟨u7, rfl, r7⟩ := r7
  obtain ⟨u8, rfl, r8⟩ := r8
  obtain rfl := z_
  subst e8
  subst e7
  subst e6
  subst e5
  subst e4
  subst e3
  subst e2
  subst e1
  subst e0
  exact ⟨d5, u6, u7, u8, by simp, r5, r6, r7, r8⟩
theorem m_proto_Msg {I : Nat → Prop} {h : Heap} {x_Kind : Int} {x_From : Int} {x_To : Int} {x_Session : Int} {x_Part : Int} {x_Digest : (List Int)} {x_Places : (List Int)} {x_Digests : (List (List Int))} {x_Carts : (List pack_Keyed)} {c0 : List Value} {v1 : Value} {v2 : Value} {v3 : Value} (r0 : ((kArr 32 (kI .u8))).rp I h c0 x_Digest) (r1 : SlR (kI .i64) I h v1 x_Places) (r2 : SlR (kArr 32 (kI .u8)) I h v2 x_Digests) (r3 : SlR k_pack_Keyed I h v3 x_Carts) : k_proto_Msg.rp I h ((.int .i64 x_Kind : Value) :: (.int .i64 x_From : Value) :: (.int .i64 x_To : Value) :: (.int .i64 x_Session : Value) :: (.int .i64 x_Part : Value) :: c0 ++ (v1 :: v2 :: v3 :: []) : List Value) (⟨x_Kind, x_From, x_To, x_Session, x_Part, x_Digest, x_Places, x_Digests, x_Carts⟩ : proto_Msg) := by
  have k : k_proto_Msg.rp I h _ (⟨x_Kind, x_From, x_To, x_Session, x_Part, x_Digest, x_Places, x_Digests, x_Carts⟩ : proto_Msg) := ⟨_, _, rfl, rfl, ⟨_, _, rfl, rfl, ⟨_, _, rfl, rfl, ⟨_, _, rfl, rfl, ⟨_, _, rfl, rfl, ⟨_, _, rfl, r0, ⟨_, _, rfl, ⟨_, rfl, r1⟩, ⟨_, _, rfl, ⟨_, rfl, r2⟩, ⟨_, _, rfl, ⟨_, rfl, r3⟩, rfl⟩⟩⟩⟩⟩⟩⟩⟩⟩
  simpa using k
structure outbox_Answer where
  ID : Int
  Err : Int
  Lines : (List Int)
  deriving DecidableEq
instance : Inhabited outbox_Answer := ⟨⟨default, default, default⟩⟩
def k_outbox_Answer : Kd outbox_Answer := kM (kP (kI .i64) (kP (kI .i64) (kP (kSl (kI .i64)) kU))) (fun x => (x.ID, x.Err, x.Lines, ()))
theorem o_outbox_Answer {I : Nat → Prop} {h : Heap} {cs : List Value} {x : outbox_Answer} (r : k_outbox_Answer.rp I h cs x) : ∃ v0, cs = ((.int .i64 x.ID : Value) :: (.int .i64 x.Err : Value) :: v0 :: [] : List Value) ∧ SlR (kI .i64) I h v0 x.Lines := by
  obtain ⟨d0, q0, e0, r0, ⟨d1, q1, e1, r1, ⟨d2, q2, e2, r2, z_⟩⟩⟩ := r
  simp only at r0 r1 r2 z_
  obtain rfl := r0
  obtain rfl := r1
  obtain ⟨u2, rfl, r2⟩ := r2
  obtain rfl := z_
  subst e2
  subst e1
  subst e0
  exact ⟨u2, by simp, r2⟩
theorem m_outbox_Answer {I : Nat → Prop} {h : Heap} {x_ID : Int} {x_Err : Int} {x_Lines : (List Int)} {v0 : Value} (r0 : SlR (kI .i64) I h v0 x_Lines) : k_outbox_Answer.rp I h ((.int .i64 x_ID : Value) :: (.int .i64 x_Err : Value) :: v0 :: [] : List Value) (⟨x_ID, x_Err, x_Lines⟩ : outbox_Answer) := by
  have k : k_outbox_Answer.rp I h _ (⟨x_ID, x_Err, x_Lines⟩ : outbox_Answer) := ⟨_, _, rfl, rfl, ⟨_, _, rfl, rfl, ⟨_, _, rfl, ⟨_, rfl, r0⟩, rfl⟩⟩⟩
  exact k
structure maundlaw29_Op where
  Kind : Int
  Mark : Int
  M : proto_Msg
  A : outbox_Answer
  deriving DecidableEq
instance : Inhabited maundlaw29_Op := ⟨⟨default, default, default, default⟩⟩
def k_maundlaw29_Op : Kd maundlaw29_Op := kM (kP (kI .i64) (kP (kI .i64) (kP k_proto_Msg (kP k_outbox_Answer kU)))) (fun x => (x.Kind, x.Mark, x.M, x.A, ()))
theorem o_maundlaw29_Op {I : Nat → Prop} {h : Heap} {cs : List Value} {x : maundlaw29_Op} (r : k_maundlaw29_Op.rp I h cs x) : ∃ c0 v1 v2 v3 v4, cs = ((.int .i64 x.Kind : Value) :: (.int .i64 x.Mark : Value) :: (.int .i64 x.M.Kind : Value) :: (.int .i64 x.M.From : Value) :: (.int .i64 x.M.To : Value) :: (.int .i64 x.M.Session : Value) :: (.int .i64 x.M.Part : Value) :: c0 ++ (v1 :: v2 :: v3 :: (.int .i64 x.A.ID : Value) :: (.int .i64 x.A.Err : Value) :: v4 :: []) : List Value) ∧ ((kArr 32 (kI .u8))).rp I h c0 x.M.Digest ∧ SlR (kI .i64) I h v1 x.M.Places ∧ SlR (kArr 32 (kI .u8)) I h v2 x.M.Digests ∧ SlR k_pack_Keyed I h v3 x.M.Carts ∧ SlR (kI .i64) I h v4 x.A.Lines := by
  obtain ⟨d0, q0, e0, r0, ⟨d1, q1, e1, r1, ⟨d2, q2, e2, r2, ⟨d3, q3, e3, r3, z_⟩⟩⟩⟩ := r
  simp only at r0 r1 r2 r3 z_
  obtain rfl := r0
  obtain rfl := r1
  obtain ⟨w2_0, w2_1, w2_2, w2_3, rfl, s2_0, s2_1, s2_2, s2_3⟩ := o_proto_Msg r2
  obtain ⟨w3_0, rfl, s3_0⟩ := o_outbox_Answer r3
  obtain rfl := z_
  subst e3
  subst e2
  subst e1
  subst e0
  exact ⟨w2_0, w2_1, w2_2, w2_3, w3_0, by simp, s2_0, s2_1, s2_2, s2_3, s3_0⟩
theorem m_maundlaw29_Op {I : Nat → Prop} {h : Heap} {x_Kind : Int} {x_Mark : Int} {x_M_Kind : Int} {x_M_From : Int} {x_M_To : Int} {x_M_Session : Int} {x_M_Part : Int} {x_M_Digest : (List Int)} {x_M_Places : (List Int)} {x_M_Digests : (List (List Int))} {x_M_Carts : (List pack_Keyed)} {x_A_ID : Int} {x_A_Err : Int} {x_A_Lines : (List Int)} {c0 : List Value} {v1 : Value} {v2 : Value} {v3 : Value} {v4 : Value} (r0 : ((kArr 32 (kI .u8))).rp I h c0 x_M_Digest) (r1 : SlR (kI .i64) I h v1 x_M_Places) (r2 : SlR (kArr 32 (kI .u8)) I h v2 x_M_Digests) (r3 : SlR k_pack_Keyed I h v3 x_M_Carts) (r4 : SlR (kI .i64) I h v4 x_A_Lines) : k_maundlaw29_Op.rp I h ((.int .i64 x_Kind : Value) :: (.int .i64 x_Mark : Value) :: (.int .i64 x_M_Kind : Value) :: (.int .i64 x_M_From : Value) :: (.int .i64 x_M_To : Value) :: (.int .i64 x_M_Session : Value) :: (.int .i64 x_M_Part : Value) :: c0 ++ (v1 :: v2 :: v3 :: (.int .i64 x_A_ID : Value) :: (.int .i64 x_A_Err : Value) :: v4 :: []) : List Value) (⟨x_Kind, x_Mark, (⟨x_M_Kind, x_M_From, x_M_To, x_M_Session, x_M_Part, x_M_Digest, x_M_Places, x_M_Digests, x_M_Carts⟩ : proto_Msg), (⟨x_A_ID, x_A_Err, x_A_Lines⟩ : outbox_Answer)⟩ : maundlaw29_Op) := by
  have k : k_maundlaw29_Op.rp I h _ (⟨x_Kind, x_Mark, (⟨x_M_Kind, x_M_From, x_M_To, x_M_Session, x_M_Part, x_M_Digest, x_M_Places, x_M_Digests, x_M_Carts⟩ : proto_Msg), (⟨x_A_ID, x_A_Err, x_A_Lines⟩ : outbox_Answer)⟩ : maundlaw29_Op) := ⟨_, _, rfl, rfl, ⟨_, _, rfl, rfl, ⟨_, _, rfl, m_proto_Msg r0 r1 r2 r3, ⟨_, _, rfl, m_outbox_Answer r4, rfl⟩⟩⟩⟩
  simpa using k
structure outbox_held_proto_Msg_ where
  x : proto_Msg
  mark : Int
  deriving DecidableEq
instance : Inhabited outbox_held_proto_Msg_ := ⟨⟨default, default⟩⟩
def k_outbox_held_proto_Msg_ : Kd outbox_held_proto_Msg_ := kM (kP k_proto_Msg (kP (kI .i64) kU)) (fun x => (x.x, x.mark, ()))
theorem o_outbox_held_proto_Msg_ {I : Nat → Prop} {h : Heap} {cs : List Value} {x : outbox_held_proto_Msg_} (r : k_outbox_held_proto_Msg_.rp I h cs x) : ∃ c0 v1 v2 v3, cs = ((.int .i64 x.x.Kind : Value) :: (.int .i64 x.x.From : Value) :: (.int .i64 x.x.To : Value) :: (.int .i64 x.x.Session : Value) :: (.int .i64 x.x.Part : Value) :: c0 ++ (v1 :: v2 :: v3 :: (.int .i64 x.mark : Value) :: []) : List Value) ∧ ((kArr 32 (kI .u8))).rp I h c0 x.x.Digest ∧ SlR (kI .i64) I h v1 x.x.Places ∧ SlR (kArr 32 (kI .u8)) I h v2 x.x.Digests ∧ SlR k_pack_Keyed I h v3 x.x.Carts := by
  obtain ⟨d0, q0, e0, r0, ⟨d1, q1, e1, r1, z_⟩⟩ := r
  simp only at r0 r1 z_
  obtain ⟨w0_0, w0_1, w0_2, w0_3, rfl, s0_0, s0_1, s0_2, s0_3⟩ := o_proto_Msg r0
  obtain rfl := r1
  obtain rfl := z_
  subst e1
  subst e0
  exact ⟨w0_0, w0_1, w0_2, w0_3, by simp, s0_0, s0_1, s0_2, s0_3⟩
theorem m_outbox_held_proto_Msg_ {I : Nat → Prop} {h : Heap} {x_x_Kind : Int} {x_x_From : Int} {x_x_To : Int} {x_x_Session : Int} {x_x_Part : Int} {x_x_Digest : (List Int)} {x_x_Places : (List Int)} {x_x_Digests : (List (List Int))} {x_x_Carts : (List pack_Keyed)} {x_mark : Int} {c0 : List Value} {v1 : Value} {v2 : Value} {v3 : Value} (r0 : ((kArr 32 (kI .u8))).rp I h c0 x_x_Digest) (r1 : SlR (kI .i64) I h v1 x_x_Places) (r2 : SlR (kArr 32 (kI .u8)) I h v2 x_x_Digests) (r3 : SlR k_pack_Keyed I h v3 x_x_Carts) : k_outbox_held_proto_Msg_.rp I h ((.int .i64 x_x_Kind : Value) :: (.int .i64 x_x_From : Value) :: (.int .i64 x_x_To : Value) :: (.int .i64 x_x_Session : Value) :: (.int .i64 x_x_Part : Value) :: c0 ++ (v1 :: v2 :: v3 :: (.int .i64 x_mark : Value) :: []) : List Value) (⟨(⟨x_x_Kind, x_x_From, x_x_To, x_x_Session, x_x_Part, x_x_Digest, x_x_Places, x_x_Digests, x_x_Carts⟩ : proto_Msg), x_mark⟩ : outbox_held_proto_Msg_) := by
  have k : k_outbox_held_proto_Msg_.rp I h _ (⟨(⟨x_x_Kind, x_x_From, x_x_To, x_x_Session, x_x_Part, x_x_Digest, x_x_Places, x_x_Digests, x_x_Carts⟩ : proto_Msg), x_mark⟩ : outbox_held_proto_Msg_) := ⟨_, _, rfl, m_proto_Msg r0 r1 r2 r3, ⟨_, _, rfl, rfl, rfl⟩⟩
  simpa using k
structure outbox_held_outbox_Answer_ where
  x : outbox_Answer
  mark : Int
  deriving DecidableEq
instance : Inhabited outbox_held_outbox_Answer_ := ⟨⟨default, default⟩⟩
def k_outbox_held_outbox_Answer_ : Kd outbox_held_outbox_Answer_ := kM (kP k_outbox_Answer (kP (kI .i64) kU)) (fun x => (x.x, x.mark, ()))
theorem o_outbox_held_outbox_Answer_ {I : Nat → Prop} {h : Heap} {cs : List Value} {x : outbox_held_outbox_Answer_} (r : k_outbox_held_outbox_Answer_.rp I h cs x) : ∃ v0, cs = ((.int .i64 x.x.ID : Value) :: (.int .i64 x.x.Err : Value) :: v0 :: (.int .i64 x.mark : Value) :: [] : List Value) ∧ SlR (kI .i64) I h v0 x.x.Lines := by
  obtain ⟨d0, q0, e0, r0, ⟨d1, q1, e1, r1, z_⟩⟩ := r
  simp only at r0 r1 z_
  obtain ⟨w0_0, rfl, s0_0⟩ := o_outbox_Answer r0
  obtain rfl := r1
  obtain rfl := z_
  subst e1
  subst e0
  exact ⟨w0_0, by simp, s0_0⟩
theorem m_outbox_held_outbox_Answer_ {I : Nat → Prop} {h : Heap} {x_x_ID : Int} {x_x_Err : Int} {x_x_Lines : (List Int)} {x_mark : Int} {v0 : Value} (r0 : SlR (kI .i64) I h v0 x_x_Lines) : k_outbox_held_outbox_Answer_.rp I h ((.int .i64 x_x_ID : Value) :: (.int .i64 x_x_Err : Value) :: v0 :: (.int .i64 x_mark : Value) :: [] : List Value) (⟨(⟨x_x_ID, x_x_Err, x_x_Lines⟩ : outbox_Answer), x_mark⟩ : outbox_held_outbox_Answer_) := by
  have k : k_outbox_held_outbox_Answer_.rp I h _ (⟨(⟨x_x_ID, x_x_Err, x_x_Lines⟩ : outbox_Answer), x_mark⟩ : outbox_held_outbox_Answer_) := ⟨_, _, rfl, m_outbox_Answer r0, ⟨_, _, rfl, rfl, rfl⟩⟩
  simpa using k
structure outbox_Box where
  made : Bool
  out : (List outbox_held_proto_Msg_)
  answers : (List outbox_held_outbox_Answer_)
  lost : Int
  deriving DecidableEq
instance : Inhabited outbox_Box := ⟨⟨default, default, default, default⟩⟩
def k_outbox_Box : Kd outbox_Box := kM (kP kB (kP (kSl k_outbox_held_proto_Msg_) (kP (kSl k_outbox_held_outbox_Answer_) (kP (kI .i64) kU)))) (fun x => (x.made, x.out, x.answers, x.lost, ()))
theorem o_outbox_Box {I : Nat → Prop} {h : Heap} {cs : List Value} {x : outbox_Box} (r : k_outbox_Box.rp I h cs x) : ∃ v0 v1, cs = ((.bool x.made : Value) :: v0 :: v1 :: (.int .i64 x.lost : Value) :: [] : List Value) ∧ SlR k_outbox_held_proto_Msg_ I h v0 x.out ∧ SlR k_outbox_held_outbox_Answer_ I h v1 x.answers := by
  obtain ⟨d0, q0, e0, r0, ⟨d1, q1, e1, r1, ⟨d2, q2, e2, r2, ⟨d3, q3, e3, r3, z_⟩⟩⟩⟩ := r
  simp only at r0 r1 r2 r3 z_
  obtain rfl := r0
  obtain ⟨u1, rfl, r1⟩ := r1
  obtain ⟨u2, rfl, r2⟩ := r2
  obtain rfl := r3
  obtain rfl := z_
  subst e3
  subst e2
  subst e1
  subst e0
  exact ⟨u1, u2, by simp, r1, r2⟩
theorem m_outbox_Box {I : Nat → Prop} {h : Heap} {x_made : Bool} {x_out : (List outbox_held_proto_Msg_)} {x_answers : (List outbox_held_outbox_Answer_)} {x_lost : Int} {v0 : Value} {v1 : Value} (r0 : SlR k_outbox_held_proto_Msg_ I h v0 x_out) (r1 : SlR k_outbox_held_outbox_Answer_ I h v1 x_answers) : k_outbox_Box.rp I h ((.bool x_made : Value) :: v0 :: v1 :: (.int .i64 x_lost : Value) :: [] : List Value) (⟨x_made, x_out, x_answers, x_lost⟩ : outbox_Box) := by
  have k : k_outbox_Box.rp I h _ (⟨x_made, x_out, x_answers, x_lost⟩ : outbox_Box) := ⟨_, _, rfl, rfl, ⟨_, _, rfl, ⟨_, rfl, r0⟩, ⟨_, _, rfl, ⟨_, rfl, r1⟩, ⟨_, _, rfl, rfl, rfl⟩⟩⟩⟩
  exact k
structure wire_Writer where
  b : (List Int)
  deriving DecidableEq
instance : Inhabited wire_Writer := ⟨⟨default⟩⟩
def k_wire_Writer : Kd wire_Writer := kM (kP (kSl (kI .u8)) kU) (fun x => (x.b, ()))
theorem o_wire_Writer {I : Nat → Prop} {h : Heap} {cs : List Value} {x : wire_Writer} (r : k_wire_Writer.rp I h cs x) : ∃ v0, cs = (v0 :: [] : List Value) ∧ SlR (kI .u8) I h v0 x.b := by
  obtain ⟨d0, q0, e0, r0, z_⟩ := r
  simp only at r0 z_
  obtain ⟨u0, rfl, r0⟩ := r0
  obtain rfl := z_
  subst e0
  exact ⟨u0, by simp, r0⟩
theorem m_wire_Writer {I : Nat → Prop} {h : Heap} {x_b : (List Int)} {v0 : Value} (r0 : SlR (kI .u8) I h v0 x_b) : k_wire_Writer.rp I h (v0 :: [] : List Value) (⟨x_b⟩ : wire_Writer) := by
  have k : k_wire_Writer.rp I h _ (⟨x_b⟩ : wire_Writer) := ⟨_, _, rfl, ⟨_, rfl, r0⟩, rfl⟩
  exact k
structure wire_Reader where
  made : Bool
  b : (List Int)
  e : Int
  deriving DecidableEq
instance : Inhabited wire_Reader := ⟨⟨default, default, default⟩⟩
def k_wire_Reader : Kd wire_Reader := kM (kP kB (kP (kSl (kI .u8)) (kP (kI .i64) kU))) (fun x => (x.made, x.b, x.e, ()))
theorem o_wire_Reader {I : Nat → Prop} {h : Heap} {cs : List Value} {x : wire_Reader} (r : k_wire_Reader.rp I h cs x) : ∃ v0, cs = ((.bool x.made : Value) :: v0 :: (.int .i64 x.e : Value) :: [] : List Value) ∧ SlR (kI .u8) I h v0 x.b := by
  obtain ⟨d0, q0, e0, r0, ⟨d1, q1, e1, r1, ⟨d2, q2, e2, r2, z_⟩⟩⟩ := r
  simp only at r0 r1 r2 z_
  obtain rfl := r0
  obtain ⟨u1, rfl, r1⟩ := r1
  obtain rfl := r2
  obtain rfl := z_
  subst e2
  subst e1
  subst e0
  exact ⟨u1, by simp, r1⟩
theorem m_wire_Reader {I : Nat → Prop} {h : Heap} {x_made : Bool} {x_b : (List Int)} {x_e : Int} {v0 : Value} (r0 : SlR (kI .u8) I h v0 x_b) : k_wire_Reader.rp I h ((.bool x_made : Value) :: v0 :: (.int .i64 x_e : Value) :: [] : List Value) (⟨x_made, x_b, x_e⟩ : wire_Reader) := by
  have k : k_wire_Reader.rp I h _ (⟨x_made, x_b, x_e⟩ : wire_Reader) := ⟨_, _, rfl, rfl, ⟨_, _, rfl, ⟨_, rfl, r0⟩, ⟨_, _, rfl, rfl, rfl⟩⟩⟩
  exact k
theorem z_T26 {I : Nat → Prop} {h : Heap} : ((kArr 8 (kI .u64))).rp I h (List.replicate 8 (.int .u64 0 : Value)) (List.replicate 8 (0 : Int)) := zArr (n := 1) rfl rfl 8
theorem z_T65 {I : Nat → Prop} {h : Heap} : ((kArr 32 (kI .u8))).rp I h (List.replicate 32 (.int .u8 0 : Value)) (List.replicate 32 (0 : Int)) := zArr (n := 1) rfl rfl 32
theorem pl_T77 : ∃ fs, Tryz.prog.underlying 77 = some (.struct fs) ∧ ∀ w, Sem.run Tryz.prog (fs.mapM fun f => do pure (f.offset, ← sizeOf f.type)) w = .ok (placesOf 0 [1, 1, 1, 1, 1, 32, 1, 1, 1]).toArray w := ⟨_, Tryz.underlying77, fun w => by kernel_rfl⟩
theorem pl_T104 : ∃ fs, Tryz.prog.underlying 104 = some (.struct fs) ∧ ∀ w, Sem.run Tryz.prog (fs.mapM fun f => do pure (f.offset, ← sizeOf f.type)) w = .ok (placesOf 0 [1, 1, 1]).toArray w := ⟨_, Tryz.underlying104, fun w => by kernel_rfl⟩
theorem pl_T118 : ∃ fs, Tryz.prog.underlying 118 = some (.struct fs) ∧ ∀ w, Sem.run Tryz.prog (fs.mapM fun f => do pure (f.offset, ← sizeOf f.type)) w = .ok (placesOf 0 [1, 1, 1, 1]).toArray w := ⟨_, Tryz.underlying118, fun w => by kernel_rfl⟩
theorem pl_T213 : ∃ fs, Tryz.prog.underlying 213 = some (.struct fs) ∧ ∀ w, Sem.run Tryz.prog (fs.mapM fun f => do pure (f.offset, ← sizeOf f.type)) w = .ok (placesOf 0 [1]).toArray w := ⟨_, Tryz.underlying213, fun w => by kernel_rfl⟩
theorem pl_T280 : ∃ fs, Tryz.prog.underlying 280 = some (.struct fs) ∧ ∀ w, Sem.run Tryz.prog (fs.mapM fun f => do pure (f.offset, ← sizeOf f.type)) w = .ok (placesOf 0 [40, 1]).toArray w := ⟨_, Tryz.underlying280, fun w => by kernel_rfl⟩
theorem pl_T282 : ∃ fs, Tryz.prog.underlying 282 = some (.struct fs) ∧ ∀ w, Sem.run Tryz.prog (fs.mapM fun f => do pure (f.offset, ← sizeOf f.type)) w = .ok (placesOf 0 [3, 1]).toArray w := ⟨_, Tryz.underlying282, fun w => by kernel_rfl⟩
theorem pl_T373 : ∃ fs, Tryz.prog.underlying 373 = some (.struct fs) ∧ ∀ w, Sem.run Tryz.prog (fs.mapM fun f => do pure (f.offset, ← sizeOf f.type)) w = .ok (placesOf 0 [1, 1, 1]).toArray w := ⟨_, Tryz.underlying373, fun w => by kernel_rfl⟩
theorem q_T65 : EqV Tryz.prog 65 true (kArr 32 (kI .u8)) 2 := eqArr (g := false) Tryz.underlying65 Tryz.isAgg5 Tryz.sizeOf5 (by decide) (eqInt Tryz.underlying5)
variable [Sky]
def p_maundlaw06_Great (a0 : cart_Cart) : Option (Bool) :=
  some (decide ((a0.L.length : Int) > 60))
theorem c_maundlaw06_Great {h : Heap} {I : Nat → Prop} (hI : ∀ b, I b → b < h.size) {c_a0 : List Value} {a0 : cart_Cart} (r_a0 : (k_cart_Cart).rp I h c_a0 a0) {r : (Bool)} (H : p_maundlaw06_Great a0 = some r) :
    Fn Tryz.prog 126 [.agg c_a0.toArray] h (fun v h' => Stp [] h h' ∧ v = (.bool r : Value)) := by
  unfold p_maundlaw06_Great at H
  obtain ⟨c1, v3, rfl, r2, r4⟩ := o_cart_Cart r_a0
  refine Fn.of 7 Tryz.func126 rfl rfl ?_
  have s0 := St.start hI
  refine C.seq ?_
  refine C.region 2 rfl ?_
  refine X.ef rfl rfl rfl (eBox (cs := (c1 ++ (v3 :: []) : List Value)) rfl rfl) ?_
  rintro _ h6 ⟨rfl, e11⟩
  obtain ⟨b5, e11b⟩ : ∃ b, b = h.size := ⟨_, rfl⟩
  rw [← e11b]
  have f10 : Box h6 b5 29 (c1 ++ (v3 :: []) : List Value) := by subst e11; subst e11b; exact Box.new _ _ _
  have p8 : Stp [] h h6 := by subst e11; exact Stp.push _ _
  have s9 : St [] h I h6 I (some b5 :: []) := by subst e11; subst e11b; exact s0.new _
  have t7 := s0.tr p8 (by simp) (fun _ hb => hb)
  clear e11 e11b
  refine ⟨trivial, ?_⟩
  refine X.val rfl rfl rfl (yAssign rfl) trivial ?_
  refine X.nil ?_
  refine At.then ?_
  refine C.seq ?_
  refine C.region 5 rfl ?_
  refine X.val (v := .pointer (some ⟨b5, 8, none⟩)) rfl rfl rfl (yField 27 8 Tryz.underlying29 Tryz.sizeOf27 rfl rfl rfl) trivial ?_
  have l12 : c1.length = 8 := (kArr 8 (kI .u64)).len r2
  refine X.val (v := v3) rfl rfl rfl (yLoadS (j := 8) Tryz.isAgg27 rfl (f10).all rfl (by simp [l12])) trivial ?_
  refine X.val rfl rfl rfl (yLenR Tryz.underlying27 rfl (r4.mono t7)) trivial ?_
  refine X.val rfl rfl rfl (yGtr rfl rfl) trivial ?_
  refine X.val rfl rfl rfl (yAssign rfl) trivial ?_
  refine X.nil ?_
  refine At.then ?_
  refine C.ret ?_
  obtain rfl := sm H
  refine At.retn (rs := [.tmp 2]) [.bool (decide ((a0.L.length : Int) > 60))] rfl ?_ ?_
  exact ⟨Rv.tmp rfl, trivial⟩
  exact ⟨s9.stp, rfl⟩

def p_maundlaw10_Great_l0 (K : Nat) (a0 : (List pack_Keyed)) : Nat → Int → Option (Sum (Bool) (Int))
  | 0, _ => none
  | k21 + 1, y15 => (if y15 < (a0.length : Int) then (if (a0.length : Int) > 30 then some (Sum.inl true) else (if 0 ≤ y15 ∧ y15 < (a0.length : Int) then (if (((rd a0 y15).Key).length : Int) > 100 then some (Sum.inl true) else (if 0 ≤ y15 ∧ y15 < (a0.length : Int) then (p_maundlaw06_Great ((rd a0 y15).Cart)).bind fun x53 => (bif x53 then some (Sum.inl true) else (p_maundlaw10_Great_l0 K a0 k21 (IntKind.i64.wrap (y15 + 1)))) else none)) else none)) else some (Sum.inr y15))
def p_maundlaw10_Great (K : Nat) (a0 : (List pack_Keyed)) : Option (Bool) :=
  (p_maundlaw10_Great_l0 K a0 K 0).bind fun z18 => match z18 with | .inl r => some r | .inr w59 => some false
theorem c_maundlaw10_Great {K : Nat} {h : Heap} {I : Nat → Prop} (hI : ∀ b, I b → b < h.size) {v_a0 : Value} {a0 : (List pack_Keyed)} (r_a0 : SlR k_pack_Keyed I h v_a0 a0) {r : (Bool)} (H : p_maundlaw10_Great K a0 = some r) :
    Fn Tryz.prog 28 [v_a0] h (fun v h' => Stp [] h h' ∧ v = (.bool r : Value)) := by
  unfold p_maundlaw10_Great at H
  refine Fn.of 30 Tryz.func28 rfl rfl ?_
  have s0 := St.start hI
  refine C.seq ?_
  refine C.region 1 rfl ?_
  refine X.val rfl rfl rfl (yAssign rfl) trivial ?_
  refine X.nil ?_
  refine At.then ?_
  refine C.seq ?_
  refine C.seq ?_
  refine C.region 1 rfl ?_
  refine X.val rfl rfl rfl (yAssign rfl) trivial ?_
  refine X.nil ?_
  refine At.then ?_
  refine C.block ?_
  obtain ⟨z18, e20, G19⟩ := bnd H
  refine C.prune [(0, v_a0), (3, .int .i64 0)] (fun a ha => (.cons ha rfl (.cons ha rfl ha.nil))) ?_
  refine C.loop (fun k21 e h13 => ∃ (y15 : Int) (I14 : Nat → Prop), e = [(0, v_a0), (3, .int .i64 y15)] ∧ St [] h I h13 I14 [] ∧ Tr I h I14 h13 ∧ p_maundlaw10_Great_l0 K a0 k21 y15 = some z18) K ⟨0, I, rfl, s0, Tr.refl _ _, e20⟩ ?_ ?_
  · rintro e h' ⟨_, _, _, _, _, H⟩; cases (show none = some _ from H)
  · rintro k21 e h13 ⟨y15, I14, rfl, s16, t17, H⟩
    rw [p_maundlaw10_Great_l0] at H
    refine C.seq ?_
    refine C.seq ?_
    refine C.region 4 rfl ?_
    refine X.val rfl rfl rfl (yMove rfl) trivial ?_
    refine X.val rfl rfl rfl (yMove rfl) trivial ?_
    refine X.val rfl rfl rfl (yLenR Tryz.underlying58 rfl (r_a0.mono t17)) trivial ?_
    by_cases g22 : y15 < (a0.length : Int)
    · have H := ifT g22 H
      refine X.val rfl rfl rfl (yBT g22 (yLss rfl rfl)) trivial ?_
      refine X.nil ?_
      refine At.then ?_
      refine C.condT rfl ?_
      refine C.skip ?_
      refine At.then ?_
      refine C.seq ?_
      refine C.block ?_
      refine C.seq ?_
      refine C.region 20 rfl ?_
      refine X.val rfl rfl rfl (yMove rfl) trivial ?_
      refine X.val rfl rfl rfl (yLenR Tryz.underlying58 rfl (r_a0.mono t17)) trivial ?_
      by_cases g23 : (a0.length : Int) > 30
      · have H := ifT g23 H
        refine X.val rfl rfl rfl (yBT g23 (yGtr rfl rfl)) trivial ?_
        refine X.val rfl rfl rfl (yMove rfl) trivial ?_
        refine X.skip rfl rfl rfl trivial ?_
        refine X.skip rfl rfl rfl trivial ?_
        refine X.skip rfl rfl rfl trivial ?_
        refine X.skip rfl rfl rfl trivial ?_
        refine X.skip rfl rfl rfl trivial ?_
        refine X.skip rfl rfl rfl trivial ?_
        refine X.skip rfl rfl rfl trivial ?_
        refine X.val rfl rfl rfl (yPickT rfl rfl) trivial ?_
        refine X.val rfl rfl rfl (yMove rfl) trivial ?_
        refine X.skip rfl rfl rfl trivial ?_
        refine X.skip rfl rfl rfl trivial ?_
        refine X.skip rfl rfl rfl trivial ?_
        refine X.skip rfl rfl rfl trivial ?_
        refine X.skip rfl rfl rfl trivial ?_
        refine X.skip rfl rfl rfl trivial ?_
        refine X.val rfl rfl rfl (yPickT rfl rfl) trivial ?_
        refine X.nil ?_
        refine At.then ?_
        refine C.condT rfl ?_
        refine C.seq ?_
        refine C.region 1 rfl ?_
        refine X.val rfl rfl rfl (yAssign rfl) trivial ?_
        refine X.nil ?_
        refine At.then ?_
        refine C.ret ?_
        refine At.blkR ?_
        refine At.thenR ?_
        refine At.backR ?_
        obtain rfl := sm H
        have H := G19
        try dsimp only at H
        refine At.blkR ?_
        refine At.thenR ?_
        obtain rfl := sm H
        refine At.retn (rs := [.tmp 2]) [.bool true] rfl ?_ ?_
        exact ⟨Rv.tmp rfl, trivial⟩
        exact ⟨s16.stp, rfl⟩
      · have H := ifF g23 H
        refine X.val rfl rfl rfl (yBF g23 (yGtr rfl rfl)) trivial ?_
        refine X.val rfl rfl rfl (yMove rfl) trivial ?_
        refine X.val rfl rfl rfl (yMove rfl) trivial ?_
        refine X.val rfl rfl rfl (yMove rfl) trivial ?_
        obtain ⟨⟨g32, g24⟩, H⟩ := ifS H
        obtain ⟨b25, w26, k27, c28, e29, r30, m31⟩ := SlR.get (r_a0.mono t17) g32 g24
        obtain ⟨c33, v35, rfl, r34, r36⟩ := o_pack_Keyed r30
        refine X.val (v := .pointer (some ⟨b25, w26 + (y15).toNat * 10, none⟩)) rfl rfl rfl (yIdxS Tryz.underlying58 Tryz.sizeOf172 (by rw [← e29]; rfl) rfl g32 g24) trivial ?_
        refine X.val (v := .pointer (some ⟨b25, w26 + (y15).toNat * 10 + 0, none⟩)) rfl rfl rfl (yField 9 0 Tryz.underlying172 Tryz.sizeOf9 rfl rfl rfl) trivial ?_
        have l37 : c33.length = 8 := (kArr 8 (kI .u64)).len r34
        refine X.val (v := .string ⟨((rd a0 y15).Key).toArray⟩) rfl rfl rfl (yLoadS (j := 0) Tryz.isAgg9 rfl m31.rd rfl (by simp [l37])) trivial ?_
        refine X.val rfl rfl rfl (yLenS Tryz.underlying9 rfl) trivial ?_
        by_cases g38 : (((rd a0 y15).Key).length : Int) > 100
        · have H := ifT g38 H
          refine X.val rfl rfl rfl (yBT g38 (yGtr rfl rfl)) trivial ?_
          refine X.val rfl rfl rfl (yPickF rfl rfl) trivial ?_
          refine X.val rfl rfl rfl (yMove rfl) trivial ?_
          refine X.skip rfl rfl rfl trivial ?_
          refine X.skip rfl rfl rfl trivial ?_
          refine X.skip rfl rfl rfl trivial ?_
          refine X.skip rfl rfl rfl trivial ?_
          refine X.skip rfl rfl rfl trivial ?_
          refine X.skip rfl rfl rfl trivial ?_
          refine X.val rfl rfl rfl (yPickT rfl rfl) trivial ?_
          refine X.nil ?_
          refine At.then ?_
          refine C.condT rfl ?_
          refine C.seq ?_
          refine C.region 1 rfl ?_
          refine X.val rfl rfl rfl (yAssign rfl) trivial ?_
          refine X.nil ?_
          refine At.then ?_
          refine C.ret ?_
          refine At.blkR ?_
          refine At.thenR ?_
          refine At.backR ?_
          obtain rfl := sm H
          have H := G19
          try dsimp only at H
          refine At.blkR ?_
          refine At.thenR ?_
          obtain rfl := sm H
          refine At.retn (rs := [.tmp 2]) [.bool true] rfl ?_ ?_
          exact ⟨Rv.tmp rfl, trivial⟩
          exact ⟨s16.stp, rfl⟩
        · have H := ifF g38 H
          refine X.val rfl rfl rfl (yBF g38 (yGtr rfl rfl)) trivial ?_
          refine X.val rfl rfl rfl (yPickF rfl rfl) trivial ?_
          refine X.val rfl rfl rfl (yMove rfl) trivial ?_
          refine X.val rfl rfl rfl (yMove rfl) trivial ?_
          refine X.val rfl rfl rfl (yMove rfl) trivial ?_
          obtain ⟨⟨g47, g39⟩, H⟩ := ifS H
          obtain ⟨b40, w41, k42, c43, e44, r45, m46⟩ := SlR.get (r_a0.mono t17) g47 g39
          obtain ⟨c48, v50, rfl, r49, r51⟩ := o_pack_Keyed r45
          refine X.val (v := .pointer (some ⟨b40, w41 + (y15).toNat * 10, none⟩)) rfl rfl rfl (yIdxS Tryz.underlying58 Tryz.sizeOf172 (by rw [← e44]; rfl) rfl g47 g39) trivial ?_
          refine X.val (v := .pointer (some ⟨b40, w41 + (y15).toNat * 10 + 1, none⟩)) rfl rfl rfl (yField 29 1 Tryz.underlying172 Tryz.sizeOf29 rfl rfl rfl) trivial ?_
          have l52 : c48.length = 8 := (kArr 8 (kI .u64)).len r49
          refine X.val (v := .agg ((c48 ++ (v50 :: []) : List Value)).toArray) rfl rfl rfl (yLoadA (j := 1) (mid := (c48 ++ (v50 :: []) : List Value)) Tryz.isAgg29 Tryz.sizeOf29 rfl m46.rd rfl (by first | (simp [l52]; done) | (simp [List.take_append, List.drop_append, List.take_of_length_le, l52]; done)) (by simp [l52])) trivial ?_
          obtain ⟨x53, e54, H⟩ := bnd H
          refine X.call (all := [.agg ((c48 ++ (v50 :: []) : List Value)).toArray]) Tryz.call126 rfl rfl rfl rfl rfl rfl (c_maundlaw06_Great s16.ib (m_cart_Cart r49 r51) e54) ?_
          rintro _ h55 ⟨p56, rfl⟩
          have s57 := s16.call p56
          have t58 := s16.callTr p56
          refine ⟨trivial, ?_⟩
          refine X.val rfl rfl rfl (yPickF rfl rfl) trivial ?_
          refine X.nil ?_
          refine At.then ?_
          cases x53
          · have H := biF H
            refine C.condF rfl ?_
            refine C.skip ?_
            refine At.blkN ?_
            refine At.then ?_
            refine C.region 3 rfl ?_
            refine X.val rfl rfl rfl (yMove rfl) trivial ?_
            refine X.val rfl rfl rfl (yAdd rfl rfl) trivial ?_
            refine X.val rfl rfl rfl (yAssign rfl) trivial ?_
            refine X.nil ?_
            refine At.back [(0, v_a0), (3, .int .i64 (IntKind.i64.wrap (y15 + 1)))] (fun a ha => (.cons ha rfl (.cons ha rfl ha.nil))) ?_
            exact ⟨(IntKind.i64.wrap (y15 + 1)), (Ex I14 h13 h55), rfl, s57, (t17.trans t58), H⟩
          · have H := biT H
            refine C.condT rfl ?_
            refine C.seq ?_
            refine C.region 1 rfl ?_
            refine X.val rfl rfl rfl (yAssign rfl) trivial ?_
            refine X.nil ?_
            refine At.then ?_
            refine C.ret ?_
            refine At.blkR ?_
            refine At.thenR ?_
            refine At.backR ?_
            obtain rfl := sm H
            have H := G19
            try dsimp only at H
            refine At.blkR ?_
            refine At.thenR ?_
            obtain rfl := sm H
            refine At.retn (rs := [.tmp 2]) [.bool true] rfl ?_ ?_
            exact ⟨Rv.tmp rfl, trivial⟩
            exact ⟨s57.stp, rfl⟩
    · have H := ifF g22 H
      refine X.val rfl rfl rfl (yBF g22 (yLss rfl rfl)) trivial ?_
      refine X.nil ?_
      refine At.then ?_
      refine C.condF rfl ?_
      refine C.exit ?_
      refine At.thenE ?_
      refine At.backE ?_
      obtain rfl := sm H
      have H := G19
      try dsimp only at H
      refine At.blkE ?_
      refine At.then ?_
      refine C.seq ?_
      refine C.region 1 rfl ?_
      refine X.val rfl rfl rfl (yAssign rfl) trivial ?_
      refine X.nil ?_
      refine At.then ?_
      refine C.ret ?_
      obtain rfl := sm H
      refine At.retn (rs := [.tmp 2]) [.bool false] rfl ?_ ?_
      exact ⟨Rv.tmp rfl, trivial⟩
      exact ⟨s16.stp, rfl⟩

def p_maundlaw26_Great (K : Nat) (a0 : proto_Msg) : Option (Bool) :=
  (if (a0.Places.length : Int) > 60 then some true else (if (a0.Digests.length : Int) > 60 then some true else (p_maundlaw10_Great K a0.Carts).bind fun x80 => some x80))
theorem c_maundlaw26_Great {K : Nat} {h : Heap} {I : Nat → Prop} (hI : ∀ b, I b → b < h.size) {c_a0 : List Value} {a0 : proto_Msg} (r_a0 : (k_proto_Msg).rp I h c_a0 a0) {r : (Bool)} (H : p_maundlaw26_Great K a0 = some r) :
    Fn Tryz.prog 36 [.agg c_a0.toArray] h (fun v h' => Stp [] h h' ∧ v = (.bool r : Value)) := by
  unfold p_maundlaw26_Great at H
  obtain ⟨c60, v62, v64, v66, rfl, r61, r63, r65, r67⟩ := o_proto_Msg r_a0
  refine Fn.of 18 Tryz.func36 rfl rfl ?_
  have s0 := St.start hI
  refine C.seq ?_
  refine C.region 2 rfl ?_
  refine X.ef rfl rfl rfl (eBox (cs := ((.int .i64 a0.Kind : Value) :: (.int .i64 a0.From : Value) :: (.int .i64 a0.To : Value) :: (.int .i64 a0.Session : Value) :: (.int .i64 a0.Part : Value) :: c60 ++ (v62 :: v64 :: v66 :: []) : List Value)) rfl rfl) ?_
  rintro _ h69 ⟨rfl, e74⟩
  obtain ⟨b68, e74b⟩ : ∃ b, b = h.size := ⟨_, rfl⟩
  rw [← e74b]
  have f73 : Box h69 b68 77 ((.int .i64 a0.Kind : Value) :: (.int .i64 a0.From : Value) :: (.int .i64 a0.To : Value) :: (.int .i64 a0.Session : Value) :: (.int .i64 a0.Part : Value) :: c60 ++ (v62 :: v64 :: v66 :: []) : List Value) := by subst e74; subst e74b; exact Box.new _ _ _
  have p71 : Stp [] h h69 := by subst e74; exact Stp.push _ _
  have s72 : St [] h I h69 I (some b68 :: []) := by subst e74; subst e74b; exact s0.new _
  have t70 := s0.tr p71 (by simp) (fun _ hb => hb)
  clear e74 e74b
  refine ⟨trivial, ?_⟩
  refine X.val rfl rfl rfl (yAssign rfl) trivial ?_
  refine X.nil ?_
  refine At.then ?_
  refine C.seq ?_
  refine C.region 16 rfl ?_
  refine X.val (v := .pointer (some ⟨b68, 37, none⟩)) rfl rfl rfl (yField 67 37 Tryz.underlying77 Tryz.sizeOf67 rfl rfl rfl) trivial ?_
  have l75 : c60.length = 32 := (kArr 32 (kI .u8)).len r61
  refine X.val (v := v62) rfl rfl rfl (yLoadS (j := 37) Tryz.isAgg67 rfl (f73).all rfl (by simp [l75])) trivial ?_
  refine X.val rfl rfl rfl (yLenR Tryz.underlying67 rfl (r63.mono t70)) trivial ?_
  by_cases g76 : (a0.Places.length : Int) > 60
  · have H := ifT g76 H
    refine X.val rfl rfl rfl (yBT g76 (yGtr rfl rfl)) trivial ?_
    refine X.val rfl rfl rfl (yMove rfl) trivial ?_
    refine X.skip rfl rfl rfl trivial ?_
    refine X.skip rfl rfl rfl trivial ?_
    refine X.skip rfl rfl rfl trivial ?_
    refine X.skip rfl rfl rfl trivial ?_
    refine X.val rfl rfl rfl (yPickT rfl rfl) trivial ?_
    refine X.val rfl rfl rfl (yMove rfl) trivial ?_
    refine X.skip rfl rfl rfl trivial ?_
    refine X.skip rfl rfl rfl trivial ?_
    refine X.skip rfl rfl rfl trivial ?_
    refine X.val rfl rfl rfl (yPickT rfl rfl) trivial ?_
    refine X.val rfl rfl rfl (yAssign rfl) trivial ?_
    refine X.nil ?_
    refine At.then ?_
    refine C.ret ?_
    obtain rfl := sm H
    refine At.retn (rs := [.tmp 2]) [.bool true] rfl ?_ ?_
    exact ⟨Rv.tmp rfl, trivial⟩
    exact ⟨s72.stp, rfl⟩
  · have H := ifF g76 H
    refine X.val rfl rfl rfl (yBF g76 (yGtr rfl rfl)) trivial ?_
    refine X.val rfl rfl rfl (yMove rfl) trivial ?_
    refine X.val (v := .pointer (some ⟨b68, 38, none⟩)) rfl rfl rfl (yField 75 38 Tryz.underlying77 Tryz.sizeOf75 rfl rfl rfl) trivial ?_
    have l77 : c60.length = 32 := (kArr 32 (kI .u8)).len r61
    refine X.val (v := v64) rfl rfl rfl (yLoadS (j := 38) Tryz.isAgg75 rfl (f73).all rfl (by simp [l77])) trivial ?_
    refine X.val rfl rfl rfl (yLenR Tryz.underlying75 rfl (r65.mono t70)) trivial ?_
    by_cases g78 : (a0.Digests.length : Int) > 60
    · have H := ifT g78 H
      refine X.val rfl rfl rfl (yBT g78 (yGtr rfl rfl)) trivial ?_
      refine X.val rfl rfl rfl (yPickF rfl rfl) trivial ?_
      refine X.val rfl rfl rfl (yMove rfl) trivial ?_
      refine X.skip rfl rfl rfl trivial ?_
      refine X.skip rfl rfl rfl trivial ?_
      refine X.skip rfl rfl rfl trivial ?_
      refine X.val rfl rfl rfl (yPickT rfl rfl) trivial ?_
      refine X.val rfl rfl rfl (yAssign rfl) trivial ?_
      refine X.nil ?_
      refine At.then ?_
      refine C.ret ?_
      obtain rfl := sm H
      refine At.retn (rs := [.tmp 2]) [.bool true] rfl ?_ ?_
      exact ⟨Rv.tmp rfl, trivial⟩
      exact ⟨s72.stp, rfl⟩
    · have H := ifF g78 H
      refine X.val rfl rfl rfl (yBF g78 (yGtr rfl rfl)) trivial ?_
      refine X.val rfl rfl rfl (yPickF rfl rfl) trivial ?_
      refine X.val rfl rfl rfl (yMove rfl) trivial ?_
      refine X.val (v := .pointer (some ⟨b68, 39, none⟩)) rfl rfl rfl (yField 58 39 Tryz.underlying77 Tryz.sizeOf58 rfl rfl rfl) trivial ?_
      have l79 : c60.length = 32 := (kArr 32 (kI .u8)).len r61
      refine X.val (v := v66) rfl rfl rfl (yLoadS (j := 39) Tryz.isAgg58 rfl (f73).all rfl (by simp [l79])) trivial ?_
      obtain ⟨x80, e81, H⟩ := bnd H
      refine X.call (all := [v66]) Tryz.call28 rfl rfl rfl rfl rfl rfl (c_maundlaw10_Great s72.ib (r67.mono t70) e81) ?_
      rintro _ h82 ⟨p83, rfl⟩
      have s84 := s72.call p83
      have t85 := s72.callTr p83
      refine ⟨trivial, ?_⟩
      refine X.val rfl rfl rfl (yPickF rfl rfl) trivial ?_
      refine X.val rfl rfl rfl (yAssign rfl) trivial ?_
      refine X.nil ?_
      refine At.then ?_
      refine C.ret ?_
      obtain rfl := sm H
      refine At.retn (rs := [.tmp 2]) [.bool x80] rfl ?_ ?_
      exact ⟨Rv.tmp rfl, trivial⟩
      exact ⟨s84.stp, rfl⟩

def p_maundlaw29_Great_l0 (K : Nat) (a0 : (List maundlaw29_Op)) : Nat → Int → Option (Sum (Bool) (Int))
  | 0, _ => none
  | k94 + 1, y88 => (if y88 < (a0.length : Int) then (if (a0.length : Int) > 60 then some (Sum.inl true) else (if 0 ≤ y88 ∧ y88 < (a0.length : Int) then (p_maundlaw26_Great K ((rd a0 y88).M)).bind fun x117 => (bif x117 then some (Sum.inl true) else (if 0 ≤ y88 ∧ y88 < (a0.length : Int) then (if (((rd a0 y88).A.Lines).length : Int) > 100 then some (Sum.inl true) else (if 0 ≤ y88 ∧ y88 < (a0.length : Int) then (if ((rd a0 y88).Kind) = 5 then (if 0 ≤ y88 ∧ y88 < (a0.length : Int) then (if ((rd a0 y88).Mark) > 600 then some (Sum.inl true) else (p_maundlaw29_Great_l0 K a0 k94 (IntKind.i64.wrap (y88 + 1)))) else none) else (p_maundlaw29_Great_l0 K a0 k94 (IntKind.i64.wrap (y88 + 1)))) else none)) else none)) else none)) else some (Sum.inr y88))
def p_maundlaw29_Great (K : Nat) (a0 : (List maundlaw29_Op)) : Option (Bool) :=
  (p_maundlaw29_Great_l0 K a0 K 0).bind fun z91 => match z91 with | .inl r => some r | .inr w186 => some false
theorem c_maundlaw29_Great {K : Nat} {h : Heap} {I : Nat → Prop} (hI : ∀ b, I b → b < h.size) {v_a0 : Value} {a0 : (List maundlaw29_Op)} (r_a0 : SlR k_maundlaw29_Op I h v_a0 a0) {r : (Bool)} (H : p_maundlaw29_Great K a0 = some r) :
    Fn Tryz.prog 48 [v_a0] h (fun v h' => Stp [] h h' ∧ v = (.bool r : Value)) := by
  unfold p_maundlaw29_Great at H
  refine Fn.of 47 Tryz.func48 rfl rfl ?_
  have s0 := St.start hI
  refine C.seq ?_
  refine C.region 1 rfl ?_
  refine X.val rfl rfl rfl (yAssign rfl) trivial ?_
  refine X.nil ?_
  refine At.then ?_
  refine C.seq ?_
  refine C.seq ?_
  refine C.region 1 rfl ?_
  refine X.val rfl rfl rfl (yAssign rfl) trivial ?_
  refine X.nil ?_
  refine At.then ?_
  refine C.block ?_
  obtain ⟨z91, e93, G92⟩ := bnd H
  refine C.prune [(0, v_a0), (3, .int .i64 0)] (fun a ha => (.cons ha rfl (.cons ha rfl ha.nil))) ?_
  refine C.loop (fun k94 e h86 => ∃ (y88 : Int) (I87 : Nat → Prop), e = [(0, v_a0), (3, .int .i64 y88)] ∧ St [] h I h86 I87 [] ∧ Tr I h I87 h86 ∧ p_maundlaw29_Great_l0 K a0 k94 y88 = some z91) K ⟨0, I, rfl, s0, Tr.refl _ _, e93⟩ ?_ ?_
  · rintro e h' ⟨_, _, _, _, _, H⟩; cases (show none = some _ from H)
  · rintro k94 e h86 ⟨y88, I87, rfl, s89, t90, H⟩
    rw [p_maundlaw29_Great_l0] at H
    refine C.seq ?_
    refine C.seq ?_
    refine C.region 4 rfl ?_
    refine X.val rfl rfl rfl (yMove rfl) trivial ?_
    refine X.val rfl rfl rfl (yMove rfl) trivial ?_
    refine X.val rfl rfl rfl (yLenR Tryz.underlying94 rfl (r_a0.mono t90)) trivial ?_
    by_cases g95 : y88 < (a0.length : Int)
    · have H := ifT g95 H
      refine X.val rfl rfl rfl (yBT g95 (yLss rfl rfl)) trivial ?_
      refine X.nil ?_
      refine At.then ?_
      refine C.condT rfl ?_
      refine C.skip ?_
      refine At.then ?_
      refine C.seq ?_
      refine C.block ?_
      refine C.seq ?_
      refine C.region 37 rfl ?_
      refine X.val rfl rfl rfl (yMove rfl) trivial ?_
      refine X.val rfl rfl rfl (yLenR Tryz.underlying94 rfl (r_a0.mono t90)) trivial ?_
      by_cases g96 : (a0.length : Int) > 60
      · have H := ifT g96 H
        refine X.val rfl rfl rfl (yBT g96 (yGtr rfl rfl)) trivial ?_
        refine X.val rfl rfl rfl (yMove rfl) trivial ?_
        refine X.skip rfl rfl rfl trivial ?_
        refine X.skip rfl rfl rfl trivial ?_
        refine X.skip rfl rfl rfl trivial ?_
        refine X.skip rfl rfl rfl trivial ?_
        refine X.skip rfl rfl rfl trivial ?_
        refine X.skip rfl rfl rfl trivial ?_
        refine X.val rfl rfl rfl (yPickT rfl rfl) trivial ?_
        refine X.val rfl rfl rfl (yMove rfl) trivial ?_
        refine X.skip rfl rfl rfl trivial ?_
        refine X.skip rfl rfl rfl trivial ?_
        refine X.skip rfl rfl rfl trivial ?_
        refine X.skip rfl rfl rfl trivial ?_
        refine X.skip rfl rfl rfl trivial ?_
        refine X.skip rfl rfl rfl trivial ?_
        refine X.skip rfl rfl rfl trivial ?_
        refine X.skip rfl rfl rfl trivial ?_
        refine X.val rfl rfl rfl (yPickT rfl rfl) trivial ?_
        refine X.val rfl rfl rfl (yMove rfl) trivial ?_
        refine X.skip rfl rfl rfl trivial ?_
        refine X.skip rfl rfl rfl trivial ?_
        refine X.skip rfl rfl rfl trivial ?_
        refine X.skip rfl rfl rfl trivial ?_
        refine X.skip rfl rfl rfl trivial ?_
        refine X.skip rfl rfl rfl trivial ?_
        refine X.skip rfl rfl rfl trivial ?_
        refine X.skip rfl rfl rfl trivial ?_
        refine X.skip rfl rfl rfl trivial ?_
        refine X.skip rfl rfl rfl trivial ?_
        refine X.skip rfl rfl rfl trivial ?_
        refine X.skip rfl rfl rfl trivial ?_
        refine X.skip rfl rfl rfl trivial ?_
        refine X.skip rfl rfl rfl trivial ?_
        refine X.val rfl rfl rfl (yPickT rfl rfl) trivial ?_
        refine X.nil ?_
        refine At.then ?_
        refine C.condT rfl ?_
        refine C.seq ?_
        refine C.region 1 rfl ?_
        refine X.val rfl rfl rfl (yAssign rfl) trivial ?_
        refine X.nil ?_
        refine At.then ?_
        refine C.ret ?_
        refine At.blkR ?_
        refine At.thenR ?_
        refine At.backR ?_
        obtain rfl := sm H
        have H := G92
        try dsimp only at H
        refine At.blkR ?_
        refine At.thenR ?_
        obtain rfl := sm H
        refine At.retn (rs := [.tmp 2]) [.bool true] rfl ?_ ?_
        exact ⟨Rv.tmp rfl, trivial⟩
        exact ⟨s89.stp, rfl⟩
      · have H := ifF g96 H
        refine X.val rfl rfl rfl (yBF g96 (yGtr rfl rfl)) trivial ?_
        refine X.val rfl rfl rfl (yMove rfl) trivial ?_
        refine X.val rfl rfl rfl (yMove rfl) trivial ?_
        refine X.val rfl rfl rfl (yMove rfl) trivial ?_
        obtain ⟨⟨g105, g97⟩, H⟩ := ifS H
        obtain ⟨b98, w99, k100, c101, e102, r103, m104⟩ := SlR.get (r_a0.mono t90) g105 g97
        obtain ⟨c106, v108, v110, v112, v114, rfl, r107, r109, r111, r113, r115⟩ := o_maundlaw29_Op r103
        refine X.val (v := .pointer (some ⟨b98, w99 + (y88).toNat * 45, none⟩)) rfl rfl rfl (yIdxS Tryz.underlying94 Tryz.sizeOf106 (by rw [← e102]; rfl) rfl g105 g97) trivial ?_
        refine X.val (v := .pointer (some ⟨b98, w99 + (y88).toNat * 45 + 2, none⟩)) rfl rfl rfl (yField 77 2 Tryz.underlying106 Tryz.sizeOf77 rfl rfl rfl) trivial ?_
        have l116 : c106.length = 32 := (kArr 32 (kI .u8)).len r107
        refine X.val (v := .agg (((.int .i64 ((rd a0 y88).M.Kind) : Value) :: (.int .i64 ((rd a0 y88).M.From) : Value) :: (.int .i64 ((rd a0 y88).M.To) : Value) :: (.int .i64 ((rd a0 y88).M.Session) : Value) :: (.int .i64 ((rd a0 y88).M.Part) : Value) :: c106 ++ (v108 :: v110 :: v112 :: []) : List Value)).toArray) rfl rfl rfl (yLoadA (j := 2) (mid := ((.int .i64 ((rd a0 y88).M.Kind) : Value) :: (.int .i64 ((rd a0 y88).M.From) : Value) :: (.int .i64 ((rd a0 y88).M.To) : Value) :: (.int .i64 ((rd a0 y88).M.Session) : Value) :: (.int .i64 ((rd a0 y88).M.Part) : Value) :: c106 ++ (v108 :: v110 :: v112 :: []) : List Value)) Tryz.isAgg77 Tryz.sizeOf77 rfl m104.rd rfl (by first | (simp [l116]; done) | (simp [List.take_append, List.drop_append, List.take_of_length_le, l116]; done)) (by simp [l116])) trivial ?_
        obtain ⟨x117, e118, H⟩ := bnd H
        refine X.call (all := [.agg (((.int .i64 ((rd a0 y88).M.Kind) : Value) :: (.int .i64 ((rd a0 y88).M.From) : Value) :: (.int .i64 ((rd a0 y88).M.To) : Value) :: (.int .i64 ((rd a0 y88).M.Session) : Value) :: (.int .i64 ((rd a0 y88).M.Part) : Value) :: c106 ++ (v108 :: v110 :: v112 :: []) : List Value)).toArray]) Tryz.call36 rfl rfl rfl rfl rfl rfl (c_maundlaw26_Great s89.ib (m_proto_Msg r107 r109 r111 r113) e118) ?_
        rintro _ h119 ⟨p120, rfl⟩
        have s121 := s89.call p120
        have t122 := s89.callTr p120
        refine ⟨trivial, ?_⟩
        refine X.val rfl rfl rfl (yPickF rfl rfl) trivial ?_
        refine X.val rfl rfl rfl (yMove rfl) trivial ?_
        cases x117
        · have H := biF H
          refine X.val rfl rfl rfl (yMove rfl) trivial ?_
          refine X.val rfl rfl rfl (yMove rfl) trivial ?_
          obtain ⟨⟨g131, g123⟩, H⟩ := ifS H
          obtain ⟨b124, w125, k126, c127, e128, r129, m130⟩ := SlR.get (r_a0.mono (t90.trans t122)) g131 g123
          obtain ⟨c132, v134, v136, v138, v140, rfl, r133, r135, r137, r139, r141⟩ := o_maundlaw29_Op r129
          refine X.val (v := .pointer (some ⟨b124, w125 + (y88).toNat * 45, none⟩)) rfl rfl rfl (yIdxS Tryz.underlying94 Tryz.sizeOf106 (by rw [← e128]; rfl) rfl g131 g123) trivial ?_
          refine X.val (v := .pointer (some ⟨b124, w125 + (y88).toNat * 45 + 42, none⟩)) rfl rfl rfl (yField 104 42 Tryz.underlying106 Tryz.sizeOf104 rfl rfl rfl) trivial ?_
          refine X.val (v := .pointer (some ⟨b124, w125 + (y88).toNat * 45 + 42 + 2, none⟩)) rfl rfl rfl (yField 67 2 Tryz.underlying104 Tryz.sizeOf67 rfl rfl rfl) trivial ?_
          have l142 : c132.length = 32 := (kArr 32 (kI .u8)).len r133
          refine X.val (v := v140) rfl rfl rfl (yLoadS (j := 44) Tryz.isAgg67 rfl m130.rd rfl (by simp [l142])) trivial ?_
          refine X.val rfl rfl rfl (yLenR Tryz.underlying67 rfl r141) trivial ?_
          by_cases g143 : (((rd a0 y88).A.Lines).length : Int) > 100
          · have H := ifT g143 H
            refine X.val rfl rfl rfl (yBT g143 (yGtr rfl rfl)) trivial ?_
            refine X.val rfl rfl rfl (yPickF rfl rfl) trivial ?_
            refine X.val rfl rfl rfl (yMove rfl) trivial ?_
            refine X.skip rfl rfl rfl trivial ?_
            refine X.skip rfl rfl rfl trivial ?_
            refine X.skip rfl rfl rfl trivial ?_
            refine X.skip rfl rfl rfl trivial ?_
            refine X.skip rfl rfl rfl trivial ?_
            refine X.skip rfl rfl rfl trivial ?_
            refine X.skip rfl rfl rfl trivial ?_
            refine X.skip rfl rfl rfl trivial ?_
            refine X.skip rfl rfl rfl trivial ?_
            refine X.skip rfl rfl rfl trivial ?_
            refine X.skip rfl rfl rfl trivial ?_
            refine X.skip rfl rfl rfl trivial ?_
            refine X.skip rfl rfl rfl trivial ?_
            refine X.skip rfl rfl rfl trivial ?_
            refine X.val rfl rfl rfl (yPickT rfl rfl) trivial ?_
            refine X.nil ?_
            refine At.then ?_
            refine C.condT rfl ?_
            refine C.seq ?_
            refine C.region 1 rfl ?_
            refine X.val rfl rfl rfl (yAssign rfl) trivial ?_
            refine X.nil ?_
            refine At.then ?_
            refine C.ret ?_
            refine At.blkR ?_
            refine At.thenR ?_
            refine At.backR ?_
            obtain rfl := sm H
            have H := G92
            try dsimp only at H
            refine At.blkR ?_
            refine At.thenR ?_
            obtain rfl := sm H
            refine At.retn (rs := [.tmp 2]) [.bool true] rfl ?_ ?_
            exact ⟨Rv.tmp rfl, trivial⟩
            exact ⟨s121.stp, rfl⟩
          · have H := ifF g143 H
            refine X.val rfl rfl rfl (yBF g143 (yGtr rfl rfl)) trivial ?_
            refine X.val rfl rfl rfl (yPickF rfl rfl) trivial ?_
            refine X.val rfl rfl rfl (yMove rfl) trivial ?_
            refine X.val rfl rfl rfl (yMove rfl) trivial ?_
            refine X.val rfl rfl rfl (yMove rfl) trivial ?_
            obtain ⟨⟨g152, g144⟩, H⟩ := ifS H
            obtain ⟨b145, w146, k147, c148, e149, r150, m151⟩ := SlR.get (r_a0.mono (t90.trans t122)) g152 g144
            obtain ⟨c153, v155, v157, v159, v161, rfl, r154, r156, r158, r160, r162⟩ := o_maundlaw29_Op r150
            refine X.val (v := .pointer (some ⟨b145, w146 + (y88).toNat * 45, none⟩)) rfl rfl rfl (yIdxS Tryz.underlying94 Tryz.sizeOf106 (by rw [← e149]; rfl) rfl g152 g144) trivial ?_
            refine X.val (v := .pointer (some ⟨b145, w146 + (y88).toNat * 45 + 0, none⟩)) rfl rfl rfl (yField 3 0 Tryz.underlying106 Tryz.sizeOf3 rfl rfl rfl) trivial ?_
            have l163 : c153.length = 32 := (kArr 32 (kI .u8)).len r154
            refine X.val (v := .int .i64 ((rd a0 y88).Kind)) rfl rfl rfl (yLoadS (j := 0) Tryz.isAgg3 rfl m151.rd rfl (by simp [l163])) trivial ?_
            by_cases g164 : ((rd a0 y88).Kind) = 5
            · have H := ifT g164 H
              refine X.val rfl rfl rfl (yBT g164 (yEql rfl rfl)) trivial ?_
              refine X.val rfl rfl rfl (yMove rfl) trivial ?_
              refine X.val rfl rfl rfl (yMove rfl) trivial ?_
              refine X.val rfl rfl rfl (yMove rfl) trivial ?_
              obtain ⟨⟨g173, g165⟩, H⟩ := ifS H
              obtain ⟨b166, w167, k168, c169, e170, r171, m172⟩ := SlR.get (r_a0.mono (t90.trans t122)) g173 g165
              obtain ⟨c174, v176, v178, v180, v182, rfl, r175, r177, r179, r181, r183⟩ := o_maundlaw29_Op r171
              refine X.val (v := .pointer (some ⟨b166, w167 + (y88).toNat * 45, none⟩)) rfl rfl rfl (yIdxS Tryz.underlying94 Tryz.sizeOf106 (by rw [← e170]; rfl) rfl g173 g165) trivial ?_
              refine X.val (v := .pointer (some ⟨b166, w167 + (y88).toNat * 45 + 1, none⟩)) rfl rfl rfl (yField 3 1 Tryz.underlying106 Tryz.sizeOf3 rfl rfl rfl) trivial ?_
              have l184 : c174.length = 32 := (kArr 32 (kI .u8)).len r175
              refine X.val (v := .int .i64 ((rd a0 y88).Mark)) rfl rfl rfl (yLoadS (j := 1) Tryz.isAgg3 rfl m172.rd rfl (by simp [l184])) trivial ?_
              by_cases g185 : ((rd a0 y88).Mark) > 600
              · have H := ifT g185 H
                refine X.val rfl rfl rfl (yBT g185 (yGtr rfl rfl)) trivial ?_
                refine X.val rfl rfl rfl (yPickT rfl rfl) trivial ?_
                refine X.val rfl rfl rfl (yPickF rfl rfl) trivial ?_
                refine X.nil ?_
                refine At.then ?_
                refine C.condT rfl ?_
                refine C.seq ?_
                refine C.region 1 rfl ?_
                refine X.val rfl rfl rfl (yAssign rfl) trivial ?_
                refine X.nil ?_
                refine At.then ?_
                refine C.ret ?_
                refine At.blkR ?_
                refine At.thenR ?_
                refine At.backR ?_
                obtain rfl := sm H
                have H := G92
                try dsimp only at H
                refine At.blkR ?_
                refine At.thenR ?_
                obtain rfl := sm H
                refine At.retn (rs := [.tmp 2]) [.bool true] rfl ?_ ?_
                exact ⟨Rv.tmp rfl, trivial⟩
                exact ⟨s121.stp, rfl⟩
              · have H := ifF g185 H
                refine X.val rfl rfl rfl (yBF g185 (yGtr rfl rfl)) trivial ?_
                refine X.val rfl rfl rfl (yPickT rfl rfl) trivial ?_
                refine X.val rfl rfl rfl (yPickF rfl rfl) trivial ?_
                refine X.nil ?_
                refine At.then ?_
                refine C.condF rfl ?_
                refine C.skip ?_
                refine At.blkN ?_
                refine At.then ?_
                refine C.region 3 rfl ?_
                refine X.val rfl rfl rfl (yMove rfl) trivial ?_
                refine X.val rfl rfl rfl (yAdd rfl rfl) trivial ?_
                refine X.val rfl rfl rfl (yAssign rfl) trivial ?_
                refine X.nil ?_
                refine At.back [(0, v_a0), (3, .int .i64 (IntKind.i64.wrap (y88 + 1)))] (fun a ha => (.cons ha rfl (.cons ha rfl ha.nil))) ?_
                exact ⟨(IntKind.i64.wrap (y88 + 1)), (Ex I87 h86 h119), rfl, s121, (t90.trans t122), H⟩
            · have H := ifF g164 H
              refine X.val rfl rfl rfl (yBF g164 (yEql rfl rfl)) trivial ?_
              refine X.val rfl rfl rfl (yMove rfl) trivial ?_
              refine X.skip rfl rfl rfl trivial ?_
              refine X.skip rfl rfl rfl trivial ?_
              refine X.skip rfl rfl rfl trivial ?_
              refine X.skip rfl rfl rfl trivial ?_
              refine X.skip rfl rfl rfl trivial ?_
              refine X.skip rfl rfl rfl trivial ?_
              refine X.val rfl rfl rfl (yPickF rfl rfl) trivial ?_
              refine X.val rfl rfl rfl (yPickF rfl rfl) trivial ?_
              refine X.nil ?_
              refine At.then ?_
              refine C.condF rfl ?_
              refine C.skip ?_
              refine At.blkN ?_
              refine At.then ?_
              refine C.region 3 rfl ?_
              refine X.val rfl rfl rfl (yMove rfl) trivial ?_
              refine X.val rfl rfl rfl (yAdd rfl rfl) trivial ?_
              refine X.val rfl rfl rfl (yAssign rfl) trivial ?_
              refine X.nil ?_
              refine At.back [(0, v_a0), (3, .int .i64 (IntKind.i64.wrap (y88 + 1)))] (fun a ha => (.cons ha rfl (.cons ha rfl ha.nil))) ?_
              exact ⟨(IntKind.i64.wrap (y88 + 1)), (Ex I87 h86 h119), rfl, s121, (t90.trans t122), H⟩
        · have H := biT H
          refine X.skip rfl rfl rfl trivial ?_
          refine X.skip rfl rfl rfl trivial ?_
          refine X.skip rfl rfl rfl trivial ?_
          refine X.skip rfl rfl rfl trivial ?_
          refine X.skip rfl rfl rfl trivial ?_
          refine X.skip rfl rfl rfl trivial ?_
          refine X.skip rfl rfl rfl trivial ?_
          refine X.skip rfl rfl rfl trivial ?_
          refine X.val rfl rfl rfl (yPickT rfl rfl) trivial ?_
          refine X.val rfl rfl rfl (yMove rfl) trivial ?_
          refine X.skip rfl rfl rfl trivial ?_
          refine X.skip rfl rfl rfl trivial ?_
          refine X.skip rfl rfl rfl trivial ?_
          refine X.skip rfl rfl rfl trivial ?_
          refine X.skip rfl rfl rfl trivial ?_
          refine X.skip rfl rfl rfl trivial ?_
          refine X.skip rfl rfl rfl trivial ?_
          refine X.skip rfl rfl rfl trivial ?_
          refine X.skip rfl rfl rfl trivial ?_
          refine X.skip rfl rfl rfl trivial ?_
          refine X.skip rfl rfl rfl trivial ?_
          refine X.skip rfl rfl rfl trivial ?_
          refine X.skip rfl rfl rfl trivial ?_
          refine X.skip rfl rfl rfl trivial ?_
          refine X.val rfl rfl rfl (yPickT rfl rfl) trivial ?_
          refine X.nil ?_
          refine At.then ?_
          refine C.condT rfl ?_
          refine C.seq ?_
          refine C.region 1 rfl ?_
          refine X.val rfl rfl rfl (yAssign rfl) trivial ?_
          refine X.nil ?_
          refine At.then ?_
          refine C.ret ?_
          refine At.blkR ?_
          refine At.thenR ?_
          refine At.backR ?_
          obtain rfl := sm H
          have H := G92
          try dsimp only at H
          refine At.blkR ?_
          refine At.thenR ?_
          obtain rfl := sm H
          refine At.retn (rs := [.tmp 2]) [.bool true] rfl ?_ ?_
          exact ⟨Rv.tmp rfl, trivial⟩
          exact ⟨s121.stp, rfl⟩
    · have H := ifF g95 H
      refine X.val rfl rfl rfl (yBF g95 (yLss rfl rfl)) trivial ?_
      refine X.nil ?_
      refine At.then ?_
      refine C.condF rfl ?_
      refine C.exit ?_
      refine At.thenE ?_
      refine At.backE ?_
      obtain rfl := sm H
      have H := G92
      try dsimp only at H
      refine At.blkE ?_
      refine At.then ?_
      refine C.seq ?_
      refine C.region 1 rfl ?_
      refine X.val rfl rfl rfl (yAssign rfl) trivial ?_
      refine X.nil ?_
      refine At.then ?_
      refine C.ret ?_
      obtain rfl := sm H
      refine At.retn (rs := [.tmp 2]) [.bool false] rfl ?_ ?_
      exact ⟨Rv.tmp rfl, trivial⟩
      exact ⟨s89.stp, rfl⟩

def p_slices_Equal_int_l0 (K : Nat) (a0 : (List Int)) (a1 : (List Int)) : Nat → Int → Option (Sum (Bool) (Int))
  | 0, _ => none
  | k196 + 1, y190 => (if y190 < (a0.length : Int) then (if 0 ≤ y190 ∧ y190 < (a0.length : Int) then (if 0 ≤ y190 ∧ y190 < (a1.length : Int) then (if (rd a0 y190) ≠ (rd a1 y190) then some (Sum.inl false) else (p_slices_Equal_int_l0 K a0 a1 k196 (IntKind.i64.wrap (y190 + 1)))) else none) else none) else some (Sum.inr y190))
def p_slices_Equal_int (K : Nat) (a0 : (List Int)) (a1 : (List Int)) : Option (Bool) :=
  (if (a0.length : Int) ≠ (a1.length : Int) then some false else (p_slices_Equal_int_l0 K a0 a1 K 0).bind fun z193 => match z193 with | .inl r => some r | .inr w218 => some true)
theorem c_slices_Equal_int {K : Nat} {h : Heap} {I : Nat → Prop} (hI : ∀ b, I b → b < h.size) {v_a0 : Value} {a0 : (List Int)} (r_a0 : SlR (kI .i64) I h v_a0 a0) {v_a1 : Value} {a1 : (List Int)} (r_a1 : SlR (kI .i64) I h v_a1 a1) {r : (Bool)} (H : p_slices_Equal_int K a0 a1 = some r) :
    Fn Tryz.prog 160 [v_a0, v_a1] h (fun v h' => Stp [] h h' ∧ v = (.bool r : Value)) := by
  unfold p_slices_Equal_int at H
  refine Fn.of 26 Tryz.func160 rfl rfl ?_
  have s0 := St.start hI
  refine C.seq ?_
  refine C.region 1 rfl ?_
  refine X.val rfl rfl rfl (yAssign rfl) trivial ?_
  refine X.nil ?_
  refine At.then ?_
  refine C.seq ?_
  refine C.seq ?_
  refine C.region 5 rfl ?_
  refine X.val rfl rfl rfl (yMove rfl) trivial ?_
  refine X.val rfl rfl rfl (yLenR Tryz.underlying67 rfl r_a0) trivial ?_
  refine X.val rfl rfl rfl (yMove rfl) trivial ?_
  refine X.val rfl rfl rfl (yLenR Tryz.underlying67 rfl r_a1) trivial ?_
  by_cases g187 : (a0.length : Int) ≠ (a1.length : Int)
  · have H := ifT g187 H
    refine X.val rfl rfl rfl (yBT g187 (yNeq rfl rfl)) trivial ?_
    refine X.nil ?_
    refine At.then ?_
    refine C.condT rfl ?_
    refine C.seq ?_
    refine C.region 1 rfl ?_
    refine X.val rfl rfl rfl (yAssign rfl) trivial ?_
    refine X.nil ?_
    refine At.then ?_
    refine C.ret ?_
    refine At.thenR ?_
    obtain rfl := sm H
    refine At.retn (rs := [.tmp 4]) [.bool false] rfl ?_ ?_
    exact ⟨Rv.tmp rfl, trivial⟩
    exact ⟨s0.stp, rfl⟩
  · have H := ifF g187 H
    refine X.val rfl rfl rfl (yBF g187 (yNeq rfl rfl)) trivial ?_
    refine X.nil ?_
    refine At.then ?_
    refine C.condF rfl ?_
    refine C.skip ?_
    refine At.then ?_
    refine C.seq ?_
    refine C.seq ?_
    refine C.region 3 rfl ?_
    refine X.val rfl rfl rfl (yMove rfl) trivial ?_
    refine X.val rfl rfl rfl (yLenR Tryz.underlying67 rfl r_a0) trivial ?_
    refine X.val rfl rfl rfl (yMove rfl) trivial ?_
    refine X.nil ?_
    refine At.then ?_
    refine C.block ?_
    obtain ⟨z193, e195, G194⟩ := bnd H
    refine C.prune [(0, v_a0), (1, v_a1), (12, .int .i64 (a0.length : Int)), (13, .int .i64 0)] (fun a ha => (.cons ha rfl (.cons ha rfl (.cons ha rfl (.cons ha rfl ha.nil))))) ?_
    refine C.loop (fun k196 e h188 => ∃ (y190 : Int) (I189 : Nat → Prop), e = [(0, v_a0), (1, v_a1), (12, .int .i64 (a0.length : Int)), (13, .int .i64 y190)] ∧ St [] h I h188 I189 [] ∧ Tr I h I189 h188 ∧ p_slices_Equal_int_l0 K a0 a1 k196 y190 = some z193) K ⟨0, I, rfl, s0, Tr.refl _ _, e195⟩ ?_ ?_
    · rintro e h' ⟨_, _, _, _, _, H⟩; cases (show none = some _ from H)
    · rintro k196 e h188 ⟨y190, I189, rfl, s191, t192, H⟩
      rw [p_slices_Equal_int_l0] at H
      refine C.seq ?_
      refine C.region 1 rfl ?_
      by_cases g197 : y190 < (a0.length : Int)
      · have H := ifT g197 H
        refine X.val rfl rfl rfl (yBT g197 (yLss rfl rfl)) trivial ?_
        refine X.nil ?_
        refine At.then ?_
        refine C.seq ?_
        refine C.condT rfl ?_
        refine C.skip ?_
        refine At.then ?_
        refine C.seq ?_
        refine C.block ?_
        refine C.seq ?_
        refine C.region 2 rfl ?_
        refine X.val rfl rfl rfl (yMove rfl) trivial ?_
        refine X.val rfl rfl rfl (yAssign rfl) trivial ?_
        refine X.nil ?_
        refine At.then ?_
        refine C.seq ?_
        refine C.regionD rfl (Stp [] h188) (.pas 0 (.pas 1 (.pas 2 (.pas 3 (.pas 4 (.pas 5 (.pas 6 (.pas 7 (.pas 8 .nil))))))))) (by kernel_rfl) (Stp.refl0 _ _) ?_
        have q198 := Stp.refl0 [] h188
        refine X.pas rfl rfl rfl (fun _ _ => yMove rfl) ?_
        refine X.pas rfl rfl rfl (fun _ _ => yMove rfl) ?_
        obtain ⟨⟨g207, g199⟩, H⟩ := ifS H
        obtain ⟨b200, w201, k202, c203, e204, r205, m206⟩ := SlR.get (r_a0.mono t192) g207 g199
        obtain rfl := r205
        refine X.pas (v := .pointer (some ⟨b200, w201 + (y190).toNat * 1, none⟩)) rfl rfl rfl (fun _ _ => yIdxS Tryz.underlying67 Tryz.sizeOf3 (by rw [← e204]; rfl) rfl g207 g199) ?_
        refine X.pas (v := .int .i64 (rd a0 y190)) rfl rfl rfl (fun h' q => yLoadS (j := 0) Tryz.isAgg3 rfl (m206.mono (s191.tr q (by simp) (fun _ hb => hb))).rd rfl rfl) ?_
        refine X.pas rfl rfl rfl (fun _ _ => yMove rfl) ?_
        refine X.pas rfl rfl rfl (fun _ _ => yMove rfl) ?_
        obtain ⟨⟨g216, g208⟩, H⟩ := ifS H
        obtain ⟨b209, w210, k211, c212, e213, r214, m215⟩ := SlR.get (r_a1.mono t192) g216 g208
        obtain rfl := r214
        refine X.pas (v := .pointer (some ⟨b209, w210 + (y190).toNat * 1, none⟩)) rfl rfl rfl (fun _ _ => yIdxS Tryz.underlying67 Tryz.sizeOf3 (by rw [← e213]; rfl) rfl g216 g208) ?_
        refine X.pas (v := .int .i64 (rd a1 y190)) rfl rfl rfl (fun h' q => yLoadS (j := 0) Tryz.isAgg3 rfl (m215.mono (s191.tr q (by simp) (fun _ hb => hb))).rd rfl rfl) ?_
        by_cases g217 : (rd a0 y190) ≠ (rd a1 y190)
        · have H := ifT g217 H
          refine X.pas rfl rfl rfl (fun _ _ => yBT g217 (yNeq rfl rfl)) ?_
          refine X.nil ?_
          refine At.then ?_
          refine C.condT rfl ?_
          refine C.seq ?_
          refine C.region 1 rfl ?_
          refine X.val rfl rfl rfl (yAssign rfl) trivial ?_
          refine X.nil ?_
          refine At.then ?_
          refine C.ret ?_
          refine At.blkR ?_
          refine At.thenR ?_
          refine At.backR ?_
          obtain rfl := sm H
          have H := G194
          try dsimp only at H
          refine At.blkR ?_
          refine At.thenR ?_
          obtain rfl := sm H
          refine At.retn (rs := [.tmp 4]) [.bool false] rfl ?_ ?_
          exact ⟨Rv.tmp rfl, trivial⟩
          exact ⟨s191.stp, rfl⟩
        · have H := ifF g217 H
          refine X.pas rfl rfl rfl (fun _ _ => yBF g217 (yNeq rfl rfl)) ?_
          refine X.nil ?_
          refine At.then ?_
          refine C.condF rfl ?_
          refine C.skip ?_
          refine At.blkN ?_
          refine At.then ?_
          refine C.region 2 rfl ?_
          refine X.val rfl rfl rfl (yAdd rfl rfl) trivial ?_
          refine X.val rfl rfl rfl (yMove rfl) trivial ?_
          refine X.nil ?_
          refine At.back [(0, v_a0), (1, v_a1), (12, .int .i64 (a0.length : Int)), (13, .int .i64 (IntKind.i64.wrap (y190 + 1)))] (fun a ha => (.cons ha rfl (.cons ha rfl (.cons ha rfl (.cons ha rfl ha.nil))))) ?_
          exact ⟨(IntKind.i64.wrap (y190 + 1)), I189, rfl, s191, t192, H⟩
      · have H := ifF g197 H
        refine X.val rfl rfl rfl (yBF g197 (yLss rfl rfl)) trivial ?_
        refine X.nil ?_
        refine At.then ?_
        refine C.seq ?_
        refine C.condF rfl ?_
        refine C.exit ?_
        refine At.thenE ?_
        refine At.backE ?_
        obtain rfl := sm H
        have H := G194
        try dsimp only at H
        refine At.blkE ?_
        refine At.then ?_
        refine C.seq ?_
        refine C.region 1 rfl ?_
        refine X.val rfl rfl rfl (yAssign rfl) trivial ?_
        refine X.nil ?_
        refine At.then ?_
        refine C.ret ?_
        obtain rfl := sm H
        refine At.retn (rs := [.tmp 4]) [.bool true] rfl ?_ ?_
        exact ⟨Rv.tmp rfl, trivial⟩
        exact ⟨s191.stp, rfl⟩

def p_slices_Equal_api_Digest_l0 (K : Nat) (a0 : (List (List Int))) (a1 : (List (List Int))) : Nat → Int → Option (Sum (Bool) (Int))
  | 0, _ => none
  | k228 + 1, y222 => (if y222 < (a0.length : Int) then (if 0 ≤ y222 ∧ y222 < (a0.length : Int) then (if 0 ≤ y222 ∧ y222 < (a1.length : Int) then (if (rd a0 y222) ≠ (rd a1 y222) then some (Sum.inl false) else (p_slices_Equal_api_Digest_l0 K a0 a1 k228 (IntKind.i64.wrap (y222 + 1)))) else none) else none) else some (Sum.inr y222))
def p_slices_Equal_api_Digest (K : Nat) (a0 : (List (List Int))) (a1 : (List (List Int))) : Option (Bool) :=
  (if (a0.length : Int) ≠ (a1.length : Int) then some false else (p_slices_Equal_api_Digest_l0 K a0 a1 K 0).bind fun z225 => match z225 with | .inl r => some r | .inr w252 => some true)
theorem c_slices_Equal_api_Digest {K : Nat} {h : Heap} {I : Nat → Prop} (hI : ∀ b, I b → b < h.size) {v_a0 : Value} {a0 : (List (List Int))} (r_a0 : SlR (kArr 32 (kI .u8)) I h v_a0 a0) {v_a1 : Value} {a1 : (List (List Int))} (r_a1 : SlR (kArr 32 (kI .u8)) I h v_a1 a1) {r : (Bool)} (H : p_slices_Equal_api_Digest K a0 a1 = some r) :
    Fn Tryz.prog 161 [v_a0, v_a1] h (fun v h' => Stp [] h h' ∧ v = (.bool r : Value)) := by
  unfold p_slices_Equal_api_Digest at H
  refine Fn.of 26 Tryz.func161 rfl rfl ?_
  have s0 := St.start hI
  refine C.seq ?_
  refine C.region 1 rfl ?_
  refine X.val rfl rfl rfl (yAssign rfl) trivial ?_
  refine X.nil ?_
  refine At.then ?_
  refine C.seq ?_
  refine C.seq ?_
  refine C.region 5 rfl ?_
  refine X.val rfl rfl rfl (yMove rfl) trivial ?_
  refine X.val rfl rfl rfl (yLenR Tryz.underlying75 rfl r_a0) trivial ?_
  refine X.val rfl rfl rfl (yMove rfl) trivial ?_
  refine X.val rfl rfl rfl (yLenR Tryz.underlying75 rfl r_a1) trivial ?_
  by_cases g219 : (a0.length : Int) ≠ (a1.length : Int)
  · have H := ifT g219 H
    refine X.val rfl rfl rfl (yBT g219 (yNeq rfl rfl)) trivial ?_
    refine X.nil ?_
    refine At.then ?_
    refine C.condT rfl ?_
    refine C.seq ?_
    refine C.region 1 rfl ?_
    refine X.val rfl rfl rfl (yAssign rfl) trivial ?_
    refine X.nil ?_
    refine At.then ?_
    refine C.ret ?_
    refine At.thenR ?_
    obtain rfl := sm H
    refine At.retn (rs := [.tmp 4]) [.bool false] rfl ?_ ?_
    exact ⟨Rv.tmp rfl, trivial⟩
    exact ⟨s0.stp, rfl⟩
  · have H := ifF g219 H
    refine X.val rfl rfl rfl (yBF g219 (yNeq rfl rfl)) trivial ?_
    refine X.nil ?_
    refine At.then ?_
    refine C.condF rfl ?_
    refine C.skip ?_
    refine At.then ?_
    refine C.seq ?_
    refine C.seq ?_
    refine C.region 3 rfl ?_
    refine X.val rfl rfl rfl (yMove rfl) trivial ?_
    refine X.val rfl rfl rfl (yLenR Tryz.underlying75 rfl r_a0) trivial ?_
    refine X.val rfl rfl rfl (yMove rfl) trivial ?_
    refine X.nil ?_
    refine At.then ?_
    refine C.block ?_
    obtain ⟨z225, e227, G226⟩ := bnd H
    refine C.prune [(0, v_a0), (1, v_a1), (12, .int .i64 (a0.length : Int)), (13, .int .i64 0)] (fun a ha => (.cons ha rfl (.cons ha rfl (.cons ha rfl (.cons ha rfl ha.nil))))) ?_
    refine C.loop (fun k228 e h220 => ∃ (y222 : Int) (I221 : Nat → Prop), e = [(0, v_a0), (1, v_a1), (12, .int .i64 (a0.length : Int)), (13, .int .i64 y222)] ∧ St [] h I h220 I221 [] ∧ Tr I h I221 h220 ∧ p_slices_Equal_api_Digest_l0 K a0 a1 k228 y222 = some z225) K ⟨0, I, rfl, s0, Tr.refl _ _, e227⟩ ?_ ?_
    · rintro e h' ⟨_, _, _, _, _, H⟩; cases (show none = some _ from H)
    · rintro k228 e h220 ⟨y222, I221, rfl, s223, t224, H⟩
      rw [p_slices_Equal_api_Digest_l0] at H
      refine C.seq ?_
      refine C.region 1 rfl ?_
      by_cases g229 : y222 < (a0.length : Int)
      · have H := ifT g229 H
        refine X.val rfl rfl rfl (yBT g229 (yLss rfl rfl)) trivial ?_
        refine X.nil ?_
        refine At.then ?_
        refine C.seq ?_
        refine C.condT rfl ?_
        refine C.skip ?_
        refine At.then ?_
        refine C.seq ?_
        refine C.block ?_
        refine C.seq ?_
        refine C.region 2 rfl ?_
        refine X.val rfl rfl rfl (yMove rfl) trivial ?_
        refine X.val rfl rfl rfl (yAssign rfl) trivial ?_
        refine X.nil ?_
        refine At.then ?_
        refine C.seq ?_
        refine C.regionD rfl (Stp [] h220) (.pas 0 (.pas 1 (.pas 2 (.pas 3 (.pas 4 (.pas 5 (.pas 6 (.pas 7 (.pas 8 .nil))))))))) (by kernel_rfl) (Stp.refl0 _ _) ?_
        have q230 := Stp.refl0 [] h220
        refine X.pas rfl rfl rfl (fun _ _ => yMove rfl) ?_
        refine X.pas rfl rfl rfl (fun _ _ => yMove rfl) ?_
        obtain ⟨⟨g239, g231⟩, H⟩ := ifS H
        obtain ⟨b232, w233, k234, c235, e236, r237, m238⟩ := SlR.get (r_a0.mono t224) g239 g231
        refine X.pas (v := .pointer (some ⟨b232, w233 + (y222).toNat * 32, none⟩)) rfl rfl rfl (fun _ _ => yIdxS Tryz.underlying75 Tryz.sizeOf65 (by rw [← e236]; rfl) rfl g239 g231) ?_
        have l240 : c235.length = 32 := (kArr 32 (kI .u8)).len r237
        refine X.pas (v := .agg ((c235 : List Value)).toArray) rfl rfl rfl (fun h' q => yLoadW Tryz.isAgg65 Tryz.sizeOf65 rfl (m238.mono (s223.tr q (by simp) (fun _ hb => hb))).rd (by simp [l240])) ?_
        refine X.pas rfl rfl rfl (fun _ _ => yMove rfl) ?_
        refine X.pas rfl rfl rfl (fun _ _ => yMove rfl) ?_
        obtain ⟨⟨g249, g241⟩, H⟩ := ifS H
        obtain ⟨b242, w243, k244, c245, e246, r247, m248⟩ := SlR.get (r_a1.mono t224) g249 g241
        refine X.pas (v := .pointer (some ⟨b242, w243 + (y222).toNat * 32, none⟩)) rfl rfl rfl (fun _ _ => yIdxS Tryz.underlying75 Tryz.sizeOf65 (by rw [← e246]; rfl) rfl g249 g241) ?_
        have l250 : c245.length = 32 := (kArr 32 (kI .u8)).len r247
        refine X.pas (v := .agg ((c245 : List Value)).toArray) rfl rfl rfl (fun h' q => yLoadW Tryz.isAgg65 Tryz.sizeOf65 rfl (m248.mono (s223.tr q (by simp) (fun _ hb => hb))).rd (by simp [l250])) ?_
        by_cases g251 : (rd a0 y222) ≠ (rd a1 y222)
        · have H := ifT g251 H
          refine X.pas rfl rfl rfl (fun _ _ => yBT g251 (yNeA q_T65 rfl Tryz.eqGuardType65 rfl rfl r237 r247)) ?_
          refine X.nil ?_
          refine At.then ?_
          refine C.condT rfl ?_
          refine C.seq ?_
          refine C.region 1 rfl ?_
          refine X.val rfl rfl rfl (yAssign rfl) trivial ?_
          refine X.nil ?_
          refine At.then ?_
          refine C.ret ?_
          refine At.blkR ?_
          refine At.thenR ?_
          refine At.backR ?_
          obtain rfl := sm H
          have H := G226
          try dsimp only at H
          refine At.blkR ?_
          refine At.thenR ?_
          obtain rfl := sm H
          refine At.retn (rs := [.tmp 4]) [.bool false] rfl ?_ ?_
          exact ⟨Rv.tmp rfl, trivial⟩
          exact ⟨s223.stp, rfl⟩
        · have H := ifF g251 H
          refine X.pas rfl rfl rfl (fun _ _ => yBF g251 (yNeA q_T65 rfl Tryz.eqGuardType65 rfl rfl r237 r247)) ?_
          refine X.nil ?_
          refine At.then ?_
          refine C.condF rfl ?_
          refine C.skip ?_
          refine At.blkN ?_
          refine At.then ?_
          refine C.region 2 rfl ?_
          refine X.val rfl rfl rfl (yAdd rfl rfl) trivial ?_
          refine X.val rfl rfl rfl (yMove rfl) trivial ?_
          refine X.nil ?_
          refine At.back [(0, v_a0), (1, v_a1), (12, .int .i64 (a0.length : Int)), (13, .int .i64 (IntKind.i64.wrap (y222 + 1)))] (fun a ha => (.cons ha rfl (.cons ha rfl (.cons ha rfl (.cons ha rfl ha.nil))))) ?_
          exact ⟨(IntKind.i64.wrap (y222 + 1)), I221, rfl, s223, t224, H⟩
      · have H := ifF g229 H
        refine X.val rfl rfl rfl (yBF g229 (yLss rfl rfl)) trivial ?_
        refine X.nil ?_
        refine At.then ?_
        refine C.seq ?_
        refine C.condF rfl ?_
        refine C.exit ?_
        refine At.thenE ?_
        refine At.backE ?_
        obtain rfl := sm H
        have H := G226
        try dsimp only at H
        refine At.blkE ?_
        refine At.then ?_
        refine C.seq ?_
        refine C.region 1 rfl ?_
        refine X.val rfl rfl rfl (yAssign rfl) trivial ?_
        refine X.nil ?_
        refine At.then ?_
        refine C.ret ?_
        obtain rfl := sm H
        refine At.retn (rs := [.tmp 4]) [.bool true] rfl ?_ ?_
        exact ⟨Rv.tmp rfl, trivial⟩
        exact ⟨s223.stp, rfl⟩

def p_slices_EqualFunc_pack_Keyed_l0 (K : Nat) (a0 : (List pack_Keyed)) (a1 : (List pack_Keyed)) : Nat → Int → Option (Sum (Bool) (Int))
  | 0, _ => none
  | k262 + 1, y256 => (if y256 < (a0.length : Int) then (if 0 ≤ y256 ∧ y256 < (a0.length : Int) then (if 0 ≤ y256 ∧ y256 < (a1.length : Int) then none else none) else none) else some (Sum.inr y256))
def p_slices_EqualFunc_pack_Keyed (K : Nat) (a0 : (List pack_Keyed)) (a1 : (List pack_Keyed)) : Option (Bool) :=
  (if (a0.length : Int) ≠ (a1.length : Int) then some false else (p_slices_EqualFunc_pack_Keyed_l0 K a0 a1 K 0).bind fun z259 => match z259 with | .inl r => some r | .inr w331 => some true)
theorem c_slices_EqualFunc_pack_Keyed {K : Nat} {h : Heap} {I : Nat → Prop} (hI : ∀ b, I b → b < h.size) {v_a0 : Value} {a0 : (List pack_Keyed)} (r_a0 : SlR k_pack_Keyed I h v_a0 a0) {v_a1 : Value} {a1 : (List pack_Keyed)} (r_a1 : SlR k_pack_Keyed I h v_a1 a1) {v_a2 : Value} {r : (Bool)} (H : p_slices_EqualFunc_pack_Keyed K a0 a1 = some r) :
    Fn Tryz.prog 162 [v_a0, v_a1, v_a2] h (fun v h' => Stp [] h h' ∧ v = (.bool r : Value)) := by
  unfold p_slices_EqualFunc_pack_Keyed at H
  refine Fn.of 32 Tryz.func162 rfl rfl ?_
  have s0 := St.start hI
  refine C.seq ?_
  refine C.region 1 rfl ?_
  refine X.val rfl rfl rfl (yAssign rfl) trivial ?_
  refine X.nil ?_
  refine At.then ?_
  refine C.seq ?_
  refine C.seq ?_
  refine C.region 5 rfl ?_
  refine X.val rfl rfl rfl (yMove rfl) trivial ?_
  refine X.val rfl rfl rfl (yLenR Tryz.underlying58 rfl r_a0) trivial ?_
  refine X.val rfl rfl rfl (yMove rfl) trivial ?_
  refine X.val rfl rfl rfl (yLenR Tryz.underlying58 rfl r_a1) trivial ?_
  by_cases g253 : (a0.length : Int) ≠ (a1.length : Int)
  · have H := ifT g253 H
    refine X.val rfl rfl rfl (yBT g253 (yNeq rfl rfl)) trivial ?_
    refine X.nil ?_
    refine At.then ?_
    refine C.condT rfl ?_
    refine C.seq ?_
    refine C.region 1 rfl ?_
    refine X.val rfl rfl rfl (yAssign rfl) trivial ?_
    refine X.nil ?_
    refine At.then ?_
    refine C.ret ?_
    refine At.thenR ?_
    obtain rfl := sm H
    refine At.retn (rs := [.tmp 6]) [.bool false] rfl ?_ ?_
    exact ⟨Rv.tmp rfl, trivial⟩
    exact ⟨s0.stp, rfl⟩
  · have H := ifF g253 H
    refine X.val rfl rfl rfl (yBF g253 (yNeq rfl rfl)) trivial ?_
    refine X.nil ?_
    refine At.then ?_
    refine C.condF rfl ?_
    refine C.skip ?_
    refine At.then ?_
    refine C.seq ?_
    refine C.seq ?_
    refine C.region 3 rfl ?_
    refine X.val rfl rfl rfl (yMove rfl) trivial ?_
    refine X.val rfl rfl rfl (yLenR Tryz.underlying58 rfl r_a0) trivial ?_
    refine X.val rfl rfl rfl (yMove rfl) trivial ?_
    refine X.nil ?_
    refine At.then ?_
    refine C.block ?_
    obtain ⟨z259, e261, G260⟩ := bnd H
    refine C.prune [(1, v_a1), (2, v_a2), (15, v_a0), (16, .int .i64 (a0.length : Int)), (17, .int .i64 0)] (fun a ha => (.cons ha rfl (.cons ha rfl (.cons ha rfl (.cons ha rfl (.cons ha rfl ha.nil)))))) ?_
    refine C.loop (fun k262 e h254 => ∃ (y256 : Int) (I255 : Nat → Prop), e = [(1, v_a1), (2, v_a2), (15, v_a0), (16, .int .i64 (a0.length : Int)), (17, .int .i64 y256)] ∧ St [] h I h254 I255 [] ∧ Tr I h I255 h254 ∧ p_slices_EqualFunc_pack_Keyed_l0 K a0 a1 k262 y256 = some z259) K ⟨0, I, rfl, s0, Tr.refl _ _, e261⟩ ?_ ?_
    · rintro e h' ⟨_, _, _, _, _, H⟩; cases (show none = some _ from H)
    · rintro k262 e h254 ⟨y256, I255, rfl, s257, t258, H⟩
      rw [p_slices_EqualFunc_pack_Keyed_l0] at H
      refine C.seq ?_
      refine C.region 1 rfl ?_
      by_cases g263 : y256 < (a0.length : Int)
      · have H := ifT g263 H
        refine X.val rfl rfl rfl (yBT g263 (yLss rfl rfl)) trivial ?_
        refine X.nil ?_
        refine At.then ?_
        refine C.seq ?_
        refine C.condT rfl ?_
        refine C.skip ?_
        refine At.then ?_
        refine C.seq ?_
        refine C.block ?_
        refine C.seq ?_
        refine C.region 6 rfl ?_
        refine X.val rfl rfl rfl (yMove rfl) trivial ?_
        obtain ⟨⟨g272, g264⟩, H⟩ := ifS H
        obtain ⟨b265, w266, k267, c268, e269, r270, m271⟩ := SlR.get (r_a0.mono t258) g272 g264
        obtain ⟨c273, v275, rfl, r274, r276⟩ := o_pack_Keyed r270
        refine X.val (v := .pointer (some ⟨b265, w266 + (y256).toNat * 10, none⟩)) rfl rfl rfl (yIdxS Tryz.underlying58 Tryz.sizeOf172 (by rw [← e269]; rfl) rfl g272 g264) trivial ?_
        have l277 : c273.length = 8 := (kArr 8 (kI .u64)).len r274
        refine X.val (v := .agg (((.string ⟨((rd a0 y256).Key).toArray⟩ : Value) :: c273 ++ (v275 :: []) : List Value)).toArray) rfl rfl rfl (yLoadW Tryz.isAgg172 Tryz.sizeOf172 rfl m271.rd (by simp [l277])) trivial ?_
        obtain ⟨c278, e279⟩ : ∃ c : List Value, c = (List.replicate 8 (.int .u64 0 : Value)) := ⟨_, rfl⟩
        have r280 : (kArr 8 (kI .u64)).rp I255 h254 c278 (List.replicate 8 (0 : Int)) := by rw [e279]; exact z_T26
        refine X.ef rfl rfl rfl (eAlloc (zs := ((.string ⟨(([] : List UInt8)).toArray⟩ : Value) :: (List.replicate 8 (.int .u64 0 : Value)) ++ ((.slice none 0 0 : Value) :: []) : List Value)) Tryz.zeroValue172 rfl) ?_
        rintro _ h282 ⟨rfl, e287⟩
        obtain ⟨b281, e287b⟩ : ∃ b, b = h254.size := ⟨_, rfl⟩
        rw [← e287b]
        have f286 : Box h282 b281 172 ((.string ⟨(([] : List UInt8)).toArray⟩ : Value) :: c278 ++ ((.slice none 0 0 : Value) :: []) : List Value) := by subst e287; subst e287b; rw [e279]; exact Box.new _ _ _
        have p284 : Stp [] h254 h282 := by subst e287; exact Stp.push _ _
        have s285 : St [] h I h282 I255 (some b281 :: []) := by subst e287; subst e287b; exact s257.new _
        have t283 := s257.tr p284 (by simp) (fun _ hb => hb)
        clear e287 e287b
        refine ⟨trivial, ?_⟩
        refine X.val rfl rfl rfl (yAssign rfl) trivial ?_
        have l288 : c278.length = 8 := (kArr 8 (kI .u64)).len r280
        have l289 : c273.length = 8 := (kArr 8 (kI .u64)).len r274
        refine X.ef rfl rfl rfl (eStore (vs := ((.string ⟨((rd a0 y256).Key).toArray⟩ : Value) :: c273 ++ (v275 :: []) : List Value)) Tryz.sizeOf172 rfl rfl rfl (by simp [l289]) (by simp [ones, ones_append, oInt, oBool, oStr, oSl, oPtr, (kArr 8 (kI .u64)).one r274, SlR.one (r276.mono t283)]) f286 (by simp [l288, l289])) ?_
        rintro _ h290 ⟨rfl, e291⟩
        have f295 : Box h290 b281 172 ((.string ⟨((rd a0 y256).Key).toArray⟩ : Value) :: c273 ++ (v275 :: []) : List Value) := by subst e291; exact Box.reset f286 (by have k := splice_mid ((.string ⟨((rd a0 y256).Key).toArray⟩ : Value) :: c273 ++ (v275 :: []) : List Value) ((.string ⟨(([] : List UInt8)).toArray⟩ : Value) :: c278 ++ ((.slice none 0 0 : Value) :: []) : List Value) [] ([] : List Value) (by simp [l288, l289]); simpa using k)
        have p292 : Stp [some b281] h282 h290 := by subst e291; exact Stp.set _
        have s293 := s285.step p292 (by simp)
        have t294 := s285.tr p292 (by simp) (fun _ hb => hb)
        clear e291
        refine ⟨trivial, ?_⟩
        refine X.nil ?_
        refine At.then ?_
        refine C.seq ?_
        refine C.region 6 rfl ?_
        refine X.val rfl rfl rfl (yMove rfl) trivial ?_
        refine X.val rfl rfl rfl (yMove rfl) trivial ?_
        obtain ⟨⟨g304, g296⟩, H⟩ := ifS H
        obtain ⟨b297, w298, k299, c300, e301, r302, m303⟩ := SlR.get (r_a1.mono (t258.trans (t283.trans t294))) g304 g296
        obtain ⟨c305, v307, rfl, r306, r308⟩ := o_pack_Keyed r302
        refine X.val (v := .pointer (some ⟨b297, w298 + (y256).toNat * 10, none⟩)) rfl rfl rfl (yIdxS Tryz.underlying58 Tryz.sizeOf172 (by rw [← e301]; rfl) rfl g304 g296) trivial ?_
        have l309 : c305.length = 8 := (kArr 8 (kI .u64)).len r306
        refine X.val (v := .agg (((.string ⟨((rd a1 y256).Key).toArray⟩ : Value) :: c305 ++ (v307 :: []) : List Value)).toArray) rfl rfl rfl (yLoadW Tryz.isAgg172 Tryz.sizeOf172 rfl m303.rd (by simp [l309])) trivial ?_
        obtain ⟨c310, e311⟩ : ∃ c : List Value, c = (List.replicate 8 (.int .u64 0 : Value)) := ⟨_, rfl⟩
        have r312 : (kArr 8 (kI .u64)).rp I255 h290 c310 (List.replicate 8 (0 : Int)) := by rw [e311]; exact z_T26
        refine X.ef rfl rfl rfl (eAlloc (zs := ((.string ⟨(([] : List UInt8)).toArray⟩ : Value) :: (List.replicate 8 (.int .u64 0 : Value)) ++ ((.slice none 0 0 : Value) :: []) : List Value)) Tryz.zeroValue172 rfl) ?_
        rintro _ h314 ⟨rfl, e319⟩
        obtain ⟨b313, e319b⟩ : ∃ b, b = h290.size := ⟨_, rfl⟩
        rw [← e319b]
        have f318 : Box h314 b313 172 ((.string ⟨(([] : List UInt8)).toArray⟩ : Value) :: c310 ++ ((.slice none 0 0 : Value) :: []) : List Value) := by subst e319; subst e319b; rw [e311]; exact Box.new _ _ _
        have p316 : Stp [] h290 h314 := by subst e319; exact Stp.push _ _
        have s317 : St [] h I h314 I255 (some b313 :: [some b281]) := by subst e319; subst e319b; exact s293.new _
        have t315 := s293.tr p316 (by simp) (fun _ hb => hb)
        clear e319 e319b
        refine ⟨trivial, ?_⟩
        have l320 : c310.length = 8 := (kArr 8 (kI .u64)).len r312
        have l321 : c305.length = 8 := (kArr 8 (kI .u64)).len r306
        refine X.ef rfl rfl rfl (eStore (vs := ((.string ⟨((rd a1 y256).Key).toArray⟩ : Value) :: c305 ++ (v307 :: []) : List Value)) Tryz.sizeOf172 rfl rfl rfl (by simp [l321]) (by simp [ones, ones_append, oInt, oBool, oStr, oSl, oPtr, (kArr 8 (kI .u64)).one r306, SlR.one (r308.mono t315)]) f318 (by simp [l320, l321])) ?_
        rintro _ h322 ⟨rfl, e323⟩
        have f327 : Box h322 b313 172 ((.string ⟨((rd a1 y256).Key).toArray⟩ : Value) :: c305 ++ (v307 :: []) : List Value) := by subst e323; exact Box.reset f318 (by have k := splice_mid ((.string ⟨((rd a1 y256).Key).toArray⟩ : Value) :: c305 ++ (v307 :: []) : List Value) ((.string ⟨(([] : List UInt8)).toArray⟩ : Value) :: c310 ++ ((.slice none 0 0 : Value) :: []) : List Value) [] ([] : List Value) (by simp [l320, l321]); simpa using k)
        have p324 : Stp [some b313] h314 h322 := by subst e323; exact Stp.set _
        have s325 := s317.step p324 (by simp)
        have t326 := s317.tr p324 (by simp) (fun _ hb => hb)
        clear e323
        refine ⟨trivial, ?_⟩
        refine X.nil ?_
        refine At.then ?_
        refine C.seq ?_
        refine C.region 5 rfl ?_
        refine X.val rfl rfl rfl (yMove rfl) trivial ?_
        have b328 := ((f295.stp p316 (by simp)).stp p324 ((s317.sep 1 [0] rfl rfl rfl) _ rfl))
        have l329 : c273.length = 8 := (kArr 8 (kI .u64)).len r274
        refine X.val (v := .agg (((.string ⟨((rd a0 y256).Key).toArray⟩ : Value) :: c273 ++ (v275 :: []) : List Value)).toArray) rfl rfl rfl (yLoadW Tryz.isAgg172 Tryz.sizeOf172 rfl (b328).all (by simp [l329])) trivial ?_
        have l330 : c305.length = 8 := (kArr 8 (kI .u64)).len r306
        refine X.val (v := .agg (((.string ⟨((rd a1 y256).Key).toArray⟩ : Value) :: c305 ++ (v307 :: []) : List Value)).toArray) rfl rfl rfl (yLoadW Tryz.isAgg172 Tryz.sizeOf172 rfl (f327).all (by simp [l330])) trivial ?_
        cases H
      · have H := ifF g263 H
        refine X.val rfl rfl rfl (yBF g263 (yLss rfl rfl)) trivial ?_
        refine X.nil ?_
        refine At.then ?_
        refine C.seq ?_
        refine C.condF rfl ?_
        refine C.exit ?_
        refine At.thenE ?_
        refine At.backE ?_
        obtain rfl := sm H
        have H := G260
        try dsimp only at H
        refine At.blkE ?_
        refine At.then ?_
        refine C.seq ?_
        refine C.region 1 rfl ?_
        refine X.val rfl rfl rfl (yAssign rfl) trivial ?_
        refine X.nil ?_
        refine At.then ?_
        refine C.ret ?_
        obtain rfl := sm H
        refine At.retn (rs := [.tmp 6]) [.bool true] rfl ?_ ?_
        exact ⟨Rv.tmp rfl, trivial⟩
        exact ⟨s257.stp, rfl⟩

def p_proto_Same (K : Nat) (a0 : proto_Msg) (a1 : proto_Msg) : Option (Bool) :=
  (if a0.Kind = a1.Kind then (if a0.From = a1.From then (if a0.To = a1.To then (if a0.Session = a1.Session then (if a0.Part = a1.Part then (if a0.Digest = a1.Digest then (p_slices_Equal_int K a0.Places a1.Places).bind fun x383 => (bif x383 then (p_slices_Equal_api_Digest K a0.Digests a1.Digests).bind fun x393 => (bif x393 then (p_slices_EqualFunc_pack_Keyed K a0.Carts a1.Carts).bind fun x403 => some x403 else some false) else some false) else some false) else some false) else some false) else some false) else some false) else some false)
theorem c_proto_Same {K : Nat} {h : Heap} {I : Nat → Prop} (hI : ∀ b, I b → b < h.size) {c_a0 : List Value} {a0 : proto_Msg} (r_a0 : (k_proto_Msg).rp I h c_a0 a0) {c_a1 : List Value} {a1 : proto_Msg} (r_a1 : (k_proto_Msg).rp I h c_a1 a1) {r : (Bool)} (H : p_proto_Same K a0 a1 = some r) :
    Fn Tryz.prog 44 [.agg c_a0.toArray, .agg c_a1.toArray] h (fun v h' => Stp [] h h' ∧ v = (.bool r : Value)) := by
  unfold p_proto_Same at H
  obtain ⟨c332, v334, v336, v338, rfl, r333, r335, r337, r339⟩ := o_proto_Msg r_a0
  obtain ⟨c340, v342, v344, v346, rfl, r341, r343, r345, r347⟩ := o_proto_Msg r_a1
  refine Fn.of 68 Tryz.func44 rfl rfl ?_
  have s0 := St.start hI
  refine C.seq ?_
  refine C.region 3 rfl ?_
  refine X.ef rfl rfl rfl (eBox (cs := ((.int .i64 a0.Kind : Value) :: (.int .i64 a0.From : Value) :: (.int .i64 a0.To : Value) :: (.int .i64 a0.Session : Value) :: (.int .i64 a0.Part : Value) :: c332 ++ (v334 :: v336 :: v338 :: []) : List Value)) rfl rfl) ?_
  rintro _ h349 ⟨rfl, e354⟩
  obtain ⟨b348, e354b⟩ : ∃ b, b = h.size := ⟨_, rfl⟩
  rw [← e354b]
  have f353 : Box h349 b348 77 ((.int .i64 a0.Kind : Value) :: (.int .i64 a0.From : Value) :: (.int .i64 a0.To : Value) :: (.int .i64 a0.Session : Value) :: (.int .i64 a0.Part : Value) :: c332 ++ (v334 :: v336 :: v338 :: []) : List Value) := by subst e354; subst e354b; exact Box.new _ _ _
  have p351 : Stp [] h h349 := by subst e354; exact Stp.push _ _
  have s352 : St [] h I h349 I (some b348 :: []) := by subst e354; subst e354b; exact s0.new _
  have t350 := s0.tr p351 (by simp) (fun _ hb => hb)
  clear e354 e354b
  refine ⟨trivial, ?_⟩
  refine X.ef rfl rfl rfl (eBox (cs := ((.int .i64 a1.Kind : Value) :: (.int .i64 a1.From : Value) :: (.int .i64 a1.To : Value) :: (.int .i64 a1.Session : Value) :: (.int .i64 a1.Part : Value) :: c340 ++ (v342 :: v344 :: v346 :: []) : List Value)) rfl rfl) ?_
  rintro _ h356 ⟨rfl, e361⟩
  obtain ⟨b355, e361b⟩ : ∃ b, b = h349.size := ⟨_, rfl⟩
  rw [← e361b]
  have f360 : Box h356 b355 77 ((.int .i64 a1.Kind : Value) :: (.int .i64 a1.From : Value) :: (.int .i64 a1.To : Value) :: (.int .i64 a1.Session : Value) :: (.int .i64 a1.Part : Value) :: c340 ++ (v342 :: v344 :: v346 :: []) : List Value) := by subst e361; subst e361b; exact Box.new _ _ _
  have p358 : Stp [] h349 h356 := by subst e361; exact Stp.push _ _
  have s359 : St [] h I h356 I (some b355 :: [some b348]) := by subst e361; subst e361b; exact s352.new _
  have t357 := s352.tr p358 (by simp) (fun _ hb => hb)
  clear e361 e361b
  refine ⟨trivial, ?_⟩
  refine X.val rfl rfl rfl (yAssign rfl) trivial ?_
  refine X.nil ?_
  refine At.then ?_
  refine C.seq ?_
  refine C.region 1 rfl ?_
  refine X.val (v := .func (.func 159) #[] #[]) rfl rfl rfl (yAssign rfl) trivial ?_
  refine X.nil ?_
  refine At.then ?_
  refine C.seq ?_
  refine C.region 63 rfl ?_
  refine X.val (v := .pointer (some ⟨b348, 0, none⟩)) rfl rfl rfl (yField 3 0 Tryz.underlying77 Tryz.sizeOf3 rfl rfl rfl) trivial ?_
  have b362 := (f353.stp p358 (by simp))
  have l363 : c332.length = 32 := (kArr 32 (kI .u8)).len r333
  refine X.val (v := .int .i64 a0.Kind) rfl rfl rfl (yLoadS (j := 0) Tryz.isAgg3 rfl (b362).all rfl (by simp [l363])) trivial ?_
  refine X.val (v := .pointer (some ⟨b355, 0, none⟩)) rfl rfl rfl (yField 3 0 Tryz.underlying77 Tryz.sizeOf3 rfl rfl rfl) trivial ?_
  have l364 : c340.length = 32 := (kArr 32 (kI .u8)).len r341
  refine X.val (v := .int .i64 a1.Kind) rfl rfl rfl (yLoadS (j := 0) Tryz.isAgg3 rfl (f360).all rfl (by simp [l364])) trivial ?_
  by_cases g365 : a0.Kind = a1.Kind
  · have H := ifT g365 H
    refine X.val rfl rfl rfl (yBT g365 (yEql rfl rfl)) trivial ?_
    refine X.val rfl rfl rfl (yMove rfl) trivial ?_
    refine X.val (v := .pointer (some ⟨b348, 1, none⟩)) rfl rfl rfl (yField 3 1 Tryz.underlying77 Tryz.sizeOf3 rfl rfl rfl) trivial ?_
    have l366 : c332.length = 32 := (kArr 32 (kI .u8)).len r333
    refine X.val (v := .int .i64 a0.From) rfl rfl rfl (yLoadS (j := 1) Tryz.isAgg3 rfl (b362).all rfl (by simp [l366])) trivial ?_
    refine X.val (v := .pointer (some ⟨b355, 1, none⟩)) rfl rfl rfl (yField 3 1 Tryz.underlying77 Tryz.sizeOf3 rfl rfl rfl) trivial ?_
    have l367 : c340.length = 32 := (kArr 32 (kI .u8)).len r341
    refine X.val (v := .int .i64 a1.From) rfl rfl rfl (yLoadS (j := 1) Tryz.isAgg3 rfl (f360).all rfl (by simp [l367])) trivial ?_
    by_cases g368 : a0.From = a1.From
    · have H := ifT g368 H
      refine X.val rfl rfl rfl (yBT g368 (yEql rfl rfl)) trivial ?_
      refine X.val rfl rfl rfl (yPickT rfl rfl) trivial ?_
      refine X.val rfl rfl rfl (yMove rfl) trivial ?_
      refine X.val (v := .pointer (some ⟨b348, 2, none⟩)) rfl rfl rfl (yField 3 2 Tryz.underlying77 Tryz.sizeOf3 rfl rfl rfl) trivial ?_
      have l369 : c332.length = 32 := (kArr 32 (kI .u8)).len r333
      refine X.val (v := .int .i64 a0.To) rfl rfl rfl (yLoadS (j := 2) Tryz.isAgg3 rfl (b362).all rfl (by simp [l369])) trivial ?_
      refine X.val (v := .pointer (some ⟨b355, 2, none⟩)) rfl rfl rfl (yField 3 2 Tryz.underlying77 Tryz.sizeOf3 rfl rfl rfl) trivial ?_
      have l370 : c340.length = 32 := (kArr 32 (kI .u8)).len r341
      refine X.val (v := .int .i64 a1.To) rfl rfl rfl (yLoadS (j := 2) Tryz.isAgg3 rfl (f360).all rfl (by simp [l370])) trivial ?_
      by_cases g371 : a0.To = a1.To
      · have H := ifT g371 H
        refine X.val rfl rfl rfl (yBT g371 (yEql rfl rfl)) trivial ?_
        refine X.val rfl rfl rfl (yPickT rfl rfl) trivial ?_
        refine X.val rfl rfl rfl (yMove rfl) trivial ?_
        refine X.val (v := .pointer (some ⟨b348, 3, none⟩)) rfl rfl rfl (yField 3 3 Tryz.underlying77 Tryz.sizeOf3 rfl rfl rfl) trivial ?_
        have l372 : c332.length = 32 := (kArr 32 (kI .u8)).len r333
        refine X.val (v := .int .i64 a0.Session) rfl rfl rfl (yLoadS (j := 3) Tryz.isAgg3 rfl (b362).all rfl (by simp [l372])) trivial ?_
        refine X.val (v := .pointer (some ⟨b355, 3, none⟩)) rfl rfl rfl (yField 3 3 Tryz.underlying77 Tryz.sizeOf3 rfl rfl rfl) trivial ?_
        have l373 : c340.length = 32 := (kArr 32 (kI .u8)).len r341
        refine X.val (v := .int .i64 a1.Session) rfl rfl rfl (yLoadS (j := 3) Tryz.isAgg3 rfl (f360).all rfl (by simp [l373])) trivial ?_
        by_cases g374 : a0.Session = a1.Session
        · have H := ifT g374 H
          refine X.val rfl rfl rfl (yBT g374 (yEql rfl rfl)) trivial ?_
          refine X.val rfl rfl rfl (yPickT rfl rfl) trivial ?_
          refine X.val rfl rfl rfl (yMove rfl) trivial ?_
          refine X.val (v := .pointer (some ⟨b348, 4, none⟩)) rfl rfl rfl (yField 3 4 Tryz.underlying77 Tryz.sizeOf3 rfl rfl rfl) trivial ?_
          have l375 : c332.length = 32 := (kArr 32 (kI .u8)).len r333
          refine X.val (v := .int .i64 a0.Part) rfl rfl rfl (yLoadS (j := 4) Tryz.isAgg3 rfl (b362).all rfl (by simp [l375])) trivial ?_
          refine X.val (v := .pointer (some ⟨b355, 4, none⟩)) rfl rfl rfl (yField 3 4 Tryz.underlying77 Tryz.sizeOf3 rfl rfl rfl) trivial ?_
          have l376 : c340.length = 32 := (kArr 32 (kI .u8)).len r341
          refine X.val (v := .int .i64 a1.Part) rfl rfl rfl (yLoadS (j := 4) Tryz.isAgg3 rfl (f360).all rfl (by simp [l376])) trivial ?_
          by_cases g377 : a0.Part = a1.Part
          · have H := ifT g377 H
            refine X.val rfl rfl rfl (yBT g377 (yEql rfl rfl)) trivial ?_
            refine X.val rfl rfl rfl (yPickT rfl rfl) trivial ?_
            refine X.val rfl rfl rfl (yMove rfl) trivial ?_
            refine X.val (v := .pointer (some ⟨b348, 5, none⟩)) rfl rfl rfl (yField 65 5 Tryz.underlying77 Tryz.sizeOf65 rfl rfl rfl) trivial ?_
            have l378 : c332.length = 32 := (kArr 32 (kI .u8)).len r333
            refine X.val (v := .agg ((c332 : List Value)).toArray) rfl rfl rfl (yLoadA (j := 5) (mid := (c332 : List Value)) Tryz.isAgg65 Tryz.sizeOf65 rfl (b362).all rfl (by first | (simp [l378]; done) | (simp [List.take_append, List.drop_append, List.take_of_length_le, l378]; done)) (by simp [l378])) trivial ?_
            refine X.val (v := .pointer (some ⟨b355, 5, none⟩)) rfl rfl rfl (yField 65 5 Tryz.underlying77 Tryz.sizeOf65 rfl rfl rfl) trivial ?_
            have l379 : c340.length = 32 := (kArr 32 (kI .u8)).len r341
            refine X.val (v := .agg ((c340 : List Value)).toArray) rfl rfl rfl (yLoadA (j := 5) (mid := (c340 : List Value)) Tryz.isAgg65 Tryz.sizeOf65 rfl (f360).all rfl (by first | (simp [l379]; done) | (simp [List.take_append, List.drop_append, List.take_of_length_le, l379]; done)) (by simp [l379])) trivial ?_
            by_cases g380 : a0.Digest = a1.Digest
            · have H := ifT g380 H
              refine X.val rfl rfl rfl (yBT g380 (yEqA q_T65 rfl Tryz.eqGuardType65 rfl rfl ((kArr 32 (kI .u8)).mono r333 (t350.trans t357)) ((kArr 32 (kI .u8)).mono r341 (t350.trans t357)))) trivial ?_
              refine X.val rfl rfl rfl (yPickT rfl rfl) trivial ?_
              refine X.val rfl rfl rfl (yMove rfl) trivial ?_
              refine X.val (v := .pointer (some ⟨b348, 37, none⟩)) rfl rfl rfl (yField 67 37 Tryz.underlying77 Tryz.sizeOf67 rfl rfl rfl) trivial ?_
              have l381 : c332.length = 32 := (kArr 32 (kI .u8)).len r333
              refine X.val (v := v334) rfl rfl rfl (yLoadS (j := 37) Tryz.isAgg67 rfl (b362).all rfl (by simp [l381])) trivial ?_
              refine X.val (v := .pointer (some ⟨b355, 37, none⟩)) rfl rfl rfl (yField 67 37 Tryz.underlying77 Tryz.sizeOf67 rfl rfl rfl) trivial ?_
              have l382 : c340.length = 32 := (kArr 32 (kI .u8)).len r341
              refine X.val (v := v342) rfl rfl rfl (yLoadS (j := 37) Tryz.isAgg67 rfl (f360).all rfl (by simp [l382])) trivial ?_
              obtain ⟨x383, e384, H⟩ := bnd H
              refine X.call (all := [v334, v342]) Tryz.call160 rfl rfl rfl rfl rfl rfl (c_slices_Equal_int s359.ib (r335.mono (t350.trans t357)) (r343.mono (t350.trans t357)) e384) ?_
              rintro _ h385 ⟨p386, rfl⟩
              have s387 := s359.call p386
              have t388 := s359.callTr p386
              refine ⟨trivial, ?_⟩
              refine X.val rfl rfl rfl (yPickT rfl rfl) trivial ?_
              refine X.val rfl rfl rfl (yMove rfl) trivial ?_
              cases x383
              · have H := biF H
                refine X.skip rfl rfl rfl trivial ?_
                refine X.skip rfl rfl rfl trivial ?_
                refine X.skip rfl rfl rfl trivial ?_
                refine X.skip rfl rfl rfl trivial ?_
                refine X.skip rfl rfl rfl trivial ?_
                refine X.val rfl rfl rfl (yPickF rfl rfl) trivial ?_
                refine X.val rfl rfl rfl (yMove rfl) trivial ?_
                refine X.skip rfl rfl rfl trivial ?_
                refine X.skip rfl rfl rfl trivial ?_
                refine X.skip rfl rfl rfl trivial ?_
                refine X.skip rfl rfl rfl trivial ?_
                refine X.skip rfl rfl rfl trivial ?_
                refine X.skip rfl rfl rfl trivial ?_
                refine X.val rfl rfl rfl (yPickF rfl rfl) trivial ?_
                refine X.val rfl rfl rfl (yAssign rfl) trivial ?_
                refine X.nil ?_
                refine At.then ?_
                refine C.ret ?_
                obtain rfl := sm H
                refine At.retn (rs := [.tmp 4]) [.bool false] rfl ?_ ?_
                exact ⟨Rv.tmp rfl, trivial⟩
                exact ⟨s387.stp, rfl⟩
              · have H := biT H
                refine X.val (v := .pointer (some ⟨b348, 38, none⟩)) rfl rfl rfl (yField 75 38 Tryz.underlying77 Tryz.sizeOf75 rfl rfl rfl) trivial ?_
                have b389 := (b362.stp p386 (by simp))
                have l390 : c332.length = 32 := (kArr 32 (kI .u8)).len r333
                refine X.val (v := v336) rfl rfl rfl (yLoadS (j := 38) Tryz.isAgg75 rfl (b389).all rfl (by simp [l390])) trivial ?_
                refine X.val (v := .pointer (some ⟨b355, 38, none⟩)) rfl rfl rfl (yField 75 38 Tryz.underlying77 Tryz.sizeOf75 rfl rfl rfl) trivial ?_
                have b391 := (f360.stp p386 (by simp))
                have l392 : c340.length = 32 := (kArr 32 (kI .u8)).len r341
                refine X.val (v := v344) rfl rfl rfl (yLoadS (j := 38) Tryz.isAgg75 rfl (b391).all rfl (by simp [l392])) trivial ?_
                obtain ⟨x393, e394, H⟩ := bnd H
                refine X.call (all := [v336, v344]) Tryz.call161 rfl rfl rfl rfl rfl rfl (c_slices_Equal_api_Digest s387.ib (r337.mono (t350.trans (t357.trans t388))) (r345.mono (t350.trans (t357.trans t388))) e394) ?_
                rintro _ h395 ⟨p396, rfl⟩
                have s397 := s387.call p396
                have t398 := s387.callTr p396
                refine ⟨trivial, ?_⟩
                refine X.val rfl rfl rfl (yPickT rfl rfl) trivial ?_
                refine X.val rfl rfl rfl (yMove rfl) trivial ?_
                cases x393
                · have H := biF H
                  refine X.skip rfl rfl rfl trivial ?_
                  refine X.skip rfl rfl rfl trivial ?_
                  refine X.skip rfl rfl rfl trivial ?_
                  refine X.skip rfl rfl rfl trivial ?_
                  refine X.skip rfl rfl rfl trivial ?_
                  refine X.skip rfl rfl rfl trivial ?_
                  refine X.val rfl rfl rfl (yPickF rfl rfl) trivial ?_
                  refine X.val rfl rfl rfl (yAssign rfl) trivial ?_
                  refine X.nil ?_
                  refine At.then ?_
                  refine C.ret ?_
                  obtain rfl := sm H
                  refine At.retn (rs := [.tmp 4]) [.bool false] rfl ?_ ?_
                  exact ⟨Rv.tmp rfl, trivial⟩
                  exact ⟨s397.stp, rfl⟩
                · have H := biT H
                  refine X.val (v := .pointer (some ⟨b348, 39, none⟩)) rfl rfl rfl (yField 58 39 Tryz.underlying77 Tryz.sizeOf58 rfl rfl rfl) trivial ?_
                  have b399 := (b389.stp p396 (by simp))
                  have l400 : c332.length = 32 := (kArr 32 (kI .u8)).len r333
                  refine X.val (v := v338) rfl rfl rfl (yLoadS (j := 39) Tryz.isAgg58 rfl (b399).all rfl (by simp [l400])) trivial ?_
                  refine X.val (v := .pointer (some ⟨b355, 39, none⟩)) rfl rfl rfl (yField 58 39 Tryz.underlying77 Tryz.sizeOf58 rfl rfl rfl) trivial ?_
                  have b401 := (b391.stp p396 (by simp))
                  have l402 : c340.length = 32 := (kArr 32 (kI .u8)).len r341
                  refine X.val (v := v346) rfl rfl rfl (yLoadS (j := 39) Tryz.isAgg58 rfl (b401).all rfl (by simp [l402])) trivial ?_
                  refine X.val rfl rfl rfl (yMove rfl) trivial ?_
                  obtain ⟨x403, e404, H⟩ := bnd H
                  refine X.call (all := [v338, v346, .func (.func 159) #[] #[]]) Tryz.call162 rfl rfl rfl rfl rfl rfl (c_slices_EqualFunc_pack_Keyed s397.ib (r339.mono (t350.trans (t357.trans (t388.trans t398)))) (r347.mono (t350.trans (t357.trans (t388.trans t398)))) e404) ?_
                  rintro _ h405 ⟨p406, rfl⟩
                  have s407 := s397.call p406
                  have t408 := s397.callTr p406
                  refine ⟨trivial, ?_⟩
                  refine X.val rfl rfl rfl (yPickT rfl rfl) trivial ?_
                  refine X.val rfl rfl rfl (yAssign rfl) trivial ?_
                  refine X.nil ?_
                  refine At.then ?_
                  refine C.ret ?_
                  obtain rfl := sm H
                  refine At.retn (rs := [.tmp 4]) [.bool x403] rfl ?_ ?_
                  exact ⟨Rv.tmp rfl, trivial⟩
                  exact ⟨s407.stp, rfl⟩
            · have H := ifF g380 H
              refine X.val rfl rfl rfl (yBF g380 (yEqA q_T65 rfl Tryz.eqGuardType65 rfl rfl ((kArr 32 (kI .u8)).mono r333 (t350.trans t357)) ((kArr 32 (kI .u8)).mono r341 (t350.trans t357)))) trivial ?_
              refine X.val rfl rfl rfl (yPickT rfl rfl) trivial ?_
              refine X.val rfl rfl rfl (yMove rfl) trivial ?_
              refine X.skip rfl rfl rfl trivial ?_
              refine X.skip rfl rfl rfl trivial ?_
              refine X.skip rfl rfl rfl trivial ?_
              refine X.skip rfl rfl rfl trivial ?_
              refine X.skip rfl rfl rfl trivial ?_
              refine X.val rfl rfl rfl (yPickF rfl rfl) trivial ?_
              refine X.val rfl rfl rfl (yMove rfl) trivial ?_
              refine X.skip rfl rfl rfl trivial ?_
              refine X.skip rfl rfl rfl trivial ?_
              refine X.skip rfl rfl rfl trivial ?_
              refine X.skip rfl rfl rfl trivial ?_
              refine X.skip rfl rfl rfl trivial ?_
              refine X.val rfl rfl rfl (yPickF rfl rfl) trivial ?_
              refine X.val rfl rfl rfl (yMove rfl) trivial ?_
              refine X.skip rfl rfl rfl trivial ?_
              refine X.skip rfl rfl rfl trivial ?_
              refine X.skip rfl rfl rfl trivial ?_
              refine X.skip rfl rfl rfl trivial ?_
              refine X.skip rfl rfl rfl trivial ?_
              refine X.skip rfl rfl rfl trivial ?_
              refine X.val rfl rfl rfl (yPickF rfl rfl) trivial ?_
              refine X.val rfl rfl rfl (yAssign rfl) trivial ?_
              refine X.nil ?_
              refine At.then ?_
              refine C.ret ?_
              obtain rfl := sm H
              refine At.retn (rs := [.tmp 4]) [.bool false] rfl ?_ ?_
              exact ⟨Rv.tmp rfl, trivial⟩
              exact ⟨s359.stp, rfl⟩
          · have H := ifF g377 H
            refine X.val rfl rfl rfl (yBF g377 (yEql rfl rfl)) trivial ?_
            refine X.val rfl rfl rfl (yPickT rfl rfl) trivial ?_
            refine X.val rfl rfl rfl (yMove rfl) trivial ?_
            refine X.skip rfl rfl rfl trivial ?_
            refine X.skip rfl rfl rfl trivial ?_
            refine X.skip rfl rfl rfl trivial ?_
            refine X.skip rfl rfl rfl trivial ?_
            refine X.skip rfl rfl rfl trivial ?_
            refine X.val rfl rfl rfl (yPickF rfl rfl) trivial ?_
            refine X.val rfl rfl rfl (yMove rfl) trivial ?_
            refine X.skip rfl rfl rfl trivial ?_
            refine X.skip rfl rfl rfl trivial ?_
            refine X.skip rfl rfl rfl trivial ?_
            refine X.skip rfl rfl rfl trivial ?_
            refine X.skip rfl rfl rfl trivial ?_
            refine X.val rfl rfl rfl (yPickF rfl rfl) trivial ?_
            refine X.val rfl rfl rfl (yMove rfl) trivial ?_
            refine X.skip rfl rfl rfl trivial ?_
            refine X.skip rfl rfl rfl trivial ?_
            refine X.skip rfl rfl rfl trivial ?_
            refine X.skip rfl rfl rfl trivial ?_
            refine X.skip rfl rfl rfl trivial ?_
            refine X.val rfl rfl rfl (yPickF rfl rfl) trivial ?_
            refine X.val rfl rfl rfl (yMove rfl) trivial ?_
            refine X.skip rfl rfl rfl trivial ?_
            refine X.skip rfl rfl rfl trivial ?_
            refine X.skip rfl rfl rfl trivial ?_
            refine X.skip rfl rfl rfl trivial ?_
            refine X.skip rfl rfl rfl trivial ?_
            refine X.skip rfl rfl rfl trivial ?_
            refine X.val rfl rfl rfl (yPickF rfl rfl) trivial ?_
            refine X.val rfl rfl rfl (yAssign rfl) trivial ?_
            refine X.nil ?_
            refine At.then ?_
            refine C.ret ?_
            obtain rfl := sm H
            refine At.retn (rs := [.tmp 4]) [.bool false] rfl ?_ ?_
            exact ⟨Rv.tmp rfl, trivial⟩
            exact ⟨s359.stp, rfl⟩
        · have H := ifF g374 H
          refine X.val rfl rfl rfl (yBF g374 (yEql rfl rfl)) trivial ?_
          refine X.val rfl rfl rfl (yPickT rfl rfl) trivial ?_
          refine X.val rfl rfl rfl (yMove rfl) trivial ?_
          refine X.skip rfl rfl rfl trivial ?_
          refine X.skip rfl rfl rfl trivial ?_
          refine X.skip rfl rfl rfl trivial ?_
          refine X.skip rfl rfl rfl trivial ?_
          refine X.skip rfl rfl rfl trivial ?_
          refine X.val rfl rfl rfl (yPickF rfl rfl) trivial ?_
          refine X.val rfl rfl rfl (yMove rfl) trivial ?_
          refine X.skip rfl rfl rfl trivial ?_
          refine X.skip rfl rfl rfl trivial ?_
          refine X.skip rfl rfl rfl trivial ?_
          refine X.skip rfl rfl rfl trivial ?_
          refine X.skip rfl rfl rfl trivial ?_
          refine X.val rfl rfl rfl (yPickF rfl rfl) trivial ?_
          refine X.val rfl rfl rfl (yMove rfl) trivial ?_
          refine X.skip rfl rfl rfl trivial ?_
          refine X.skip rfl rfl rfl trivial ?_
          refine X.skip rfl rfl rfl trivial ?_
          refine X.skip rfl rfl rfl trivial ?_
          refine X.skip rfl rfl rfl trivial ?_
          refine X.val rfl rfl rfl (yPickF rfl rfl) trivial ?_
          refine X.val rfl rfl rfl (yMove rfl) trivial ?_
          refine X.skip rfl rfl rfl trivial ?_
          refine X.skip rfl rfl rfl trivial ?_
          refine X.skip rfl rfl rfl trivial ?_
          refine X.skip rfl rfl rfl trivial ?_
          refine X.skip rfl rfl rfl trivial ?_
          refine X.val rfl rfl rfl (yPickF rfl rfl) trivial ?_
          refine X.val rfl rfl rfl (yMove rfl) trivial ?_
          refine X.skip rfl rfl rfl trivial ?_
          refine X.skip rfl rfl rfl trivial ?_
          refine X.skip rfl rfl rfl trivial ?_
          refine X.skip rfl rfl rfl trivial ?_
          refine X.skip rfl rfl rfl trivial ?_
          refine X.skip rfl rfl rfl trivial ?_
          refine X.val rfl rfl rfl (yPickF rfl rfl) trivial ?_
          refine X.val rfl rfl rfl (yAssign rfl) trivial ?_
          refine X.nil ?_
          refine At.then ?_
          refine C.ret ?_
          obtain rfl := sm H
          refine At.retn (rs := [.tmp 4]) [.bool false] rfl ?_ ?_
          exact ⟨Rv.tmp rfl, trivial⟩
          exact ⟨s359.stp, rfl⟩
      · have H := ifF g371 H
        refine X.val rfl rfl rfl (yBF g371 (yEql rfl rfl)) trivial ?_
        refine X.val rfl rfl rfl (yPickT rfl rfl) trivial ?_
        refine X.val rfl rfl rfl (yMove rfl) trivial ?_
        refine X.skip rfl rfl rfl trivial ?_
        refine X.skip rfl rfl rfl trivial ?_
        refine X.skip rfl rfl rfl trivial ?_
        refine X.skip rfl rfl rfl trivial ?_
        refine X.skip rfl rfl rfl trivial ?_
        refine X.val rfl rfl rfl (yPickF rfl rfl) trivial ?_
        refine X.val rfl rfl rfl (yMove rfl) trivial ?_
        refine X.skip rfl rfl rfl trivial ?_
        refine X.skip rfl rfl rfl trivial ?_
        refine X.skip rfl rfl rfl trivial ?_
        refine X.skip rfl rfl rfl trivial ?_
        refine X.skip rfl rfl rfl trivial ?_
        refine X.val rfl rfl rfl (yPickF rfl rfl) trivial ?_
        refine X.val rfl rfl rfl (yMove rfl) trivial ?_
        refine X.skip rfl rfl rfl trivial ?_
        refine X.skip rfl rfl rfl trivial ?_
        refine X.skip rfl rfl rfl trivial ?_
        refine X.skip rfl rfl rfl trivial ?_
        refine X.skip rfl rfl rfl trivial ?_
        refine X.val rfl rfl rfl (yPickF rfl rfl) trivial ?_
        refine X.val rfl rfl rfl (yMove rfl) trivial ?_
        refine X.skip rfl rfl rfl trivial ?_
        refine X.skip rfl rfl rfl trivial ?_
        refine X.skip rfl rfl rfl trivial ?_
        refine X.skip rfl rfl rfl trivial ?_
        refine X.skip rfl rfl rfl trivial ?_
        refine X.val rfl rfl rfl (yPickF rfl rfl) trivial ?_
        refine X.val rfl rfl rfl (yMove rfl) trivial ?_
        refine X.skip rfl rfl rfl trivial ?_
        refine X.skip rfl rfl rfl trivial ?_
        refine X.skip rfl rfl rfl trivial ?_
        refine X.skip rfl rfl rfl trivial ?_
        refine X.skip rfl rfl rfl trivial ?_
        refine X.val rfl rfl rfl (yPickF rfl rfl) trivial ?_
        refine X.val rfl rfl rfl (yMove rfl) trivial ?_
        refine X.skip rfl rfl rfl trivial ?_
        refine X.skip rfl rfl rfl trivial ?_
        refine X.skip rfl rfl rfl trivial ?_
        refine X.skip rfl rfl rfl trivial ?_
        refine X.skip rfl rfl rfl trivial ?_
        refine X.skip rfl rfl rfl trivial ?_
        refine X.val rfl rfl rfl (yPickF rfl rfl) trivial ?_
        refine X.val rfl rfl rfl (yAssign rfl) trivial ?_
        refine X.nil ?_
        refine At.then ?_
        refine C.ret ?_
        obtain rfl := sm H
        refine At.retn (rs := [.tmp 4]) [.bool false] rfl ?_ ?_
        exact ⟨Rv.tmp rfl, trivial⟩
        exact ⟨s359.stp, rfl⟩
    · have H := ifF g368 H
      refine X.val rfl rfl rfl (yBF g368 (yEql rfl rfl)) trivial ?_
      refine X.val rfl rfl rfl (yPickT rfl rfl) trivial ?_
      refine X.val rfl rfl rfl (yMove rfl) trivial ?_
      refine X.skip rfl rfl rfl trivial ?_
      refine X.skip rfl rfl rfl trivial ?_
      refine X.skip rfl rfl rfl trivial ?_
      refine X.skip rfl rfl rfl trivial ?_
      refine X.skip rfl rfl rfl trivial ?_
      refine X.val rfl rfl rfl (yPickF rfl rfl) trivial ?_
      refine X.val rfl rfl rfl (yMove rfl) trivial ?_
      refine X.skip rfl rfl rfl trivial ?_
      refine X.skip rfl rfl rfl trivial ?_
      refine X.skip rfl rfl rfl trivial ?_
      refine X.skip rfl rfl rfl trivial ?_
      refine X.skip rfl rfl rfl trivial ?_
      refine X.val rfl rfl rfl (yPickF rfl rfl) trivial ?_
      refine X.val rfl rfl rfl (yMove rfl) trivial ?_
      refine X.skip rfl rfl rfl trivial ?_
      refine X.skip rfl rfl rfl trivial ?_
      refine X.skip rfl rfl rfl trivial ?_
      refine X.skip rfl rfl rfl trivial ?_
      refine X.skip rfl rfl rfl trivial ?_
      refine X.val rfl rfl rfl (yPickF rfl rfl) trivial ?_
      refine X.val rfl rfl rfl (yMove rfl) trivial ?_
      refine X.skip rfl rfl rfl trivial ?_
      refine X.skip rfl rfl rfl trivial ?_
      refine X.skip rfl rfl rfl trivial ?_
      refine X.skip rfl rfl rfl trivial ?_
      refine X.skip rfl rfl rfl trivial ?_
      refine X.val rfl rfl rfl (yPickF rfl rfl) trivial ?_
      refine X.val rfl rfl rfl (yMove rfl) trivial ?_
      refine X.skip rfl rfl rfl trivial ?_
      refine X.skip rfl rfl rfl trivial ?_
      refine X.skip rfl rfl rfl trivial ?_
      refine X.skip rfl rfl rfl trivial ?_
      refine X.skip rfl rfl rfl trivial ?_
      refine X.val rfl rfl rfl (yPickF rfl rfl) trivial ?_
      refine X.val rfl rfl rfl (yMove rfl) trivial ?_
      refine X.skip rfl rfl rfl trivial ?_
      refine X.skip rfl rfl rfl trivial ?_
      refine X.skip rfl rfl rfl trivial ?_
      refine X.skip rfl rfl rfl trivial ?_
      refine X.skip rfl rfl rfl trivial ?_
      refine X.val rfl rfl rfl (yPickF rfl rfl) trivial ?_
      refine X.val rfl rfl rfl (yMove rfl) trivial ?_
      refine X.skip rfl rfl rfl trivial ?_
      refine X.skip rfl rfl rfl trivial ?_
      refine X.skip rfl rfl rfl trivial ?_
      refine X.skip rfl rfl rfl trivial ?_
      refine X.skip rfl rfl rfl trivial ?_
      refine X.skip rfl rfl rfl trivial ?_
      refine X.val rfl rfl rfl (yPickF rfl rfl) trivial ?_
      refine X.val rfl rfl rfl (yAssign rfl) trivial ?_
      refine X.nil ?_
      refine At.then ?_
      refine C.ret ?_
      obtain rfl := sm H
      refine At.retn (rs := [.tmp 4]) [.bool false] rfl ?_ ?_
      exact ⟨Rv.tmp rfl, trivial⟩
      exact ⟨s359.stp, rfl⟩
  · have H := ifF g365 H
    refine X.val rfl rfl rfl (yBF g365 (yEql rfl rfl)) trivial ?_
    refine X.val rfl rfl rfl (yMove rfl) trivial ?_
    refine X.skip rfl rfl rfl trivial ?_
    refine X.skip rfl rfl rfl trivial ?_
    refine X.skip rfl rfl rfl trivial ?_
    refine X.skip rfl rfl rfl trivial ?_
    refine X.skip rfl rfl rfl trivial ?_
    refine X.val rfl rfl rfl (yPickF rfl rfl) trivial ?_
    refine X.val rfl rfl rfl (yMove rfl) trivial ?_
    refine X.skip rfl rfl rfl trivial ?_
    refine X.skip rfl rfl rfl trivial ?_
    refine X.skip rfl rfl rfl trivial ?_
    refine X.skip rfl rfl rfl trivial ?_
    refine X.skip rfl rfl rfl trivial ?_
    refine X.val rfl rfl rfl (yPickF rfl rfl) trivial ?_
    refine X.val rfl rfl rfl (yMove rfl) trivial ?_
    refine X.skip rfl rfl rfl trivial ?_
    refine X.skip rfl rfl rfl trivial ?_
    refine X.skip rfl rfl rfl trivial ?_
    refine X.skip rfl rfl rfl trivial ?_
    refine X.skip rfl rfl rfl trivial ?_
    refine X.val rfl rfl rfl (yPickF rfl rfl) trivial ?_
    refine X.val rfl rfl rfl (yMove rfl) trivial ?_
    refine X.skip rfl rfl rfl trivial ?_
    refine X.skip rfl rfl rfl trivial ?_
    refine X.skip rfl rfl rfl trivial ?_
    refine X.skip rfl rfl rfl trivial ?_
    refine X.skip rfl rfl rfl trivial ?_
    refine X.val rfl rfl rfl (yPickF rfl rfl) trivial ?_
    refine X.val rfl rfl rfl (yMove rfl) trivial ?_
    refine X.skip rfl rfl rfl trivial ?_
    refine X.skip rfl rfl rfl trivial ?_
    refine X.skip rfl rfl rfl trivial ?_
    refine X.skip rfl rfl rfl trivial ?_
    refine X.skip rfl rfl rfl trivial ?_
    refine X.val rfl rfl rfl (yPickF rfl rfl) trivial ?_
    refine X.val rfl rfl rfl (yMove rfl) trivial ?_
    refine X.skip rfl rfl rfl trivial ?_
    refine X.skip rfl rfl rfl trivial ?_
    refine X.skip rfl rfl rfl trivial ?_
    refine X.skip rfl rfl rfl trivial ?_
    refine X.skip rfl rfl rfl trivial ?_
    refine X.val rfl rfl rfl (yPickF rfl rfl) trivial ?_
    refine X.val rfl rfl rfl (yMove rfl) trivial ?_
    refine X.skip rfl rfl rfl trivial ?_
    refine X.skip rfl rfl rfl trivial ?_
    refine X.skip rfl rfl rfl trivial ?_
    refine X.skip rfl rfl rfl trivial ?_
    refine X.skip rfl rfl rfl trivial ?_
    refine X.val rfl rfl rfl (yPickF rfl rfl) trivial ?_
    refine X.val rfl rfl rfl (yMove rfl) trivial ?_
    refine X.skip rfl rfl rfl trivial ?_
    refine X.skip rfl rfl rfl trivial ?_
    refine X.skip rfl rfl rfl trivial ?_
    refine X.skip rfl rfl rfl trivial ?_
    refine X.skip rfl rfl rfl trivial ?_
    refine X.skip rfl rfl rfl trivial ?_
    refine X.val rfl rfl rfl (yPickF rfl rfl) trivial ?_
    refine X.val rfl rfl rfl (yAssign rfl) trivial ?_
    refine X.nil ?_
    refine At.then ?_
    refine C.ret ?_
    obtain rfl := sm H
    refine At.retn (rs := [.tmp 4]) [.bool false] rfl ?_ ?_
    exact ⟨Rv.tmp rfl, trivial⟩
    exact ⟨s359.stp, rfl⟩

def p_outbox_New  : Option (outbox_Box) :=
  some (⟨true, ([] : (List outbox_held_proto_Msg_)), ([] : (List outbox_held_outbox_Answer_)), 0⟩ : outbox_Box)
theorem c_outbox_New {h : Heap} {I : Nat → Prop}  (s0 : St [] h I h I [])  {r : (outbox_Box)} (H : p_outbox_New  = some r) :
    Fn Tryz.prog 50 [] h (fun v h' => ∃ (I' : Nat → Prop) (u0 : Nat) (w1n0 : Value) (w2n0 : Value) , St [] h I h' I' [some u0, w1n0.ownBlock, w2n0.ownBlock] ∧ v = (.pointer (some ⟨u0, 0, none⟩) : Value) ∧ Box h' u0 118 ((.bool r.made : Value) :: w1n0 :: w2n0 :: (.int .i64 r.lost : Value) :: [] : List Value) ∧ Own k_outbox_held_proto_Msg_ 280 h' I' w1n0 r.out ∧ Own k_outbox_held_outbox_Answer_ 282 h' I' w2n0 r.answers) := by
  unfold p_outbox_New at H
  refine Fn.of 3 Tryz.func50 rfl rfl ?_
  refine C.seq ?_
  refine C.region 1 rfl ?_
  refine X.val rfl rfl rfl (yAssign rfl) trivial ?_
  refine X.nil ?_
  refine At.then ?_
  refine C.seq ?_
  refine C.region 3 rfl ?_
  refine X.val (v := .agg (((.bool true : Value) :: (.slice none 0 0 : Value) :: (.slice none 0 0 : Value) :: (.int .i64 0 : Value) :: [] : List Value)).toArray) rfl rfl rfl (yBuild (out := ((.bool true : Value) :: (.slice none 0 0 : Value) :: (.slice none 0 0 : Value) :: (.int .i64 0 : Value) :: [] : List Value)) [1, 1, 1, 1] [((.bool false : Value) :: [] : List Value), ((.slice none 0 0 : Value) :: [] : List Value), ((.slice none 0 0 : Value) :: [] : List Value), ((.int .i64 0 : Value) :: [] : List Value)] Tryz.zeroValue118 rfl pl_T118 rfl rfl (by simp [okp, vInt, vBool, vStr, vSl, vPtr, vAgg]) (by simp [setAll, vInt, vBool, vStr, vSl, vPtr, vAgg])) trivial ?_
  refine X.ef rfl rfl rfl (eBox (cs := ((.bool true : Value) :: (.slice none 0 0 : Value) :: (.slice none 0 0 : Value) :: (.int .i64 0 : Value) :: [] : List Value)) rfl rfl) ?_
  rintro _ h410 ⟨rfl, e415⟩
  obtain ⟨b409, e415b⟩ : ∃ b, b = h.size := ⟨_, rfl⟩
  rw [← e415b]
  have f414 : Box h410 b409 118 ((.bool true : Value) :: (.slice none 0 0 : Value) :: (.slice none 0 0 : Value) :: (.int .i64 0 : Value) :: [] : List Value) := by subst e415; subst e415b; exact Box.new _ _ _
  have p412 : Stp [] h h410 := by subst e415; exact Stp.push _ _
  have s413 : St [] h I h410 I (some b409 :: []) := by subst e415; subst e415b; exact s0.new _
  have t411 := s0.tr p412 (by simp) (fun _ hb => hb)
  clear e415 e415b
  refine ⟨trivial, ?_⟩
  refine X.val rfl rfl rfl (yAssign rfl) trivial ?_
  refine X.nil ?_
  refine At.then ?_
  refine C.ret ?_
  have s416 := s413.addNone
  have o418 : Own k_outbox_held_proto_Msg_ 280 h410 I (.slice none 0 0) ([] : (List outbox_held_proto_Msg_)) := Own.nil
  have s419 := s416.addNone
  have o421 : Own k_outbox_held_outbox_Answer_ 282 h410 I (.slice none 0 0) ([] : (List outbox_held_outbox_Answer_)) := Own.nil
  have o422 := (o418.mono (Tr.refl I h410) (fun _ _ => rfl))
  obtain rfl := sm H
  refine At.retn (rs := [.tmp 0]) [.pointer (some ⟨b409, 0, none⟩)] rfl ?_ ?_
  exact ⟨Rv.tmp rfl, trivial⟩
  exact ⟨I, b409, .slice none 0 0, .slice none 0 0, (s419.pick [2, 1, 0] rfl (by decide) (by rintro (_ | _ | _ | i) m h <;> first | exact h | (simp at h))), rfl, f414, o422, o421⟩

def p_outbox_Box_Waits (a0 : outbox_Box) : Option (Int × Int × outbox_Box) :=
  some ((a0.out.length : Int), (a0.answers.length : Int), a0)
theorem c_outbox_Box_Waits {h : Heap} {I : Nat → Prop} {b_a0 : Nat} {a0 : outbox_Box} {v0_a0 : Value} {v1_a0 : Value} (s0 : St [some b_a0, v0_a0.ownBlock, v1_a0.ownBlock] h I h I [some b_a0, v0_a0.ownBlock, v1_a0.ownBlock]) (f_a0 : Box h b_a0 118 ((.bool a0.made : Value) :: v0_a0 :: v1_a0 :: (.int .i64 a0.lost : Value) :: [] : List Value)) (o0_a0 : Own k_outbox_held_proto_Msg_ 280 h I v0_a0 a0.out) (o1_a0 : Own k_outbox_held_outbox_Answer_ 282 h I v1_a0 a0.answers) {r : (Int × Int × outbox_Box)} (H : p_outbox_Box_Waits a0 = some r) :
    Fn Tryz.prog 51 [.pointer (some ⟨b_a0, 0, none⟩)] h (fun v h' => ∃ (I' : Nat → Prop) (w0s : Value) (w1s : Value) , St [some b_a0, v0_a0.ownBlock, v1_a0.ownBlock] h I h' I' [some b_a0, w0s.ownBlock, w1s.ownBlock] ∧ v = (.tuple #[.int .i64 r.1, .int .i64 r.2.1] : Value) ∧ Box h' b_a0 118 ((.bool r.2.2.made : Value) :: w0s :: w1s :: (.int .i64 r.2.2.lost : Value) :: [] : List Value) ∧ Own k_outbox_held_proto_Msg_ 280 h' I' w0s r.2.2.out ∧ Own k_outbox_held_outbox_Answer_ 282 h' I' w1s r.2.2.answers) := by
  unfold p_outbox_Box_Waits at H
  refine Fn.of 16 Tryz.func51 rfl rfl ?_
  refine C.seq ?_
  refine C.region 2 rfl ?_
  refine X.val rfl rfl rfl (yAssign rfl) trivial ?_
  refine X.val rfl rfl rfl (yAssign rfl) trivial ?_
  refine X.nil ?_
  refine At.then ?_
  refine C.seq ?_
  refine C.seq ?_
  refine C.region 2 rfl ?_
  refine X.val rfl rfl rfl (yMove rfl) trivial ?_
  refine X.val (v := .bool false) rfl rfl rfl (yPEq Tryz.underlying96 rfl rfl) trivial ?_
  refine X.nil ?_
  refine At.then ?_
  refine C.condF rfl ?_
  refine C.skip ?_
  refine At.then ?_
  refine C.seq ?_
  refine C.regionD rfl (Stp [] h) (.pas 0 (.pas 1 (.pas 2 (.pas 3 (.pas 4 (.pas 5 (.pas 6 (.pas 7 (.pas 8 (.pas 9 (.pas 10 (.pas 11 .nil)))))))))))) (by kernel_rfl) (Stp.refl0 _ _) ?_
  have q423 := Stp.refl0 [] h
  refine X.pas rfl rfl rfl (fun _ _ => yMove rfl) ?_
  refine X.pas rfl rfl rfl (fun _ _ => yNil rfl) ?_
  refine X.pas (v := .pointer (some ⟨b_a0, 1, none⟩)) rfl rfl rfl (fun _ _ => yField 115 1 Tryz.underlying118 Tryz.sizeOf115 rfl rfl rfl) ?_
  refine X.pas (v := v0_a0) rfl rfl rfl (fun h' q => yLoadS (j := 1) Tryz.isAgg115 rfl ((f_a0.stp q (by simp))).all rfl rfl) ?_
  refine X.pas rfl rfl rfl (fun _ _ => yLenO Tryz.underlying115 rfl o0_a0) ?_
  refine X.pas rfl rfl rfl (fun _ _ => yMove rfl) ?_
  refine X.pas rfl rfl rfl (fun _ _ => yNil rfl) ?_
  refine X.pas (v := .pointer (some ⟨b_a0, 2, none⟩)) rfl rfl rfl (fun _ _ => yField 116 2 Tryz.underlying118 Tryz.sizeOf116 rfl rfl rfl) ?_
  refine X.pas (v := v1_a0) rfl rfl rfl (fun h' q => yLoadS (j := 2) Tryz.isAgg116 rfl ((f_a0.stp q (by simp))).all rfl rfl) ?_
  refine X.pas rfl rfl rfl (fun _ _ => yLenO Tryz.underlying116 rfl o1_a0) ?_
  refine X.pas rfl rfl rfl (fun _ _ => yAssign rfl) ?_
  refine X.pas rfl rfl rfl (fun _ _ => yAssign rfl) ?_
  refine X.nil ?_
  refine At.then ?_
  refine C.ret ?_
  obtain rfl := sm H
  refine At.retn (rs := [.tmp 2, .tmp 3]) [.int .i64 (a0.out.length : Int), .int .i64 (a0.answers.length : Int)] rfl ?_ ?_
  exact ⟨Rv.tmp rfl, Rv.tmp rfl, trivial⟩
  exact ⟨I, v0_a0, v1_a0, s0, rfl, f_a0, o0_a0, o1_a0⟩

def p_outbox_Box_Lost (a0 : outbox_Box) : Option (Int × outbox_Box) :=
  some (a0.lost, a0)
theorem c_outbox_Box_Lost {h : Heap} {I : Nat → Prop} {b_a0 : Nat} {a0 : outbox_Box} {v0_a0 : Value} {v1_a0 : Value} (s0 : St [some b_a0, v0_a0.ownBlock, v1_a0.ownBlock] h I h I [some b_a0, v0_a0.ownBlock, v1_a0.ownBlock]) (f_a0 : Box h b_a0 118 ((.bool a0.made : Value) :: v0_a0 :: v1_a0 :: (.int .i64 a0.lost : Value) :: [] : List Value)) (o0_a0 : Own k_outbox_held_proto_Msg_ 280 h I v0_a0 a0.out) (o1_a0 : Own k_outbox_held_outbox_Answer_ 282 h I v1_a0 a0.answers) {r : (Int × outbox_Box)} (H : p_outbox_Box_Lost a0 = some r) :
    Fn Tryz.prog 52 [.pointer (some ⟨b_a0, 0, none⟩)] h (fun v h' => ∃ (I' : Nat → Prop) (w0s : Value) (w1s : Value) , St [some b_a0, v0_a0.ownBlock, v1_a0.ownBlock] h I h' I' [some b_a0, w0s.ownBlock, w1s.ownBlock] ∧ v = (.int .i64 r.1 : Value) ∧ Box h' b_a0 118 ((.bool r.2.made : Value) :: w0s :: w1s :: (.int .i64 r.2.lost : Value) :: [] : List Value) ∧ Own k_outbox_held_proto_Msg_ 280 h' I' w0s r.2.out ∧ Own k_outbox_held_outbox_Answer_ 282 h' I' w1s r.2.answers) := by
  unfold p_outbox_Box_Lost at H
  refine Fn.of 9 Tryz.func52 rfl rfl ?_
  refine C.seq ?_
  refine C.region 1 rfl ?_
  refine X.val rfl rfl rfl (yAssign rfl) trivial ?_
  refine X.nil ?_
  refine At.then ?_
  refine C.seq ?_
  refine C.seq ?_
  refine C.region 2 rfl ?_
  refine X.val rfl rfl rfl (yMove rfl) trivial ?_
  refine X.val (v := .bool false) rfl rfl rfl (yPEq Tryz.underlying96 rfl rfl) trivial ?_
  refine X.nil ?_
  refine At.then ?_
  refine C.condF rfl ?_
  refine C.skip ?_
  refine At.then ?_
  refine C.seq ?_
  refine C.region 5 rfl ?_
  refine X.val rfl rfl rfl (yMove rfl) trivial ?_
  refine X.val rfl rfl rfl (yNil rfl) trivial ?_
  refine X.val (v := .pointer (some ⟨b_a0, 3, none⟩)) rfl rfl rfl (yField 3 3 Tryz.underlying118 Tryz.sizeOf3 rfl rfl rfl) trivial ?_
  refine X.val (v := .int .i64 a0.lost) rfl rfl rfl (yLoadS (j := 3) Tryz.isAgg3 rfl (f_a0).all rfl rfl) trivial ?_
  refine X.val rfl rfl rfl (yAssign rfl) trivial ?_
  refine X.nil ?_
  refine At.then ?_
  refine C.ret ?_
  obtain rfl := sm H
  refine At.retn (rs := [.tmp 2]) [.int .i64 a0.lost] rfl ?_ ?_
  exact ⟨Rv.tmp rfl, trivial⟩
  exact ⟨I, v0_a0, v1_a0, s0, rfl, f_a0, o0_a0, o1_a0⟩

def p_outbox_split_proto_Msg_l0 (K : Nat) (a0 : (List outbox_held_proto_Msg_)) (a1 : Int) : Nat → (List proto_Msg) → (List outbox_held_proto_Msg_) → Int → Option ((List proto_Msg) × (List outbox_held_proto_Msg_) × Int)
  | 0, _, _, _ => none
  | k445 + 1, y432, y436, y439 => (if y439 < (a0.length : Int) then (if 0 ≤ y439 ∧ y439 < (a0.length : Int) then (if ((rd a0 y439).mark) ≤ a1 then (if y432.length + [(rd a0 y439).x].length ≤ 977343669134 then (p_outbox_split_proto_Msg_l0 K a0 a1 k445 (y432 ++ [(rd a0 y439).x]) y436 (IntKind.i64.wrap (y439 + 1))) else none) else (if y436.length + [(rd a0 y439)].length ≤ 925904528653 then (p_outbox_split_proto_Msg_l0 K a0 a1 k445 y432 (y436 ++ [(rd a0 y439)]) (IntKind.i64.wrap (y439 + 1))) else none)) else none) else some (y432, y436, y439))
def p_outbox_split_proto_Msg (K : Nat) (a0 : (List outbox_held_proto_Msg_)) (a1 : Int) : Option ((List proto_Msg) × (List outbox_held_proto_Msg_)) :=
  (p_outbox_split_proto_Msg_l0 K a0 a1 K ([] : (List proto_Msg)) ([] : (List outbox_held_proto_Msg_)) 0).bind fun (w529, w530, w531) => some (w529, w530)
theorem c_outbox_split_proto_Msg {K : Nat} {h : Heap} {I : Nat → Prop} {v_a0 : Value} {a0 : (List outbox_held_proto_Msg_)} {a1 : Int} (s0 : St [] h I h I []) (r_a0 : SlR k_outbox_held_proto_Msg_ I h v_a0 a0) {r : ((List proto_Msg) × (List outbox_held_proto_Msg_))} (H : p_outbox_split_proto_Msg K a0 a1 = some r) :
    Fn Tryz.prog 171 [v_a0, .int .i64 a1] h (fun v h' => ∃ (I' : Nat → Prop) (u0 : Value) (u1 : Value) , St [] h I h' I' [u0.ownBlock, u1.ownBlock] ∧ v = (.tuple #[u0, u1] : Value) ∧ Own k_proto_Msg 77 h' I' u0 r.1 ∧ Own k_outbox_held_proto_Msg_ 280 h' I' u1 r.2) := by
  unfold p_outbox_split_proto_Msg at H
  refine Fn.of 32 Tryz.func171 rfl rfl ?_
  refine C.seq ?_
  refine C.region 2 rfl ?_
  refine X.val rfl rfl rfl (yAssign rfl) trivial ?_
  refine X.val rfl rfl rfl (yAssign rfl) trivial ?_
  refine X.nil ?_
  refine At.then ?_
  refine C.seq ?_
  refine C.region 1 rfl ?_
  refine X.val rfl rfl rfl (yAssign rfl) trivial ?_
  refine X.nil ?_
  refine At.then ?_
  refine C.seq ?_
  refine C.region 1 rfl ?_
  refine X.val rfl rfl rfl (yAssign rfl) trivial ?_
  refine X.nil ?_
  refine At.then ?_
  refine C.seq ?_
  refine C.seq ?_
  refine C.region 3 rfl ?_
  refine X.val rfl rfl rfl (yMove rfl) trivial ?_
  refine X.val rfl rfl rfl (yLenR Tryz.underlying115 rfl r_a0) trivial ?_
  refine X.val rfl rfl rfl (yMove rfl) trivial ?_
  refine X.nil ?_
  refine At.then ?_
  refine C.block ?_
  have s424 := s0.addNone
  have o426 : Own k_proto_Msg 77 h I (.slice none 0 0) ([] : (List proto_Msg)) := Own.nil
  have s427 := s424.addNone
  have o429 : Own k_outbox_held_proto_Msg_ 280 h I (.slice none 0 0) ([] : (List outbox_held_proto_Msg_)) := Own.nil
  have o435 := (o426.mono (Tr.refl I h) (fun _ _ => rfl))
  obtain ⟨z442, e444, G443⟩ := bnd H
  refine C.prune [(1, .int .i64 a1), (6, .slice none 0 0), (7, .slice none 0 0), (10, v_a0), (11, .int .i64 (a0.length : Int)), (12, .int .i64 0)] (fun a ha => (.cons ha rfl (.cons ha rfl (.cons ha rfl (.cons ha rfl (.cons ha rfl (.cons ha rfl ha.nil))))))) ?_
  refine C.loop (fun k445 e h430 => ∃ (y432 : (List proto_Msg)) (y436 : (List outbox_held_proto_Msg_)) (y439 : Int) (v433 : Value) (v437 : Value) (I431 : Nat → Prop), e = [(1, .int .i64 a1), (6, v433), (7, v437), (10, v_a0), (11, .int .i64 (a0.length : Int)), (12, .int .i64 y439)] ∧ St [] h I h430 I431 [v437.ownBlock, v433.ownBlock] ∧ Tr I h I431 h430 ∧ Own k_proto_Msg 77 h430 I431 v433 y432 ∧ Own k_outbox_held_proto_Msg_ 280 h430 I431 v437 y436 ∧ p_outbox_split_proto_Msg_l0 K a0 a1 k445 y432 y436 y439 = some z442) K ⟨([] : (List proto_Msg)), ([] : (List outbox_held_proto_Msg_)), 0, .slice none 0 0, .slice none 0 0, I, rfl, s427, Tr.refl _ _, o435, o429, e444⟩ ?_ ?_
  · rintro e h' ⟨_, _, _, _, _, _, _, _, _, _, _, H⟩; cases (show none = some _ from H)
  · rintro k445 e h430 ⟨y432, y436, y439, v433, v437, I431, rfl, s440, t441, o434, o438, H⟩
    rw [p_outbox_split_proto_Msg_l0] at H
    refine C.seq ?_
    refine C.region 1 rfl ?_
    by_cases g446 : y439 < (a0.length : Int)
    · have H := ifT g446 H
      refine X.val rfl rfl rfl (yBT g446 (yLss rfl rfl)) trivial ?_
      refine X.nil ?_
      refine At.then ?_
      refine C.seq ?_
      refine C.condT rfl ?_
      refine C.skip ?_
      refine At.then ?_
      refine C.seq ?_
      refine C.block ?_
      refine C.seq ?_
      refine C.region 4 rfl ?_
      obtain ⟨⟨g455, g447⟩, H⟩ := ifS H
      obtain ⟨b448, w449, k450, c451, e452, r453, m454⟩ := SlR.get (r_a0.mono ((Tr.refl I h).trans ((Tr.refl I h).trans t441))) g455 g447
      obtain ⟨c456, v458, v460, v462, rfl, r457, r459, r461, r463⟩ := o_outbox_held_proto_Msg_ r453
      refine X.val (v := .pointer (some ⟨b448, w449 + (y439).toNat * 41, none⟩)) rfl rfl rfl (yIdxS Tryz.underlying115 Tryz.sizeOf280 (by rw [← e452]; rfl) rfl g455 g447) trivial ?_
      have l464 : c456.length = 32 := (kArr 32 (kI .u8)).len r457
      refine X.val (v := .agg (((.int .i64 ((rd a0 y439).x.Kind) : Value) :: (.int .i64 ((rd a0 y439).x.From) : Value) :: (.int .i64 ((rd a0 y439).x.To) : Value) :: (.int .i64 ((rd a0 y439).x.Session) : Value) :: (.int .i64 ((rd a0 y439).x.Part) : Value) :: c456 ++ (v458 :: v460 :: v462 :: (.int .i64 ((rd a0 y439).mark) : Value) :: []) : List Value)).toArray) rfl rfl rfl (yLoadW Tryz.isAgg280 Tryz.sizeOf280 rfl m454.rd (by simp [l464])) trivial ?_
      obtain ⟨c465, e466⟩ : ∃ c : List Value, c = (List.replicate 32 (.int .u8 0 : Value)) := ⟨_, rfl⟩
      have r467 : (kArr 32 (kI .u8)).rp I431 h430 c465 (List.replicate 32 (0 : Int)) := by rw [e466]; exact z_T65
      refine X.ef rfl rfl rfl (eAlloc (zs := ((.int .i64 0 : Value) :: (.int .i64 0 : Value) :: (.int .i64 0 : Value) :: (.int .i64 0 : Value) :: (.int .i64 0 : Value) :: (List.replicate 32 (.int .u8 0 : Value)) ++ ((.slice none 0 0 : Value) :: (.slice none 0 0 : Value) :: (.slice none 0 0 : Value) :: (.int .i64 0 : Value) :: []) : List Value)) Tryz.zeroValue280 rfl) ?_
      rintro _ h469 ⟨rfl, e474⟩
      obtain ⟨b468, e474b⟩ : ∃ b, b = h430.size := ⟨_, rfl⟩
      rw [← e474b]
      have f473 : Box h469 b468 280 ((.int .i64 0 : Value) :: (.int .i64 0 : Value) :: (.int .i64 0 : Value) :: (.int .i64 0 : Value) :: (.int .i64 0 : Value) :: c465 ++ ((.slice none 0 0 : Value) :: (.slice none 0 0 : Value) :: (.slice none 0 0 : Value) :: (.int .i64 0 : Value) :: []) : List Value) := by subst e474; subst e474b; rw [e466]; exact Box.new _ _ _
      have p471 : Stp [] h430 h469 := by subst e474; exact Stp.push _ _
      have s472 : St [] h I h469 I431 (some b468 :: [v437.ownBlock, v433.ownBlock]) := by subst e474; subst e474b; exact s440.new _
      have t470 := s440.tr p471 (by simp) (fun _ hb => hb)
      clear e474 e474b
      refine ⟨trivial, ?_⟩
      have l475 : c465.length = 32 := (kArr 32 (kI .u8)).len r467
      have l476 : c456.length = 32 := (kArr 32 (kI .u8)).len r457
      refine X.ef rfl rfl rfl (eStore (vs := ((.int .i64 ((rd a0 y439).x.Kind) : Value) :: (.int .i64 ((rd a0 y439).x.From) : Value) :: (.int .i64 ((rd a0 y439).x.To) : Value) :: (.int .i64 ((rd a0 y439).x.Session) : Value) :: (.int .i64 ((rd a0 y439).x.Part) : Value) :: c456 ++ (v458 :: v460 :: v462 :: (.int .i64 ((rd a0 y439).mark) : Value) :: []) : List Value)) Tryz.sizeOf280 rfl rfl rfl (by simp [l476]) (by simp [ones, ones_append, oInt, oBool, oStr, oSl, oPtr, (kArr 32 (kI .u8)).one r457, SlR.one (r459.mono t470), SlR.one (r461.mono t470), SlR.one (r463.mono t470)]) f473 (by simp [l475, l476])) ?_
      rintro _ h477 ⟨rfl, e478⟩
      have f482 : Box h477 b468 280 ((.int .i64 ((rd a0 y439).x.Kind) : Value) :: (.int .i64 ((rd a0 y439).x.From) : Value) :: (.int .i64 ((rd a0 y439).x.To) : Value) :: (.int .i64 ((rd a0 y439).x.Session) : Value) :: (.int .i64 ((rd a0 y439).x.Part) : Value) :: c456 ++ (v458 :: v460 :: v462 :: (.int .i64 ((rd a0 y439).mark) : Value) :: []) : List Value) := by subst e478; exact Box.reset f473 (by have k := splice_mid ((.int .i64 ((rd a0 y439).x.Kind) : Value) :: (.int .i64 ((rd a0 y439).x.From) : Value) :: (.int .i64 ((rd a0 y439).x.To) : Value) :: (.int .i64 ((rd a0 y439).x.Session) : Value) :: (.int .i64 ((rd a0 y439).x.Part) : Value) :: c456 ++ (v458 :: v460 :: v462 :: (.int .i64 ((rd a0 y439).mark) : Value) :: []) : List Value) ((.int .i64 0 : Value) :: (.int .i64 0 : Value) :: (.int .i64 0 : Value) :: (.int .i64 0 : Value) :: (.int .i64 0 : Value) :: c465 ++ ((.slice none 0 0 : Value) :: (.slice none 0 0 : Value) :: (.slice none 0 0 : Value) :: (.int .i64 0 : Value) :: []) : List Value) [] ([] : List Value) (by simp [l475, l476]); simpa using k)
      have p479 : Stp [some b468] h469 h477 := by subst e478; exact Stp.set _
      have s480 := s472.step p479 (by simp)
      have t481 := s472.tr p479 (by simp) (fun _ hb => hb)
      clear e478
      refine ⟨trivial, ?_⟩
      refine X.nil ?_
      refine At.then ?_
      refine C.seq ?_
      refine C.region 4 rfl ?_
      refine X.val (v := .pointer (some ⟨b468, 40, none⟩)) rfl rfl rfl (yField 3 40 Tryz.underlying280 Tryz.sizeOf3 rfl rfl rfl) trivial ?_
      have l483 : c456.length = 32 := (kArr 32 (kI .u8)).len r457
      refine X.val (v := .int .i64 ((rd a0 y439).mark)) rfl rfl rfl (yLoadS (j := 40) Tryz.isAgg3 rfl (f482).all rfl (by simp [l483])) trivial ?_
      refine X.val rfl rfl rfl (yMove rfl) trivial ?_
      by_cases g484 : ((rd a0 y439).mark) ≤ a1
      · have H := ifT g484 H
        refine X.val rfl rfl rfl (yBT g484 (yLeq rfl rfl)) trivial ?_
        refine X.nil ?_
        refine At.then ?_
        refine C.condT rfl ?_
        refine C.region 6 rfl ?_
        refine X.val rfl rfl rfl (yMove rfl) trivial ?_
        refine X.val (v := .pointer (some ⟨b468, 0, none⟩)) rfl rfl rfl (yField 77 0 Tryz.underlying280 Tryz.sizeOf77 rfl rfl rfl) trivial ?_
        have l485 : c456.length = 32 := (kArr 32 (kI .u8)).len r457
        refine X.val (v := .agg (((.int .i64 ((rd a0 y439).x.Kind) : Value) :: (.int .i64 ((rd a0 y439).x.From) : Value) :: (.int .i64 ((rd a0 y439).x.To) : Value) :: (.int .i64 ((rd a0 y439).x.Session) : Value) :: (.int .i64 ((rd a0 y439).x.Part) : Value) :: c456 ++ (v458 :: v460 :: v462 :: []) : List Value)).toArray) rfl rfl rfl (yLoadA (j := 0) (mid := ((.int .i64 ((rd a0 y439).x.Kind) : Value) :: (.int .i64 ((rd a0 y439).x.From) : Value) :: (.int .i64 ((rd a0 y439).x.To) : Value) :: (.int .i64 ((rd a0 y439).x.Session) : Value) :: (.int .i64 ((rd a0 y439).x.Part) : Value) :: c456 ++ (v458 :: v460 :: v462 :: []) : List Value)) Tryz.isAgg77 Tryz.sizeOf77 rfl (f482).all rfl (by first | (simp [l485]; done) | (simp [List.take_append, List.drop_append, List.take_of_length_le, l485]; done)) (by simp [l485])) trivial ?_
        have l486 : c456.length = 32 := (kArr 32 (kI .u8)).len r457
        refine X.ef rfl rfl rfl (eBuildSlice (out := ((.int .i64 ((rd a0 y439).x.Kind) : Value) :: (.int .i64 ((rd a0 y439).x.From) : Value) :: (.int .i64 ((rd a0 y439).x.To) : Value) :: (.int .i64 ((rd a0 y439).x.Session) : Value) :: (.int .i64 ((rd a0 y439).x.Part) : Value) :: c456 ++ (v458 :: v460 :: v462 :: []) : List Value)) Tryz.underlying112 Tryz.sizeOf77 (List.replicate 1 ((.int .i64 0 : Value) :: (.int .i64 0 : Value) :: (.int .i64 0 : Value) :: (.int .i64 0 : Value) :: (.int .i64 0 : Value) :: (List.replicate 32 (.int .u8 0 : Value)) ++ ((.slice none 0 0 : Value) :: (.slice none 0 0 : Value) :: (.slice none 0 0 : Value) :: []) : List Value)) Tryz.zeroValue77 rfl (by kernel_rfl) rfl rfl rfl (by simp [okp, vInt, vBool, vStr, vSl, vPtr, vAgg, l486]) (by simp [setAll, vInt, vBool, vStr, vSl, vPtr, vAgg])) ?_
        rintro _ h488 ⟨rfl, e493⟩
        obtain ⟨b487, e493b⟩ : ∃ b, b = h477.size := ⟨_, rfl⟩
        rw [← e493b]
        have f492 : Box h488 b487 77 ((.int .i64 ((rd a0 y439).x.Kind) : Value) :: (.int .i64 ((rd a0 y439).x.From) : Value) :: (.int .i64 ((rd a0 y439).x.To) : Value) :: (.int .i64 ((rd a0 y439).x.Session) : Value) :: (.int .i64 ((rd a0 y439).x.Part) : Value) :: c456 ++ (v458 :: v460 :: v462 :: []) : List Value) := by subst e493; subst e493b; exact Box.new _ _ _
        have p490 : Stp [] h477 h488 := by subst e493; exact Stp.push _ _
        have s491 : St [] h I h488 I431 (some b487 :: [some b468, v437.ownBlock, v433.ownBlock]) := by subst e493; subst e493b; exact s480.new _
        have t489 := s480.tr p490 (by simp) (fun _ hb => hb)
        clear e493 e493b
        have r495 : rows k_proto_Msg I431 h488 ((.int .i64 ((rd a0 y439).x.Kind) : Value) :: (.int .i64 ((rd a0 y439).x.From) : Value) :: (.int .i64 ((rd a0 y439).x.To) : Value) :: (.int .i64 ((rd a0 y439).x.Session) : Value) :: (.int .i64 ((rd a0 y439).x.Part) : Value) :: c456 ++ (v458 :: v460 :: v462 :: []) : List Value) [(rd a0 y439).x] := by have k : rows k_proto_Msg I431 h488 _ [(rd a0 y439).x] := (rows.cons (c := ((.int .i64 ((rd a0 y439).x.Kind) : Value) :: (.int .i64 ((rd a0 y439).x.From) : Value) :: (.int .i64 ((rd a0 y439).x.To) : Value) :: (.int .i64 ((rd a0 y439).x.Session) : Value) :: (.int .i64 ((rd a0 y439).x.Part) : Value) :: c456 ++ (v458 :: v460 :: v462 :: []) : List Value)) (y := (rd a0 y439).x) (m_proto_Msg ((kArr 32 (kI .u8)).mono r457 (t470.trans (t481.trans t489))) (r459.mono (t470.trans (t481.trans t489))) (r461.mono (t470.trans (t481.trans t489))) (r463.mono (t470.trans (t481.trans t489)))) rows.nil); first | exact k | simpa only [List.append_nil, List.append_assoc, List.cons_append, List.nil_append] using k | simpa using k
        have o494 : Own k_proto_Msg 77 h488 I431 (.slice (some ⟨b487, 0, none⟩) 1 1) [(rd a0 y439).x] := Own.row f492 r495 rfl rfl
        refine ⟨trivial, ?_⟩
        have o496 := (((o434.stp t470 p471 (by simp)).stp t481 p479 (s472.sep 2 [0] rfl rfl rfl)).stp t489 p490 (by simp))
        obtain ⟨g504, H⟩ := ifS H
        refine X.ef rfl rfl rfl (eAppend (bytes := 144) Tryz.underlying112 Tryz.type77 rfl rfl rfl rfl rfl rfl rfl rfl o496 (Src.own o494) (s491.disOf 3 rfl) (Nat.le_trans (Nat.mul_le_mul_right _ g504) (by decide))) ?_
        rintro v497 h498 ⟨o499, p500, n501⟩
        have p500 : Stp [v433.ownBlock] h488 h498 := p500
        have s502 : St [] h I h498 I431 [some b487, some b468, v437.ownBlock, v497.ownBlock] := s491.grow 3 rfl p500 n501
        have t503 := s491.tr p500 (by simp) (fun _ hb => hb)
        refine ⟨trivial, ?_⟩
        refine X.val rfl rfl rfl (yAssign rfl) trivial ?_
        refine X.nil ?_
        refine At.blkN ?_
        refine At.then ?_
        refine C.region 2 rfl ?_
        refine X.val rfl rfl rfl (yAdd rfl rfl) trivial ?_
        refine X.val rfl rfl rfl (yMove rfl) trivial ?_
        refine X.nil ?_
        have o505 := ((((o438.stp t470 p471 (by simp)).stp t481 p479 (s472.sep 1 [0] rfl rfl rfl)).stp t489 p490 (by simp)).stp t503 p500 (s491.sep 2 [3] rfl rfl rfl))
        have s506 : St [] h I h498 I431 [v437.ownBlock, v497.ownBlock] := s502.pick [2, 3] rfl (by decide) (by rintro (_ | _ | i) m h <;> first | exact h | (simp at h))
        refine At.back [(1, .int .i64 a1), (6, v497), (7, v437), (10, v_a0), (11, .int .i64 (a0.length : Int)), (12, .int .i64 (IntKind.i64.wrap (y439 + 1)))] (fun a ha => (.cons ha rfl (.cons ha rfl (.cons ha rfl (.cons ha rfl (.cons ha rfl (.cons ha rfl ha.nil))))))) ?_
        exact ⟨(y432 ++ [(rd a0 y439).x]), y436, (IntKind.i64.wrap (y439 + 1)), v497, v437, I431, rfl, s506, (t441.trans (t470.trans (t481.trans (t489.trans t503)))), o499, o505, H⟩
      · have H := ifF g484 H
        refine X.val rfl rfl rfl (yBF g484 (yLeq rfl rfl)) trivial ?_
        refine X.nil ?_
        refine At.then ?_
        refine C.condF rfl ?_
        refine C.region 5 rfl ?_
        refine X.val rfl rfl rfl (yMove rfl) trivial ?_
        have l507 : c456.length = 32 := (kArr 32 (kI .u8)).len r457
        refine X.val (v := .agg (((.int .i64 ((rd a0 y439).x.Kind) : Value) :: (.int .i64 ((rd a0 y439).x.From) : Value) :: (.int .i64 ((rd a0 y439).x.To) : Value) :: (.int .i64 ((rd a0 y439).x.Session) : Value) :: (.int .i64 ((rd a0 y439).x.Part) : Value) :: c456 ++ (v458 :: v460 :: v462 :: (.int .i64 ((rd a0 y439).mark) : Value) :: []) : List Value)).toArray) rfl rfl rfl (yLoadW Tryz.isAgg280 Tryz.sizeOf280 rfl (f482).all (by simp [l507])) trivial ?_
        have l508 : c456.length = 32 := (kArr 32 (kI .u8)).len r457
        refine X.ef rfl rfl rfl (eBuildSlice (out := ((.int .i64 ((rd a0 y439).x.Kind) : Value) :: (.int .i64 ((rd a0 y439).x.From) : Value) :: (.int .i64 ((rd a0 y439).x.To) : Value) :: (.int .i64 ((rd a0 y439).x.Session) : Value) :: (.int .i64 ((rd a0 y439).x.Part) : Value) :: c456 ++ (v458 :: v460 :: v462 :: (.int .i64 ((rd a0 y439).mark) : Value) :: []) : List Value)) Tryz.underlying115 Tryz.sizeOf280 (List.replicate 1 ((.int .i64 0 : Value) :: (.int .i64 0 : Value) :: (.int .i64 0 : Value) :: (.int .i64 0 : Value) :: (.int .i64 0 : Value) :: (List.replicate 32 (.int .u8 0 : Value)) ++ ((.slice none 0 0 : Value) :: (.slice none 0 0 : Value) :: (.slice none 0 0 : Value) :: (.int .i64 0 : Value) :: []) : List Value)) Tryz.zeroValue280 rfl (by kernel_rfl) rfl rfl rfl (by simp [okp, vInt, vBool, vStr, vSl, vPtr, vAgg, l508]) (by simp [setAll, vInt, vBool, vStr, vSl, vPtr, vAgg])) ?_
        rintro _ h510 ⟨rfl, e515⟩
        obtain ⟨b509, e515b⟩ : ∃ b, b = h477.size := ⟨_, rfl⟩
        rw [← e515b]
        have f514 : Box h510 b509 280 ((.int .i64 ((rd a0 y439).x.Kind) : Value) :: (.int .i64 ((rd a0 y439).x.From) : Value) :: (.int .i64 ((rd a0 y439).x.To) : Value) :: (.int .i64 ((rd a0 y439).x.Session) : Value) :: (.int .i64 ((rd a0 y439).x.Part) : Value) :: c456 ++ (v458 :: v460 :: v462 :: (.int .i64 ((rd a0 y439).mark) : Value) :: []) : List Value) := by subst e515; subst e515b; exact Box.new _ _ _
        have p512 : Stp [] h477 h510 := by subst e515; exact Stp.push _ _
        have s513 : St [] h I h510 I431 (some b509 :: [some b468, v437.ownBlock, v433.ownBlock]) := by subst e515; subst e515b; exact s480.new _
        have t511 := s480.tr p512 (by simp) (fun _ hb => hb)
        clear e515 e515b
        have r517 : rows k_outbox_held_proto_Msg_ I431 h510 ((.int .i64 ((rd a0 y439).x.Kind) : Value) :: (.int .i64 ((rd a0 y439).x.From) : Value) :: (.int .i64 ((rd a0 y439).x.To) : Value) :: (.int .i64 ((rd a0 y439).x.Session) : Value) :: (.int .i64 ((rd a0 y439).x.Part) : Value) :: c456 ++ (v458 :: v460 :: v462 :: (.int .i64 ((rd a0 y439).mark) : Value) :: []) : List Value) [(rd a0 y439)] := by have k : rows k_outbox_held_proto_Msg_ I431 h510 _ [(rd a0 y439)] := (rows.cons (c := ((.int .i64 ((rd a0 y439).x.Kind) : Value) :: (.int .i64 ((rd a0 y439).x.From) : Value) :: (.int .i64 ((rd a0 y439).x.To) : Value) :: (.int .i64 ((rd a0 y439).x.Session) : Value) :: (.int .i64 ((rd a0 y439).x.Part) : Value) :: c456 ++ (v458 :: v460 :: v462 :: (.int .i64 ((rd a0 y439).mark) : Value) :: []) : List Value)) (y := (rd a0 y439)) (m_outbox_held_proto_Msg_ ((kArr 32 (kI .u8)).mono r457 (t470.trans (t481.trans t511))) (r459.mono (t470.trans (t481.trans t511))) (r461.mono (t470.trans (t481.trans t511))) (r463.mono (t470.trans (t481.trans t511)))) rows.nil); first | exact k | simpa only [List.append_nil, List.append_assoc, List.cons_append, List.nil_append] using k | simpa using k
        have o516 : Own k_outbox_held_proto_Msg_ 280 h510 I431 (.slice (some ⟨b509, 0, none⟩) 1 1) [(rd a0 y439)] := Own.row f514 r517 rfl rfl
        refine ⟨trivial, ?_⟩
        have o518 := (((o438.stp t470 p471 (by simp)).stp t481 p479 (s472.sep 1 [0] rfl rfl rfl)).stp t511 p512 (by simp))
        obtain ⟨g526, H⟩ := ifS H
        refine X.ef rfl rfl rfl (eAppend (bytes := 152) Tryz.underlying115 Tryz.type280 rfl rfl rfl rfl rfl rfl rfl rfl o518 (Src.own o516) (s513.disOf 2 rfl) (Nat.le_trans (Nat.mul_le_mul_right _ g526) (by decide))) ?_
        rintro v519 h520 ⟨o521, p522, n523⟩
        have p522 : Stp [v437.ownBlock] h510 h520 := p522
        have s524 : St [] h I h520 I431 [some b509, some b468, v519.ownBlock, v433.ownBlock] := s513.grow 2 rfl p522 n523
        have t525 := s513.tr p522 (by simp) (fun _ hb => hb)
        refine ⟨trivial, ?_⟩
        refine X.val rfl rfl rfl (yAssign rfl) trivial ?_
        refine X.nil ?_
        refine At.blkN ?_
        refine At.then ?_
        refine C.region 2 rfl ?_
        refine X.val rfl rfl rfl (yAdd rfl rfl) trivial ?_
        refine X.val rfl rfl rfl (yMove rfl) trivial ?_
        refine X.nil ?_
        have o527 := ((((o434.stp t470 p471 (by simp)).stp t481 p479 (s472.sep 2 [0] rfl rfl rfl)).stp t511 p512 (by simp)).stp t525 p522 (s513.sep 3 [2] rfl rfl rfl))
        have s528 : St [] h I h520 I431 [v519.ownBlock, v433.ownBlock] := s524.pick [2, 3] rfl (by decide) (by rintro (_ | _ | i) m h <;> first | exact h | (simp at h))
        refine At.back [(1, .int .i64 a1), (6, v433), (7, v519), (10, v_a0), (11, .int .i64 (a0.length : Int)), (12, .int .i64 (IntKind.i64.wrap (y439 + 1)))] (fun a ha => (.cons ha rfl (.cons ha rfl (.cons ha rfl (.cons ha rfl (.cons ha rfl (.cons ha rfl ha.nil))))))) ?_
        exact ⟨y432, (y436 ++ [(rd a0 y439)]), (IntKind.i64.wrap (y439 + 1)), v433, v519, I431, rfl, s528, (t441.trans (t470.trans (t481.trans (t511.trans t525)))), o527, o521, H⟩
    · have H := ifF g446 H
      refine X.val rfl rfl rfl (yBF g446 (yLss rfl rfl)) trivial ?_
      refine X.nil ?_
      refine At.then ?_
      refine C.seq ?_
      refine C.condF rfl ?_
      refine C.exit ?_
      refine At.thenE ?_
      refine At.backE ?_
      obtain rfl := sm H
      have H := G443
      try dsimp only at H
      refine At.blkE ?_
      refine At.then ?_
      refine C.seq ?_
      refine C.region 4 rfl ?_
      refine X.val rfl rfl rfl (yMove rfl) trivial ?_
      refine X.val rfl rfl rfl (yMove rfl) trivial ?_
      refine X.val rfl rfl rfl (yAssign rfl) trivial ?_
      refine X.val rfl rfl rfl (yAssign rfl) trivial ?_
      refine X.nil ?_
      refine At.then ?_
      refine C.ret ?_
      obtain rfl := sm H
      refine At.retn (rs := [.tmp 4, .tmp 5]) [v433, v437] rfl ?_ ?_
      exact ⟨Rv.tmp rfl, Rv.tmp rfl, trivial⟩
      exact ⟨I431, v433, v437, (s440.pick [1, 0] rfl (by decide) (by rintro (_ | _ | i) m h <;> first | exact h | (simp at h))), rfl, o434, o438⟩

def p_outbox_Box_Out (K : Nat) (a0 : outbox_Box) (a1 : Int) : Option ((List proto_Msg) × outbox_Box) :=
  (p_outbox_split_proto_Msg K a0.out a1).bind fun (x535_0, x535_1) => some (x535_0, (⟨a0.made, x535_1, a0.answers, a0.lost⟩ : outbox_Box))
theorem c_outbox_Box_Out {K : Nat} {h : Heap} {I : Nat → Prop} {b_a0 : Nat} {a0 : outbox_Box} {v0_a0 : Value} {v1_a0 : Value} {a1 : Int} (s0 : St [some b_a0, v0_a0.ownBlock, v1_a0.ownBlock] h I h I [some b_a0, v0_a0.ownBlock, v1_a0.ownBlock]) (f_a0 : Box h b_a0 118 ((.bool a0.made : Value) :: v0_a0 :: v1_a0 :: (.int .i64 a0.lost : Value) :: [] : List Value)) (o0_a0 : Own k_outbox_held_proto_Msg_ 280 h I v0_a0 a0.out) (o1_a0 : Own k_outbox_held_outbox_Answer_ 282 h I v1_a0 a0.answers) {r : ((List proto_Msg) × outbox_Box)} (H : p_outbox_Box_Out K a0 a1 = some r) :
    Fn Tryz.prog 55 [.pointer (some ⟨b_a0, 0, none⟩), .int .i64 a1] h (fun v h' => ∃ (I' : Nat → Prop) (w0s : Value) (w1s : Value) (u0 : Value) , St [some b_a0, v0_a0.ownBlock, v1_a0.ownBlock] h I h' I' [some b_a0, w0s.ownBlock, w1s.ownBlock, u0.ownBlock] ∧ v = (u0 : Value) ∧ Box h' b_a0 118 ((.bool r.2.made : Value) :: w0s :: w1s :: (.int .i64 r.2.lost : Value) :: [] : List Value) ∧ Own k_outbox_held_proto_Msg_ 280 h' I' w0s r.2.out ∧ Own k_outbox_held_outbox_Answer_ 282 h' I' w1s r.2.answers ∧ Own k_proto_Msg 77 h' I' u0 r.1) := by
  unfold p_outbox_Box_Out at H
  refine Fn.of 23 Tryz.func55 rfl rfl ?_
  refine C.seq ?_
  refine C.region 1 rfl ?_
  refine X.val rfl rfl rfl (yAssign rfl) trivial ?_
  refine X.nil ?_
  refine At.then ?_
  refine C.seq ?_
  refine C.seq ?_
  refine C.region 2 rfl ?_
  refine X.val rfl rfl rfl (yMove rfl) trivial ?_
  refine X.val (v := .bool false) rfl rfl rfl (yPEq Tryz.underlying96 rfl rfl) trivial ?_
  refine X.nil ?_
  refine At.then ?_
  refine C.condF rfl ?_
  refine C.skip ?_
  refine At.then ?_
  refine C.seq ?_
  refine C.region 11 rfl ?_
  refine X.val rfl rfl rfl (yMove rfl) trivial ?_
  refine X.val rfl rfl rfl (yNil rfl) trivial ?_
  refine X.val (v := .pointer (some ⟨b_a0, 1, none⟩)) rfl rfl rfl (yField 115 1 Tryz.underlying118 Tryz.sizeOf115 rfl rfl rfl) trivial ?_
  refine X.val (v := v0_a0) rfl rfl rfl (yLoadS (j := 1) Tryz.isAgg115 rfl (f_a0).all rfl rfl) trivial ?_
  refine X.val rfl rfl rfl (yMove rfl) trivial ?_
  have s532 : St [some b_a0, v0_a0.ownBlock, v1_a0.ownBlock] h I h (fun b => I b ∨ some b = v0_a0.ownBlock) [some b_a0, v1_a0.ownBlock] := s0.claim 1 rfl
  have t533 : Tr I h (fun b => I b ∨ some b = v0_a0.ownBlock) h := fun b hb => ⟨.inl hb, rfl⟩
  have r534 := Own.read (I' := (fun b => I b ∨ some b = v0_a0.ownBlock)) o0_a0 (fun _ hb => .inl hb) (fun b e => .inr e.symm)
  obtain ⟨x535, e536, H⟩ := bnd H
  have s541 : St [some b_a0, v0_a0.ownBlock, v1_a0.ownBlock] h I h (fun b => I b ∨ some b = v0_a0.ownBlock) ([] ++ [some b_a0, v1_a0.ownBlock]) := s532.pick [0, 1] rfl (by decide) (by rintro (_ | _ | i) m h <;> first | exact h | (simp at h))
  refine X.call (all := [v0_a0, .int .i64 a1]) Tryz.call171 rfl rfl rfl rfl rfl rfl (c_outbox_split_proto_Msg s541.left.lend r534 e536) ?_
  obtain ⟨x535_0, x535_1⟩ := x535
  rintro _ h537 ⟨I542, v543, v545, k547, rfl, o544, o546⟩
  have s539 : St [some b_a0, v0_a0.ownBlock, v1_a0.ownBlock] h I h537 I542 [v543.ownBlock, v545.ownBlock, some b_a0, v1_a0.ownBlock] := St.callS (L := []) (R := [some b_a0, v1_a0.ownBlock]) (L' := [v543.ownBlock, v545.ownBlock]) s541 k547
  have t540 : Tr (fun b => I b ∨ some b = v0_a0.ownBlock) h I542 h537 := St.callSTr (L := []) (R := [some b_a0, v1_a0.ownBlock]) (L' := [v543.ownBlock, v545.ownBlock]) s541 k547
  have p538 := k547.stp
  refine ⟨trivial, ?_⟩
  refine X.val rfl rfl rfl (yMove rfl) trivial ?_
  refine X.val rfl rfl rfl (yExtract rfl rfl) trivial ?_
  refine X.val rfl rfl rfl (yExtract rfl rfl) trivial ?_
  refine X.val rfl rfl rfl (yAssign rfl) trivial ?_
  refine X.val rfl rfl rfl (yAssign rfl) trivial ?_
  refine X.nil ?_
  refine At.then ?_
  refine C.seq ?_
  refine C.region 5 rfl ?_
  refine X.val rfl rfl rfl (yMove rfl) trivial ?_
  refine X.val rfl rfl rfl (yMove rfl) trivial ?_
  refine X.val rfl rfl rfl (yNil rfl) trivial ?_
  refine X.val (v := .pointer (some ⟨b_a0, 1, none⟩)) rfl rfl rfl (yField 115 1 Tryz.underlying118 Tryz.sizeOf115 rfl rfl rfl) trivial ?_
  have b548 := (f_a0.stp p538 (by simp))
  refine X.ef rfl rfl rfl (eStore (vs := (v545 :: [] : List Value)) Tryz.sizeOf115 rfl rfl (cellsOne (Own.one o546)) (by simp []) (by simp [ones, ones_append, oInt, oBool, oStr, oSl, oPtr, Own.one o546]) b548 (by simp [])) ?_
  rintro _ h549 ⟨rfl, e550⟩
  have f554 : Box h549 b_a0 118 ((.bool a0.made : Value) :: v545 :: v1_a0 :: (.int .i64 a0.lost : Value) :: [] : List Value) := by subst e550; exact Box.reset b548 (rfl)
  have p551 : Stp [some b_a0] h537 h549 := by subst e550; exact Stp.set _
  have s552 := s539.step p551 (by simp)
  have t553 := s539.tr p551 (by simp) (fun _ hb => hb)
  clear e550
  refine ⟨trivial, ?_⟩
  refine X.nil ?_
  refine At.then ?_
  refine C.seq ?_
  refine C.region 2 rfl ?_
  refine X.val rfl rfl rfl (yMove rfl) trivial ?_
  refine X.val rfl rfl rfl (yAssign rfl) trivial ?_
  refine X.nil ?_
  refine At.then ?_
  refine C.ret ?_
  have o555 := (o546.stp t553 p551 (s539.sep 1 [2] rfl rfl rfl))
  have o556 := (((o1_a0.mono t533 (fun _ _ => rfl)).stp t540 p538 (by simp)).stp t553 p551 (s539.sep 3 [2] rfl rfl rfl))
  have o557 := (o544.stp t553 p551 (s539.sep 0 [2] rfl rfl rfl))
  obtain rfl := sm H
  refine At.retn (rs := [.tmp 4]) [v543] rfl ?_ ?_
  exact ⟨Rv.tmp rfl, trivial⟩
  exact ⟨I542, v545, v1_a0, v543, (s552.pick [2, 1, 3, 0] rfl (by decide) (by rintro (_ | _ | _ | _ | i) m h <;> first | exact h | (simp at h))), rfl, f554, o555, o556, o557⟩

def p_outbox_Box_Shift_l1 (K : Nat) (y605 : outbox_Box) : Nat → Int → outbox_Box → Option (Int × outbox_Box)
  | 0, _, _ => none
  | k699 + 1, y687, y689 => (if y687 < (y605.answers.length : Int) then (if 0 ≤ y687 ∧ y687 < (y689.answers.length : Int) then (p_outbox_Box_Shift_l1 K y605 k699 (IntKind.i64.wrap (y687 + 1)) (⟨y689.made, y689.out, (wr y689.answers y687 (⟨(rd y689.answers y687).x, 0⟩ : outbox_held_outbox_Answer_)), y689.lost⟩ : outbox_Box)) else none) else some (y687, y689))
def p_outbox_Box_Shift_l0 (K : Nat) (a0 : outbox_Box) : Nat → Int → outbox_Box → Option (Int × outbox_Box)
  | 0, _, _ => none
  | k615 + 1, y603, y605 => (if y603 < (a0.out.length : Int) then (if 0 ≤ y603 ∧ y603 < (y605.out.length : Int) then (p_outbox_Box_Shift_l0 K a0 k615 (IntKind.i64.wrap (y603 + 1)) (⟨y605.made, (wr y605.out y603 (⟨(rd y605.out y603).x, 0⟩ : outbox_held_proto_Msg_)), y605.answers, y605.lost⟩ : outbox_Box)) else none) else some (y603, y605))
def p_outbox_Box_Shift (K : Nat) (a0 : outbox_Box) : Option (outbox_Box) :=
  (p_outbox_Box_Shift_l0 K a0 K 0 a0).bind fun (w728, w729) => (p_outbox_Box_Shift_l1 K w729 K 0 w729).bind fun (w807, w808) => some w808
theorem c_outbox_Box_Shift {K : Nat} {h : Heap} {I : Nat → Prop} {b_a0 : Nat} {a0 : outbox_Box} {v0_a0 : Value} {v1_a0 : Value} (s0 : St [some b_a0, v0_a0.ownBlock, v1_a0.ownBlock] h I h I [some b_a0, v0_a0.ownBlock, v1_a0.ownBlock]) (f_a0 : Box h b_a0 118 ((.bool a0.made : Value) :: v0_a0 :: v1_a0 :: (.int .i64 a0.lost : Value) :: [] : List Value)) (o0_a0 : Own k_outbox_held_proto_Msg_ 280 h I v0_a0 a0.out) (o1_a0 : Own k_outbox_held_outbox_Answer_ 282 h I v1_a0 a0.answers) {r : (outbox_Box)} (H : p_outbox_Box_Shift K a0 = some r) :
    Fn Tryz.prog 57 [.pointer (some ⟨b_a0, 0, none⟩)] h (fun v h' => ∃ (I' : Nat → Prop) (w0s : Value) (w1s : Value) , St [some b_a0, v0_a0.ownBlock, v1_a0.ownBlock] h I h' I' [some b_a0, w0s.ownBlock, w1s.ownBlock] ∧ v = (.tuple #[] : Value) ∧ Box h' b_a0 118 ((.bool r.made : Value) :: w0s :: w1s :: (.int .i64 r.lost : Value) :: [] : List Value) ∧ Own k_outbox_held_proto_Msg_ 280 h' I' w0s r.out ∧ Own k_outbox_held_outbox_Answer_ 282 h' I' w1s r.answers) := by
  unfold p_outbox_Box_Shift at H
  refine Fn.of 38 Tryz.func57 rfl rfl ?_
  refine C.seq ?_
  refine C.seq ?_
  refine C.region 2 rfl ?_
  refine X.val rfl rfl rfl (yMove rfl) trivial ?_
  refine X.val (v := .bool false) rfl rfl rfl (yPEq Tryz.underlying96 rfl rfl) trivial ?_
  refine X.nil ?_
  refine At.then ?_
  refine C.condF rfl ?_
  refine C.skip ?_
  refine At.then ?_
  refine C.seq ?_
  refine C.seq ?_
  refine C.region 6 rfl ?_
  refine X.val rfl rfl rfl (yMove rfl) trivial ?_
  refine X.val rfl rfl rfl (yNil rfl) trivial ?_
  refine X.val (v := .pointer (some ⟨b_a0, 1, none⟩)) rfl rfl rfl (yField 115 1 Tryz.underlying118 Tryz.sizeOf115 rfl rfl rfl) trivial ?_
  refine X.val (v := v0_a0) rfl rfl rfl (yLoadS (j := 1) Tryz.isAgg115 rfl (f_a0).all rfl rfl) trivial ?_
  refine X.val rfl rfl rfl (yLenO Tryz.underlying115 rfl o0_a0) trivial ?_
  refine X.val rfl rfl rfl (yMove rfl) trivial ?_
  refine X.nil ?_
  refine At.then ?_
  refine C.block ?_
  obtain ⟨z612, e614, G613⟩ := bnd H
  refine C.prune [(0, .pointer (some ⟨b_a0, 0, none⟩)), (10, .int .i64 (a0.out.length : Int)), (11, .int .i64 0)] (fun a ha => (.cons ha rfl (.cons ha rfl (.cons ha rfl ha.nil)))) ?_
  refine C.loop (fun k615 e h601 => ∃ (y603 : Int) (y605 : outbox_Box) (v606 : Value) (v608 : Value) (I602 : Nat → Prop), e = [(0, .pointer (some ⟨b_a0, 0, none⟩)), (10, .int .i64 (a0.out.length : Int)), (11, .int .i64 y603)] ∧ St [some b_a0, v0_a0.ownBlock, v1_a0.ownBlock] h I h601 I602 [some b_a0, v606.ownBlock, v608.ownBlock] ∧ Tr I h I602 h601 ∧ Own k_outbox_held_proto_Msg_ 280 h601 I602 v606 y605.out ∧ Own k_outbox_held_outbox_Answer_ 282 h601 I602 v608 y605.answers ∧ Box h601 b_a0 118 ((.bool y605.made : Value) :: v606 :: v608 :: (.int .i64 y605.lost : Value) :: [] : List Value) ∧ p_outbox_Box_Shift_l0 K a0 k615 y603 y605 = some z612) K ⟨0, a0, v0_a0, v1_a0, I, rfl, s0, Tr.refl _ _, o0_a0, o1_a0, f_a0, e614⟩ ?_ ?_
  · rintro e h' ⟨_, _, _, _, _, _, _, _, _, _, _, H⟩; cases (show none = some _ from H)
  · rintro k615 e h601 ⟨y603, y605, v606, v608, I602, rfl, s610, t611, o607, o609, f604, H⟩
    rw [p_outbox_Box_Shift_l0] at H
    refine C.seq ?_
    refine C.region 1 rfl ?_
    by_cases g616 : y603 < (a0.out.length : Int)
    · have H := ifT g616 H
      refine X.val rfl rfl rfl (yBT g616 (yLss rfl rfl)) trivial ?_
      refine X.nil ?_
      refine At.then ?_
      refine C.seq ?_
      refine C.condT rfl ?_
      refine C.skip ?_
      refine At.then ?_
      refine C.seq ?_
      refine C.block ?_
      refine C.seq ?_
      refine C.region 2 rfl ?_
      refine X.val rfl rfl rfl (yMove rfl) trivial ?_
      refine X.val rfl rfl rfl (yAssign rfl) trivial ?_
      refine X.nil ?_
      refine At.then ?_
      refine C.region 8 rfl ?_
      refine X.val rfl rfl rfl (yMove rfl) trivial ?_
      refine X.val rfl rfl rfl (yNil rfl) trivial ?_
      refine X.val (v := .pointer (some ⟨b_a0, 1, none⟩)) rfl rfl rfl (yField 115 1 Tryz.underlying118 Tryz.sizeOf115 rfl rfl rfl) trivial ?_
      refine X.val (v := v606) rfl rfl rfl (yLoadS (j := 1) Tryz.isAgg115 rfl (f604).all rfl rfl) trivial ?_
      refine X.val rfl rfl rfl (yMove rfl) trivial ?_
      obtain ⟨⟨g617, g618⟩, H⟩ := ifS H
      obtain ⟨b619, k620, c621, c622, c623, e624, f625, l626, l627, r628, w629⟩ := Own.at o607 g617 g618
      have l626 : c621.length = (y603).toNat * 41 := l626
      have l627 : c622.length = 41 := l627
      obtain ⟨c630, v632, v634, v636, rfl, r631, r633, r635, r637⟩ := o_outbox_held_proto_Msg_ r628
      refine X.val (v := .pointer (some ⟨b619, 0 + (y603).toNat * 41, none⟩)) rfl rfl rfl (yIdxS Tryz.underlying115 Tryz.sizeOf280 (by rw [← e624]; rfl) rfl g617 g618) trivial ?_
      refine X.val (v := .pointer (some ⟨b619, 0 + (y603).toNat * 41 + 40, none⟩)) rfl rfl rfl (yField 3 40 Tryz.underlying280 Tryz.sizeOf3 rfl rfl rfl) trivial ?_
      have l638 : c630.length = 32 := (kArr 32 (kI .u8)).len r631
      refine X.ef rfl rfl rfl (eStore (vs := ((.int .i64 0 : Value) :: [] : List Value)) Tryz.sizeOf3 rfl rfl rfl (by simp []) (by simp [ones, ones_append, oInt, oBool, oStr, oSl, oPtr]) f625 (by simp [l626, l638] <;> omega)) ?_
      rintro _ h640 ⟨rfl, e641⟩
      have f645 : Box h640 b619 280 (c621 ++ (((.int .i64 ((rd y605.out y603).x.Kind) : Value) :: (.int .i64 ((rd y605.out y603).x.From) : Value) :: (.int .i64 ((rd y605.out y603).x.To) : Value) :: (.int .i64 ((rd y605.out y603).x.Session) : Value) :: (.int .i64 ((rd y605.out y603).x.Part) : Value) :: c630 ++ (v632 :: v634 :: v636 :: (.int .i64 0 : Value) :: []) : List Value) ++ c623)) := by subst e641; exact Box.reset f625 (by have k := splice_mid ((.int .i64 0 : Value) :: [] : List Value) ((.int .i64 ((rd y605.out y603).mark) : Value) :: [] : List Value) (c621 ++ ((.int .i64 ((rd y605.out y603).x.Kind) : Value) :: (.int .i64 ((rd y605.out y603).x.From) : Value) :: (.int .i64 ((rd y605.out y603).x.To) : Value) :: (.int .i64 ((rd y605.out y603).x.Session) : Value) :: (.int .i64 ((rd y605.out y603).x.Part) : Value) :: c630 ++ (v632 :: v634 :: v636 :: []) : List Value)) (([] : List Value) ++ c623) (by simp [l638]); simp [l626, l638] at k; simpa [Nat.add_assoc] using k)
      have p642 : Stp [v606.ownBlock] h601 h640 := by subst e641; rw [e624]; exact Stp.set _
      have s643 := s610.step p642 (by simp)
      have t644 := s610.tr p642 (by simp) (fun _ hb => hb)
      clear e641
      have o646 := w629 h640 I602 ((.int .i64 ((rd y605.out y603).x.Kind) : Value) :: (.int .i64 ((rd y605.out y603).x.From) : Value) :: (.int .i64 ((rd y605.out y603).x.To) : Value) :: (.int .i64 ((rd y605.out y603).x.Session) : Value) :: (.int .i64 ((rd y605.out y603).x.Part) : Value) :: c630 ++ (v632 :: v634 :: v636 :: (.int .i64 0 : Value) :: []) : List Value) (⟨(rd y605.out y603).x, 0⟩ : outbox_held_proto_Msg_) t644 (k_outbox_held_proto_Msg_.mono (cs := ((.int .i64 ((rd y605.out y603).x.Kind) : Value) :: (.int .i64 ((rd y605.out y603).x.From) : Value) :: (.int .i64 ((rd y605.out y603).x.To) : Value) :: (.int .i64 ((rd y605.out y603).x.Session) : Value) :: (.int .i64 ((rd y605.out y603).x.Part) : Value) :: c630 ++ (v632 :: v634 :: v636 :: (.int .i64 0 : Value) :: []) : List Value)) (x := (⟨(rd y605.out y603).x, 0⟩ : outbox_held_proto_Msg_)) (by exact (m_outbox_held_proto_Msg_ r631 r633 r635 r637)) t644) f645
      refine ⟨trivial, ?_⟩
      refine X.nil ?_
      refine At.blkN ?_
      refine At.then ?_
      refine C.region 2 rfl ?_
      refine X.val rfl rfl rfl (yAdd rfl rfl) trivial ?_
      refine X.val rfl rfl rfl (yMove rfl) trivial ?_
      refine X.nil ?_
      have b647 := (f604.stp p642 ((s610.sep 0 [1] rfl rfl rfl) _ rfl))
      have o648 := (o609.stp t644 p642 (s610.sep 2 [1] rfl rfl rfl))
      refine At.back [(0, .pointer (some ⟨b_a0, 0, none⟩)), (10, .int .i64 (a0.out.length : Int)), (11, .int .i64 (IntKind.i64.wrap (y603 + 1)))] (fun a ha => (.cons ha rfl (.cons ha rfl (.cons ha rfl ha.nil)))) ?_
      exact ⟨(IntKind.i64.wrap (y603 + 1)), (⟨y605.made, (wr y605.out y603 (⟨(rd y605.out y603).x, 0⟩ : outbox_held_proto_Msg_)), y605.answers, y605.lost⟩ : outbox_Box), v606, v608, I602, rfl, s643, (t611.trans t644), o646, o648, b647, H⟩
    · have H := ifF g616 H
      refine X.val rfl rfl rfl (yBF g616 (yLss rfl rfl)) trivial ?_
      refine X.nil ?_
      refine At.then ?_
      refine C.seq ?_
      refine C.condF rfl ?_
      refine C.exit ?_
      refine At.thenE ?_
      refine At.backE ?_
      obtain rfl := sm H
      have H := G613
      try dsimp only at H
      refine At.blkE ?_
      refine At.then ?_
      refine C.seq ?_
      refine C.region 6 rfl ?_
      refine X.val rfl rfl rfl (yMove rfl) trivial ?_
      refine X.val rfl rfl rfl (yNil rfl) trivial ?_
      refine X.val (v := .pointer (some ⟨b_a0, 2, none⟩)) rfl rfl rfl (yField 116 2 Tryz.underlying118 Tryz.sizeOf116 rfl rfl rfl) trivial ?_
      refine X.val (v := v608) rfl rfl rfl (yLoadS (j := 2) Tryz.isAgg116 rfl (f604).all rfl rfl) trivial ?_
      refine X.val rfl rfl rfl (yLenO Tryz.underlying116 rfl o609) trivial ?_
      refine X.val rfl rfl rfl (yMove rfl) trivial ?_
      refine X.nil ?_
      refine At.then ?_
      refine C.block ?_
      obtain ⟨z696, e698, G697⟩ := bnd H
      refine C.prune [(0, .pointer (some ⟨b_a0, 0, none⟩)), (26, .int .i64 (y605.answers.length : Int)), (27, .int .i64 0)] (fun a ha => (.cons ha rfl (.cons ha rfl (.cons ha rfl ha.nil)))) ?_
      refine C.loop (fun k699 e h685 => ∃ (y687 : Int) (y689 : outbox_Box) (v690 : Value) (v692 : Value) (I686 : Nat → Prop), e = [(0, .pointer (some ⟨b_a0, 0, none⟩)), (26, .int .i64 (y605.answers.length : Int)), (27, .int .i64 y687)] ∧ St [some b_a0, v0_a0.ownBlock, v1_a0.ownBlock] h I h685 I686 [some b_a0, v690.ownBlock, v692.ownBlock] ∧ Tr I602 h601 I686 h685 ∧ Own k_outbox_held_proto_Msg_ 280 h685 I686 v690 y689.out ∧ Own k_outbox_held_outbox_Answer_ 282 h685 I686 v692 y689.answers ∧ Box h685 b_a0 118 ((.bool y689.made : Value) :: v690 :: v692 :: (.int .i64 y689.lost : Value) :: [] : List Value) ∧ p_outbox_Box_Shift_l1 K y605 k699 y687 y689 = some z696) K ⟨0, y605, v606, v608, I602, rfl, s610, Tr.refl _ _, o607, o609, f604, e698⟩ ?_ ?_
      · rintro e h' ⟨_, _, _, _, _, _, _, _, _, _, _, H⟩; cases (show none = some _ from H)
      · rintro k699 e h685 ⟨y687, y689, v690, v692, I686, rfl, s694, t695, o691, o693, f688, H⟩
        rw [p_outbox_Box_Shift_l1] at H
        refine C.seq ?_
        refine C.region 1 rfl ?_
        by_cases g700 : y687 < (y605.answers.length : Int)
        · have H := ifT g700 H
          refine X.val rfl rfl rfl (yBT g700 (yLss rfl rfl)) trivial ?_
          refine X.nil ?_
          refine At.then ?_
          refine C.seq ?_
          refine C.condT rfl ?_
          refine C.skip ?_
          refine At.then ?_
          refine C.seq ?_
          refine C.block ?_
          refine C.seq ?_
          refine C.region 2 rfl ?_
          refine X.val rfl rfl rfl (yMove rfl) trivial ?_
          refine X.val rfl rfl rfl (yAssign rfl) trivial ?_
          refine X.nil ?_
          refine At.then ?_
          refine C.region 8 rfl ?_
          refine X.val rfl rfl rfl (yMove rfl) trivial ?_
          refine X.val rfl rfl rfl (yNil rfl) trivial ?_
          refine X.val (v := .pointer (some ⟨b_a0, 2, none⟩)) rfl rfl rfl (yField 116 2 Tryz.underlying118 Tryz.sizeOf116 rfl rfl rfl) trivial ?_
          refine X.val (v := v692) rfl rfl rfl (yLoadS (j := 2) Tryz.isAgg116 rfl (f688).all rfl rfl) trivial ?_
          refine X.val rfl rfl rfl (yMove rfl) trivial ?_
          obtain ⟨⟨g701, g702⟩, H⟩ := ifS H
          obtain ⟨b703, k704, c705, c706, c707, e708, f709, l710, l711, r712, w713⟩ := Own.at o693 g701 g702
          have l710 : c705.length = (y687).toNat * 4 := l710
          have l711 : c706.length = 4 := l711
          obtain ⟨v714, rfl, r715⟩ := o_outbox_held_outbox_Answer_ r712
          refine X.val (v := .pointer (some ⟨b703, 0 + (y687).toNat * 4, none⟩)) rfl rfl rfl (yIdxS Tryz.underlying116 Tryz.sizeOf282 (by rw [← e708]; rfl) rfl g701 g702) trivial ?_
          refine X.val (v := .pointer (some ⟨b703, 0 + (y687).toNat * 4 + 3, none⟩)) rfl rfl rfl (yField 3 3 Tryz.underlying282 Tryz.sizeOf3 rfl rfl rfl) trivial ?_
          refine X.ef rfl rfl rfl (eStore (vs := ((.int .i64 0 : Value) :: [] : List Value)) Tryz.sizeOf3 rfl rfl rfl (by simp []) (by simp [ones, ones_append, oInt, oBool, oStr, oSl, oPtr]) f709 (by simp [l710] <;> omega)) ?_
          rintro _ h717 ⟨rfl, e718⟩
          have f722 : Box h717 b703 282 (c705 ++ (((.int .i64 ((rd y689.answers y687).x.ID) : Value) :: (.int .i64 ((rd y689.answers y687).x.Err) : Value) :: v714 :: (.int .i64 0 : Value) :: [] : List Value) ++ c707)) := by subst e718; exact Box.reset f709 (by have k := splice_mid ((.int .i64 0 : Value) :: [] : List Value) ((.int .i64 ((rd y689.answers y687).mark) : Value) :: [] : List Value) (c705 ++ ((.int .i64 ((rd y689.answers y687).x.ID) : Value) :: (.int .i64 ((rd y689.answers y687).x.Err) : Value) :: v714 :: [] : List Value)) (([] : List Value) ++ c707) (by simp []); simp [l710] at k; simpa [Nat.add_assoc] using k)
          have p719 : Stp [v692.ownBlock] h685 h717 := by subst e718; rw [e708]; exact Stp.set _
          have s720 := s694.step p719 (by simp)
          have t721 := s694.tr p719 (by simp) (fun _ hb => hb)
          clear e718
          have o723 := w713 h717 I686 ((.int .i64 ((rd y689.answers y687).x.ID) : Value) :: (.int .i64 ((rd y689.answers y687).x.Err) : Value) :: v714 :: (.int .i64 0 : Value) :: [] : List Value) (⟨(rd y689.answers y687).x, 0⟩ : outbox_held_outbox_Answer_) t721 (k_outbox_held_outbox_Answer_.mono (cs := ((.int .i64 ((rd y689.answers y687).x.ID) : Value) :: (.int .i64 ((rd y689.answers y687).x.Err) : Value) :: v714 :: (.int .i64 0 : Value) :: [] : List Value)) (x := (⟨(rd y689.answers y687).x, 0⟩ : outbox_held_outbox_Answer_)) (by exact (m_outbox_held_outbox_Answer_ r715)) t721) f722
          refine ⟨trivial, ?_⟩
          refine X.nil ?_
          refine At.blkN ?_
          refine At.then ?_
          refine C.region 2 rfl ?_
          refine X.val rfl rfl rfl (yAdd rfl rfl) trivial ?_
          refine X.val rfl rfl rfl (yMove rfl) trivial ?_
          refine X.nil ?_
          have b724 := (f688.stp p719 ((s694.sep 0 [2] rfl rfl rfl) _ rfl))
          have o725 := (o691.stp t721 p719 (s694.sep 1 [2] rfl rfl rfl))
          refine At.back [(0, .pointer (some ⟨b_a0, 0, none⟩)), (26, .int .i64 (y605.answers.length : Int)), (27, .int .i64 (IntKind.i64.wrap (y687 + 1)))] (fun a ha => (.cons ha rfl (.cons ha rfl (.cons ha rfl ha.nil)))) ?_
          exact ⟨(IntKind.i64.wrap (y687 + 1)), (⟨y689.made, y689.out, (wr y689.answers y687 (⟨(rd y689.answers y687).x, 0⟩ : outbox_held_outbox_Answer_)), y689.lost⟩ : outbox_Box), v690, v692, I686, rfl, s720, (t695.trans t721), o725, o723, b724, H⟩
        · have H := ifF g700 H
          refine X.val rfl rfl rfl (yBF g700 (yLss rfl rfl)) trivial ?_
          refine X.nil ?_
          refine At.then ?_
          refine C.seq ?_
          refine C.condF rfl ?_
          refine C.exit ?_
          refine At.thenE ?_
          refine At.backE ?_
          obtain rfl := sm H
          have H := G697
          try dsimp only at H
          refine At.blkE ?_
          obtain rfl := sm H
          refine At.endn (rs := []) [] rfl ?_ ?_
          exact trivial
          exact ⟨I686, v690, v692, s694, rfl, f688, o691, o693⟩

def p_pack_Right_l0 (K : Nat) (a0 : (List pack_Keyed)) : Nat → Int → Option (Sum (Bool) (Int))
  | 0, _ => none
  | k817 + 1, y811 => (if y811 < (a0.length : Int) then (if 0 ≤ y811 ∧ y811 < (a0.length : Int) then (if (((rd a0 y811).Key).length : Int) > 20 then some (Sum.inl false) else (if y811 > 0 then (if 0 ≤ (IntKind.i64.wrap (y811 - 1)) ∧ (IntKind.i64.wrap (y811 - 1)) < (a0.length : Int) then (bif (strLt ((rd a0 (IntKind.i64.wrap (y811 - 1))).Key) ((rd a0 y811).Key)) then none else some (Sum.inl false)) else none) else none)) else none) else some (Sum.inr y811))
def p_pack_Right (K : Nat) (a0 : (List pack_Keyed)) : Option (Bool) :=
  (p_pack_Right_l0 K a0 K 0).bind fun z814 => match z814 with | .inl r => some r | .inr w873 => some (decide ((a0.length : Int) ≤ 2000))
theorem c_pack_Right {K : Nat} {h : Heap} {I : Nat → Prop} (hI : ∀ b, I b → b < h.size) {v_a0 : Value} {a0 : (List pack_Keyed)} (r_a0 : SlR k_pack_Keyed I h v_a0 a0) {r : (Bool)} (H : p_pack_Right K a0 = some r) :
    Fn Tryz.prog 98 [v_a0] h (fun v h' => Stp [] h h' ∧ v = (.bool r : Value)) := by
  unfold p_pack_Right at H
  refine Fn.of 41 Tryz.func98 rfl rfl ?_
  have s0 := St.start hI
  refine C.seq ?_
  refine C.region 1 rfl ?_
  refine X.val rfl rfl rfl (yAssign rfl) trivial ?_
  refine X.nil ?_
  refine At.then ?_
  refine C.seq ?_
  refine C.seq ?_
  refine C.region 3 rfl ?_
  refine X.val rfl rfl rfl (yMove rfl) trivial ?_
  refine X.val rfl rfl rfl (yLenR Tryz.underlying58 rfl r_a0) trivial ?_
  refine X.val rfl rfl rfl (yMove rfl) trivial ?_
  refine X.nil ?_
  refine At.then ?_
  refine C.block ?_
  obtain ⟨z814, e816, G815⟩ := bnd H
  refine C.prune [(0, v_a0), (5, v_a0), (6, .int .i64 (a0.length : Int)), (7, .int .i64 0)] (fun a ha => (.cons ha rfl (.cons ha rfl (.cons ha rfl (.cons ha rfl ha.nil))))) ?_
  refine C.loop (fun k817 e h809 => ∃ (y811 : Int) (I810 : Nat → Prop), e = [(0, v_a0), (5, v_a0), (6, .int .i64 (a0.length : Int)), (7, .int .i64 y811)] ∧ St [] h I h809 I810 [] ∧ Tr I h I810 h809 ∧ p_pack_Right_l0 K a0 k817 y811 = some z814) K ⟨0, I, rfl, s0, Tr.refl _ _, e816⟩ ?_ ?_
  · rintro e h' ⟨_, _, _, _, _, H⟩; cases (show none = some _ from H)
  · rintro k817 e h809 ⟨y811, I810, rfl, s812, t813, H⟩
    rw [p_pack_Right_l0] at H
    refine C.seq ?_
    refine C.region 1 rfl ?_
    by_cases g818 : y811 < (a0.length : Int)
    · have H := ifT g818 H
      refine X.val rfl rfl rfl (yBT g818 (yLss rfl rfl)) trivial ?_
      refine X.nil ?_
      refine At.then ?_
      refine C.seq ?_
      refine C.condT rfl ?_
      refine C.skip ?_
      refine At.then ?_
      refine C.seq ?_
      refine C.block ?_
      refine C.seq ?_
      refine C.region 6 rfl ?_
      refine X.val rfl rfl rfl (yMove rfl) trivial ?_
      obtain ⟨⟨g827, g819⟩, H⟩ := ifS H
      obtain ⟨b820, w821, k822, c823, e824, r825, m826⟩ := SlR.get (r_a0.mono t813) g827 g819
      obtain ⟨c828, v830, rfl, r829, r831⟩ := o_pack_Keyed r825
      refine X.val (v := .pointer (some ⟨b820, w821 + (y811).toNat * 10, none⟩)) rfl rfl rfl (yIdxS Tryz.underlying58 Tryz.sizeOf172 (by rw [← e824]; rfl) rfl g827 g819) trivial ?_
      have l832 : c828.length = 8 := (kArr 8 (kI .u64)).len r829
      refine X.val (v := .agg (((.string ⟨((rd a0 y811).Key).toArray⟩ : Value) :: c828 ++ (v830 :: []) : List Value)).toArray) rfl rfl rfl (yLoadW Tryz.isAgg172 Tryz.sizeOf172 rfl m826.rd (by simp [l832])) trivial ?_
      obtain ⟨c833, e834⟩ : ∃ c : List Value, c = (List.replicate 8 (.int .u64 0 : Value)) := ⟨_, rfl⟩
      have r835 : (kArr 8 (kI .u64)).rp I810 h809 c833 (List.replicate 8 (0 : Int)) := by rw [e834]; exact z_T26
      refine X.ef rfl rfl rfl (eAlloc (zs := ((.string ⟨(([] : List UInt8)).toArray⟩ : Value) :: (List.replicate 8 (.int .u64 0 : Value)) ++ ((.slice none 0 0 : Value) :: []) : List Value)) Tryz.zeroValue172 rfl) ?_
      rintro _ h837 ⟨rfl, e842⟩
      obtain ⟨b836, e842b⟩ : ∃ b, b = h809.size := ⟨_, rfl⟩
      rw [← e842b]
      have f841 : Box h837 b836 172 ((.string ⟨(([] : List UInt8)).toArray⟩ : Value) :: c833 ++ ((.slice none 0 0 : Value) :: []) : List Value) := by subst e842; subst e842b; rw [e834]; exact Box.new _ _ _
      have p839 : Stp [] h809 h837 := by subst e842; exact Stp.push _ _
      have s840 : St [] h I h837 I810 (some b836 :: []) := by subst e842; subst e842b; exact s812.new _
      have t838 := s812.tr p839 (by simp) (fun _ hb => hb)
      clear e842 e842b
      refine ⟨trivial, ?_⟩
      refine X.val rfl rfl rfl (yAssign rfl) trivial ?_
      have l843 : c833.length = 8 := (kArr 8 (kI .u64)).len r835
      have l844 : c828.length = 8 := (kArr 8 (kI .u64)).len r829
      refine X.ef rfl rfl rfl (eStore (vs := ((.string ⟨((rd a0 y811).Key).toArray⟩ : Value) :: c828 ++ (v830 :: []) : List Value)) Tryz.sizeOf172 rfl rfl rfl (by simp [l844]) (by simp [ones, ones_append, oInt, oBool, oStr, oSl, oPtr, (kArr 8 (kI .u64)).one r829, SlR.one (r831.mono t838)]) f841 (by simp [l843, l844])) ?_
      rintro _ h845 ⟨rfl, e846⟩
      have f850 : Box h845 b836 172 ((.string ⟨((rd a0 y811).Key).toArray⟩ : Value) :: c828 ++ (v830 :: []) : List Value) := by subst e846; exact Box.reset f841 (by have k := splice_mid ((.string ⟨((rd a0 y811).Key).toArray⟩ : Value) :: c828 ++ (v830 :: []) : List Value) ((.string ⟨(([] : List UInt8)).toArray⟩ : Value) :: c833 ++ ((.slice none 0 0 : Value) :: []) : List Value) [] ([] : List Value) (by simp [l843, l844]); simpa using k)
      have p847 : Stp [some b836] h837 h845 := by subst e846; exact Stp.set _
      have s848 := s840.step p847 (by simp)
      have t849 := s840.tr p847 (by simp) (fun _ hb => hb)
      clear e846
      refine ⟨trivial, ?_⟩
      refine X.nil ?_
      refine At.then ?_
      refine C.seq ?_
      refine C.regionD rfl (Stp [] h845) (.pas 0 (.pas 1 (.pas 2 (.pas 3 (.pas 4 (.pas 5 (.pas 6 (.pas 7 (.pas 8 (.pas 9 (.pas 10 (.pas 11 (.pas 12 (.pas 13 (.pas 14 (.pas 15 (.pas 16 (.pas 17 (.pas 18 (.pas 19 (.pas 20 (.pas 21 (.alt 22 (.pas 23 (.pas 24 .nil)) .stop))))))))))))))))))))))) (by kernel_rfl) (Stp.refl0 _ _) ?_
      have q851 := Stp.refl0 [] h845
      refine X.pas (v := .pointer (some ⟨b836, 0, none⟩)) rfl rfl rfl (fun _ _ => yField 9 0 Tryz.underlying172 Tryz.sizeOf9 rfl rfl rfl) ?_
      have l852 : c828.length = 8 := (kArr 8 (kI .u64)).len r829
      refine X.pas (v := .string ⟨((rd a0 y811).Key).toArray⟩) rfl rfl rfl (fun h' q => yLoadS (j := 0) Tryz.isAgg9 rfl ((f850.stp q (by simp))).all rfl (by simp [l852])) ?_
      refine X.pas rfl rfl rfl (fun _ _ => yLenS Tryz.underlying9 rfl) ?_
      by_cases g853 : (((rd a0 y811).Key).length : Int) > 20
      · have H := ifT g853 H
        refine X.pas rfl rfl rfl (fun _ _ => yBT g853 (yGtr rfl rfl)) ?_
        refine X.pas rfl rfl rfl (fun _ _ => yMove rfl) ?_
        refine X.pasSkip rfl rfl rfl ?_
        refine X.pasSkip rfl rfl rfl ?_
        refine X.pasSkip rfl rfl rfl ?_
        refine X.pasSkip rfl rfl rfl ?_
        refine X.pasSkip rfl rfl rfl ?_
        refine X.pasSkip rfl rfl rfl ?_
        refine X.pasSkip rfl rfl rfl ?_
        refine X.pasSkip rfl rfl rfl ?_
        refine X.pasSkip rfl rfl rfl ?_
        refine X.pasSkip rfl rfl rfl ?_
        refine X.pasSkip rfl rfl rfl ?_
        refine X.pasSkip rfl rfl rfl ?_
        refine X.pasSkip rfl rfl rfl ?_
        refine X.pas rfl rfl rfl (fun _ _ => yPickT rfl rfl) ?_
        refine X.pas rfl rfl rfl (fun _ _ => yMove rfl) ?_
        refine X.pasSkip rfl rfl rfl ?_
        refine X.pasSkip rfl rfl rfl ?_
        refine X.skip rfl rfl rfl q851 ?_
        refine X.pasSkip rfl rfl rfl ?_
        refine X.pas rfl rfl rfl (fun _ _ => yPickT rfl rfl) ?_
        refine X.nil ?_
        refine At.then ?_
        refine C.condT rfl ?_
        refine C.seq ?_
        refine C.region 1 rfl ?_
        refine X.val rfl rfl rfl (yAssign rfl) trivial ?_
        refine X.nil ?_
        refine At.then ?_
        refine C.ret ?_
        refine At.blkR ?_
        refine At.thenR ?_
        refine At.backR ?_
        obtain rfl := sm H
        have H := G815
        try dsimp only at H
        refine At.blkR ?_
        refine At.thenR ?_
        obtain rfl := sm H
        refine At.retn (rs := [.tmp 2]) [.bool false] rfl ?_ ?_
        exact ⟨Rv.tmp rfl, trivial⟩
        exact ⟨s848.stp, rfl⟩
      · have H := ifF g853 H
        refine X.pas rfl rfl rfl (fun _ _ => yBF g853 (yGtr rfl rfl)) ?_
        refine X.pas rfl rfl rfl (fun _ _ => yMove rfl) ?_
        refine X.pas rfl rfl rfl (fun _ _ => yMove rfl) ?_
        by_cases g854 : y811 > 0
        · have H := ifT g854 H
          refine X.pas rfl rfl rfl (fun _ _ => yBT g854 (yGtr rfl rfl)) ?_
          refine X.pas rfl rfl rfl (fun _ _ => yMove rfl) ?_
          refine X.pas rfl rfl rfl (fun _ _ => yMove rfl) ?_
          refine X.pas rfl rfl rfl (fun _ _ => yMove rfl) ?_
          refine X.pas rfl rfl rfl (fun _ _ => ySub rfl rfl) ?_
          obtain ⟨⟨g863, g855⟩, H⟩ := ifS H
          obtain ⟨b856, w857, k858, c859, e860, r861, m862⟩ := SlR.get (r_a0.mono (t813.trans (t838.trans t849))) g863 g855
          obtain ⟨c864, v866, rfl, r865, r867⟩ := o_pack_Keyed r861
          refine X.pas (v := .pointer (some ⟨b856, w857 + ((IntKind.i64.wrap (y811 - 1))).toNat * 10, none⟩)) rfl rfl rfl (fun _ _ => yIdxS Tryz.underlying58 Tryz.sizeOf172 (by rw [← e860]; rfl) rfl g863 g855) ?_
          refine X.pas (v := .pointer (some ⟨b856, w857 + ((IntKind.i64.wrap (y811 - 1))).toNat * 10 + 0, none⟩)) rfl rfl rfl (fun _ _ => yField 9 0 Tryz.underlying172 Tryz.sizeOf9 rfl rfl rfl) ?_
          have l868 : c864.length = 8 := (kArr 8 (kI .u64)).len r865
          refine X.pas (v := .string ⟨((rd a0 (IntKind.i64.wrap (y811 - 1))).Key).toArray⟩) rfl rfl rfl (fun h' q => yLoadS (j := 0) Tryz.isAgg9 rfl (m862.mono (s848.tr q (by simp) (fun _ hb => hb))).rd rfl (by simp [l868])) ?_
          refine X.pas (v := .pointer (some ⟨b836, 0, none⟩)) rfl rfl rfl (fun _ _ => yField 9 0 Tryz.underlying172 Tryz.sizeOf9 rfl rfl rfl) ?_
          have l869 : c828.length = 8 := (kArr 8 (kI .u64)).len r829
          refine X.pas (v := .string ⟨((rd a0 y811).Key).toArray⟩) rfl rfl rfl (fun h' q => yLoadS (j := 0) Tryz.isAgg9 rfl ((f850.stp q (by simp))).all rfl (by simp [l869])) ?_
          cases g870 : (strLt ((rd a0 (IntKind.i64.wrap (y811 - 1))).Key) ((rd a0 y811).Key))
          · have H := biFe g870 H
            refine X.pas rfl rfl rfl (fun _ _ => yBE (by simp only [g870]; rfl) (ySGeq rfl rfl)) ?_
            refine X.pas rfl rfl rfl (fun _ _ => yPickT rfl rfl) ?_
            refine X.pas rfl rfl rfl (fun _ _ => yPickF rfl rfl) ?_
            refine X.pas rfl rfl rfl (fun _ _ => yMove rfl) ?_
            refine X.pasSkip rfl rfl rfl ?_
            refine X.pasSkip rfl rfl rfl ?_
            refine X.skip rfl rfl rfl q851 ?_
            refine X.pasSkip rfl rfl rfl ?_
            refine X.pas rfl rfl rfl (fun _ _ => yPickT rfl rfl) ?_
            refine X.nil ?_
            refine At.then ?_
            refine C.condT rfl ?_
            refine C.seq ?_
            refine C.region 1 rfl ?_
            refine X.val rfl rfl rfl (yAssign rfl) trivial ?_
            refine X.nil ?_
            refine At.then ?_
            refine C.ret ?_
            refine At.blkR ?_
            refine At.thenR ?_
            refine At.backR ?_
            obtain rfl := sm H
            have H := G815
            try dsimp only at H
            refine At.blkR ?_
            refine At.thenR ?_
            obtain rfl := sm H
            refine At.retn (rs := [.tmp 2]) [.bool false] rfl ?_ ?_
            exact ⟨Rv.tmp rfl, trivial⟩
            exact ⟨s848.stp, rfl⟩
          · have H := biTe g870 H
            refine X.pas rfl rfl rfl (fun _ _ => yBE (by simp only [g870]; rfl) (ySGeq rfl rfl)) ?_
            refine X.pas rfl rfl rfl (fun _ _ => yPickT rfl rfl) ?_
            refine X.pas rfl rfl rfl (fun _ _ => yPickF rfl rfl) ?_
            refine X.pas rfl rfl rfl (fun _ _ => yMove rfl) ?_
            refine X.pas (v := .pointer (some ⟨b836, 1, none⟩)) rfl rfl rfl (fun _ _ => yField 29 1 Tryz.underlying172 Tryz.sizeOf29 rfl rfl rfl) ?_
            have l871 : c828.length = 8 := (kArr 8 (kI .u64)).len r829
            refine X.pas (v := .agg ((c828 ++ (v830 :: []) : List Value)).toArray) rfl rfl rfl (fun h' q => yLoadA (j := 1) (mid := (c828 ++ (v830 :: []) : List Value)) Tryz.isAgg29 Tryz.sizeOf29 rfl ((f850.stp q (by simp))).all rfl (by first | (simp [l871]; done) | (simp [List.take_append, List.drop_append, List.take_of_length_le, l871]; done)) (by simp [l871])) ?_
            cases H
        · have H := ifF g854 H
          refine X.pas rfl rfl rfl (fun _ _ => yBF g854 (yGtr rfl rfl)) ?_
          refine X.pas rfl rfl rfl (fun _ _ => yMove rfl) ?_
          refine X.pasSkip rfl rfl rfl ?_
          refine X.pasSkip rfl rfl rfl ?_
          refine X.pasSkip rfl rfl rfl ?_
          refine X.pasSkip rfl rfl rfl ?_
          refine X.pasSkip rfl rfl rfl ?_
          refine X.pasSkip rfl rfl rfl ?_
          refine X.pasSkip rfl rfl rfl ?_
          refine X.pasSkip rfl rfl rfl ?_
          refine X.pasSkip rfl rfl rfl ?_
          refine X.pas rfl rfl rfl (fun _ _ => yPickF rfl rfl) ?_
          refine X.pas rfl rfl rfl (fun _ _ => yPickF rfl rfl) ?_
          refine X.pas rfl rfl rfl (fun _ _ => yMove rfl) ?_
          refine X.pas (v := .pointer (some ⟨b836, 1, none⟩)) rfl rfl rfl (fun _ _ => yField 29 1 Tryz.underlying172 Tryz.sizeOf29 rfl rfl rfl) ?_
          have l872 : c828.length = 8 := (kArr 8 (kI .u64)).len r829
          refine X.pas (v := .agg ((c828 ++ (v830 :: []) : List Value)).toArray) rfl rfl rfl (fun h' q => yLoadA (j := 1) (mid := (c828 ++ (v830 :: []) : List Value)) Tryz.isAgg29 Tryz.sizeOf29 rfl ((f850.stp q (by simp))).all rfl (by first | (simp [l872]; done) | (simp [List.take_append, List.drop_append, List.take_of_length_le, l872]; done)) (by simp [l872])) ?_
          cases H
    · have H := ifF g818 H
      refine X.val rfl rfl rfl (yBF g818 (yLss rfl rfl)) trivial ?_
      refine X.nil ?_
      refine At.then ?_
      refine C.seq ?_
      refine C.condF rfl ?_
      refine C.exit ?_
      refine At.thenE ?_
      refine At.backE ?_
      obtain rfl := sm H
      have H := G815
      try dsimp only at H
      refine At.blkE ?_
      refine At.then ?_
      refine C.seq ?_
      refine C.region 4 rfl ?_
      refine X.val rfl rfl rfl (yMove rfl) trivial ?_
      refine X.val rfl rfl rfl (yLenR Tryz.underlying58 rfl (r_a0.mono t813)) trivial ?_
      refine X.val rfl rfl rfl (yLeq rfl rfl) trivial ?_
      refine X.val rfl rfl rfl (yAssign rfl) trivial ?_
      refine X.nil ?_
      refine At.then ?_
      refine C.ret ?_
      obtain rfl := sm H
      refine At.retn (rs := [.tmp 2]) [.bool (decide ((a0.length : Int) ≤ 2000))] rfl ?_ ?_
      exact ⟨Rv.tmp rfl, trivial⟩
      exact ⟨s812.stp, rfl⟩

def p_proto_session (a0 : proto_Msg) : Option (Bool) :=
  (if a0.Session ≥ 1 then (if a0.Session ≤ 1099511627776 then (if a0.Part ≥ 0 then some (decide (a0.Part < 8)) else some false) else some false) else some false)
theorem c_proto_session {h : Heap} {I : Nat → Prop} (hI : ∀ b, I b → b < h.size) {c_a0 : List Value} {a0 : proto_Msg} (r_a0 : (k_proto_Msg).rp I h c_a0 a0) {r : (Bool)} (H : p_proto_session a0 = some r) :
    Fn Tryz.prog 155 [.agg c_a0.toArray] h (fun v h' => Stp [] h h' ∧ v = (.bool r : Value)) := by
  unfold p_proto_session at H
  obtain ⟨c874, v876, v878, v880, rfl, r875, r877, r879, r881⟩ := o_proto_Msg r_a0
  refine Fn.of 21 Tryz.func155 rfl rfl ?_
  have s0 := St.start hI
  refine C.seq ?_
  refine C.region 2 rfl ?_
  refine X.ef rfl rfl rfl (eBox (cs := ((.int .i64 a0.Kind : Value) :: (.int .i64 a0.From : Value) :: (.int .i64 a0.To : Value) :: (.int .i64 a0.Session : Value) :: (.int .i64 a0.Part : Value) :: c874 ++ (v876 :: v878 :: v880 :: []) : List Value)) rfl rfl) ?_
  rintro _ h883 ⟨rfl, e888⟩
  obtain ⟨b882, e888b⟩ : ∃ b, b = h.size := ⟨_, rfl⟩
  rw [← e888b]
  have f887 : Box h883 b882 77 ((.int .i64 a0.Kind : Value) :: (.int .i64 a0.From : Value) :: (.int .i64 a0.To : Value) :: (.int .i64 a0.Session : Value) :: (.int .i64 a0.Part : Value) :: c874 ++ (v876 :: v878 :: v880 :: []) : List Value) := by subst e888; subst e888b; exact Box.new _ _ _
  have p885 : Stp [] h h883 := by subst e888; exact Stp.push _ _
  have s886 : St [] h I h883 I (some b882 :: []) := by subst e888; subst e888b; exact s0.new _
  have t884 := s0.tr p885 (by simp) (fun _ hb => hb)
  clear e888 e888b
  refine ⟨trivial, ?_⟩
  refine X.val rfl rfl rfl (yAssign rfl) trivial ?_
  refine X.nil ?_
  refine At.then ?_
  refine C.seq ?_
  refine C.region 19 rfl ?_
  refine X.val (v := .pointer (some ⟨b882, 3, none⟩)) rfl rfl rfl (yField 3 3 Tryz.underlying77 Tryz.sizeOf3 rfl rfl rfl) trivial ?_
  have l889 : c874.length = 32 := (kArr 32 (kI .u8)).len r875
  refine X.val (v := .int .i64 a0.Session) rfl rfl rfl (yLoadS (j := 3) Tryz.isAgg3 rfl (f887).all rfl (by simp [l889])) trivial ?_
  by_cases g890 : a0.Session ≥ 1
  · have H := ifT g890 H
    refine X.val rfl rfl rfl (yBT g890 (yGeq rfl rfl)) trivial ?_
    refine X.val rfl rfl rfl (yMove rfl) trivial ?_
    refine X.val (v := .pointer (some ⟨b882, 3, none⟩)) rfl rfl rfl (yField 3 3 Tryz.underlying77 Tryz.sizeOf3 rfl rfl rfl) trivial ?_
    have l891 : c874.length = 32 := (kArr 32 (kI .u8)).len r875
    refine X.val (v := .int .i64 a0.Session) rfl rfl rfl (yLoadS (j := 3) Tryz.isAgg3 rfl (f887).all rfl (by simp [l891])) trivial ?_
    by_cases g892 : a0.Session ≤ 1099511627776
    · have H := ifT g892 H
      refine X.val rfl rfl rfl (yBT g892 (yLeq rfl rfl)) trivial ?_
      refine X.val rfl rfl rfl (yPickT rfl rfl) trivial ?_
      refine X.val rfl rfl rfl (yMove rfl) trivial ?_
      refine X.val (v := .pointer (some ⟨b882, 4, none⟩)) rfl rfl rfl (yField 3 4 Tryz.underlying77 Tryz.sizeOf3 rfl rfl rfl) trivial ?_
      have l893 : c874.length = 32 := (kArr 32 (kI .u8)).len r875
      refine X.val (v := .int .i64 a0.Part) rfl rfl rfl (yLoadS (j := 4) Tryz.isAgg3 rfl (f887).all rfl (by simp [l893])) trivial ?_
      by_cases g894 : a0.Part ≥ 0
      · have H := ifT g894 H
        refine X.val rfl rfl rfl (yBT g894 (yGeq rfl rfl)) trivial ?_
        refine X.val rfl rfl rfl (yPickT rfl rfl) trivial ?_
        refine X.val rfl rfl rfl (yMove rfl) trivial ?_
        refine X.val (v := .pointer (some ⟨b882, 4, none⟩)) rfl rfl rfl (yField 3 4 Tryz.underlying77 Tryz.sizeOf3 rfl rfl rfl) trivial ?_
        have l895 : c874.length = 32 := (kArr 32 (kI .u8)).len r875
        refine X.val (v := .int .i64 a0.Part) rfl rfl rfl (yLoadS (j := 4) Tryz.isAgg3 rfl (f887).all rfl (by simp [l895])) trivial ?_
        refine X.val rfl rfl rfl (yLss rfl rfl) trivial ?_
        refine X.val rfl rfl rfl (yPickT rfl rfl) trivial ?_
        refine X.val rfl rfl rfl (yAssign rfl) trivial ?_
        refine X.nil ?_
        refine At.then ?_
        refine C.ret ?_
        obtain rfl := sm H
        refine At.retn (rs := [.tmp 2]) [.bool (decide (a0.Part < 8))] rfl ?_ ?_
        exact ⟨Rv.tmp rfl, trivial⟩
        exact ⟨s886.stp, rfl⟩
      · have H := ifF g894 H
        refine X.val rfl rfl rfl (yBF g894 (yGeq rfl rfl)) trivial ?_
        refine X.val rfl rfl rfl (yPickT rfl rfl) trivial ?_
        refine X.val rfl rfl rfl (yMove rfl) trivial ?_
        refine X.skip rfl rfl rfl trivial ?_
        refine X.skip rfl rfl rfl trivial ?_
        refine X.skip rfl rfl rfl trivial ?_
        refine X.val rfl rfl rfl (yPickF rfl rfl) trivial ?_
        refine X.val rfl rfl rfl (yAssign rfl) trivial ?_
        refine X.nil ?_
        refine At.then ?_
        refine C.ret ?_
        obtain rfl := sm H
        refine At.retn (rs := [.tmp 2]) [.bool false] rfl ?_ ?_
        exact ⟨Rv.tmp rfl, trivial⟩
        exact ⟨s886.stp, rfl⟩
    · have H := ifF g892 H
      refine X.val rfl rfl rfl (yBF g892 (yLeq rfl rfl)) trivial ?_
      refine X.val rfl rfl rfl (yPickT rfl rfl) trivial ?_
      refine X.val rfl rfl rfl (yMove rfl) trivial ?_
      refine X.skip rfl rfl rfl trivial ?_
      refine X.skip rfl rfl rfl trivial ?_
      refine X.skip rfl rfl rfl trivial ?_
      refine X.val rfl rfl rfl (yPickF rfl rfl) trivial ?_
      refine X.val rfl rfl rfl (yMove rfl) trivial ?_
      refine X.skip rfl rfl rfl trivial ?_
      refine X.skip rfl rfl rfl trivial ?_
      refine X.skip rfl rfl rfl trivial ?_
      refine X.val rfl rfl rfl (yPickF rfl rfl) trivial ?_
      refine X.val rfl rfl rfl (yAssign rfl) trivial ?_
      refine X.nil ?_
      refine At.then ?_
      refine C.ret ?_
      obtain rfl := sm H
      refine At.retn (rs := [.tmp 2]) [.bool false] rfl ?_ ?_
      exact ⟨Rv.tmp rfl, trivial⟩
      exact ⟨s886.stp, rfl⟩
  · have H := ifF g890 H
    refine X.val rfl rfl rfl (yBF g890 (yGeq rfl rfl)) trivial ?_
    refine X.val rfl rfl rfl (yMove rfl) trivial ?_
    refine X.skip rfl rfl rfl trivial ?_
    refine X.skip rfl rfl rfl trivial ?_
    refine X.skip rfl rfl rfl trivial ?_
    refine X.val rfl rfl rfl (yPickF rfl rfl) trivial ?_
    refine X.val rfl rfl rfl (yMove rfl) trivial ?_
    refine X.skip rfl rfl rfl trivial ?_
    refine X.skip rfl rfl rfl trivial ?_
    refine X.skip rfl rfl rfl trivial ?_
    refine X.val rfl rfl rfl (yPickF rfl rfl) trivial ?_
    refine X.val rfl rfl rfl (yMove rfl) trivial ?_
    refine X.skip rfl rfl rfl trivial ?_
    refine X.skip rfl rfl rfl trivial ?_
    refine X.skip rfl rfl rfl trivial ?_
    refine X.val rfl rfl rfl (yPickF rfl rfl) trivial ?_
    refine X.val rfl rfl rfl (yAssign rfl) trivial ?_
    refine X.nil ?_
    refine At.then ?_
    refine C.ret ?_
    obtain rfl := sm H
    refine At.retn (rs := [.tmp 2]) [.bool false] rfl ?_ ?_
    exact ⟨Rv.tmp rfl, trivial⟩
    exact ⟨s886.stp, rfl⟩

def p_proto_isNode (a0 : Int) : Option (Bool) :=
  (if a0 ≥ 1 then some (decide (a0 ≤ 8)) else some false)
theorem c_proto_isNode {h : Heap} {I : Nat → Prop} (hI : ∀ b, I b → b < h.size) {a0 : Int} {r : (Bool)} (H : p_proto_isNode a0 = some r) :
    Fn Tryz.prog 156 [.int .i64 a0] h (fun v h' => Stp [] h h' ∧ v = (.bool r : Value)) := by
  unfold p_proto_isNode at H
  refine Fn.of 9 Tryz.func156 rfl rfl ?_
  have s0 := St.start hI
  refine C.seq ?_
  refine C.region 1 rfl ?_
  refine X.val rfl rfl rfl (yAssign rfl) trivial ?_
  refine X.nil ?_
  refine At.then ?_
  refine C.seq ?_
  refine C.region 7 rfl ?_
  refine X.val rfl rfl rfl (yMove rfl) trivial ?_
  by_cases g896 : a0 ≥ 1
  · have H := ifT g896 H
    refine X.val rfl rfl rfl (yBT g896 (yGeq rfl rfl)) trivial ?_
    refine X.val rfl rfl rfl (yMove rfl) trivial ?_
    refine X.val rfl rfl rfl (yMove rfl) trivial ?_
    refine X.val rfl rfl rfl (yLeq rfl rfl) trivial ?_
    refine X.val rfl rfl rfl (yPickT rfl rfl) trivial ?_
    refine X.val rfl rfl rfl (yAssign rfl) trivial ?_
    refine X.nil ?_
    refine At.then ?_
    refine C.ret ?_
    obtain rfl := sm H
    refine At.retn (rs := [.tmp 2]) [.bool (decide (a0 ≤ 8))] rfl ?_ ?_
    exact ⟨Rv.tmp rfl, trivial⟩
    exact ⟨s0.stp, rfl⟩
  · have H := ifF g896 H
    refine X.val rfl rfl rfl (yBF g896 (yGeq rfl rfl)) trivial ?_
    refine X.val rfl rfl rfl (yMove rfl) trivial ?_
    refine X.skip rfl rfl rfl trivial ?_
    refine X.skip rfl rfl rfl trivial ?_
    refine X.val rfl rfl rfl (yPickF rfl rfl) trivial ?_
    refine X.val rfl rfl rfl (yAssign rfl) trivial ?_
    refine X.nil ?_
    refine At.then ?_
    refine C.ret ?_
    obtain rfl := sm H
    refine At.retn (rs := [.tmp 2]) [.bool false] rfl ?_ ?_
    exact ⟨Rv.tmp rfl, trivial⟩
    exact ⟨s0.stp, rfl⟩


end Go.Mw
