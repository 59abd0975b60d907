/-
  No cell of these rows narrows 'for every input' (looked for: loops, veiled, ifaces, maps, wideKeys, modest, calm, conditions, laid).
  DERIVED. THE GIVEN ROWS OF THIS SEAT. 18 by the template 'for every input the law returns true; each argument reads behind the call as it read before'; 0 by the template 'total and deterministic' (their statements: YtbpeidblbebjpaaGreatTotals.lean).
  GIVEN WITH THE SEED: the statements are not yours to turn. If you find one false, say at which input.
  Laid BY PROGRAM, IN A SANDBOX (cutbox-rows.mjs): the forced cells as the released guide's own fill.sh prints them over the translation ebdab2f526ae6e8c… (all of the seat's roots in one cut). By AI agents, Wed Nov 11 2026. No macro, syntax, notation, axiom, sorry.
-/
import Derived.Test.YtbpeidblbebjpaaGreatChecked
import GoSem.Claim
import GoSem.ClaimJoined
import GoSem.ClaimMapViews
import Derived.JoinedTies
import Derived.KernelRfl
namespace Go.Proofs.YtbpeidblbebjpaaGreat
/- THE CELL 'sum', in the pinned program and in every row, IS THE sha256 OF THE DUMP (.gsa) THAT YtbpeidblbebjpaaGreatProg.lean LOADS. Nothing in Lean hashes anything: it is a label: what it is worth is what the hold of that sum in a sandbox is worth. -/
noncomputable def Tryz.pinned : Pinned := { name := "ytbpeidblbebjpaagreat", sum := "ebdab2f526ae6e8c1d3052672a058567af8f6d0367b2472e211447ccb37a84b9", checked := Tryz.checked }
namespace Rows
def none {H : Type} : Left H := { results := [], args := [] }

/-- 'maundtop.TopBytes': WHATEVER THE INPUT: true; the input reads as it did. -/
def topBytesSpec : ChangeSpec := { name := "topBytes", fn := fun _ => fun
  | [d1, d2] => { results := [.lit (.bool true)], args := [d1, d2] }
  | _ => none }
def topBytesRow : OpenClaim := { program := "ytbpeidblbebjpaagreat", sum := "ebdab2f526ae6e8c1d3052672a058567af8f6d0367b2472e211447ccb37a84b9", func := "maund/maundtop.TopBytes", spec := "topBytes", unfollowed := true, recurses := true, plainKeys := false, apart := false }
def TopBytesSaid : Prop := topBytesRow.holds Tryz.pinned (OpenSpec.ofChange topBytesSpec)

/-- ITS FALSE NEIGHBOUR: 'it returns false'. Refute it at one input. -/
def topBytesWrong : ChangeSpec := { name := "topBytes", fn := fun _ => fun
  | [d1, d2] => { results := [.lit (.bool false)], args := [d1, d2] }
  | _ => none }
def TopBytesWrongFalsely : Prop := topBytesRow.holds Tryz.pinned (OpenSpec.ofChange topBytesWrong)

/-- 'maundlaw22.ClashStores': WHATEVER THE INPUT: true; the input reads as it did. -/
def clashStoresSpec : ChangeSpec := { name := "clashStores", fn := fun _ => fun
  | [d1, d2, d3] => { results := [.lit (.bool true)], args := [d1, d2, d3] }
  | _ => none }
def clashStoresRow : OpenClaim := { program := "ytbpeidblbebjpaagreat", sum := "ebdab2f526ae6e8c1d3052672a058567af8f6d0367b2472e211447ccb37a84b9", func := "maund/maundlaw22.ClashStores", spec := "clashStores", unfollowed := true, recurses := true, plainKeys := false, apart := false }
def ClashStoresSaid : Prop := clashStoresRow.holds Tryz.pinned (OpenSpec.ofChange clashStoresSpec)

/-- ITS FALSE NEIGHBOUR: 'it returns false'. Refute it at one input. -/
def clashStoresWrong : ChangeSpec := { name := "clashStores", fn := fun _ => fun
  | [d1, d2, d3] => { results := [.lit (.bool false)], args := [d1, d2, d3] }
  | _ => none }
def ClashStoresWrongFalsely : Prop := clashStoresRow.holds Tryz.pinned (OpenSpec.ofChange clashStoresWrong)

/-- 'maundlaw26.ProtoTells': WHATEVER THE INPUT: true; the input reads as it did. -/
def protoTellsSpec : ChangeSpec := { name := "protoTells", fn := fun _ => fun
  | [d1, d2, d3] => { results := [.lit (.bool true)], args := [d1, d2, d3] }
  | _ => none }
def protoTellsRow : OpenClaim := { program := "ytbpeidblbebjpaagreat", sum := "ebdab2f526ae6e8c1d3052672a058567af8f6d0367b2472e211447ccb37a84b9", func := "maund/maundlaw26.ProtoTells", spec := "protoTells", unfollowed := true, recurses := true, plainKeys := false, apart := false }
def ProtoTellsSaid : Prop := protoTellsRow.holds Tryz.pinned (OpenSpec.ofChange protoTellsSpec)

/-- ITS FALSE NEIGHBOUR: 'it returns false'. Refute it at one input. -/
def protoTellsWrong : ChangeSpec := { name := "protoTells", fn := fun _ => fun
  | [d1, d2, d3] => { results := [.lit (.bool false)], args := [d1, d2, d3] }
  | _ => none }
def ProtoTellsWrongFalsely : Prop := protoTellsRow.holds Tryz.pinned (OpenSpec.ofChange protoTellsWrong)

/-- 'maundlaw26.ProtoBack': WHATEVER THE INPUT: true; the input reads as it did. -/
def protoBackSpec : ChangeSpec := { name := "protoBack", fn := fun _ => fun
  | [d1, d2, d3, d4] => { results := [.lit (.bool true)], args := [d1, d2, d3, d4] }
  | _ => none }
def protoBackRow : OpenClaim := { program := "ytbpeidblbebjpaagreat", sum := "ebdab2f526ae6e8c1d3052672a058567af8f6d0367b2472e211447ccb37a84b9", func := "maund/maundlaw26.ProtoBack", spec := "protoBack", unfollowed := true, recurses := true, plainKeys := false, apart := false }
def ProtoBackSaid : Prop := protoBackRow.holds Tryz.pinned (OpenSpec.ofChange protoBackSpec)

/-- ITS FALSE NEIGHBOUR: 'it returns false'. Refute it at one input. -/
def protoBackWrong : ChangeSpec := { name := "protoBack", fn := fun _ => fun
  | [d1, d2, d3, d4] => { results := [.lit (.bool false)], args := [d1, d2, d3, d4] }
  | _ => none }
def ProtoBackWrongFalsely : Prop := protoBackRow.holds Tryz.pinned (OpenSpec.ofChange protoBackWrong)

/-- 'maundlaw29.OutboxLives': WHATEVER THE INPUT: true; the input reads as it did. -/
def outboxLivesSpec : ChangeSpec := { name := "outboxLives", fn := fun _ => fun
  | [d] => { results := [.lit (.bool true)], args := [d] }
  | _ => none }
def outboxLivesRow : OpenClaim := { program := "ytbpeidblbebjpaagreat", sum := "ebdab2f526ae6e8c1d3052672a058567af8f6d0367b2472e211447ccb37a84b9", func := "maund/maundlaw29.OutboxLives", spec := "outboxLives", unfollowed := true, recurses := true, plainKeys := false, apart := false }
def OutboxLivesSaid : Prop := outboxLivesRow.holds Tryz.pinned (OpenSpec.ofChange outboxLivesSpec)

/-- ITS FALSE NEIGHBOUR: 'it returns false'. Refute it at one input. -/
def outboxLivesWrong : ChangeSpec := { name := "outboxLives", fn := fun _ => fun
  | [d] => { results := [.lit (.bool false)], args := [d] }
  | _ => none }
def OutboxLivesWrongFalsely : Prop := outboxLivesRow.holds Tryz.pinned (OpenSpec.ofChange outboxLivesWrong)

/-- 'maundlaw29.OutboxMarks': WHATEVER THE INPUT: true; the input reads as it did. -/
def outboxMarksSpec : ChangeSpec := { name := "outboxMarks", fn := fun _ => fun
  | [d] => { results := [.lit (.bool true)], args := [d] }
  | _ => none }
def outboxMarksRow : OpenClaim := { program := "ytbpeidblbebjpaagreat", sum := "ebdab2f526ae6e8c1d3052672a058567af8f6d0367b2472e211447ccb37a84b9", func := "maund/maundlaw29.OutboxMarks", spec := "outboxMarks", unfollowed := true, recurses := true, plainKeys := false, apart := false }
def OutboxMarksSaid : Prop := outboxMarksRow.holds Tryz.pinned (OpenSpec.ofChange outboxMarksSpec)

/-- ITS FALSE NEIGHBOUR: 'it returns false'. Refute it at one input. -/
def outboxMarksWrong : ChangeSpec := { name := "outboxMarks", fn := fun _ => fun
  | [d] => { results := [.lit (.bool false)], args := [d] }
  | _ => none }
def OutboxMarksWrongFalsely : Prop := outboxMarksRow.holds Tryz.pinned (OpenSpec.ofChange outboxMarksWrong)

/-- 'maundlaw30.InputTells': WHATEVER THE INPUT: true; the input reads as it did. -/
def inputTellsSpec : ChangeSpec := { name := "inputTells", fn := fun _ => fun
  | [d1, d2, d3] => { results := [.lit (.bool true)], args := [d1, d2, d3] }
  | _ => none }
def inputTellsRow : OpenClaim := { program := "ytbpeidblbebjpaagreat", sum := "ebdab2f526ae6e8c1d3052672a058567af8f6d0367b2472e211447ccb37a84b9", func := "maund/maundlaw30.InputTells", spec := "inputTells", unfollowed := true, recurses := true, plainKeys := false, apart := false }
def InputTellsSaid : Prop := inputTellsRow.holds Tryz.pinned (OpenSpec.ofChange inputTellsSpec)

/-- ITS FALSE NEIGHBOUR: 'it returns false'. Refute it at one input. -/
def inputTellsWrong : ChangeSpec := { name := "inputTells", fn := fun _ => fun
  | [d1, d2, d3] => { results := [.lit (.bool false)], args := [d1, d2, d3] }
  | _ => none }
def InputTellsWrongFalsely : Prop := inputTellsRow.holds Tryz.pinned (OpenSpec.ofChange inputTellsWrong)

/-- 'maundlaw30.InputBack': WHATEVER THE INPUT: true; the input reads as it did. -/
def inputBackSpec : ChangeSpec := { name := "inputBack", fn := fun _ => fun
  | [d1, d2, d3] => { results := [.lit (.bool true)], args := [d1, d2, d3] }
  | _ => none }
def inputBackRow : OpenClaim := { program := "ytbpeidblbebjpaagreat", sum := "ebdab2f526ae6e8c1d3052672a058567af8f6d0367b2472e211447ccb37a84b9", func := "maund/maundlaw30.InputBack", spec := "inputBack", unfollowed := true, recurses := true, plainKeys := false, apart := false }
def InputBackSaid : Prop := inputBackRow.holds Tryz.pinned (OpenSpec.ofChange inputBackSpec)

/-- ITS FALSE NEIGHBOUR: 'it returns false'. Refute it at one input. -/
def inputBackWrong : ChangeSpec := { name := "inputBack", fn := fun _ => fun
  | [d1, d2, d3] => { results := [.lit (.bool false)], args := [d1, d2, d3] }
  | _ => none }
def InputBackWrongFalsely : Prop := inputBackRow.holds Tryz.pinned (OpenSpec.ofChange inputBackWrong)

/-- 'maundlaw32.NetMany': WHATEVER THE INPUT: true; the input reads as it did. -/
def netManySpec : ChangeSpec := { name := "netMany", fn := fun _ => fun
  | [d1, d2, d3] => { results := [.lit (.bool true)], args := [d1, d2, d3] }
  | _ => none }
def netManyRow : OpenClaim := { program := "ytbpeidblbebjpaagreat", sum := "ebdab2f526ae6e8c1d3052672a058567af8f6d0367b2472e211447ccb37a84b9", func := "maund/maundlaw32.NetMany", spec := "netMany", unfollowed := true, recurses := true, plainKeys := false, apart := false }
def NetManySaid : Prop := netManyRow.holds Tryz.pinned (OpenSpec.ofChange netManySpec)

/-- ITS FALSE NEIGHBOUR: 'it returns false'. Refute it at one input. -/
def netManyWrong : ChangeSpec := { name := "netMany", fn := fun _ => fun
  | [d1, d2, d3] => { results := [.lit (.bool false)], args := [d1, d2, d3] }
  | _ => none }
def NetManyWrongFalsely : Prop := netManyRow.holds Tryz.pinned (OpenSpec.ofChange netManyWrong)

/-- 'maundlaw32.NetOrder': WHATEVER THE INPUT: true; the input reads as it did. -/
def netOrderSpec : ChangeSpec := { name := "netOrder", fn := fun _ => fun
  | [d1, d2, d3] => { results := [.lit (.bool true)], args := [d1, d2, d3] }
  | _ => none }
def netOrderRow : OpenClaim := { program := "ytbpeidblbebjpaagreat", sum := "ebdab2f526ae6e8c1d3052672a058567af8f6d0367b2472e211447ccb37a84b9", func := "maund/maundlaw32.NetOrder", spec := "netOrder", unfollowed := true, recurses := true, plainKeys := false, apart := false }
def NetOrderSaid : Prop := netOrderRow.holds Tryz.pinned (OpenSpec.ofChange netOrderSpec)

/-- ITS FALSE NEIGHBOUR: 'it returns false'. Refute it at one input. -/
def netOrderWrong : ChangeSpec := { name := "netOrder", fn := fun _ => fun
  | [d1, d2, d3] => { results := [.lit (.bool false)], args := [d1, d2, d3] }
  | _ => none }
def NetOrderWrongFalsely : Prop := netOrderRow.holds Tryz.pinned (OpenSpec.ofChange netOrderWrong)

/-- 'maundlaw32.NetCounts': WHATEVER THE INPUT: true; the input reads as it did. -/
def netCountsSpec : ChangeSpec := { name := "netCounts", fn := fun _ => fun
  | [d] => { results := [.lit (.bool true)], args := [d] }
  | _ => none }
def netCountsRow : OpenClaim := { program := "ytbpeidblbebjpaagreat", sum := "ebdab2f526ae6e8c1d3052672a058567af8f6d0367b2472e211447ccb37a84b9", func := "maund/maundlaw32.NetCounts", spec := "netCounts", unfollowed := true, recurses := true, plainKeys := false, apart := false }
def NetCountsSaid : Prop := netCountsRow.holds Tryz.pinned (OpenSpec.ofChange netCountsSpec)

/-- ITS FALSE NEIGHBOUR: 'it returns false'. Refute it at one input. -/
def netCountsWrong : ChangeSpec := { name := "netCounts", fn := fun _ => fun
  | [d] => { results := [.lit (.bool false)], args := [d] }
  | _ => none }
def NetCountsWrongFalsely : Prop := netCountsRow.holds Tryz.pinned (OpenSpec.ofChange netCountsWrong)

/-- 'maundlaw27.SessionTicks': WHATEVER THE INPUT: true; the input reads as it did. -/
def sessionTicksSpec : ChangeSpec := { name := "sessionTicks", fn := fun _ => fun
  | [d1, d2] => { results := [.lit (.bool true)], args := [d1, d2] }
  | _ => none }
def sessionTicksRow : OpenClaim := { program := "ytbpeidblbebjpaagreat", sum := "ebdab2f526ae6e8c1d3052672a058567af8f6d0367b2472e211447ccb37a84b9", func := "maund/maundlaw27.SessionTicks", spec := "sessionTicks", inPlace := ["slices.overlaps[maund/pack.Keyed]"], unfollowed := true, recurses := true, plainKeys := false, apart := false }
def SessionTicksSaid : Prop := sessionTicksRow.holds Tryz.pinned (OpenSpec.ofChange sessionTicksSpec)

/-- ITS FALSE NEIGHBOUR: 'it returns false'. Refute it at one input. -/
def sessionTicksWrong : ChangeSpec := { name := "sessionTicks", fn := fun _ => fun
  | [d1, d2] => { results := [.lit (.bool false)], args := [d1, d2] }
  | _ => none }
def SessionTicksWrongFalsely : Prop := sessionTicksRow.holds Tryz.pinned (OpenSpec.ofChange sessionTicksWrong)

/-- 'maundlaw27.SessionRises': WHATEVER THE INPUT: true; the input reads as it did. -/
def sessionRisesSpec : ChangeSpec := { name := "sessionRises", fn := fun _ => fun
  | [d1, d2, d3, d4] => { results := [.lit (.bool true)], args := [d1, d2, d3, d4] }
  | _ => none }
def sessionRisesRow : OpenClaim := { program := "ytbpeidblbebjpaagreat", sum := "ebdab2f526ae6e8c1d3052672a058567af8f6d0367b2472e211447ccb37a84b9", func := "maund/maundlaw27.SessionRises", spec := "sessionRises", inPlace := ["slices.overlaps[maund/pack.Keyed]"], unfollowed := true, recurses := true, plainKeys := false, apart := false }
def SessionRisesSaid : Prop := sessionRisesRow.holds Tryz.pinned (OpenSpec.ofChange sessionRisesSpec)

/-- ITS FALSE NEIGHBOUR: 'it returns false'. Refute it at one input. -/
def sessionRisesWrong : ChangeSpec := { name := "sessionRises", fn := fun _ => fun
  | [d1, d2, d3, d4] => { results := [.lit (.bool false)], args := [d1, d2, d3, d4] }
  | _ => none }
def SessionRisesWrongFalsely : Prop := sessionRisesRow.holds Tryz.pinned (OpenSpec.ofChange sessionRisesWrong)

/-- 'maundlaw28.ReplyAnswers': WHATEVER THE INPUT: true; the input reads as it did. -/
def replyAnswersSpec : ChangeSpec := { name := "replyAnswers", fn := fun _ => fun
  | [d1, d2, d3] => { results := [.lit (.bool true)], args := [d1, d2, d3] }
  | _ => none }
def replyAnswersRow : OpenClaim := { program := "ytbpeidblbebjpaagreat", sum := "ebdab2f526ae6e8c1d3052672a058567af8f6d0367b2472e211447ccb37a84b9", func := "maund/maundlaw28.ReplyAnswers", spec := "replyAnswers", inPlace := ["slices.overlaps[maund/pack.Keyed]", "internal/bytealg.abigen_runtime_cmpstring"], unfollowed := true, recurses := true, plainKeys := false, apart := false }
def ReplyAnswersSaid : Prop := replyAnswersRow.holds Tryz.pinned (OpenSpec.ofChange replyAnswersSpec)

/-- ITS FALSE NEIGHBOUR: 'it returns false'. Refute it at one input. -/
def replyAnswersWrong : ChangeSpec := { name := "replyAnswers", fn := fun _ => fun
  | [d1, d2, d3] => { results := [.lit (.bool false)], args := [d1, d2, d3] }
  | _ => none }
def ReplyAnswersWrongFalsely : Prop := replyAnswersRow.holds Tryz.pinned (OpenSpec.ofChange replyAnswersWrong)

/-- 'maundlaw28.ReplyCovers': WHATEVER THE INPUT: true; the input reads as it did. -/
def replyCoversSpec : ChangeSpec := { name := "replyCovers", fn := fun _ => fun
  | [d1, d2] => { results := [.lit (.bool true)], args := [d1, d2] }
  | _ => none }
def replyCoversRow : OpenClaim := { program := "ytbpeidblbebjpaagreat", sum := "ebdab2f526ae6e8c1d3052672a058567af8f6d0367b2472e211447ccb37a84b9", func := "maund/maundlaw28.ReplyCovers", spec := "replyCovers", inPlace := ["slices.overlaps[maund/pack.Keyed]", "internal/bytealg.abigen_runtime_cmpstring"], unfollowed := true, recurses := true, plainKeys := false, apart := false }
def ReplyCoversSaid : Prop := replyCoversRow.holds Tryz.pinned (OpenSpec.ofChange replyCoversSpec)

/-- ITS FALSE NEIGHBOUR: 'it returns false'. Refute it at one input. -/
def replyCoversWrong : ChangeSpec := { name := "replyCovers", fn := fun _ => fun
  | [d1, d2] => { results := [.lit (.bool false)], args := [d1, d2] }
  | _ => none }
def ReplyCoversWrongFalsely : Prop := replyCoversRow.holds Tryz.pinned (OpenSpec.ofChange replyCoversWrong)

/-- 'maundlaw27.SessionWalks': WHATEVER THE INPUT: true; the input reads as it did. -/
def sessionWalksSpec : ChangeSpec := { name := "sessionWalks", fn := fun _ => fun
  | [d1, d2, d3] => { results := [.lit (.bool true)], args := [d1, d2, d3] }
  | _ => none }
def sessionWalksRow : OpenClaim := { program := "ytbpeidblbebjpaagreat", sum := "ebdab2f526ae6e8c1d3052672a058567af8f6d0367b2472e211447ccb37a84b9", func := "maund/maundlaw27.SessionWalks", spec := "sessionWalks", inPlace := ["slices.overlaps[maund/pack.Keyed]"], unfollowed := true, recurses := true, plainKeys := false, apart := false }
def SessionWalksSaid : Prop := sessionWalksRow.holds Tryz.pinned (OpenSpec.ofChange sessionWalksSpec)

/-- ITS FALSE NEIGHBOUR: 'it returns false'. Refute it at one input. -/
def sessionWalksWrong : ChangeSpec := { name := "sessionWalks", fn := fun _ => fun
  | [d1, d2, d3] => { results := [.lit (.bool false)], args := [d1, d2, d3] }
  | _ => none }
def SessionWalksWrongFalsely : Prop := sessionWalksRow.holds Tryz.pinned (OpenSpec.ofChange sessionWalksWrong)

/-- 'maundlaw28.ReplyDigests': WHATEVER THE INPUT: true; the input reads as it did. -/
def replyDigestsSpec : ChangeSpec := { name := "replyDigests", fn := fun _ => fun
  | [d1, d2, d3] => { results := [.lit (.bool true)], args := [d1, d2, d3] }
  | _ => none }
def replyDigestsRow : OpenClaim := { program := "ytbpeidblbebjpaagreat", sum := "ebdab2f526ae6e8c1d3052672a058567af8f6d0367b2472e211447ccb37a84b9", func := "maund/maundlaw28.ReplyDigests", spec := "replyDigests", inPlace := ["slices.overlaps[maund/pack.Keyed]", "internal/bytealg.abigen_runtime_cmpstring"], unfollowed := true, recurses := true, plainKeys := false, apart := false }
def ReplyDigestsSaid : Prop := replyDigestsRow.holds Tryz.pinned (OpenSpec.ofChange replyDigestsSpec)

/-- ITS FALSE NEIGHBOUR: 'it returns false'. Refute it at one input. -/
def replyDigestsWrong : ChangeSpec := { name := "replyDigests", fn := fun _ => fun
  | [d1, d2, d3] => { results := [.lit (.bool false)], args := [d1, d2, d3] }
  | _ => none }
def ReplyDigestsWrongFalsely : Prop := replyDigestsRow.holds Tryz.pinned (OpenSpec.ofChange replyDigestsWrong)

/-- 'maundlaw28.ReplyTwo': WHATEVER THE INPUT: true; the input reads as it did. -/
def replyTwoSpec : ChangeSpec := { name := "replyTwo", fn := fun _ => fun
  | [d1, d2, d3] => { results := [.lit (.bool true)], args := [d1, d2, d3] }
  | _ => none }
def replyTwoRow : OpenClaim := { program := "ytbpeidblbebjpaagreat", sum := "ebdab2f526ae6e8c1d3052672a058567af8f6d0367b2472e211447ccb37a84b9", func := "maund/maundlaw28.ReplyTwo", spec := "replyTwo", inPlace := ["slices.overlaps[maund/pack.Keyed]", "internal/bytealg.abigen_runtime_cmpstring"], unfollowed := true, recurses := true, plainKeys := false, apart := false }
def ReplyTwoSaid : Prop := replyTwoRow.holds Tryz.pinned (OpenSpec.ofChange replyTwoSpec)

/-- ITS FALSE NEIGHBOUR: 'it returns false'. Refute it at one input. -/
def replyTwoWrong : ChangeSpec := { name := "replyTwo", fn := fun _ => fun
  | [d1, d2, d3] => { results := [.lit (.bool false)], args := [d1, d2, d3] }
  | _ => none }
def ReplyTwoWrongFalsely : Prop := replyTwoRow.holds Tryz.pinned (OpenSpec.ofChange replyTwoWrong)

/- THE SECOND FORM. 'bulk': how many values and letters a reading holds, each counted each time it is reached (what is shared counts as often as it is met; a slice's spare places count too). A statement '..UptoSaid' is the law's where the arguments, and the package variables that the reading takes, are together of bulk at most 1048576: NARROWER than '..Said'. Prove '..Said' where nothing that the law and all that it calls make is longer than what came in: it says more and counts as full. Else prove '..UptoSaid'. A law counts once. -/
mutual
def uptoBulk {H : Type} : DataW H → Nat
  | .lit (.string bytes) => bytes.length + 1
  | .lit _ => 1
  | .nil => 1
  | .ptr d => uptoBulk d + 1
  | .slice elems spare => uptoBulkAll elems + uptoBulkAll spare + 1
  | .agg parts => uptoBulkAll parts + 1
  | .iface _ d => uptoBulk d + 1
  | .map entries => uptoBulkEntries entries + 1
  | .held _ => 1
def uptoBulkAll {H : Type} : List (DataW H) → Nat
  | [] => 0
  | d :: r => uptoBulk d + uptoBulkAll r
def uptoBulkEntries {H : Type} : List (Lit × DataW H) → Nat
  | [] => 0
  | x :: r => uptoBulkEntry x + uptoBulkEntries r
def uptoBulkEntry {H : Type} : Lit × DataW H → Nat
  | (.string bytes, d) => bytes.length + uptoBulk d + 1
  | (_, d) => uptoBulk d + 1
 end
def uptoSmall : (H : Type) → List (DataW H) → Bool := fun _ ds => decide (uptoBulkAll ds ≤ 1048576)
def OpenSpec.upto (s : _root_.Go.ChangeSpec) : _root_.Go.OpenSpec := { _root_.Go.OpenSpec.ofChange s with cond := some uptoSmall }

/-- 'maundtop.TopBytes', WHERE WHAT IT READS IS OF BULK AT MOST 1048576: true; the input reads as it did. -/
def topBytesUptoRow : OpenClaim := { program := "ytbpeidblbebjpaagreat", sum := "ebdab2f526ae6e8c1d3052672a058567af8f6d0367b2472e211447ccb37a84b9", func := "maund/maundtop.TopBytes", spec := "topBytes", unfollowed := true, recurses := true, plainKeys := false, apart := false, narrowed := true }
def TopBytesUptoSaid : Prop := topBytesUptoRow.holds Tryz.pinned (OpenSpec.upto topBytesSpec)

/-- 'maundlaw22.ClashStores', WHERE WHAT IT READS IS OF BULK AT MOST 1048576: true; the input reads as it did. -/
def clashStoresUptoRow : OpenClaim := { program := "ytbpeidblbebjpaagreat", sum := "ebdab2f526ae6e8c1d3052672a058567af8f6d0367b2472e211447ccb37a84b9", func := "maund/maundlaw22.ClashStores", spec := "clashStores", unfollowed := true, recurses := true, plainKeys := false, apart := false, narrowed := true }
def ClashStoresUptoSaid : Prop := clashStoresUptoRow.holds Tryz.pinned (OpenSpec.upto clashStoresSpec)

/-- 'maundlaw26.ProtoTells', WHERE WHAT IT READS IS OF BULK AT MOST 1048576: true; the input reads as it did. -/
def protoTellsUptoRow : OpenClaim := { program := "ytbpeidblbebjpaagreat", sum := "ebdab2f526ae6e8c1d3052672a058567af8f6d0367b2472e211447ccb37a84b9", func := "maund/maundlaw26.ProtoTells", spec := "protoTells", unfollowed := true, recurses := true, plainKeys := false, apart := false, narrowed := true }
def ProtoTellsUptoSaid : Prop := protoTellsUptoRow.holds Tryz.pinned (OpenSpec.upto protoTellsSpec)

/-- 'maundlaw26.ProtoBack', WHERE WHAT IT READS IS OF BULK AT MOST 1048576: true; the input reads as it did. -/
def protoBackUptoRow : OpenClaim := { program := "ytbpeidblbebjpaagreat", sum := "ebdab2f526ae6e8c1d3052672a058567af8f6d0367b2472e211447ccb37a84b9", func := "maund/maundlaw26.ProtoBack", spec := "protoBack", unfollowed := true, recurses := true, plainKeys := false, apart := false, narrowed := true }
def ProtoBackUptoSaid : Prop := protoBackUptoRow.holds Tryz.pinned (OpenSpec.upto protoBackSpec)

/-- 'maundlaw29.OutboxLives', WHERE WHAT IT READS IS OF BULK AT MOST 1048576: true; the input reads as it did. -/
def outboxLivesUptoRow : OpenClaim := { program := "ytbpeidblbebjpaagreat", sum := "ebdab2f526ae6e8c1d3052672a058567af8f6d0367b2472e211447ccb37a84b9", func := "maund/maundlaw29.OutboxLives", spec := "outboxLives", unfollowed := true, recurses := true, plainKeys := false, apart := false, narrowed := true }
def OutboxLivesUptoSaid : Prop := outboxLivesUptoRow.holds Tryz.pinned (OpenSpec.upto outboxLivesSpec)

/-- 'maundlaw29.OutboxMarks', WHERE WHAT IT READS IS OF BULK AT MOST 1048576: true; the input reads as it did. -/
def outboxMarksUptoRow : OpenClaim := { program := "ytbpeidblbebjpaagreat", sum := "ebdab2f526ae6e8c1d3052672a058567af8f6d0367b2472e211447ccb37a84b9", func := "maund/maundlaw29.OutboxMarks", spec := "outboxMarks", unfollowed := true, recurses := true, plainKeys := false, apart := false, narrowed := true }
def OutboxMarksUptoSaid : Prop := outboxMarksUptoRow.holds Tryz.pinned (OpenSpec.upto outboxMarksSpec)

/-- 'maundlaw30.InputTells', WHERE WHAT IT READS IS OF BULK AT MOST 1048576: true; the input reads as it did. -/
def inputTellsUptoRow : OpenClaim := { program := "ytbpeidblbebjpaagreat", sum := "ebdab2f526ae6e8c1d3052672a058567af8f6d0367b2472e211447ccb37a84b9", func := "maund/maundlaw30.InputTells", spec := "inputTells", unfollowed := true, recurses := true, plainKeys := false, apart := false, narrowed := true }
def InputTellsUptoSaid : Prop := inputTellsUptoRow.holds Tryz.pinned (OpenSpec.upto inputTellsSpec)

/-- 'maundlaw30.InputBack', WHERE WHAT IT READS IS OF BULK AT MOST 1048576: true; the input reads as it did. -/
def inputBackUptoRow : OpenClaim := { program := "ytbpeidblbebjpaagreat", sum := "ebdab2f526ae6e8c1d3052672a058567af8f6d0367b2472e211447ccb37a84b9", func := "maund/maundlaw30.InputBack", spec := "inputBack", unfollowed := true, recurses := true, plainKeys := false, apart := false, narrowed := true }
def InputBackUptoSaid : Prop := inputBackUptoRow.holds Tryz.pinned (OpenSpec.upto inputBackSpec)

/-- 'maundlaw32.NetMany', WHERE WHAT IT READS IS OF BULK AT MOST 1048576: true; the input reads as it did. -/
def netManyUptoRow : OpenClaim := { program := "ytbpeidblbebjpaagreat", sum := "ebdab2f526ae6e8c1d3052672a058567af8f6d0367b2472e211447ccb37a84b9", func := "maund/maundlaw32.NetMany", spec := "netMany", unfollowed := true, recurses := true, plainKeys := false, apart := false, narrowed := true }
def NetManyUptoSaid : Prop := netManyUptoRow.holds Tryz.pinned (OpenSpec.upto netManySpec)

/-- 'maundlaw32.NetOrder', WHERE WHAT IT READS IS OF BULK AT MOST 1048576: true; the input reads as it did. -/
def netOrderUptoRow : OpenClaim := { program := "ytbpeidblbebjpaagreat", sum := "ebdab2f526ae6e8c1d3052672a058567af8f6d0367b2472e211447ccb37a84b9", func := "maund/maundlaw32.NetOrder", spec := "netOrder", unfollowed := true, recurses := true, plainKeys := false, apart := false, narrowed := true }
def NetOrderUptoSaid : Prop := netOrderUptoRow.holds Tryz.pinned (OpenSpec.upto netOrderSpec)

/-- 'maundlaw32.NetCounts', WHERE WHAT IT READS IS OF BULK AT MOST 1048576: true; the input reads as it did. -/
def netCountsUptoRow : OpenClaim := { program := "ytbpeidblbebjpaagreat", sum := "ebdab2f526ae6e8c1d3052672a058567af8f6d0367b2472e211447ccb37a84b9", func := "maund/maundlaw32.NetCounts", spec := "netCounts", unfollowed := true, recurses := true, plainKeys := false, apart := false, narrowed := true }
def NetCountsUptoSaid : Prop := netCountsUptoRow.holds Tryz.pinned (OpenSpec.upto netCountsSpec)

/-- 'maundlaw27.SessionTicks', WHERE WHAT IT READS IS OF BULK AT MOST 1048576: true; the input reads as it did. -/
def sessionTicksUptoRow : OpenClaim := { program := "ytbpeidblbebjpaagreat", sum := "ebdab2f526ae6e8c1d3052672a058567af8f6d0367b2472e211447ccb37a84b9", func := "maund/maundlaw27.SessionTicks", spec := "sessionTicks", inPlace := ["slices.overlaps[maund/pack.Keyed]"], unfollowed := true, recurses := true, plainKeys := false, apart := false, narrowed := true }
def SessionTicksUptoSaid : Prop := sessionTicksUptoRow.holds Tryz.pinned (OpenSpec.upto sessionTicksSpec)

/-- 'maundlaw27.SessionRises', WHERE WHAT IT READS IS OF BULK AT MOST 1048576: true; the input reads as it did. -/
def sessionRisesUptoRow : OpenClaim := { program := "ytbpeidblbebjpaagreat", sum := "ebdab2f526ae6e8c1d3052672a058567af8f6d0367b2472e211447ccb37a84b9", func := "maund/maundlaw27.SessionRises", spec := "sessionRises", inPlace := ["slices.overlaps[maund/pack.Keyed]"], unfollowed := true, recurses := true, plainKeys := false, apart := false, narrowed := true }
def SessionRisesUptoSaid : Prop := sessionRisesUptoRow.holds Tryz.pinned (OpenSpec.upto sessionRisesSpec)

/-- 'maundlaw28.ReplyAnswers', WHERE WHAT IT READS IS OF BULK AT MOST 1048576: true; the input reads as it did. -/
def replyAnswersUptoRow : OpenClaim := { program := "ytbpeidblbebjpaagreat", sum := "ebdab2f526ae6e8c1d3052672a058567af8f6d0367b2472e211447ccb37a84b9", func := "maund/maundlaw28.ReplyAnswers", spec := "replyAnswers", inPlace := ["slices.overlaps[maund/pack.Keyed]", "internal/bytealg.abigen_runtime_cmpstring"], unfollowed := true, recurses := true, plainKeys := false, apart := false, narrowed := true }
def ReplyAnswersUptoSaid : Prop := replyAnswersUptoRow.holds Tryz.pinned (OpenSpec.upto replyAnswersSpec)

/-- 'maundlaw28.ReplyCovers', WHERE WHAT IT READS IS OF BULK AT MOST 1048576: true; the input reads as it did. -/
def replyCoversUptoRow : OpenClaim := { program := "ytbpeidblbebjpaagreat", sum := "ebdab2f526ae6e8c1d3052672a058567af8f6d0367b2472e211447ccb37a84b9", func := "maund/maundlaw28.ReplyCovers", spec := "replyCovers", inPlace := ["slices.overlaps[maund/pack.Keyed]", "internal/bytealg.abigen_runtime_cmpstring"], unfollowed := true, recurses := true, plainKeys := false, apart := false, narrowed := true }
def ReplyCoversUptoSaid : Prop := replyCoversUptoRow.holds Tryz.pinned (OpenSpec.upto replyCoversSpec)

/-- 'maundlaw27.SessionWalks', WHERE WHAT IT READS IS OF BULK AT MOST 1048576: true; the input reads as it did. -/
def sessionWalksUptoRow : OpenClaim := { program := "ytbpeidblbebjpaagreat", sum := "ebdab2f526ae6e8c1d3052672a058567af8f6d0367b2472e211447ccb37a84b9", func := "maund/maundlaw27.SessionWalks", spec := "sessionWalks", inPlace := ["slices.overlaps[maund/pack.Keyed]"], unfollowed := true, recurses := true, plainKeys := false, apart := false, narrowed := true }
def SessionWalksUptoSaid : Prop := sessionWalksUptoRow.holds Tryz.pinned (OpenSpec.upto sessionWalksSpec)

/-- 'maundlaw28.ReplyDigests', WHERE WHAT IT READS IS OF BULK AT MOST 1048576: true; the input reads as it did. -/
def replyDigestsUptoRow : OpenClaim := { program := "ytbpeidblbebjpaagreat", sum := "ebdab2f526ae6e8c1d3052672a058567af8f6d0367b2472e211447ccb37a84b9", func := "maund/maundlaw28.ReplyDigests", spec := "replyDigests", inPlace := ["slices.overlaps[maund/pack.Keyed]", "internal/bytealg.abigen_runtime_cmpstring"], unfollowed := true, recurses := true, plainKeys := false, apart := false, narrowed := true }
def ReplyDigestsUptoSaid : Prop := replyDigestsUptoRow.holds Tryz.pinned (OpenSpec.upto replyDigestsSpec)

/-- 'maundlaw28.ReplyTwo', WHERE WHAT IT READS IS OF BULK AT MOST 1048576: true; the input reads as it did. -/
def replyTwoUptoRow : OpenClaim := { program := "ytbpeidblbebjpaagreat", sum := "ebdab2f526ae6e8c1d3052672a058567af8f6d0367b2472e211447ccb37a84b9", func := "maund/maundlaw28.ReplyTwo", spec := "replyTwo", inPlace := ["slices.overlaps[maund/pack.Keyed]", "internal/bytealg.abigen_runtime_cmpstring"], unfollowed := true, recurses := true, plainKeys := false, apart := false, narrowed := true }
def ReplyTwoUptoSaid : Prop := replyTwoUptoRow.holds Tryz.pinned (OpenSpec.upto replyTwoSpec)

end Rows
end Go.Proofs.YtbpeidblbebjpaaGreat
