/-
  No cell of these rows narrows 'for every input' (looked for: loops, veiled, ifaces, maps, wideKeys, modest, calm, conditions, laid).
  DERIVED. THE GIVEN ROWS OF THIS SEAT. 13 by the template 'for every input the law returns true; each argument reads behind the call as it read before'; 0 by the template 'total and deterministic' (their statements: YtnffkmnjpnlleaaTotals.lean).
  GIVEN WITH THE SEED: the statements are not yours to turn. If you find one false, say at which input.
  Laid BY PROGRAM, IN A SANDBOX (cutbox-rows.mjs): the forced cells as the released guide's own fill.sh prints them over the translation efc6dbf69a97788c… (all of the seat's roots in one cut). By AI agents, Wed Nov 11 2026. No macro, syntax, notation, axiom, sorry.
-/
import Derived.Test.YtnffkmnjpnlleaaChecked
import GoSem.Claim
import GoSem.ClaimJoined
import GoSem.ClaimMapViews
import Derived.JoinedTies
import Derived.KernelRfl
namespace Go.Proofs.Ytnffkmnjpnlleaa
/- THE CELL 'sum', in the pinned program and in every row, IS THE sha256 OF THE DUMP (.gsa) THAT YtnffkmnjpnlleaaProg.lean LOADS. Nothing in Lean hashes anything: it is a label: what it is worth is what the hold of that sum in a sandbox is worth. -/
noncomputable def Try.pinned : Pinned := { name := "ytnffkmnjpnlleaa", sum := "efc6dbf69a97788c0bba9eed6b75e7187cb10d63a9a1dc193858c368bd937edf", checked := Try.checked }
namespace Rows
def none {H : Type} : Left H := { results := [], args := [] }

/-- 'binnaclelaw32.ReplayPlain': WHATEVER THE INPUT: true; the input reads as it did. -/
def replayPlainSpec : ChangeSpec := { name := "replayPlain", fn := fun _ => fun
  | [d] => { results := [.lit (.bool true)], args := [d] }
  | _ => none }
def replayPlainRow : OpenClaim := { program := "ytnffkmnjpnlleaa", sum := "efc6dbf69a97788c0bba9eed6b75e7187cb10d63a9a1dc193858c368bd937edf", func := "binnacle/binnaclelaw32.ReplayPlain", spec := "replayPlain", unfollowed := true, recurses := true, apart := false }
def ReplayPlainSaid : Prop := replayPlainRow.holds Try.pinned (OpenSpec.ofChange replayPlainSpec)

/-- ITS FALSE NEIGHBOUR: 'it returns false'. Refute it at one input. -/
def replayPlainWrong : ChangeSpec := { name := "replayPlain", fn := fun _ => fun
  | [d] => { results := [.lit (.bool false)], args := [d] }
  | _ => none }
def ReplayPlainWrongFalsely : Prop := replayPlainRow.holds Try.pinned (OpenSpec.ofChange replayPlainWrong)

/-- 'binnaclelaw28.TalkSays': WHATEVER THE INPUT: true; the input reads as it did. -/
def talkSaysSpec : ChangeSpec := { name := "talkSays", fn := fun _ => fun
  | [d] => { results := [.lit (.bool true)], args := [d] }
  | _ => none }
def talkSaysRow : OpenClaim := { program := "ytnffkmnjpnlleaa", sum := "efc6dbf69a97788c0bba9eed6b75e7187cb10d63a9a1dc193858c368bd937edf", func := "binnacle/binnaclelaw28.TalkSays", spec := "talkSays", inPlace := ["internal/bytealg.IndexByteString", "internal/bytealg.IndexString"], unfollowed := true, recurses := true, named := ["internal/bytealg.MaxLen"], apart := false }
def TalkSaysSaid : Prop := talkSaysRow.holds Try.pinned (OpenSpec.ofChange talkSaysSpec)

/-- ITS FALSE NEIGHBOUR: 'it returns false'. Refute it at one input. -/
def talkSaysWrong : ChangeSpec := { name := "talkSays", fn := fun _ => fun
  | [d] => { results := [.lit (.bool false)], args := [d] }
  | _ => none }
def TalkSaysWrongFalsely : Prop := talkSaysRow.holds Try.pinned (OpenSpec.ofChange talkSaysWrong)

/-- 'binnaclelaw18.AdmitWhy': WHATEVER THE INPUT: true; the input reads as it did. -/
def admitWhySpec : ChangeSpec := { name := "admitWhy", fn := fun _ => fun
  | [d1, d2, d3] => { results := [.lit (.bool true)], args := [d1, d2, d3] }
  | _ => none }
def admitWhyRow : OpenClaim := { program := "ytnffkmnjpnlleaa", sum := "efc6dbf69a97788c0bba9eed6b75e7187cb10d63a9a1dc193858c368bd937edf", func := "binnacle/binnaclelaw18.AdmitWhy", spec := "admitWhy", inPlace := ["slices.overlaps[binnacle/api.Key]"], unfollowed := true, recurses := true, apart := false }
def AdmitWhySaid : Prop := admitWhyRow.holds Try.pinned (OpenSpec.ofChange admitWhySpec)

/-- ITS FALSE NEIGHBOUR: 'it returns false'. Refute it at one input. -/
def admitWhyWrong : ChangeSpec := { name := "admitWhy", fn := fun _ => fun
  | [d1, d2, d3] => { results := [.lit (.bool false)], args := [d1, d2, d3] }
  | _ => none }
def AdmitWhyWrongFalsely : Prop := admitWhyRow.holds Try.pinned (OpenSpec.ofChange admitWhyWrong)

/-- 'binnaclelaw28.TalkKnown': WHATEVER THE INPUT: true; the input reads as it did. -/
def talkKnownSpec : ChangeSpec := { name := "talkKnown", fn := fun _ => fun
  | [] => { results := [.lit (.bool true)], args := [] }
  | _ => none }
def talkKnownRow : OpenClaim := { program := "ytnffkmnjpnlleaa", sum := "efc6dbf69a97788c0bba9eed6b75e7187cb10d63a9a1dc193858c368bd937edf", func := "binnacle/binnaclelaw28.TalkKnown", spec := "talkKnown", inPlace := ["internal/bytealg.IndexByteString", "internal/bytealg.IndexString"], unfollowed := true, recurses := true, named := ["internal/bytealg.MaxLen"], apart := false }
def TalkKnownSaid : Prop := talkKnownRow.holds Try.pinned (OpenSpec.ofChange talkKnownSpec)

/-- ITS FALSE NEIGHBOUR: 'it returns false'. Refute it at one input. -/
def talkKnownWrong : ChangeSpec := { name := "talkKnown", fn := fun _ => fun
  | [] => { results := [.lit (.bool false)], args := [] }
  | _ => none }
def TalkKnownWrongFalsely : Prop := talkKnownRow.holds Try.pinned (OpenSpec.ofChange talkKnownWrong)

/-- 'binnaclelaw28.TalkBack': WHATEVER THE INPUT: true; the input reads as it did. -/
def talkBackSpec : ChangeSpec := { name := "talkBack", fn := fun _ => fun
  | [d1, d2] => { results := [.lit (.bool true)], args := [d1, d2] }
  | _ => none }
def talkBackRow : OpenClaim := { program := "ytnffkmnjpnlleaa", sum := "efc6dbf69a97788c0bba9eed6b75e7187cb10d63a9a1dc193858c368bd937edf", func := "binnacle/binnaclelaw28.TalkBack", spec := "talkBack", inPlace := ["internal/bytealg.IndexByteString", "internal/bytealg.IndexString"], unfollowed := true, recurses := true, named := ["internal/bytealg.MaxLen"], apart := false }
def TalkBackSaid : Prop := talkBackRow.holds Try.pinned (OpenSpec.ofChange talkBackSpec)

/-- ITS FALSE NEIGHBOUR: 'it returns false'. Refute it at one input. -/
def talkBackWrong : ChangeSpec := { name := "talkBack", fn := fun _ => fun
  | [d1, d2] => { results := [.lit (.bool false)], args := [d1, d2] }
  | _ => none }
def TalkBackWrongFalsely : Prop := talkBackRow.holds Try.pinned (OpenSpec.ofChange talkBackWrong)

/-- 'binnaclelaw18.AdmitTells': WHATEVER THE INPUT: true; the input reads as it did. -/
def admitTellsSpec : ChangeSpec := { name := "admitTells", fn := fun _ => fun
  | [d1, d2, d3] => { results := [.lit (.bool true)], args := [d1, d2, d3] }
  | _ => none }
def admitTellsRow : OpenClaim := { program := "ytnffkmnjpnlleaa", sum := "efc6dbf69a97788c0bba9eed6b75e7187cb10d63a9a1dc193858c368bd937edf", func := "binnacle/binnaclelaw18.AdmitTells", spec := "admitTells", inPlace := ["slices.overlaps[binnacle/api.Key]"], unfollowed := true, recurses := true, apart := false }
def AdmitTellsSaid : Prop := admitTellsRow.holds Try.pinned (OpenSpec.ofChange admitTellsSpec)

/-- ITS FALSE NEIGHBOUR: 'it returns false'. Refute it at one input. -/
def admitTellsWrong : ChangeSpec := { name := "admitTells", fn := fun _ => fun
  | [d1, d2, d3] => { results := [.lit (.bool false)], args := [d1, d2, d3] }
  | _ => none }
def AdmitTellsWrongFalsely : Prop := admitTellsRow.holds Try.pinned (OpenSpec.ofChange admitTellsWrong)

/-- 'binnaclelaw18.AdmitKnown': WHATEVER THE INPUT: true; the input reads as it did. -/
def admitKnownSpec : ChangeSpec := { name := "admitKnown", fn := fun _ => fun
  | [] => { results := [.lit (.bool true)], args := [] }
  | _ => none }
def admitKnownRow : OpenClaim := { program := "ytnffkmnjpnlleaa", sum := "efc6dbf69a97788c0bba9eed6b75e7187cb10d63a9a1dc193858c368bd937edf", func := "binnacle/binnaclelaw18.AdmitKnown", spec := "admitKnown", inPlace := ["slices.overlaps[binnacle/api.Key]"], unfollowed := true, recurses := true, apart := false }
def AdmitKnownSaid : Prop := admitKnownRow.holds Try.pinned (OpenSpec.ofChange admitKnownSpec)

/-- ITS FALSE NEIGHBOUR: 'it returns false'. Refute it at one input. -/
def admitKnownWrong : ChangeSpec := { name := "admitKnown", fn := fun _ => fun
  | [] => { results := [.lit (.bool false)], args := [] }
  | _ => none }
def AdmitKnownWrongFalsely : Prop := admitKnownRow.holds Try.pinned (OpenSpec.ofChange admitKnownWrong)

/-- 'binnaclelaw18.AdmitKeeps': WHATEVER THE INPUT: true; the input reads as it did. -/
def admitKeepsSpec : ChangeSpec := { name := "admitKeeps", fn := fun _ => fun
  | [d1, d2, d3] => { results := [.lit (.bool true)], args := [d1, d2, d3] }
  | _ => none }
def admitKeepsRow : OpenClaim := { program := "ytnffkmnjpnlleaa", sum := "efc6dbf69a97788c0bba9eed6b75e7187cb10d63a9a1dc193858c368bd937edf", func := "binnacle/binnaclelaw18.AdmitKeeps", spec := "admitKeeps", inPlace := ["slices.overlaps[binnacle/api.Key]"], unfollowed := true, recurses := true, apart := false }
def AdmitKeepsSaid : Prop := admitKeepsRow.holds Try.pinned (OpenSpec.ofChange admitKeepsSpec)

/-- ITS FALSE NEIGHBOUR: 'it returns false'. Refute it at one input. -/
def admitKeepsWrong : ChangeSpec := { name := "admitKeeps", fn := fun _ => fun
  | [d1, d2, d3] => { results := [.lit (.bool false)], args := [d1, d2, d3] }
  | _ => none }
def AdmitKeepsWrongFalsely : Prop := admitKeepsRow.holds Try.pinned (OpenSpec.ofChange admitKeepsWrong)

/-- 'binnaclelaw18.AdmitClears': WHATEVER THE INPUT: true; the input reads as it did. -/
def admitClearsSpec : ChangeSpec := { name := "admitClears", fn := fun _ => fun
  | [d1, d2] => { results := [.lit (.bool true)], args := [d1, d2] }
  | _ => none }
def admitClearsRow : OpenClaim := { program := "ytnffkmnjpnlleaa", sum := "efc6dbf69a97788c0bba9eed6b75e7187cb10d63a9a1dc193858c368bd937edf", func := "binnacle/binnaclelaw18.AdmitClears", spec := "admitClears", inPlace := ["slices.overlaps[binnacle/api.Key]"], unfollowed := true, recurses := true, apart := false }
def AdmitClearsSaid : Prop := admitClearsRow.holds Try.pinned (OpenSpec.ofChange admitClearsSpec)

/-- ITS FALSE NEIGHBOUR: 'it returns false'. Refute it at one input. -/
def admitClearsWrong : ChangeSpec := { name := "admitClears", fn := fun _ => fun
  | [d1, d2] => { results := [.lit (.bool false)], args := [d1, d2] }
  | _ => none }
def AdmitClearsWrongFalsely : Prop := admitClearsRow.holds Try.pinned (OpenSpec.ofChange admitClearsWrong)

/-- 'binnaclelaw28.TalkTells': WHATEVER THE INPUT: true; the input reads as it did. -/
def talkTellsSpec : ChangeSpec := { name := "talkTells", fn := fun _ => fun
  | [d] => { results := [.lit (.bool true)], args := [d] }
  | _ => none }
def talkTellsRow : OpenClaim := { program := "ytnffkmnjpnlleaa", sum := "efc6dbf69a97788c0bba9eed6b75e7187cb10d63a9a1dc193858c368bd937edf", func := "binnacle/binnaclelaw28.TalkTells", spec := "talkTells", inPlace := ["internal/bytealg.IndexByteString", "internal/bytealg.IndexString"], unfollowed := true, recurses := true, named := ["internal/bytealg.MaxLen"], apart := false }
def TalkTellsSaid : Prop := talkTellsRow.holds Try.pinned (OpenSpec.ofChange talkTellsSpec)

/-- ITS FALSE NEIGHBOUR: 'it returns false'. Refute it at one input. -/
def talkTellsWrong : ChangeSpec := { name := "talkTells", fn := fun _ => fun
  | [d] => { results := [.lit (.bool false)], args := [d] }
  | _ => none }
def TalkTellsWrongFalsely : Prop := talkTellsRow.holds Try.pinned (OpenSpec.ofChange talkTellsWrong)

/-- 'binnaclelaw28.TalkGets': WHATEVER THE INPUT: true; the input reads as it did. -/
def talkGetsSpec : ChangeSpec := { name := "talkGets", fn := fun _ => fun
  | [d] => { results := [.lit (.bool true)], args := [d] }
  | _ => none }
def talkGetsRow : OpenClaim := { program := "ytnffkmnjpnlleaa", sum := "efc6dbf69a97788c0bba9eed6b75e7187cb10d63a9a1dc193858c368bd937edf", func := "binnacle/binnaclelaw28.TalkGets", spec := "talkGets", inPlace := ["internal/bytealg.IndexByteString", "internal/bytealg.IndexString"], unfollowed := true, recurses := true, named := ["internal/bytealg.MaxLen"], apart := false }
def TalkGetsSaid : Prop := talkGetsRow.holds Try.pinned (OpenSpec.ofChange talkGetsSpec)

/-- ITS FALSE NEIGHBOUR: 'it returns false'. Refute it at one input. -/
def talkGetsWrong : ChangeSpec := { name := "talkGets", fn := fun _ => fun
  | [d] => { results := [.lit (.bool false)], args := [d] }
  | _ => none }
def TalkGetsWrongFalsely : Prop := talkGetsRow.holds Try.pinned (OpenSpec.ofChange talkGetsWrong)

/-- 'binnaclelaw28.TalkTold': WHATEVER THE INPUT: true; the input reads as it did. -/
def talkToldSpec : ChangeSpec := { name := "talkTold", fn := fun _ => fun
  | [d1, d2] => { results := [.lit (.bool true)], args := [d1, d2] }
  | _ => none }
def talkToldRow : OpenClaim := { program := "ytnffkmnjpnlleaa", sum := "efc6dbf69a97788c0bba9eed6b75e7187cb10d63a9a1dc193858c368bd937edf", func := "binnacle/binnaclelaw28.TalkTold", spec := "talkTold", inPlace := ["internal/bytealg.IndexByteString", "internal/bytealg.IndexString"], unfollowed := true, recurses := true, named := ["internal/bytealg.MaxLen"], apart := false }
def TalkToldSaid : Prop := talkToldRow.holds Try.pinned (OpenSpec.ofChange talkToldSpec)

/-- ITS FALSE NEIGHBOUR: 'it returns false'. Refute it at one input. -/
def talkToldWrong : ChangeSpec := { name := "talkTold", fn := fun _ => fun
  | [d1, d2] => { results := [.lit (.bool false)], args := [d1, d2] }
  | _ => none }
def TalkToldWrongFalsely : Prop := talkToldRow.holds Try.pinned (OpenSpec.ofChange talkToldWrong)

/-- 'binnaclelaw28.TalkAgain': WHATEVER THE INPUT: true; the input reads as it did. -/
def talkAgainSpec : ChangeSpec := { name := "talkAgain", fn := fun _ => fun
  | [d1, d2] => { results := [.lit (.bool true)], args := [d1, d2] }
  | _ => none }
def talkAgainRow : OpenClaim := { program := "ytnffkmnjpnlleaa", sum := "efc6dbf69a97788c0bba9eed6b75e7187cb10d63a9a1dc193858c368bd937edf", func := "binnacle/binnaclelaw28.TalkAgain", spec := "talkAgain", inPlace := ["internal/bytealg.IndexByteString", "internal/bytealg.IndexString"], unfollowed := true, recurses := true, named := ["internal/bytealg.MaxLen"], apart := false }
def TalkAgainSaid : Prop := talkAgainRow.holds Try.pinned (OpenSpec.ofChange talkAgainSpec)

/-- ITS FALSE NEIGHBOUR: 'it returns false'. Refute it at one input. -/
def talkAgainWrong : ChangeSpec := { name := "talkAgain", fn := fun _ => fun
  | [d1, d2] => { results := [.lit (.bool false)], args := [d1, d2] }
  | _ => none }
def TalkAgainWrongFalsely : Prop := talkAgainRow.holds Try.pinned (OpenSpec.ofChange talkAgainWrong)

/- THE SECOND FORM. 'bulk': how many values and letters a reading holds, each counted each time it is reached (what is shared counts as often as it is met; a slice's spare places count too). A statement '..UptoSaid' is the law's where the arguments, and the package variables that the reading takes, are together of bulk at most 1048576: NARROWER than '..Said'. Prove '..Said' where nothing that the law and all that it calls make is longer than what came in: it says more and counts as full. Else prove '..UptoSaid'. A law counts once. -/
mutual
def uptoBulk {H : Type} : DataW H → Nat
  | .lit (.string bytes) => bytes.length + 1
  | .lit _ => 1
  | .nil => 1
  | .ptr d => uptoBulk d + 1
  | .slice elems spare => uptoBulkAll elems + uptoBulkAll spare + 1
  | .agg parts => uptoBulkAll parts + 1
  | .iface _ d => uptoBulk d + 1
  | .map entries => uptoBulkEntries entries + 1
  | .held _ => 1
def uptoBulkAll {H : Type} : List (DataW H) → Nat
  | [] => 0
  | d :: r => uptoBulk d + uptoBulkAll r
def uptoBulkEntries {H : Type} : List (Lit × DataW H) → Nat
  | [] => 0
  | x :: r => uptoBulkEntry x + uptoBulkEntries r
def uptoBulkEntry {H : Type} : Lit × DataW H → Nat
  | (.string bytes, d) => bytes.length + uptoBulk d + 1
  | (_, d) => uptoBulk d + 1
 end
def uptoSmall : (H : Type) → List (DataW H) → Bool := fun _ ds => decide (uptoBulkAll ds ≤ 1048576)
def OpenSpec.upto (s : _root_.Go.ChangeSpec) : _root_.Go.OpenSpec := { _root_.Go.OpenSpec.ofChange s with cond := some uptoSmall }

/-- 'binnaclelaw32.ReplayPlain', WHERE WHAT IT READS IS OF BULK AT MOST 1048576: true; the input reads as it did. -/
def replayPlainUptoRow : OpenClaim := { program := "ytnffkmnjpnlleaa", sum := "efc6dbf69a97788c0bba9eed6b75e7187cb10d63a9a1dc193858c368bd937edf", func := "binnacle/binnaclelaw32.ReplayPlain", spec := "replayPlain", unfollowed := true, recurses := true, apart := false, narrowed := true }
def ReplayPlainUptoSaid : Prop := replayPlainUptoRow.holds Try.pinned (OpenSpec.upto replayPlainSpec)

/-- 'binnaclelaw28.TalkSays', WHERE WHAT IT READS IS OF BULK AT MOST 1048576: true; the input reads as it did. -/
def talkSaysUptoRow : OpenClaim := { program := "ytnffkmnjpnlleaa", sum := "efc6dbf69a97788c0bba9eed6b75e7187cb10d63a9a1dc193858c368bd937edf", func := "binnacle/binnaclelaw28.TalkSays", spec := "talkSays", inPlace := ["internal/bytealg.IndexByteString", "internal/bytealg.IndexString"], unfollowed := true, recurses := true, named := ["internal/bytealg.MaxLen"], apart := false, narrowed := true }
def TalkSaysUptoSaid : Prop := talkSaysUptoRow.holds Try.pinned (OpenSpec.upto talkSaysSpec)

/-- 'binnaclelaw18.AdmitWhy', WHERE WHAT IT READS IS OF BULK AT MOST 1048576: true; the input reads as it did. -/
def admitWhyUptoRow : OpenClaim := { program := "ytnffkmnjpnlleaa", sum := "efc6dbf69a97788c0bba9eed6b75e7187cb10d63a9a1dc193858c368bd937edf", func := "binnacle/binnaclelaw18.AdmitWhy", spec := "admitWhy", inPlace := ["slices.overlaps[binnacle/api.Key]"], unfollowed := true, recurses := true, apart := false, narrowed := true }
def AdmitWhyUptoSaid : Prop := admitWhyUptoRow.holds Try.pinned (OpenSpec.upto admitWhySpec)

/-- 'binnaclelaw28.TalkKnown', WHERE WHAT IT READS IS OF BULK AT MOST 1048576: true; the input reads as it did. -/
def talkKnownUptoRow : OpenClaim := { program := "ytnffkmnjpnlleaa", sum := "efc6dbf69a97788c0bba9eed6b75e7187cb10d63a9a1dc193858c368bd937edf", func := "binnacle/binnaclelaw28.TalkKnown", spec := "talkKnown", inPlace := ["internal/bytealg.IndexByteString", "internal/bytealg.IndexString"], unfollowed := true, recurses := true, named := ["internal/bytealg.MaxLen"], apart := false, narrowed := true }
def TalkKnownUptoSaid : Prop := talkKnownUptoRow.holds Try.pinned (OpenSpec.upto talkKnownSpec)

/-- 'binnaclelaw28.TalkBack', WHERE WHAT IT READS IS OF BULK AT MOST 1048576: true; the input reads as it did. -/
def talkBackUptoRow : OpenClaim := { program := "ytnffkmnjpnlleaa", sum := "efc6dbf69a97788c0bba9eed6b75e7187cb10d63a9a1dc193858c368bd937edf", func := "binnacle/binnaclelaw28.TalkBack", spec := "talkBack", inPlace := ["internal/bytealg.IndexByteString", "internal/bytealg.IndexString"], unfollowed := true, recurses := true, named := ["internal/bytealg.MaxLen"], apart := false, narrowed := true }
def TalkBackUptoSaid : Prop := talkBackUptoRow.holds Try.pinned (OpenSpec.upto talkBackSpec)

/-- 'binnaclelaw18.AdmitTells', WHERE WHAT IT READS IS OF BULK AT MOST 1048576: true; the input reads as it did. -/
def admitTellsUptoRow : OpenClaim := { program := "ytnffkmnjpnlleaa", sum := "efc6dbf69a97788c0bba9eed6b75e7187cb10d63a9a1dc193858c368bd937edf", func := "binnacle/binnaclelaw18.AdmitTells", spec := "admitTells", inPlace := ["slices.overlaps[binnacle/api.Key]"], unfollowed := true, recurses := true, apart := false, narrowed := true }
def AdmitTellsUptoSaid : Prop := admitTellsUptoRow.holds Try.pinned (OpenSpec.upto admitTellsSpec)

/-- 'binnaclelaw18.AdmitKnown', WHERE WHAT IT READS IS OF BULK AT MOST 1048576: true; the input reads as it did. -/
def admitKnownUptoRow : OpenClaim := { program := "ytnffkmnjpnlleaa", sum := "efc6dbf69a97788c0bba9eed6b75e7187cb10d63a9a1dc193858c368bd937edf", func := "binnacle/binnaclelaw18.AdmitKnown", spec := "admitKnown", inPlace := ["slices.overlaps[binnacle/api.Key]"], unfollowed := true, recurses := true, apart := false, narrowed := true }
def AdmitKnownUptoSaid : Prop := admitKnownUptoRow.holds Try.pinned (OpenSpec.upto admitKnownSpec)

/-- 'binnaclelaw18.AdmitKeeps', WHERE WHAT IT READS IS OF BULK AT MOST 1048576: true; the input reads as it did. -/
def admitKeepsUptoRow : OpenClaim := { program := "ytnffkmnjpnlleaa", sum := "efc6dbf69a97788c0bba9eed6b75e7187cb10d63a9a1dc193858c368bd937edf", func := "binnacle/binnaclelaw18.AdmitKeeps", spec := "admitKeeps", inPlace := ["slices.overlaps[binnacle/api.Key]"], unfollowed := true, recurses := true, apart := false, narrowed := true }
def AdmitKeepsUptoSaid : Prop := admitKeepsUptoRow.holds Try.pinned (OpenSpec.upto admitKeepsSpec)

/-- 'binnaclelaw18.AdmitClears', WHERE WHAT IT READS IS OF BULK AT MOST 1048576: true; the input reads as it did. -/
def admitClearsUptoRow : OpenClaim := { program := "ytnffkmnjpnlleaa", sum := "efc6dbf69a97788c0bba9eed6b75e7187cb10d63a9a1dc193858c368bd937edf", func := "binnacle/binnaclelaw18.AdmitClears", spec := "admitClears", inPlace := ["slices.overlaps[binnacle/api.Key]"], unfollowed := true, recurses := true, apart := false, narrowed := true }
def AdmitClearsUptoSaid : Prop := admitClearsUptoRow.holds Try.pinned (OpenSpec.upto admitClearsSpec)

/-- 'binnaclelaw28.TalkTells', WHERE WHAT IT READS IS OF BULK AT MOST 1048576: true; the input reads as it did. -/
def talkTellsUptoRow : OpenClaim := { program := "ytnffkmnjpnlleaa", sum := "efc6dbf69a97788c0bba9eed6b75e7187cb10d63a9a1dc193858c368bd937edf", func := "binnacle/binnaclelaw28.TalkTells", spec := "talkTells", inPlace := ["internal/bytealg.IndexByteString", "internal/bytealg.IndexString"], unfollowed := true, recurses := true, named := ["internal/bytealg.MaxLen"], apart := false, narrowed := true }
def TalkTellsUptoSaid : Prop := talkTellsUptoRow.holds Try.pinned (OpenSpec.upto talkTellsSpec)

/-- 'binnaclelaw28.TalkGets', WHERE WHAT IT READS IS OF BULK AT MOST 1048576: true; the input reads as it did. -/
def talkGetsUptoRow : OpenClaim := { program := "ytnffkmnjpnlleaa", sum := "efc6dbf69a97788c0bba9eed6b75e7187cb10d63a9a1dc193858c368bd937edf", func := "binnacle/binnaclelaw28.TalkGets", spec := "talkGets", inPlace := ["internal/bytealg.IndexByteString", "internal/bytealg.IndexString"], unfollowed := true, recurses := true, named := ["internal/bytealg.MaxLen"], apart := false, narrowed := true }
def TalkGetsUptoSaid : Prop := talkGetsUptoRow.holds Try.pinned (OpenSpec.upto talkGetsSpec)

/-- 'binnaclelaw28.TalkTold', WHERE WHAT IT READS IS OF BULK AT MOST 1048576: true; the input reads as it did. -/
def talkToldUptoRow : OpenClaim := { program := "ytnffkmnjpnlleaa", sum := "efc6dbf69a97788c0bba9eed6b75e7187cb10d63a9a1dc193858c368bd937edf", func := "binnacle/binnaclelaw28.TalkTold", spec := "talkTold", inPlace := ["internal/bytealg.IndexByteString", "internal/bytealg.IndexString"], unfollowed := true, recurses := true, named := ["internal/bytealg.MaxLen"], apart := false, narrowed := true }
def TalkToldUptoSaid : Prop := talkToldUptoRow.holds Try.pinned (OpenSpec.upto talkToldSpec)

/-- 'binnaclelaw28.TalkAgain', WHERE WHAT IT READS IS OF BULK AT MOST 1048576: true; the input reads as it did. -/
def talkAgainUptoRow : OpenClaim := { program := "ytnffkmnjpnlleaa", sum := "efc6dbf69a97788c0bba9eed6b75e7187cb10d63a9a1dc193858c368bd937edf", func := "binnacle/binnaclelaw28.TalkAgain", spec := "talkAgain", inPlace := ["internal/bytealg.IndexByteString", "internal/bytealg.IndexString"], unfollowed := true, recurses := true, named := ["internal/bytealg.MaxLen"], apart := false, narrowed := true }
def TalkAgainUptoSaid : Prop := talkAgainUptoRow.holds Try.pinned (OpenSpec.upto talkAgainSpec)

end Rows
end Go.Proofs.Ytnffkmnjpnlleaa
