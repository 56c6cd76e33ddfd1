/-
  No cell of these rows narrows 'for every input' (looked for: loops, veiled, ifaces, maps, wideKeys, modest, calm, conditions, laid).
  DERIVED. THE GIVEN ROWS OF THIS SEAT. 10 by the template 'for every input the law returns true; each argument reads behind the call as it read before'; 0 by the template 'total and deterministic' (their statements: YtgadiajhhjfmbaaTotals.lean).
  GIVEN WITH THE SEED: the statements are not yours to turn. If you find one false, say at which input.
  Laid BY PROGRAM, IN A SANDBOX (cutbox-rows.mjs): the forced cells as the released guide's own fill.sh prints them over the translation 1ca7e5038b15d729… (all of the seat's roots in one cut). By AI agents, Wed Nov 11 2026. No macro, syntax, notation, axiom, sorry.
-/
import Derived.Test.YtgadiajhhjfmbaaChecked
import GoSem.Claim
import GoSem.ClaimJoined
import GoSem.ClaimMapViews
import Derived.JoinedTies
import Derived.KernelRfl
namespace Go.Proofs.Ytgadiajhhjfmbaa
/- THE CELL 'sum', in the pinned program and in every row, IS THE sha256 OF THE DUMP (.gsa) THAT YtgadiajhhjfmbaaProg.lean LOADS. Nothing in Lean hashes anything: it is a label: what it is worth is what the hold of that sum in a sandbox is worth. -/
noncomputable def Try.pinned : Pinned := { name := "ytgadiajhhjfmbaa", sum := "1ca7e5038b15d7293c570311f9141c433fe15115395665a8ae66a9d0c4d2b6ab", checked := Try.checked }
namespace Rows
def none {H : Type} : Left H := { results := [], args := [] }

/-- 'binnaclelaw14.EntryKeys': WHATEVER THE INPUT: true; the input reads as it did. -/
def entryKeysSpec : ChangeSpec := { name := "entryKeys", fn := fun _ => fun
  | [d1, d2, d3] => { results := [.lit (.bool true)], args := [d1, d2, d3] }
  | _ => none }
def entryKeysRow : OpenClaim := { program := "ytgadiajhhjfmbaa", sum := "1ca7e5038b15d7293c570311f9141c433fe15115395665a8ae66a9d0c4d2b6ab", func := "binnacle/binnaclelaw14.EntryKeys", spec := "entryKeys", unfollowed := true, recurses := true, apart := false }
def EntryKeysSaid : Prop := entryKeysRow.holds Try.pinned (OpenSpec.ofChange entryKeysSpec)

/-- ITS FALSE NEIGHBOUR: 'it returns false'. Refute it at one input. -/
def entryKeysWrong : ChangeSpec := { name := "entryKeys", fn := fun _ => fun
  | [d1, d2, d3] => { results := [.lit (.bool false)], args := [d1, d2, d3] }
  | _ => none }
def EntryKeysWrongFalsely : Prop := entryKeysRow.holds Try.pinned (OpenSpec.ofChange entryKeysWrong)

/-- 'binnaclelaw14.EntryKnown': WHATEVER THE INPUT: true; the input reads as it did. -/
def entryKnownSpec : ChangeSpec := { name := "entryKnown", fn := fun _ => fun
  | [] => { results := [.lit (.bool true)], args := [] }
  | _ => none }
def entryKnownRow : OpenClaim := { program := "ytgadiajhhjfmbaa", sum := "1ca7e5038b15d7293c570311f9141c433fe15115395665a8ae66a9d0c4d2b6ab", func := "binnacle/binnaclelaw14.EntryKnown", spec := "entryKnown", unfollowed := true, recurses := true, apart := false }
def EntryKnownSaid : Prop := entryKnownRow.holds Try.pinned (OpenSpec.ofChange entryKnownSpec)

/-- ITS FALSE NEIGHBOUR: 'it returns false'. Refute it at one input. -/
def entryKnownWrong : ChangeSpec := { name := "entryKnown", fn := fun _ => fun
  | [] => { results := [.lit (.bool false)], args := [] }
  | _ => none }
def EntryKnownWrongFalsely : Prop := entryKnownRow.holds Try.pinned (OpenSpec.ofChange entryKnownWrong)

/-- 'binnaclelaw14.EntryOrder': WHATEVER THE INPUT: true; the input reads as it did. -/
def entryOrderSpec : ChangeSpec := { name := "entryOrder", fn := fun _ => fun
  | [d1, d2, d3] => { results := [.lit (.bool true)], args := [d1, d2, d3] }
  | _ => none }
def entryOrderRow : OpenClaim := { program := "ytgadiajhhjfmbaa", sum := "1ca7e5038b15d7293c570311f9141c433fe15115395665a8ae66a9d0c4d2b6ab", func := "binnacle/binnaclelaw14.EntryOrder", spec := "entryOrder", unfollowed := true, recurses := true, apart := false }
def EntryOrderSaid : Prop := entryOrderRow.holds Try.pinned (OpenSpec.ofChange entryOrderSpec)

/-- ITS FALSE NEIGHBOUR: 'it returns false'. Refute it at one input. -/
def entryOrderWrong : ChangeSpec := { name := "entryOrder", fn := fun _ => fun
  | [d1, d2, d3] => { results := [.lit (.bool false)], args := [d1, d2, d3] }
  | _ => none }
def EntryOrderWrongFalsely : Prop := entryOrderRow.holds Try.pinned (OpenSpec.ofChange entryOrderWrong)

/-- 'binnaclelaw14.EntryPlace': WHATEVER THE INPUT: true; the input reads as it did. -/
def entryPlaceSpec : ChangeSpec := { name := "entryPlace", fn := fun _ => fun
  | [d] => { results := [.lit (.bool true)], args := [d] }
  | _ => none }
def entryPlaceRow : OpenClaim := { program := "ytgadiajhhjfmbaa", sum := "1ca7e5038b15d7293c570311f9141c433fe15115395665a8ae66a9d0c4d2b6ab", func := "binnacle/binnaclelaw14.EntryPlace", spec := "entryPlace", unfollowed := true, recurses := true, apart := false }
def EntryPlaceSaid : Prop := entryPlaceRow.holds Try.pinned (OpenSpec.ofChange entryPlaceSpec)

/-- ITS FALSE NEIGHBOUR: 'it returns false'. Refute it at one input. -/
def entryPlaceWrong : ChangeSpec := { name := "entryPlace", fn := fun _ => fun
  | [d] => { results := [.lit (.bool false)], args := [d] }
  | _ => none }
def EntryPlaceWrongFalsely : Prop := entryPlaceRow.holds Try.pinned (OpenSpec.ofChange entryPlaceWrong)

/-- 'binnaclelaw19.RingUntil': WHATEVER THE INPUT: true; the input reads as it did. -/
def ringUntilSpec : ChangeSpec := { name := "ringUntil", fn := fun _ => fun
  | [d1, d2, d3, d4] => { results := [.lit (.bool true)], args := [d1, d2, d3, d4] }
  | _ => none }
def ringUntilRow : OpenClaim := { program := "ytgadiajhhjfmbaa", sum := "1ca7e5038b15d7293c570311f9141c433fe15115395665a8ae66a9d0c4d2b6ab", func := "binnacle/binnaclelaw19.RingUntil", spec := "ringUntil", unfollowed := true, recurses := true, apart := false }
def RingUntilSaid : Prop := ringUntilRow.holds Try.pinned (OpenSpec.ofChange ringUntilSpec)

/-- ITS FALSE NEIGHBOUR: 'it returns false'. Refute it at one input. -/
def ringUntilWrong : ChangeSpec := { name := "ringUntil", fn := fun _ => fun
  | [d1, d2, d3, d4] => { results := [.lit (.bool false)], args := [d1, d2, d3, d4] }
  | _ => none }
def RingUntilWrongFalsely : Prop := ringUntilRow.holds Try.pinned (OpenSpec.ofChange ringUntilWrong)

/-- 'binnaclelaw19.RingKnown': WHATEVER THE INPUT: true; the input reads as it did. -/
def ringKnownSpec : ChangeSpec := { name := "ringKnown", fn := fun _ => fun
  | [] => { results := [.lit (.bool true)], args := [] }
  | _ => none }
def ringKnownRow : OpenClaim := { program := "ytgadiajhhjfmbaa", sum := "1ca7e5038b15d7293c570311f9141c433fe15115395665a8ae66a9d0c4d2b6ab", func := "binnacle/binnaclelaw19.RingKnown", spec := "ringKnown", unfollowed := true, recurses := true, apart := false }
def RingKnownSaid : Prop := ringKnownRow.holds Try.pinned (OpenSpec.ofChange ringKnownSpec)

/-- ITS FALSE NEIGHBOUR: 'it returns false'. Refute it at one input. -/
def ringKnownWrong : ChangeSpec := { name := "ringKnown", fn := fun _ => fun
  | [] => { results := [.lit (.bool false)], args := [] }
  | _ => none }
def RingKnownWrongFalsely : Prop := ringKnownRow.holds Try.pinned (OpenSpec.ofChange ringKnownWrong)

/-- 'binnaclelaw19.RingTurns': WHATEVER THE INPUT: true; the input reads as it did. -/
def ringTurnsSpec : ChangeSpec := { name := "ringTurns", fn := fun _ => fun
  | [d1, d2] => { results := [.lit (.bool true)], args := [d1, d2] }
  | _ => none }
def ringTurnsRow : OpenClaim := { program := "ytgadiajhhjfmbaa", sum := "1ca7e5038b15d7293c570311f9141c433fe15115395665a8ae66a9d0c4d2b6ab", func := "binnacle/binnaclelaw19.RingTurns", spec := "ringTurns", unfollowed := true, recurses := true, apart := false }
def RingTurnsSaid : Prop := ringTurnsRow.holds Try.pinned (OpenSpec.ofChange ringTurnsSpec)

/-- ITS FALSE NEIGHBOUR: 'it returns false'. Refute it at one input. -/
def ringTurnsWrong : ChangeSpec := { name := "ringTurns", fn := fun _ => fun
  | [d1, d2] => { results := [.lit (.bool false)], args := [d1, d2] }
  | _ => none }
def RingTurnsWrongFalsely : Prop := ringTurnsRow.holds Try.pinned (OpenSpec.ofChange ringTurnsWrong)

/-- 'binnaclelaw19.RingNone': WHATEVER THE INPUT: true; the input reads as it did. -/
def ringNoneSpec : ChangeSpec := { name := "ringNone", fn := fun _ => fun
  | [d] => { results := [.lit (.bool true)], args := [d] }
  | _ => none }
def ringNoneRow : OpenClaim := { program := "ytgadiajhhjfmbaa", sum := "1ca7e5038b15d7293c570311f9141c433fe15115395665a8ae66a9d0c4d2b6ab", func := "binnacle/binnaclelaw19.RingNone", spec := "ringNone", unfollowed := true, recurses := true, apart := false }
def RingNoneSaid : Prop := ringNoneRow.holds Try.pinned (OpenSpec.ofChange ringNoneSpec)

/-- ITS FALSE NEIGHBOUR: 'it returns false'. Refute it at one input. -/
def ringNoneWrong : ChangeSpec := { name := "ringNone", fn := fun _ => fun
  | [d] => { results := [.lit (.bool false)], args := [d] }
  | _ => none }
def RingNoneWrongFalsely : Prop := ringNoneRow.holds Try.pinned (OpenSpec.ofChange ringNoneWrong)

/-- 'binnaclelaw19.RingSorts': WHATEVER THE INPUT: true; the input reads as it did. -/
def ringSortsSpec : ChangeSpec := { name := "ringSorts", fn := fun _ => fun
  | [d] => { results := [.lit (.bool true)], args := [d] }
  | _ => none }
def ringSortsRow : OpenClaim := { program := "ytgadiajhhjfmbaa", sum := "1ca7e5038b15d7293c570311f9141c433fe15115395665a8ae66a9d0c4d2b6ab", func := "binnacle/binnaclelaw19.RingSorts", spec := "ringSorts", unfollowed := true, recurses := true, apart := false }
def RingSortsSaid : Prop := ringSortsRow.holds Try.pinned (OpenSpec.ofChange ringSortsSpec)

/-- ITS FALSE NEIGHBOUR: 'it returns false'. Refute it at one input. -/
def ringSortsWrong : ChangeSpec := { name := "ringSorts", fn := fun _ => fun
  | [d] => { results := [.lit (.bool false)], args := [d] }
  | _ => none }
def RingSortsWrongFalsely : Prop := ringSortsRow.holds Try.pinned (OpenSpec.ofChange ringSortsWrong)

/-- 'binnaclelaw14.EntryTells': WHATEVER THE INPUT: true; the input reads as it did. -/
def entryTellsSpec : ChangeSpec := { name := "entryTells", fn := fun _ => fun
  | [d1, d2] => { results := [.lit (.bool true)], args := [d1, d2] }
  | _ => none }
def entryTellsRow : OpenClaim := { program := "ytgadiajhhjfmbaa", sum := "1ca7e5038b15d7293c570311f9141c433fe15115395665a8ae66a9d0c4d2b6ab", func := "binnacle/binnaclelaw14.EntryTells", spec := "entryTells", unfollowed := true, recurses := true, apart := false }
def EntryTellsSaid : Prop := entryTellsRow.holds Try.pinned (OpenSpec.ofChange entryTellsSpec)

/-- ITS FALSE NEIGHBOUR: 'it returns false'. Refute it at one input. -/
def entryTellsWrong : ChangeSpec := { name := "entryTells", fn := fun _ => fun
  | [d1, d2] => { results := [.lit (.bool false)], args := [d1, d2] }
  | _ => none }
def EntryTellsWrongFalsely : Prop := entryTellsRow.holds Try.pinned (OpenSpec.ofChange entryTellsWrong)

/- THE SECOND FORM. 'bulk': how many values and letters a reading holds, each counted each time it is reached (what is shared counts as often as it is met; a slice's spare places count too). A statement '..UptoSaid' is the law's where the arguments, and the package variables that the reading takes, are together of bulk at most 1048576: NARROWER than '..Said'. Prove '..Said' where nothing that the law and all that it calls make is longer than what came in: it says more and counts as full. Else prove '..UptoSaid'. A law counts once. -/
mutual
def uptoBulk {H : Type} : DataW H → Nat
  | .lit (.string bytes) => bytes.length + 1
  | .lit _ => 1
  | .nil => 1
  | .ptr d => uptoBulk d + 1
  | .slice elems spare => uptoBulkAll elems + uptoBulkAll spare + 1
  | .agg parts => uptoBulkAll parts + 1
  | .iface _ d => uptoBulk d + 1
  | .map entries => uptoBulkEntries entries + 1
  | .held _ => 1
def uptoBulkAll {H : Type} : List (DataW H) → Nat
  | [] => 0
  | d :: r => uptoBulk d + uptoBulkAll r
def uptoBulkEntries {H : Type} : List (Lit × DataW H) → Nat
  | [] => 0
  | x :: r => uptoBulkEntry x + uptoBulkEntries r
def uptoBulkEntry {H : Type} : Lit × DataW H → Nat
  | (.string bytes, d) => bytes.length + uptoBulk d + 1
  | (_, d) => uptoBulk d + 1
 end
def uptoSmall : (H : Type) → List (DataW H) → Bool := fun _ ds => decide (uptoBulkAll ds ≤ 1048576)
def OpenSpec.upto (s : _root_.Go.ChangeSpec) : _root_.Go.OpenSpec := { _root_.Go.OpenSpec.ofChange s with cond := some uptoSmall }

/-- 'binnaclelaw14.EntryKeys', WHERE WHAT IT READS IS OF BULK AT MOST 1048576: true; the input reads as it did. -/
def entryKeysUptoRow : OpenClaim := { program := "ytgadiajhhjfmbaa", sum := "1ca7e5038b15d7293c570311f9141c433fe15115395665a8ae66a9d0c4d2b6ab", func := "binnacle/binnaclelaw14.EntryKeys", spec := "entryKeys", unfollowed := true, recurses := true, apart := false, narrowed := true }
def EntryKeysUptoSaid : Prop := entryKeysUptoRow.holds Try.pinned (OpenSpec.upto entryKeysSpec)

/-- 'binnaclelaw14.EntryKnown', WHERE WHAT IT READS IS OF BULK AT MOST 1048576: true; the input reads as it did. -/
def entryKnownUptoRow : OpenClaim := { program := "ytgadiajhhjfmbaa", sum := "1ca7e5038b15d7293c570311f9141c433fe15115395665a8ae66a9d0c4d2b6ab", func := "binnacle/binnaclelaw14.EntryKnown", spec := "entryKnown", unfollowed := true, recurses := true, apart := false, narrowed := true }
def EntryKnownUptoSaid : Prop := entryKnownUptoRow.holds Try.pinned (OpenSpec.upto entryKnownSpec)

/-- 'binnaclelaw14.EntryOrder', WHERE WHAT IT READS IS OF BULK AT MOST 1048576: true; the input reads as it did. -/
def entryOrderUptoRow : OpenClaim := { program := "ytgadiajhhjfmbaa", sum := "1ca7e5038b15d7293c570311f9141c433fe15115395665a8ae66a9d0c4d2b6ab", func := "binnacle/binnaclelaw14.EntryOrder", spec := "entryOrder", unfollowed := true, recurses := true, apart := false, narrowed := true }
def EntryOrderUptoSaid : Prop := entryOrderUptoRow.holds Try.pinned (OpenSpec.upto entryOrderSpec)

/-- 'binnaclelaw14.EntryPlace', WHERE WHAT IT READS IS OF BULK AT MOST 1048576: true; the input reads as it did. -/
def entryPlaceUptoRow : OpenClaim := { program := "ytgadiajhhjfmbaa", sum := "1ca7e5038b15d7293c570311f9141c433fe15115395665a8ae66a9d0c4d2b6ab", func := "binnacle/binnaclelaw14.EntryPlace", spec := "entryPlace", unfollowed := true, recurses := true, apart := false, narrowed := true }
def EntryPlaceUptoSaid : Prop := entryPlaceUptoRow.holds Try.pinned (OpenSpec.upto entryPlaceSpec)

/-- 'binnaclelaw19.RingUntil', WHERE WHAT IT READS IS OF BULK AT MOST 1048576: true; the input reads as it did. -/
def ringUntilUptoRow : OpenClaim := { program := "ytgadiajhhjfmbaa", sum := "1ca7e5038b15d7293c570311f9141c433fe15115395665a8ae66a9d0c4d2b6ab", func := "binnacle/binnaclelaw19.RingUntil", spec := "ringUntil", unfollowed := true, recurses := true, apart := false, narrowed := true }
def RingUntilUptoSaid : Prop := ringUntilUptoRow.holds Try.pinned (OpenSpec.upto ringUntilSpec)

/-- 'binnaclelaw19.RingKnown', WHERE WHAT IT READS IS OF BULK AT MOST 1048576: true; the input reads as it did. -/
def ringKnownUptoRow : OpenClaim := { program := "ytgadiajhhjfmbaa", sum := "1ca7e5038b15d7293c570311f9141c433fe15115395665a8ae66a9d0c4d2b6ab", func := "binnacle/binnaclelaw19.RingKnown", spec := "ringKnown", unfollowed := true, recurses := true, apart := false, narrowed := true }
def RingKnownUptoSaid : Prop := ringKnownUptoRow.holds Try.pinned (OpenSpec.upto ringKnownSpec)

/-- 'binnaclelaw19.RingTurns', WHERE WHAT IT READS IS OF BULK AT MOST 1048576: true; the input reads as it did. -/
def ringTurnsUptoRow : OpenClaim := { program := "ytgadiajhhjfmbaa", sum := "1ca7e5038b15d7293c570311f9141c433fe15115395665a8ae66a9d0c4d2b6ab", func := "binnacle/binnaclelaw19.RingTurns", spec := "ringTurns", unfollowed := true, recurses := true, apart := false, narrowed := true }
def RingTurnsUptoSaid : Prop := ringTurnsUptoRow.holds Try.pinned (OpenSpec.upto ringTurnsSpec)

/-- 'binnaclelaw19.RingNone', WHERE WHAT IT READS IS OF BULK AT MOST 1048576: true; the input reads as it did. -/
def ringNoneUptoRow : OpenClaim := { program := "ytgadiajhhjfmbaa", sum := "1ca7e5038b15d7293c570311f9141c433fe15115395665a8ae66a9d0c4d2b6ab", func := "binnacle/binnaclelaw19.RingNone", spec := "ringNone", unfollowed := true, recurses := true, apart := false, narrowed := true }
def RingNoneUptoSaid : Prop := ringNoneUptoRow.holds Try.pinned (OpenSpec.upto ringNoneSpec)

/-- 'binnaclelaw19.RingSorts', WHERE WHAT IT READS IS OF BULK AT MOST 1048576: true; the input reads as it did. -/
def ringSortsUptoRow : OpenClaim := { program := "ytgadiajhhjfmbaa", sum := "1ca7e5038b15d7293c570311f9141c433fe15115395665a8ae66a9d0c4d2b6ab", func := "binnacle/binnaclelaw19.RingSorts", spec := "ringSorts", unfollowed := true, recurses := true, apart := false, narrowed := true }
def RingSortsUptoSaid : Prop := ringSortsUptoRow.holds Try.pinned (OpenSpec.upto ringSortsSpec)

/-- 'binnaclelaw14.EntryTells', WHERE WHAT IT READS IS OF BULK AT MOST 1048576: true; the input reads as it did. -/
def entryTellsUptoRow : OpenClaim := { program := "ytgadiajhhjfmbaa", sum := "1ca7e5038b15d7293c570311f9141c433fe15115395665a8ae66a9d0c4d2b6ab", func := "binnacle/binnaclelaw14.EntryTells", spec := "entryTells", unfollowed := true, recurses := true, apart := false, narrowed := true }
def EntryTellsUptoSaid : Prop := entryTellsUptoRow.holds Try.pinned (OpenSpec.upto entryTellsSpec)

end Rows
end Go.Proofs.Ytgadiajhhjfmbaa
