/-
  No cell of these rows narrows 'for every input' (looked for: loops, veiled, ifaces, maps, wideKeys, modest, calm, conditions, laid).
  DERIVED. THE GIVEN ROWS OF THIS SEAT. 9 by the template 'for every input the law returns true; each argument reads behind the call as it read before'; 0 by the template 'total and deterministic' (their statements: YtlmdegpccodbgaaTotals.lean).
  GIVEN WITH THE SEED: the statements are not yours to turn. If you find one false, say at which input.
  Laid BY PROGRAM, IN A SANDBOX (cutbox-rows.mjs): the forced cells as the released guide's own fill.sh prints them over the translation 958ab6f1063d43fa… (all of the seat's roots in one cut). By AI agents, Wed Nov 11 2026. No macro, syntax, notation, axiom, sorry.
-/
import Derived.Test.YtlmdegpccodbgaaChecked
import GoSem.Claim
import GoSem.ClaimJoined
import GoSem.ClaimMapViews
import Derived.JoinedTies
import Derived.KernelRfl
namespace Go.Proofs.Ytlmdegpccodbgaa
/- THE CELL 'sum', in the pinned program and in every row, IS THE sha256 OF THE DUMP (.gsa) THAT YtlmdegpccodbgaaProg.lean LOADS. Nothing in Lean hashes anything: it is a label: what it is worth is what the hold of that sum in a sandbox is worth. -/
noncomputable def Try.pinned : Pinned := { name := "ytlmdegpccodbgaa", sum := "958ab6f1063d43fa00a9c3627e38cd98f77be5f97994259362bd18a6c71bd1ba", checked := Try.checked }
namespace Rows
def none {H : Type} : Left H := { results := [], args := [] }

/-- 'binnaclelaw31.BoundTells': WHATEVER THE INPUT: true; the input reads as it did. -/
def boundTellsSpec : ChangeSpec := { name := "boundTells", fn := fun _ => fun
  | [d1, d2, d3, d4, d5] => { results := [.lit (.bool true)], args := [d1, d2, d3, d4, d5] }
  | _ => none }
def boundTellsRow : OpenClaim := { program := "ytlmdegpccodbgaa", sum := "958ab6f1063d43fa00a9c3627e38cd98f77be5f97994259362bd18a6c71bd1ba", func := "binnacle/binnaclelaw31.BoundTells", spec := "boundTells", apart := false }
def BoundTellsSaid : Prop := boundTellsRow.holds Try.pinned (OpenSpec.ofChange boundTellsSpec)

/-- ITS FALSE NEIGHBOUR: 'it returns false'. Refute it at one input. -/
def boundTellsWrong : ChangeSpec := { name := "boundTells", fn := fun _ => fun
  | [d1, d2, d3, d4, d5] => { results := [.lit (.bool false)], args := [d1, d2, d3, d4, d5] }
  | _ => none }
def BoundTellsWrongFalsely : Prop := boundTellsRow.holds Try.pinned (OpenSpec.ofChange boundTellsWrong)

/-- 'binnaclelaw31.BoundKnown': WHATEVER THE INPUT: true; the input reads as it did. -/
def boundKnownSpec : ChangeSpec := { name := "boundKnown", fn := fun _ => fun
  | [] => { results := [.lit (.bool true)], args := [] }
  | _ => none }
def boundKnownRow : OpenClaim := { program := "ytlmdegpccodbgaa", sum := "958ab6f1063d43fa00a9c3627e38cd98f77be5f97994259362bd18a6c71bd1ba", func := "binnacle/binnaclelaw31.BoundKnown", spec := "boundKnown", apart := false }
def BoundKnownSaid : Prop := boundKnownRow.holds Try.pinned (OpenSpec.ofChange boundKnownSpec)

/-- ITS FALSE NEIGHBOUR: 'it returns false'. Refute it at one input. -/
def boundKnownWrong : ChangeSpec := { name := "boundKnown", fn := fun _ => fun
  | [] => { results := [.lit (.bool false)], args := [] }
  | _ => none }
def BoundKnownWrongFalsely : Prop := boundKnownRow.holds Try.pinned (OpenSpec.ofChange boundKnownWrong)

/-- 'binnaclelaw31.BoundGrows': WHATEVER THE INPUT: true; the input reads as it did. -/
def boundGrowsSpec : ChangeSpec := { name := "boundGrows", fn := fun _ => fun
  | [d1, d2, d3, d4, d5, d6] => { results := [.lit (.bool true)], args := [d1, d2, d3, d4, d5, d6] }
  | _ => none }
def boundGrowsRow : OpenClaim := { program := "ytlmdegpccodbgaa", sum := "958ab6f1063d43fa00a9c3627e38cd98f77be5f97994259362bd18a6c71bd1ba", func := "binnacle/binnaclelaw31.BoundGrows", spec := "boundGrows", apart := false }
def BoundGrowsSaid : Prop := boundGrowsRow.holds Try.pinned (OpenSpec.ofChange boundGrowsSpec)

/-- ITS FALSE NEIGHBOUR: 'it returns false'. Refute it at one input. -/
def boundGrowsWrong : ChangeSpec := { name := "boundGrows", fn := fun _ => fun
  | [d1, d2, d3, d4, d5, d6] => { results := [.lit (.bool false)], args := [d1, d2, d3, d4, d5, d6] }
  | _ => none }
def BoundGrowsWrongFalsely : Prop := boundGrowsRow.holds Try.pinned (OpenSpec.ofChange boundGrowsWrong)

/-- 'binnaclelaw25.CodeOrder': WHATEVER THE INPUT: true; the input reads as it did. -/
def codeOrderSpec : ChangeSpec := { name := "codeOrder", fn := fun _ => fun
  | [d1, d2, d3] => { results := [.lit (.bool true)], args := [d1, d2, d3] }
  | _ => none }
def codeOrderRow : OpenClaim := { program := "ytlmdegpccodbgaa", sum := "958ab6f1063d43fa00a9c3627e38cd98f77be5f97994259362bd18a6c71bd1ba", func := "binnacle/binnaclelaw25.CodeOrder", spec := "codeOrder", unfollowed := true, recurses := true, apart := false }
def CodeOrderSaid : Prop := codeOrderRow.holds Try.pinned (OpenSpec.ofChange codeOrderSpec)

/-- ITS FALSE NEIGHBOUR: 'it returns false'. Refute it at one input. -/
def codeOrderWrong : ChangeSpec := { name := "codeOrder", fn := fun _ => fun
  | [d1, d2, d3] => { results := [.lit (.bool false)], args := [d1, d2, d3] }
  | _ => none }
def CodeOrderWrongFalsely : Prop := codeOrderRow.holds Try.pinned (OpenSpec.ofChange codeOrderWrong)

/-- 'binnaclelaw25.CodeAppends': WHATEVER THE INPUT: true; the input reads as it did. -/
def codeAppendsSpec : ChangeSpec := { name := "codeAppends", fn := fun _ => fun
  | [d1, d2, d3] => { results := [.lit (.bool true)], args := [d1, d2, d3] }
  | _ => none }
def codeAppendsRow : OpenClaim := { program := "ytlmdegpccodbgaa", sum := "958ab6f1063d43fa00a9c3627e38cd98f77be5f97994259362bd18a6c71bd1ba", func := "binnacle/binnaclelaw25.CodeAppends", spec := "codeAppends", unfollowed := true, recurses := true, apart := false }
def CodeAppendsSaid : Prop := codeAppendsRow.holds Try.pinned (OpenSpec.ofChange codeAppendsSpec)

/-- ITS FALSE NEIGHBOUR: 'it returns false'. Refute it at one input. -/
def codeAppendsWrong : ChangeSpec := { name := "codeAppends", fn := fun _ => fun
  | [d1, d2, d3] => { results := [.lit (.bool false)], args := [d1, d2, d3] }
  | _ => none }
def CodeAppendsWrongFalsely : Prop := codeAppendsRow.holds Try.pinned (OpenSpec.ofChange codeAppendsWrong)

/-- 'binnaclelaw25.CodeTakes': WHATEVER THE INPUT: true; the input reads as it did. -/
def codeTakesSpec : ChangeSpec := { name := "codeTakes", fn := fun _ => fun
  | [d1, d2, d3] => { results := [.lit (.bool true)], args := [d1, d2, d3] }
  | _ => none }
def codeTakesRow : OpenClaim := { program := "ytlmdegpccodbgaa", sum := "958ab6f1063d43fa00a9c3627e38cd98f77be5f97994259362bd18a6c71bd1ba", func := "binnacle/binnaclelaw25.CodeTakes", spec := "codeTakes", unfollowed := true, recurses := true, apart := false }
def CodeTakesSaid : Prop := codeTakesRow.holds Try.pinned (OpenSpec.ofChange codeTakesSpec)

/-- ITS FALSE NEIGHBOUR: 'it returns false'. Refute it at one input. -/
def codeTakesWrong : ChangeSpec := { name := "codeTakes", fn := fun _ => fun
  | [d1, d2, d3] => { results := [.lit (.bool false)], args := [d1, d2, d3] }
  | _ => none }
def CodeTakesWrongFalsely : Prop := codeTakesRow.holds Try.pinned (OpenSpec.ofChange codeTakesWrong)

/-- 'binnaclelaw25.CodeKnown': WHATEVER THE INPUT: true; the input reads as it did. -/
def codeKnownSpec : ChangeSpec := { name := "codeKnown", fn := fun _ => fun
  | [] => { results := [.lit (.bool true)], args := [] }
  | _ => none }
def codeKnownRow : OpenClaim := { program := "ytlmdegpccodbgaa", sum := "958ab6f1063d43fa00a9c3627e38cd98f77be5f97994259362bd18a6c71bd1ba", func := "binnacle/binnaclelaw25.CodeKnown", spec := "codeKnown", unfollowed := true, recurses := true, apart := false }
def CodeKnownSaid : Prop := codeKnownRow.holds Try.pinned (OpenSpec.ofChange codeKnownSpec)

/-- ITS FALSE NEIGHBOUR: 'it returns false'. Refute it at one input. -/
def codeKnownWrong : ChangeSpec := { name := "codeKnown", fn := fun _ => fun
  | [] => { results := [.lit (.bool false)], args := [] }
  | _ => none }
def CodeKnownWrongFalsely : Prop := codeKnownRow.holds Try.pinned (OpenSpec.ofChange codeKnownWrong)

/-- 'binnaclelaw25.CodeBack': WHATEVER THE INPUT: true; the input reads as it did. -/
def codeBackSpec : ChangeSpec := { name := "codeBack", fn := fun _ => fun
  | [d1, d2, d3] => { results := [.lit (.bool true)], args := [d1, d2, d3] }
  | _ => none }
def codeBackRow : OpenClaim := { program := "ytlmdegpccodbgaa", sum := "958ab6f1063d43fa00a9c3627e38cd98f77be5f97994259362bd18a6c71bd1ba", func := "binnacle/binnaclelaw25.CodeBack", spec := "codeBack", unfollowed := true, recurses := true, apart := false }
def CodeBackSaid : Prop := codeBackRow.holds Try.pinned (OpenSpec.ofChange codeBackSpec)

/-- ITS FALSE NEIGHBOUR: 'it returns false'. Refute it at one input. -/
def codeBackWrong : ChangeSpec := { name := "codeBack", fn := fun _ => fun
  | [d1, d2, d3] => { results := [.lit (.bool false)], args := [d1, d2, d3] }
  | _ => none }
def CodeBackWrongFalsely : Prop := codeBackRow.holds Try.pinned (OpenSpec.ofChange codeBackWrong)

/-- 'binnaclelaw25.CodeAgain': WHATEVER THE INPUT: true; the input reads as it did. -/
def codeAgainSpec : ChangeSpec := { name := "codeAgain", fn := fun _ => fun
  | [d1, d2, d3] => { results := [.lit (.bool true)], args := [d1, d2, d3] }
  | _ => none }
def codeAgainRow : OpenClaim := { program := "ytlmdegpccodbgaa", sum := "958ab6f1063d43fa00a9c3627e38cd98f77be5f97994259362bd18a6c71bd1ba", func := "binnacle/binnaclelaw25.CodeAgain", spec := "codeAgain", unfollowed := true, recurses := true, apart := false }
def CodeAgainSaid : Prop := codeAgainRow.holds Try.pinned (OpenSpec.ofChange codeAgainSpec)

/-- ITS FALSE NEIGHBOUR: 'it returns false'. Refute it at one input. -/
def codeAgainWrong : ChangeSpec := { name := "codeAgain", fn := fun _ => fun
  | [d1, d2, d3] => { results := [.lit (.bool false)], args := [d1, d2, d3] }
  | _ => none }
def CodeAgainWrongFalsely : Prop := codeAgainRow.holds Try.pinned (OpenSpec.ofChange codeAgainWrong)

/- THE SECOND FORM. 'bulk': how many values and letters a reading holds, each counted each time it is reached (what is shared counts as often as it is met; a slice's spare places count too). A statement '..UptoSaid' is the law's where the arguments, and the package variables that the reading takes, are together of bulk at most 1048576: NARROWER than '..Said'. Prove '..Said' where nothing that the law and all that it calls make is longer than what came in: it says more and counts as full. Else prove '..UptoSaid'. A law counts once. -/
mutual
def uptoBulk {H : Type} : DataW H → Nat
  | .lit (.string bytes) => bytes.length + 1
  | .lit _ => 1
  | .nil => 1
  | .ptr d => uptoBulk d + 1
  | .slice elems spare => uptoBulkAll elems + uptoBulkAll spare + 1
  | .agg parts => uptoBulkAll parts + 1
  | .iface _ d => uptoBulk d + 1
  | .map entries => uptoBulkEntries entries + 1
  | .held _ => 1
def uptoBulkAll {H : Type} : List (DataW H) → Nat
  | [] => 0
  | d :: r => uptoBulk d + uptoBulkAll r
def uptoBulkEntries {H : Type} : List (Lit × DataW H) → Nat
  | [] => 0
  | x :: r => uptoBulkEntry x + uptoBulkEntries r
def uptoBulkEntry {H : Type} : Lit × DataW H → Nat
  | (.string bytes, d) => bytes.length + uptoBulk d + 1
  | (_, d) => uptoBulk d + 1
 end
def uptoSmall : (H : Type) → List (DataW H) → Bool := fun _ ds => decide (uptoBulkAll ds ≤ 1048576)
def OpenSpec.upto (s : _root_.Go.ChangeSpec) : _root_.Go.OpenSpec := { _root_.Go.OpenSpec.ofChange s with cond := some uptoSmall }

/-- 'binnaclelaw31.BoundTells', WHERE WHAT IT READS IS OF BULK AT MOST 1048576: true; the input reads as it did. -/
def boundTellsUptoRow : OpenClaim := { program := "ytlmdegpccodbgaa", sum := "958ab6f1063d43fa00a9c3627e38cd98f77be5f97994259362bd18a6c71bd1ba", func := "binnacle/binnaclelaw31.BoundTells", spec := "boundTells", apart := false, narrowed := true }
def BoundTellsUptoSaid : Prop := boundTellsUptoRow.holds Try.pinned (OpenSpec.upto boundTellsSpec)

/-- 'binnaclelaw31.BoundKnown', WHERE WHAT IT READS IS OF BULK AT MOST 1048576: true; the input reads as it did. -/
def boundKnownUptoRow : OpenClaim := { program := "ytlmdegpccodbgaa", sum := "958ab6f1063d43fa00a9c3627e38cd98f77be5f97994259362bd18a6c71bd1ba", func := "binnacle/binnaclelaw31.BoundKnown", spec := "boundKnown", apart := false, narrowed := true }
def BoundKnownUptoSaid : Prop := boundKnownUptoRow.holds Try.pinned (OpenSpec.upto boundKnownSpec)

/-- 'binnaclelaw31.BoundGrows', WHERE WHAT IT READS IS OF BULK AT MOST 1048576: true; the input reads as it did. -/
def boundGrowsUptoRow : OpenClaim := { program := "ytlmdegpccodbgaa", sum := "958ab6f1063d43fa00a9c3627e38cd98f77be5f97994259362bd18a6c71bd1ba", func := "binnacle/binnaclelaw31.BoundGrows", spec := "boundGrows", apart := false, narrowed := true }
def BoundGrowsUptoSaid : Prop := boundGrowsUptoRow.holds Try.pinned (OpenSpec.upto boundGrowsSpec)

/-- 'binnaclelaw25.CodeOrder', WHERE WHAT IT READS IS OF BULK AT MOST 1048576: true; the input reads as it did. -/
def codeOrderUptoRow : OpenClaim := { program := "ytlmdegpccodbgaa", sum := "958ab6f1063d43fa00a9c3627e38cd98f77be5f97994259362bd18a6c71bd1ba", func := "binnacle/binnaclelaw25.CodeOrder", spec := "codeOrder", unfollowed := true, recurses := true, apart := false, narrowed := true }
def CodeOrderUptoSaid : Prop := codeOrderUptoRow.holds Try.pinned (OpenSpec.upto codeOrderSpec)

/-- 'binnaclelaw25.CodeAppends', WHERE WHAT IT READS IS OF BULK AT MOST 1048576: true; the input reads as it did. -/
def codeAppendsUptoRow : OpenClaim := { program := "ytlmdegpccodbgaa", sum := "958ab6f1063d43fa00a9c3627e38cd98f77be5f97994259362bd18a6c71bd1ba", func := "binnacle/binnaclelaw25.CodeAppends", spec := "codeAppends", unfollowed := true, recurses := true, apart := false, narrowed := true }
def CodeAppendsUptoSaid : Prop := codeAppendsUptoRow.holds Try.pinned (OpenSpec.upto codeAppendsSpec)

/-- 'binnaclelaw25.CodeTakes', WHERE WHAT IT READS IS OF BULK AT MOST 1048576: true; the input reads as it did. -/
def codeTakesUptoRow : OpenClaim := { program := "ytlmdegpccodbgaa", sum := "958ab6f1063d43fa00a9c3627e38cd98f77be5f97994259362bd18a6c71bd1ba", func := "binnacle/binnaclelaw25.CodeTakes", spec := "codeTakes", unfollowed := true, recurses := true, apart := false, narrowed := true }
def CodeTakesUptoSaid : Prop := codeTakesUptoRow.holds Try.pinned (OpenSpec.upto codeTakesSpec)

/-- 'binnaclelaw25.CodeKnown', WHERE WHAT IT READS IS OF BULK AT MOST 1048576: true; the input reads as it did. -/
def codeKnownUptoRow : OpenClaim := { program := "ytlmdegpccodbgaa", sum := "958ab6f1063d43fa00a9c3627e38cd98f77be5f97994259362bd18a6c71bd1ba", func := "binnacle/binnaclelaw25.CodeKnown", spec := "codeKnown", unfollowed := true, recurses := true, apart := false, narrowed := true }
def CodeKnownUptoSaid : Prop := codeKnownUptoRow.holds Try.pinned (OpenSpec.upto codeKnownSpec)

/-- 'binnaclelaw25.CodeBack', WHERE WHAT IT READS IS OF BULK AT MOST 1048576: true; the input reads as it did. -/
def codeBackUptoRow : OpenClaim := { program := "ytlmdegpccodbgaa", sum := "958ab6f1063d43fa00a9c3627e38cd98f77be5f97994259362bd18a6c71bd1ba", func := "binnacle/binnaclelaw25.CodeBack", spec := "codeBack", unfollowed := true, recurses := true, apart := false, narrowed := true }
def CodeBackUptoSaid : Prop := codeBackUptoRow.holds Try.pinned (OpenSpec.upto codeBackSpec)

/-- 'binnaclelaw25.CodeAgain', WHERE WHAT IT READS IS OF BULK AT MOST 1048576: true; the input reads as it did. -/
def codeAgainUptoRow : OpenClaim := { program := "ytlmdegpccodbgaa", sum := "958ab6f1063d43fa00a9c3627e38cd98f77be5f97994259362bd18a6c71bd1ba", func := "binnacle/binnaclelaw25.CodeAgain", spec := "codeAgain", unfollowed := true, recurses := true, apart := false, narrowed := true }
def CodeAgainUptoSaid : Prop := codeAgainUptoRow.holds Try.pinned (OpenSpec.upto codeAgainSpec)

end Rows
end Go.Proofs.Ytlmdegpccodbgaa
