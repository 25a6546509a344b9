/-
  No cell of these rows narrows 'for every input' (looked for: loops, veiled, ifaces, maps, wideKeys, modest, calm, conditions, laid).
  DERIVED. THE GIVEN ROWS OF THIS SEAT. 13 by the template 'for every input the law returns true; each argument reads behind the call as it read before'; 0 by the template 'total and deterministic' (their statements: YtepnaalgobhcdaaTotals.lean).
  GIVEN WITH THE SEED: the statements are not yours to turn. If you find one false, say at which input.
  Laid BY PROGRAM, IN A SANDBOX (cutbox-rows.mjs): the forced cells as the released guide's own fill.sh prints them over the translation 7c7990bdff32a231… (all of the seat's roots in one cut). By AI agents, Wed Nov 11 2026. No macro, syntax, notation, axiom, sorry.
-/
import Derived.Test.YtepnaalgobhcdaaChecked
import GoSem.Claim
import GoSem.ClaimJoined
import GoSem.ClaimMapViews
import Derived.JoinedTies
import Derived.KernelRfl
namespace Go.Proofs.Ytepnaalgobhcdaa
/- THE CELL 'sum', in the pinned program and in every row, IS THE sha256 OF THE DUMP (.gsa) THAT YtepnaalgobhcdaaProg.lean LOADS. Nothing in Lean hashes anything: it is a label: what it is worth is what the hold of that sum in a sandbox is worth. -/
noncomputable def Try.pinned : Pinned := { name := "ytepnaalgobhcdaa", sum := "7c7990bdff32a2317e6df0a3378c93f16384d9f4b438a33493c3f17ee877da90", checked := Try.checked }
namespace Rows
def none {H : Type} : Left H := { results := [], args := [] }

/-- 'clevislaw23.OrderRuns': WHATEVER THE INPUT: true; the input reads as it did. -/
def orderRunsSpec : ChangeSpec := { name := "orderRuns", fn := fun _ => fun
  | [d] => { results := [.lit (.bool true)], args := [d] }
  | _ => none }
def orderRunsRow : OpenClaim := { program := "ytepnaalgobhcdaa", sum := "7c7990bdff32a2317e6df0a3378c93f16384d9f4b438a33493c3f17ee877da90", func := "clevis/clevislaw23.OrderRuns", spec := "orderRuns", unfollowed := true, recurses := true, apart := false }
def OrderRunsSaid : Prop := orderRunsRow.holds Try.pinned (OpenSpec.ofChange orderRunsSpec)

/-- ITS FALSE NEIGHBOUR: 'it returns false'. Refute it at one input. -/
def orderRunsWrong : ChangeSpec := { name := "orderRuns", fn := fun _ => fun
  | [d] => { results := [.lit (.bool false)], args := [d] }
  | _ => none }
def OrderRunsWrongFalsely : Prop := orderRunsRow.holds Try.pinned (OpenSpec.ofChange orderRunsWrong)

/-- 'clevislaw23.OrderLast': WHATEVER THE INPUT: true; the input reads as it did. -/
def orderLastSpec : ChangeSpec := { name := "orderLast", fn := fun _ => fun
  | [d] => { results := [.lit (.bool true)], args := [d] }
  | _ => none }
def orderLastRow : OpenClaim := { program := "ytepnaalgobhcdaa", sum := "7c7990bdff32a2317e6df0a3378c93f16384d9f4b438a33493c3f17ee877da90", func := "clevis/clevislaw23.OrderLast", spec := "orderLast", unfollowed := true, recurses := true, apart := false }
def OrderLastSaid : Prop := orderLastRow.holds Try.pinned (OpenSpec.ofChange orderLastSpec)

/-- ITS FALSE NEIGHBOUR: 'it returns false'. Refute it at one input. -/
def orderLastWrong : ChangeSpec := { name := "orderLast", fn := fun _ => fun
  | [d] => { results := [.lit (.bool false)], args := [d] }
  | _ => none }
def OrderLastWrongFalsely : Prop := orderLastRow.holds Try.pinned (OpenSpec.ofChange orderLastWrong)

/-- 'clevislaw07.SpaceMany': WHATEVER THE INPUT: true; the input reads as it did. -/
def spaceManySpec : ChangeSpec := { name := "spaceMany", fn := fun _ => fun
  | [d1, d2] => { results := [.lit (.bool true)], args := [d1, d2] }
  | _ => none }
def spaceManyRow : OpenClaim := { program := "ytepnaalgobhcdaa", sum := "7c7990bdff32a2317e6df0a3378c93f16384d9f4b438a33493c3f17ee877da90", func := "clevis/clevislaw07.SpaceMany", spec := "spaceMany", apart := false }
def SpaceManySaid : Prop := spaceManyRow.holds Try.pinned (OpenSpec.ofChange spaceManySpec)

/-- ITS FALSE NEIGHBOUR: 'it returns false'. Refute it at one input. -/
def spaceManyWrong : ChangeSpec := { name := "spaceMany", fn := fun _ => fun
  | [d1, d2] => { results := [.lit (.bool false)], args := [d1, d2] }
  | _ => none }
def SpaceManyWrongFalsely : Prop := spaceManyRow.holds Try.pinned (OpenSpec.ofChange spaceManyWrong)

/-- 'clevislaw07.SpaceCopies': WHATEVER THE INPUT: true; the input reads as it did. -/
def spaceCopiesSpec : ChangeSpec := { name := "spaceCopies", fn := fun _ => fun
  | [d1, d2, d3] => { results := [.lit (.bool true)], args := [d1, d2, d3] }
  | _ => none }
def spaceCopiesRow : OpenClaim := { program := "ytepnaalgobhcdaa", sum := "7c7990bdff32a2317e6df0a3378c93f16384d9f4b438a33493c3f17ee877da90", func := "clevis/clevislaw07.SpaceCopies", spec := "spaceCopies", unfollowed := true, recurses := true, apart := false }
def SpaceCopiesSaid : Prop := spaceCopiesRow.holds Try.pinned (OpenSpec.ofChange spaceCopiesSpec)

/-- ITS FALSE NEIGHBOUR: 'it returns false'. Refute it at one input. -/
def spaceCopiesWrong : ChangeSpec := { name := "spaceCopies", fn := fun _ => fun
  | [d1, d2, d3] => { results := [.lit (.bool false)], args := [d1, d2, d3] }
  | _ => none }
def SpaceCopiesWrongFalsely : Prop := spaceCopiesRow.holds Try.pinned (OpenSpec.ofChange spaceCopiesWrong)

/-- 'clevislaw07.SpaceNil': WHATEVER THE INPUT: true; the input reads as it did. -/
def spaceNilSpec : ChangeSpec := { name := "spaceNil", fn := fun _ => fun
  | [] => { results := [.lit (.bool true)], args := [] }
  | _ => none }
def spaceNilRow : OpenClaim := { program := "ytepnaalgobhcdaa", sum := "7c7990bdff32a2317e6df0a3378c93f16384d9f4b438a33493c3f17ee877da90", func := "clevis/clevislaw07.SpaceNil", spec := "spaceNil", unfollowed := true, recurses := true, apart := false }
def SpaceNilSaid : Prop := spaceNilRow.holds Try.pinned (OpenSpec.ofChange spaceNilSpec)

/-- ITS FALSE NEIGHBOUR: 'it returns false'. Refute it at one input. -/
def spaceNilWrong : ChangeSpec := { name := "spaceNil", fn := fun _ => fun
  | [] => { results := [.lit (.bool false)], args := [] }
  | _ => none }
def SpaceNilWrongFalsely : Prop := spaceNilRow.holds Try.pinned (OpenSpec.ofChange spaceNilWrong)

/-- 'clevislaw21.InterposePairs': WHATEVER THE INPUT: true; the input reads as it did. -/
def interposePairsSpec : ChangeSpec := { name := "interposePairs", fn := fun _ => fun
  | [d1, d2] => { results := [.lit (.bool true)], args := [d1, d2] }
  | _ => none }
def interposePairsRow : OpenClaim := { program := "ytepnaalgobhcdaa", sum := "7c7990bdff32a2317e6df0a3378c93f16384d9f4b438a33493c3f17ee877da90", func := "clevis/clevislaw21.InterposePairs", spec := "interposePairs", unfollowed := true, recurses := true, apart := false }
def InterposePairsSaid : Prop := interposePairsRow.holds Try.pinned (OpenSpec.ofChange interposePairsSpec)

/-- ITS FALSE NEIGHBOUR: 'it returns false'. Refute it at one input. -/
def interposePairsWrong : ChangeSpec := { name := "interposePairs", fn := fun _ => fun
  | [d1, d2] => { results := [.lit (.bool false)], args := [d1, d2] }
  | _ => none }
def InterposePairsWrongFalsely : Prop := interposePairsRow.holds Try.pinned (OpenSpec.ofChange interposePairsWrong)

/-- 'clevislaw21.InterposeMaps': WHATEVER THE INPUT: true; the input reads as it did. -/
def interposeMapsSpec : ChangeSpec := { name := "interposeMaps", fn := fun _ => fun
  | [d1, d2, d3, d4] => { results := [.lit (.bool true)], args := [d1, d2, d3, d4] }
  | _ => none }
def interposeMapsRow : OpenClaim := { program := "ytepnaalgobhcdaa", sum := "7c7990bdff32a2317e6df0a3378c93f16384d9f4b438a33493c3f17ee877da90", func := "clevis/clevislaw21.InterposeMaps", spec := "interposeMaps", unfollowed := true, recurses := true, apart := false }
def InterposeMapsSaid : Prop := interposeMapsRow.holds Try.pinned (OpenSpec.ofChange interposeMapsSpec)

/-- ITS FALSE NEIGHBOUR: 'it returns false'. Refute it at one input. -/
def interposeMapsWrong : ChangeSpec := { name := "interposeMaps", fn := fun _ => fun
  | [d1, d2, d3, d4] => { results := [.lit (.bool false)], args := [d1, d2, d3, d4] }
  | _ => none }
def InterposeMapsWrongFalsely : Prop := interposeMapsRow.holds Try.pinned (OpenSpec.ofChange interposeMapsWrong)

/-- 'clevislaw21.InterposeBounds': WHATEVER THE INPUT: true; the input reads as it did. -/
def interposeBoundsSpec : ChangeSpec := { name := "interposeBounds", fn := fun _ => fun
  | [] => { results := [.lit (.bool true)], args := [] }
  | _ => none }
def interposeBoundsRow : OpenClaim := { program := "ytepnaalgobhcdaa", sum := "7c7990bdff32a2317e6df0a3378c93f16384d9f4b438a33493c3f17ee877da90", func := "clevis/clevislaw21.InterposeBounds", spec := "interposeBounds", unfollowed := true, recurses := true, apart := false }
def InterposeBoundsSaid : Prop := interposeBoundsRow.holds Try.pinned (OpenSpec.ofChange interposeBoundsSpec)

/-- ITS FALSE NEIGHBOUR: 'it returns false'. Refute it at one input. -/
def interposeBoundsWrong : ChangeSpec := { name := "interposeBounds", fn := fun _ => fun
  | [] => { results := [.lit (.bool false)], args := [] }
  | _ => none }
def InterposeBoundsWrongFalsely : Prop := interposeBoundsRow.holds Try.pinned (OpenSpec.ofChange interposeBoundsWrong)

/-- 'clevislaw21.InterposeFirst': WHATEVER THE INPUT: true; the input reads as it did. -/
def interposeFirstSpec : ChangeSpec := { name := "interposeFirst", fn := fun _ => fun
  | [d1, d2, d3, d4] => { results := [.lit (.bool true)], args := [d1, d2, d3, d4] }
  | _ => none }
def interposeFirstRow : OpenClaim := { program := "ytepnaalgobhcdaa", sum := "7c7990bdff32a2317e6df0a3378c93f16384d9f4b438a33493c3f17ee877da90", func := "clevis/clevislaw21.InterposeFirst", spec := "interposeFirst", unfollowed := true, recurses := true, apart := false }
def InterposeFirstSaid : Prop := interposeFirstRow.holds Try.pinned (OpenSpec.ofChange interposeFirstSpec)

/-- ITS FALSE NEIGHBOUR: 'it returns false'. Refute it at one input. -/
def interposeFirstWrong : ChangeSpec := { name := "interposeFirst", fn := fun _ => fun
  | [d1, d2, d3, d4] => { results := [.lit (.bool false)], args := [d1, d2, d3, d4] }
  | _ => none }
def InterposeFirstWrongFalsely : Prop := interposeFirstRow.holds Try.pinned (OpenSpec.ofChange interposeFirstWrong)

/-- 'clevislaw23.OrderKinds': WHATEVER THE INPUT: true; the input reads as it did. -/
def orderKindsSpec : ChangeSpec := { name := "orderKinds", fn := fun _ => fun
  | [d1, d2] => { results := [.lit (.bool true)], args := [d1, d2] }
  | _ => none }
def orderKindsRow : OpenClaim := { program := "ytepnaalgobhcdaa", sum := "7c7990bdff32a2317e6df0a3378c93f16384d9f4b438a33493c3f17ee877da90", func := "clevis/clevislaw23.OrderKinds", spec := "orderKinds", unfollowed := true, recurses := true, apart := false }
def OrderKindsSaid : Prop := orderKindsRow.holds Try.pinned (OpenSpec.ofChange orderKindsSpec)

/-- ITS FALSE NEIGHBOUR: 'it returns false'. Refute it at one input. -/
def orderKindsWrong : ChangeSpec := { name := "orderKinds", fn := fun _ => fun
  | [d1, d2] => { results := [.lit (.bool false)], args := [d1, d2] }
  | _ => none }
def OrderKindsWrongFalsely : Prop := orderKindsRow.holds Try.pinned (OpenSpec.ofChange orderKindsWrong)

/-- 'clevislaw23.OrderBounds': WHATEVER THE INPUT: true; the input reads as it did. -/
def orderBoundsSpec : ChangeSpec := { name := "orderBounds", fn := fun _ => fun
  | [] => { results := [.lit (.bool true)], args := [] }
  | _ => none }
def orderBoundsRow : OpenClaim := { program := "ytepnaalgobhcdaa", sum := "7c7990bdff32a2317e6df0a3378c93f16384d9f4b438a33493c3f17ee877da90", func := "clevis/clevislaw23.OrderBounds", spec := "orderBounds", unfollowed := true, recurses := true, apart := false }
def OrderBoundsSaid : Prop := orderBoundsRow.holds Try.pinned (OpenSpec.ofChange orderBoundsSpec)

/-- ITS FALSE NEIGHBOUR: 'it returns false'. Refute it at one input. -/
def orderBoundsWrong : ChangeSpec := { name := "orderBounds", fn := fun _ => fun
  | [] => { results := [.lit (.bool false)], args := [] }
  | _ => none }
def OrderBoundsWrongFalsely : Prop := orderBoundsRow.holds Try.pinned (OpenSpec.ofChange orderBoundsWrong)

/-- 'clevislaw23.OrderInits': WHATEVER THE INPUT: true; the input reads as it did. -/
def orderInitsSpec : ChangeSpec := { name := "orderInits", fn := fun _ => fun
  | [d1, d2] => { results := [.lit (.bool true)], args := [d1, d2] }
  | _ => none }
def orderInitsRow : OpenClaim := { program := "ytepnaalgobhcdaa", sum := "7c7990bdff32a2317e6df0a3378c93f16384d9f4b438a33493c3f17ee877da90", func := "clevis/clevislaw23.OrderInits", spec := "orderInits", unfollowed := true, recurses := true, apart := false }
def OrderInitsSaid : Prop := orderInitsRow.holds Try.pinned (OpenSpec.ofChange orderInitsSpec)

/-- ITS FALSE NEIGHBOUR: 'it returns false'. Refute it at one input. -/
def orderInitsWrong : ChangeSpec := { name := "orderInits", fn := fun _ => fun
  | [d1, d2] => { results := [.lit (.bool false)], args := [d1, d2] }
  | _ => none }
def OrderInitsWrongFalsely : Prop := orderInitsRow.holds Try.pinned (OpenSpec.ofChange orderInitsWrong)

/-- 'clevislaw07.SpacePlays': WHATEVER THE INPUT: true; the input reads as it did. -/
def spacePlaysSpec : ChangeSpec := { name := "spacePlays", fn := fun _ => fun
  | [d1, d2] => { results := [.lit (.bool true)], args := [d1, d2] }
  | _ => none }
def spacePlaysRow : OpenClaim := { program := "ytepnaalgobhcdaa", sum := "7c7990bdff32a2317e6df0a3378c93f16384d9f4b438a33493c3f17ee877da90", func := "clevis/clevislaw07.SpacePlays", spec := "spacePlays", unfollowed := true, recurses := true, apart := false }
def SpacePlaysSaid : Prop := spacePlaysRow.holds Try.pinned (OpenSpec.ofChange spacePlaysSpec)

/-- ITS FALSE NEIGHBOUR: 'it returns false'. Refute it at one input. -/
def spacePlaysWrong : ChangeSpec := { name := "spacePlays", fn := fun _ => fun
  | [d1, d2] => { results := [.lit (.bool false)], args := [d1, d2] }
  | _ => none }
def SpacePlaysWrongFalsely : Prop := spacePlaysRow.holds Try.pinned (OpenSpec.ofChange spacePlaysWrong)

/- THE SECOND FORM. 'bulk': how many values and letters a reading holds, each counted each time it is reached (what is shared counts as often as it is met; a slice's spare places count too). A statement '..UptoSaid' is the law's where the arguments, and the package variables that the reading takes, are together of bulk at most 1048576: NARROWER than '..Said'. Prove '..Said' where nothing that the law and all that it calls make is longer than what came in: it says more and counts as full. Else prove '..UptoSaid'. A law counts once. -/
mutual
def uptoBulk {H : Type} : DataW H → Nat
  | .lit (.string bytes) => bytes.length + 1
  | .lit _ => 1
  | .nil => 1
  | .ptr d => uptoBulk d + 1
  | .slice elems spare => uptoBulkAll elems + uptoBulkAll spare + 1
  | .agg parts => uptoBulkAll parts + 1
  | .iface _ d => uptoBulk d + 1
  | .map entries => uptoBulkEntries entries + 1
  | .held _ => 1
def uptoBulkAll {H : Type} : List (DataW H) → Nat
  | [] => 0
  | d :: r => uptoBulk d + uptoBulkAll r
def uptoBulkEntries {H : Type} : List (Lit × DataW H) → Nat
  | [] => 0
  | x :: r => uptoBulkEntry x + uptoBulkEntries r
def uptoBulkEntry {H : Type} : Lit × DataW H → Nat
  | (.string bytes, d) => bytes.length + uptoBulk d + 1
  | (_, d) => uptoBulk d + 1
 end
def uptoSmall : (H : Type) → List (DataW H) → Bool := fun _ ds => decide (uptoBulkAll ds ≤ 1048576)
def OpenSpec.upto (s : _root_.Go.ChangeSpec) : _root_.Go.OpenSpec := { _root_.Go.OpenSpec.ofChange s with cond := some uptoSmall }

/-- 'clevislaw23.OrderRuns', WHERE WHAT IT READS IS OF BULK AT MOST 1048576: true; the input reads as it did. -/
def orderRunsUptoRow : OpenClaim := { program := "ytepnaalgobhcdaa", sum := "7c7990bdff32a2317e6df0a3378c93f16384d9f4b438a33493c3f17ee877da90", func := "clevis/clevislaw23.OrderRuns", spec := "orderRuns", unfollowed := true, recurses := true, apart := false, narrowed := true }
def OrderRunsUptoSaid : Prop := orderRunsUptoRow.holds Try.pinned (OpenSpec.upto orderRunsSpec)

/-- 'clevislaw23.OrderLast', WHERE WHAT IT READS IS OF BULK AT MOST 1048576: true; the input reads as it did. -/
def orderLastUptoRow : OpenClaim := { program := "ytepnaalgobhcdaa", sum := "7c7990bdff32a2317e6df0a3378c93f16384d9f4b438a33493c3f17ee877da90", func := "clevis/clevislaw23.OrderLast", spec := "orderLast", unfollowed := true, recurses := true, apart := false, narrowed := true }
def OrderLastUptoSaid : Prop := orderLastUptoRow.holds Try.pinned (OpenSpec.upto orderLastSpec)

/-- 'clevislaw07.SpaceMany', WHERE WHAT IT READS IS OF BULK AT MOST 1048576: true; the input reads as it did. -/
def spaceManyUptoRow : OpenClaim := { program := "ytepnaalgobhcdaa", sum := "7c7990bdff32a2317e6df0a3378c93f16384d9f4b438a33493c3f17ee877da90", func := "clevis/clevislaw07.SpaceMany", spec := "spaceMany", apart := false, narrowed := true }
def SpaceManyUptoSaid : Prop := spaceManyUptoRow.holds Try.pinned (OpenSpec.upto spaceManySpec)

/-- 'clevislaw07.SpaceCopies', WHERE WHAT IT READS IS OF BULK AT MOST 1048576: true; the input reads as it did. -/
def spaceCopiesUptoRow : OpenClaim := { program := "ytepnaalgobhcdaa", sum := "7c7990bdff32a2317e6df0a3378c93f16384d9f4b438a33493c3f17ee877da90", func := "clevis/clevislaw07.SpaceCopies", spec := "spaceCopies", unfollowed := true, recurses := true, apart := false, narrowed := true }
def SpaceCopiesUptoSaid : Prop := spaceCopiesUptoRow.holds Try.pinned (OpenSpec.upto spaceCopiesSpec)

/-- 'clevislaw07.SpaceNil', WHERE WHAT IT READS IS OF BULK AT MOST 1048576: true; the input reads as it did. -/
def spaceNilUptoRow : OpenClaim := { program := "ytepnaalgobhcdaa", sum := "7c7990bdff32a2317e6df0a3378c93f16384d9f4b438a33493c3f17ee877da90", func := "clevis/clevislaw07.SpaceNil", spec := "spaceNil", unfollowed := true, recurses := true, apart := false, narrowed := true }
def SpaceNilUptoSaid : Prop := spaceNilUptoRow.holds Try.pinned (OpenSpec.upto spaceNilSpec)

/-- 'clevislaw21.InterposePairs', WHERE WHAT IT READS IS OF BULK AT MOST 1048576: true; the input reads as it did. -/
def interposePairsUptoRow : OpenClaim := { program := "ytepnaalgobhcdaa", sum := "7c7990bdff32a2317e6df0a3378c93f16384d9f4b438a33493c3f17ee877da90", func := "clevis/clevislaw21.InterposePairs", spec := "interposePairs", unfollowed := true, recurses := true, apart := false, narrowed := true }
def InterposePairsUptoSaid : Prop := interposePairsUptoRow.holds Try.pinned (OpenSpec.upto interposePairsSpec)

/-- 'clevislaw21.InterposeMaps', WHERE WHAT IT READS IS OF BULK AT MOST 1048576: true; the input reads as it did. -/
def interposeMapsUptoRow : OpenClaim := { program := "ytepnaalgobhcdaa", sum := "7c7990bdff32a2317e6df0a3378c93f16384d9f4b438a33493c3f17ee877da90", func := "clevis/clevislaw21.InterposeMaps", spec := "interposeMaps", unfollowed := true, recurses := true, apart := false, narrowed := true }
def InterposeMapsUptoSaid : Prop := interposeMapsUptoRow.holds Try.pinned (OpenSpec.upto interposeMapsSpec)

/-- 'clevislaw21.InterposeBounds', WHERE WHAT IT READS IS OF BULK AT MOST 1048576: true; the input reads as it did. -/
def interposeBoundsUptoRow : OpenClaim := { program := "ytepnaalgobhcdaa", sum := "7c7990bdff32a2317e6df0a3378c93f16384d9f4b438a33493c3f17ee877da90", func := "clevis/clevislaw21.InterposeBounds", spec := "interposeBounds", unfollowed := true, recurses := true, apart := false, narrowed := true }
def InterposeBoundsUptoSaid : Prop := interposeBoundsUptoRow.holds Try.pinned (OpenSpec.upto interposeBoundsSpec)

/-- 'clevislaw21.InterposeFirst', WHERE WHAT IT READS IS OF BULK AT MOST 1048576: true; the input reads as it did. -/
def interposeFirstUptoRow : OpenClaim := { program := "ytepnaalgobhcdaa", sum := "7c7990bdff32a2317e6df0a3378c93f16384d9f4b438a33493c3f17ee877da90", func := "clevis/clevislaw21.InterposeFirst", spec := "interposeFirst", unfollowed := true, recurses := true, apart := false, narrowed := true }
def InterposeFirstUptoSaid : Prop := interposeFirstUptoRow.holds Try.pinned (OpenSpec.upto interposeFirstSpec)

/-- 'clevislaw23.OrderKinds', WHERE WHAT IT READS IS OF BULK AT MOST 1048576: true; the input reads as it did. -/
def orderKindsUptoRow : OpenClaim := { program := "ytepnaalgobhcdaa", sum := "7c7990bdff32a2317e6df0a3378c93f16384d9f4b438a33493c3f17ee877da90", func := "clevis/clevislaw23.OrderKinds", spec := "orderKinds", unfollowed := true, recurses := true, apart := false, narrowed := true }
def OrderKindsUptoSaid : Prop := orderKindsUptoRow.holds Try.pinned (OpenSpec.upto orderKindsSpec)

/-- 'clevislaw23.OrderBounds', WHERE WHAT IT READS IS OF BULK AT MOST 1048576: true; the input reads as it did. -/
def orderBoundsUptoRow : OpenClaim := { program := "ytepnaalgobhcdaa", sum := "7c7990bdff32a2317e6df0a3378c93f16384d9f4b438a33493c3f17ee877da90", func := "clevis/clevislaw23.OrderBounds", spec := "orderBounds", unfollowed := true, recurses := true, apart := false, narrowed := true }
def OrderBoundsUptoSaid : Prop := orderBoundsUptoRow.holds Try.pinned (OpenSpec.upto orderBoundsSpec)

/-- 'clevislaw23.OrderInits', WHERE WHAT IT READS IS OF BULK AT MOST 1048576: true; the input reads as it did. -/
def orderInitsUptoRow : OpenClaim := { program := "ytepnaalgobhcdaa", sum := "7c7990bdff32a2317e6df0a3378c93f16384d9f4b438a33493c3f17ee877da90", func := "clevis/clevislaw23.OrderInits", spec := "orderInits", unfollowed := true, recurses := true, apart := false, narrowed := true }
def OrderInitsUptoSaid : Prop := orderInitsUptoRow.holds Try.pinned (OpenSpec.upto orderInitsSpec)

/-- 'clevislaw07.SpacePlays', WHERE WHAT IT READS IS OF BULK AT MOST 1048576: true; the input reads as it did. -/
def spacePlaysUptoRow : OpenClaim := { program := "ytepnaalgobhcdaa", sum := "7c7990bdff32a2317e6df0a3378c93f16384d9f4b438a33493c3f17ee877da90", func := "clevis/clevislaw07.SpacePlays", spec := "spacePlays", unfollowed := true, recurses := true, apart := false, narrowed := true }
def SpacePlaysUptoSaid : Prop := spacePlaysUptoRow.holds Try.pinned (OpenSpec.upto spacePlaysSpec)

end Rows
end Go.Proofs.Ytepnaalgobhcdaa
