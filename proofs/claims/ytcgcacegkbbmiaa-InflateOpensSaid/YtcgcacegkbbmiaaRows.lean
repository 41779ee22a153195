/-
  No cell of these rows narrows 'for every input' (looked for: loops, veiled, ifaces, maps, wideKeys, modest, calm, conditions, laid).
  DERIVED. THE GIVEN ROWS OF THIS SEAT. 6 by the template 'for every input the law returns true; each argument reads behind the call as it read before'; 0 by the template 'total and deterministic' (their statements: YtcgcacegkbbmiaaTotals.lean).
  GIVEN WITH THE SEED: the statements are not yours to turn. If you find one false, say at which input.
  Laid BY PROGRAM, IN A SANDBOX (cutbox-rows.mjs): the forced cells as the released guide's own fill.sh prints them over the translation 99e200a2a7bae4b0… (all of the seat's roots in one cut). By AI agents, Wed Nov 11 2026. No macro, syntax, notation, axiom, sorry.
-/
import Derived.Test.YtcgcacegkbbmiaaChecked
import GoSem.Claim
import GoSem.ClaimJoined
import GoSem.ClaimMapViews
import Derived.JoinedTies
import Derived.KernelRfl
namespace Go.Proofs.Ytcgcacegkbbmiaa
/- THE CELL 'sum', in the pinned program and in every row, IS THE sha256 OF THE DUMP (.gsa) THAT YtcgcacegkbbmiaaProg.lean LOADS. Nothing in Lean hashes anything: it is a label: what it is worth is what the hold of that sum in a sandbox is worth. -/
noncomputable def Try.pinned : Pinned := { name := "ytcgcacegkbbmiaa", sum := "99e200a2a7bae4b0be4cdc63a61fc5fc8c5ad7f55c88532d4dadea005213ba0e", checked := Try.checked }
namespace Rows
def none {H : Type} : Left H := { results := [], args := [] }

/-- 'engrosserlaw10.InflateOpens': WHATEVER THE INPUT: true; the input reads as it did. -/
def inflateOpensSpec : ChangeSpec := { name := "inflateOpens", fn := fun _ => fun
  | [d1, d2] => { results := [.lit (.bool true)], args := [d1, d2] }
  | _ => none }
def inflateOpensRow : OpenClaim := { program := "ytcgcacegkbbmiaa", sum := "99e200a2a7bae4b0be4cdc63a61fc5fc8c5ad7f55c88532d4dadea005213ba0e", func := "engrosser/engrosserlaw10.InflateOpens", spec := "inflateOpens", unfollowed := true, recurses := true, plainKeys := false, apart := false }
def InflateOpensSaid : Prop := inflateOpensRow.holds Try.pinned (OpenSpec.ofChange inflateOpensSpec)

/-- ITS FALSE NEIGHBOUR: 'it returns false'. Refute it at one input. -/
def inflateOpensWrong : ChangeSpec := { name := "inflateOpens", fn := fun _ => fun
  | [d1, d2] => { results := [.lit (.bool false)], args := [d1, d2] }
  | _ => none }
def InflateOpensWrongFalsely : Prop := inflateOpensRow.holds Try.pinned (OpenSpec.ofChange inflateOpensWrong)

/-- 'engrosserlaw10.InflateSymbols': WHATEVER THE INPUT: true; the input reads as it did. -/
def inflateSymbolsSpec : ChangeSpec := { name := "inflateSymbols", fn := fun _ => fun
  | [d] => { results := [.lit (.bool true)], args := [d] }
  | _ => none }
def inflateSymbolsRow : OpenClaim := { program := "ytcgcacegkbbmiaa", sum := "99e200a2a7bae4b0be4cdc63a61fc5fc8c5ad7f55c88532d4dadea005213ba0e", func := "engrosser/engrosserlaw10.InflateSymbols", spec := "inflateSymbols", unfollowed := true, recurses := true, plainKeys := false, apart := false }
def InflateSymbolsSaid : Prop := inflateSymbolsRow.holds Try.pinned (OpenSpec.ofChange inflateSymbolsSpec)

/-- ITS FALSE NEIGHBOUR: 'it returns false'. Refute it at one input. -/
def inflateSymbolsWrong : ChangeSpec := { name := "inflateSymbols", fn := fun _ => fun
  | [d] => { results := [.lit (.bool false)], args := [d] }
  | _ => none }
def InflateSymbolsWrongFalsely : Prop := inflateSymbolsRow.holds Try.pinned (OpenSpec.ofChange inflateSymbolsWrong)

/-- 'engrosserlaw10.InflateStored': WHATEVER THE INPUT: true; the input reads as it did. -/
def inflateStoredSpec : ChangeSpec := { name := "inflateStored", fn := fun _ => fun
  | [d1, d2, d3] => { results := [.lit (.bool true)], args := [d1, d2, d3] }
  | _ => none }
def inflateStoredRow : OpenClaim := { program := "ytcgcacegkbbmiaa", sum := "99e200a2a7bae4b0be4cdc63a61fc5fc8c5ad7f55c88532d4dadea005213ba0e", func := "engrosser/engrosserlaw10.InflateStored", spec := "inflateStored", unfollowed := true, recurses := true, plainKeys := false, apart := false }
def InflateStoredSaid : Prop := inflateStoredRow.holds Try.pinned (OpenSpec.ofChange inflateStoredSpec)

/-- ITS FALSE NEIGHBOUR: 'it returns false'. Refute it at one input. -/
def inflateStoredWrong : ChangeSpec := { name := "inflateStored", fn := fun _ => fun
  | [d1, d2, d3] => { results := [.lit (.bool false)], args := [d1, d2, d3] }
  | _ => none }
def InflateStoredWrongFalsely : Prop := inflateStoredRow.holds Try.pinned (OpenSpec.ofChange inflateStoredWrong)

/-- 'engrosserlaw10.InflateLimits': WHATEVER THE INPUT: true; the input reads as it did. -/
def inflateLimitsSpec : ChangeSpec := { name := "inflateLimits", fn := fun _ => fun
  | [d1, d2] => { results := [.lit (.bool true)], args := [d1, d2] }
  | _ => none }
def inflateLimitsRow : OpenClaim := { program := "ytcgcacegkbbmiaa", sum := "99e200a2a7bae4b0be4cdc63a61fc5fc8c5ad7f55c88532d4dadea005213ba0e", func := "engrosser/engrosserlaw10.InflateLimits", spec := "inflateLimits", unfollowed := true, recurses := true, plainKeys := false, apart := false }
def InflateLimitsSaid : Prop := inflateLimitsRow.holds Try.pinned (OpenSpec.ofChange inflateLimitsSpec)

/-- ITS FALSE NEIGHBOUR: 'it returns false'. Refute it at one input. -/
def inflateLimitsWrong : ChangeSpec := { name := "inflateLimits", fn := fun _ => fun
  | [d1, d2] => { results := [.lit (.bool false)], args := [d1, d2] }
  | _ => none }
def InflateLimitsWrongFalsely : Prop := inflateLimitsRow.holds Try.pinned (OpenSpec.ofChange inflateLimitsWrong)

/-- 'engrosserlaw10.InflateEnds': WHATEVER THE INPUT: true; the input reads as it did. -/
def inflateEndsSpec : ChangeSpec := { name := "inflateEnds", fn := fun _ => fun
  | [d1, d2, d3] => { results := [.lit (.bool true)], args := [d1, d2, d3] }
  | _ => none }
def inflateEndsRow : OpenClaim := { program := "ytcgcacegkbbmiaa", sum := "99e200a2a7bae4b0be4cdc63a61fc5fc8c5ad7f55c88532d4dadea005213ba0e", func := "engrosser/engrosserlaw10.InflateEnds", spec := "inflateEnds", unfollowed := true, recurses := true, plainKeys := false, apart := false }
def InflateEndsSaid : Prop := inflateEndsRow.holds Try.pinned (OpenSpec.ofChange inflateEndsSpec)

/-- ITS FALSE NEIGHBOUR: 'it returns false'. Refute it at one input. -/
def inflateEndsWrong : ChangeSpec := { name := "inflateEnds", fn := fun _ => fun
  | [d1, d2, d3] => { results := [.lit (.bool false)], args := [d1, d2, d3] }
  | _ => none }
def InflateEndsWrongFalsely : Prop := inflateEndsRow.holds Try.pinned (OpenSpec.ofChange inflateEndsWrong)

/-- 'engrosserlaw10.InflateFixed': WHATEVER THE INPUT: true; the input reads as it did. -/
def inflateFixedSpec : ChangeSpec := { name := "inflateFixed", fn := fun _ => fun
  | [d1, d2] => { results := [.lit (.bool true)], args := [d1, d2] }
  | _ => none }
def inflateFixedRow : OpenClaim := { program := "ytcgcacegkbbmiaa", sum := "99e200a2a7bae4b0be4cdc63a61fc5fc8c5ad7f55c88532d4dadea005213ba0e", func := "engrosser/engrosserlaw10.InflateFixed", spec := "inflateFixed", unfollowed := true, recurses := true, plainKeys := false, apart := false }
def InflateFixedSaid : Prop := inflateFixedRow.holds Try.pinned (OpenSpec.ofChange inflateFixedSpec)

/-- ITS FALSE NEIGHBOUR: 'it returns false'. Refute it at one input. -/
def inflateFixedWrong : ChangeSpec := { name := "inflateFixed", fn := fun _ => fun
  | [d1, d2] => { results := [.lit (.bool false)], args := [d1, d2] }
  | _ => none }
def InflateFixedWrongFalsely : Prop := inflateFixedRow.holds Try.pinned (OpenSpec.ofChange inflateFixedWrong)

/- THE SECOND FORM. 'bulk': how many values and letters a reading holds, each counted each time it is reached (what is shared counts as often as it is met; a slice's spare places count too). A statement '..UptoSaid' is the law's where the arguments, and the package variables that the reading takes, are together of bulk at most 1048576: NARROWER than '..Said'. Prove '..Said' where nothing that the law and all that it calls make is longer than what came in: it says more and counts as full. Else prove '..UptoSaid'. A law counts once. -/
mutual
def uptoBulk {H : Type} : DataW H → Nat
  | .lit (.string bytes) => bytes.length + 1
  | .lit _ => 1
  | .nil => 1
  | .ptr d => uptoBulk d + 1
  | .slice elems spare => uptoBulkAll elems + uptoBulkAll spare + 1
  | .agg parts => uptoBulkAll parts + 1
  | .iface _ d => uptoBulk d + 1
  | .map entries => uptoBulkEntries entries + 1
  | .held _ => 1
def uptoBulkAll {H : Type} : List (DataW H) → Nat
  | [] => 0
  | d :: r => uptoBulk d + uptoBulkAll r
def uptoBulkEntries {H : Type} : List (Lit × DataW H) → Nat
  | [] => 0
  | x :: r => uptoBulkEntry x + uptoBulkEntries r
def uptoBulkEntry {H : Type} : Lit × DataW H → Nat
  | (.string bytes, d) => bytes.length + uptoBulk d + 1
  | (_, d) => uptoBulk d + 1
 end
def uptoSmall : (H : Type) → List (DataW H) → Bool := fun _ ds => decide (uptoBulkAll ds ≤ 1048576)
def OpenSpec.upto (s : _root_.Go.ChangeSpec) : _root_.Go.OpenSpec := { _root_.Go.OpenSpec.ofChange s with cond := some uptoSmall }

/-- 'engrosserlaw10.InflateOpens', WHERE WHAT IT READS IS OF BULK AT MOST 1048576: true; the input reads as it did. -/
def inflateOpensUptoRow : OpenClaim := { program := "ytcgcacegkbbmiaa", sum := "99e200a2a7bae4b0be4cdc63a61fc5fc8c5ad7f55c88532d4dadea005213ba0e", func := "engrosser/engrosserlaw10.InflateOpens", spec := "inflateOpens", unfollowed := true, recurses := true, plainKeys := false, apart := false, narrowed := true }
def InflateOpensUptoSaid : Prop := inflateOpensUptoRow.holds Try.pinned (OpenSpec.upto inflateOpensSpec)

/-- 'engrosserlaw10.InflateSymbols', WHERE WHAT IT READS IS OF BULK AT MOST 1048576: true; the input reads as it did. -/
def inflateSymbolsUptoRow : OpenClaim := { program := "ytcgcacegkbbmiaa", sum := "99e200a2a7bae4b0be4cdc63a61fc5fc8c5ad7f55c88532d4dadea005213ba0e", func := "engrosser/engrosserlaw10.InflateSymbols", spec := "inflateSymbols", unfollowed := true, recurses := true, plainKeys := false, apart := false, narrowed := true }
def InflateSymbolsUptoSaid : Prop := inflateSymbolsUptoRow.holds Try.pinned (OpenSpec.upto inflateSymbolsSpec)

/-- 'engrosserlaw10.InflateStored', WHERE WHAT IT READS IS OF BULK AT MOST 1048576: true; the input reads as it did. -/
def inflateStoredUptoRow : OpenClaim := { program := "ytcgcacegkbbmiaa", sum := "99e200a2a7bae4b0be4cdc63a61fc5fc8c5ad7f55c88532d4dadea005213ba0e", func := "engrosser/engrosserlaw10.InflateStored", spec := "inflateStored", unfollowed := true, recurses := true, plainKeys := false, apart := false, narrowed := true }
def InflateStoredUptoSaid : Prop := inflateStoredUptoRow.holds Try.pinned (OpenSpec.upto inflateStoredSpec)

/-- 'engrosserlaw10.InflateLimits', WHERE WHAT IT READS IS OF BULK AT MOST 1048576: true; the input reads as it did. -/
def inflateLimitsUptoRow : OpenClaim := { program := "ytcgcacegkbbmiaa", sum := "99e200a2a7bae4b0be4cdc63a61fc5fc8c5ad7f55c88532d4dadea005213ba0e", func := "engrosser/engrosserlaw10.InflateLimits", spec := "inflateLimits", unfollowed := true, recurses := true, plainKeys := false, apart := false, narrowed := true }
def InflateLimitsUptoSaid : Prop := inflateLimitsUptoRow.holds Try.pinned (OpenSpec.upto inflateLimitsSpec)

/-- 'engrosserlaw10.InflateEnds', WHERE WHAT IT READS IS OF BULK AT MOST 1048576: true; the input reads as it did. -/
def inflateEndsUptoRow : OpenClaim := { program := "ytcgcacegkbbmiaa", sum := "99e200a2a7bae4b0be4cdc63a61fc5fc8c5ad7f55c88532d4dadea005213ba0e", func := "engrosser/engrosserlaw10.InflateEnds", spec := "inflateEnds", unfollowed := true, recurses := true, plainKeys := false, apart := false, narrowed := true }
def InflateEndsUptoSaid : Prop := inflateEndsUptoRow.holds Try.pinned (OpenSpec.upto inflateEndsSpec)

/-- 'engrosserlaw10.InflateFixed', WHERE WHAT IT READS IS OF BULK AT MOST 1048576: true; the input reads as it did. -/
def inflateFixedUptoRow : OpenClaim := { program := "ytcgcacegkbbmiaa", sum := "99e200a2a7bae4b0be4cdc63a61fc5fc8c5ad7f55c88532d4dadea005213ba0e", func := "engrosser/engrosserlaw10.InflateFixed", spec := "inflateFixed", unfollowed := true, recurses := true, plainKeys := false, apart := false, narrowed := true }
def InflateFixedUptoSaid : Prop := inflateFixedUptoRow.holds Try.pinned (OpenSpec.upto inflateFixedSpec)

end Rows
end Go.Proofs.Ytcgcacegkbbmiaa
