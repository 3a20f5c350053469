/-
  No cell of these rows narrows 'for every input' (looked for: loops, veiled, ifaces, maps, wideKeys, modest, calm, conditions, laid).
  DERIVED. THE GIVEN ROWS OF THIS SEAT. 7 by the template 'for every input the law returns true; each argument reads behind the call as it read before'; 0 by the template 'total and deterministic' (their statements: YtckfafoabnfbpaaTotals.lean).
  GIVEN WITH THE SEED: the statements are not yours to turn. If you find one false, say at which input.
  Laid BY PROGRAM, IN A SANDBOX (cutbox-rows.mjs): the forced cells as the released guide's own fill.sh prints them over the translation 339bc308c8798173… (all of the seat's roots in one cut). By AI agents, Wed Nov 11 2026. No macro, syntax, notation, axiom, sorry.
-/
import Derived.Test.YtckfafoabnfbpaaChecked
import GoSem.Claim
import GoSem.ClaimJoined
import GoSem.ClaimMapViews
import Derived.JoinedTies
import Derived.KernelRfl
namespace Go.Proofs.Ytckfafoabnfbpaa
/- THE CELL 'sum', in the pinned program and in every row, IS THE sha256 OF THE DUMP (.gsa) THAT YtckfafoabnfbpaaProg.lean LOADS. Nothing in Lean hashes anything: it is a label: what it is worth is what the hold of that sum in a sandbox is worth. -/
noncomputable def Try.pinned : Pinned := { name := "ytckfafoabnfbpaa", sum := "339bc308c8798173b9354358fd7fbc3fb6a6a28ec1f5cc441b9c590bb691a9ba", checked := Try.checked }
namespace Rows
def none {H : Type} : Left H := { results := [], args := [] }

/-- 'ridgewaylaw16.TopoIs': WHATEVER THE INPUT: true; the input reads as it did. -/
def topoIsSpec : ChangeSpec := { name := "topoIs", fn := fun _ => fun
  | [d1, d2, d3, d4] => { results := [.lit (.bool true)], args := [d1, d2, d3, d4] }
  | _ => none }
def topoIsRow : OpenClaim := { program := "ytckfafoabnfbpaa", sum := "339bc308c8798173b9354358fd7fbc3fb6a6a28ec1f5cc441b9c590bb691a9ba", func := "ridgeway/ridgewaylaw16.TopoIs", spec := "topoIs", unfollowed := true, recurses := true, plainKeys := false, apart := false }
def TopoIsSaid : Prop := topoIsRow.holds Try.pinned (OpenSpec.ofChange topoIsSpec)

/-- ITS FALSE NEIGHBOUR: 'it returns false'. Refute it at one input. -/
def topoIsWrong : ChangeSpec := { name := "topoIs", fn := fun _ => fun
  | [d1, d2, d3, d4] => { results := [.lit (.bool false)], args := [d1, d2, d3, d4] }
  | _ => none }
def TopoIsWrongFalsely : Prop := topoIsRow.holds Try.pinned (OpenSpec.ofChange topoIsWrong)

/-- 'ridgewaylaw16.TopoGao': WHATEVER THE INPUT: true; the input reads as it did. -/
def topoGaoSpec : ChangeSpec := { name := "topoGao", fn := fun _ => fun
  | [d1, d2, d3] => { results := [.lit (.bool true)], args := [d1, d2, d3] }
  | _ => none }
def topoGaoRow : OpenClaim := { program := "ytckfafoabnfbpaa", sum := "339bc308c8798173b9354358fd7fbc3fb6a6a28ec1f5cc441b9c590bb691a9ba", func := "ridgeway/ridgewaylaw16.TopoGao", spec := "topoGao", unfollowed := true, recurses := true, plainKeys := false, apart := false }
def TopoGaoSaid : Prop := topoGaoRow.holds Try.pinned (OpenSpec.ofChange topoGaoSpec)

/-- ITS FALSE NEIGHBOUR: 'it returns false'. Refute it at one input. -/
def topoGaoWrong : ChangeSpec := { name := "topoGao", fn := fun _ => fun
  | [d1, d2, d3] => { results := [.lit (.bool false)], args := [d1, d2, d3] }
  | _ => none }
def TopoGaoWrongFalsely : Prop := topoGaoRow.holds Try.pinned (OpenSpec.ofChange topoGaoWrong)

/-- 'ridgewaylaw16.TopoTogether': WHATEVER THE INPUT: true; the input reads as it did. -/
def topoTogetherSpec : ChangeSpec := { name := "topoTogether", fn := fun _ => fun
  | [d1, d2, d3] => { results := [.lit (.bool true)], args := [d1, d2, d3] }
  | _ => none }
def topoTogetherRow : OpenClaim := { program := "ytckfafoabnfbpaa", sum := "339bc308c8798173b9354358fd7fbc3fb6a6a28ec1f5cc441b9c590bb691a9ba", func := "ridgeway/ridgewaylaw16.TopoTogether", spec := "topoTogether", unfollowed := true, recurses := true, plainKeys := false, apart := false }
def TopoTogetherSaid : Prop := topoTogetherRow.holds Try.pinned (OpenSpec.ofChange topoTogetherSpec)

/-- ITS FALSE NEIGHBOUR: 'it returns false'. Refute it at one input. -/
def topoTogetherWrong : ChangeSpec := { name := "topoTogether", fn := fun _ => fun
  | [d1, d2, d3] => { results := [.lit (.bool false)], args := [d1, d2, d3] }
  | _ => none }
def TopoTogetherWrongFalsely : Prop := topoTogetherRow.holds Try.pinned (OpenSpec.ofChange topoTogetherWrong)

/-- 'ridgewaylaw16.TopoRising': WHATEVER THE INPUT: true; the input reads as it did. -/
def topoRisingSpec : ChangeSpec := { name := "topoRising", fn := fun _ => fun
  | [d1, d2] => { results := [.lit (.bool true)], args := [d1, d2] }
  | _ => none }
def topoRisingRow : OpenClaim := { program := "ytckfafoabnfbpaa", sum := "339bc308c8798173b9354358fd7fbc3fb6a6a28ec1f5cc441b9c590bb691a9ba", func := "ridgeway/ridgewaylaw16.TopoRising", spec := "topoRising", unfollowed := true, recurses := true, plainKeys := false, apart := false }
def TopoRisingSaid : Prop := topoRisingRow.holds Try.pinned (OpenSpec.ofChange topoRisingSpec)

/-- ITS FALSE NEIGHBOUR: 'it returns false'. Refute it at one input. -/
def topoRisingWrong : ChangeSpec := { name := "topoRising", fn := fun _ => fun
  | [d1, d2] => { results := [.lit (.bool false)], args := [d1, d2] }
  | _ => none }
def TopoRisingWrongFalsely : Prop := topoRisingRow.holds Try.pinned (OpenSpec.ofChange topoRisingWrong)

/-- 'ridgewaylaw16.TopoChecked': WHATEVER THE INPUT: true; the input reads as it did. -/
def topoCheckedSpec : ChangeSpec := { name := "topoChecked", fn := fun _ => fun
  | [d] => { results := [.lit (.bool true)], args := [d] }
  | _ => none }
def topoCheckedRow : OpenClaim := { program := "ytckfafoabnfbpaa", sum := "339bc308c8798173b9354358fd7fbc3fb6a6a28ec1f5cc441b9c590bb691a9ba", func := "ridgeway/ridgewaylaw16.TopoChecked", spec := "topoChecked", unfollowed := true, recurses := true, plainKeys := false, apart := false }
def TopoCheckedSaid : Prop := topoCheckedRow.holds Try.pinned (OpenSpec.ofChange topoCheckedSpec)

/-- ITS FALSE NEIGHBOUR: 'it returns false'. Refute it at one input. -/
def topoCheckedWrong : ChangeSpec := { name := "topoChecked", fn := fun _ => fun
  | [d] => { results := [.lit (.bool false)], args := [d] }
  | _ => none }
def TopoCheckedWrongFalsely : Prop := topoCheckedRow.holds Try.pinned (OpenSpec.ofChange topoCheckedWrong)

/-- 'ridgewaylaw16.TopoDisagree': WHATEVER THE INPUT: true; the input reads as it did. -/
def topoDisagreeSpec : ChangeSpec := { name := "topoDisagree", fn := fun _ => fun
  | [d] => { results := [.lit (.bool true)], args := [d] }
  | _ => none }
def topoDisagreeRow : OpenClaim := { program := "ytckfafoabnfbpaa", sum := "339bc308c8798173b9354358fd7fbc3fb6a6a28ec1f5cc441b9c590bb691a9ba", func := "ridgeway/ridgewaylaw16.TopoDisagree", spec := "topoDisagree", unfollowed := true, recurses := true, plainKeys := false, apart := false }
def TopoDisagreeSaid : Prop := topoDisagreeRow.holds Try.pinned (OpenSpec.ofChange topoDisagreeSpec)

/-- ITS FALSE NEIGHBOUR: 'it returns false'. Refute it at one input. -/
def topoDisagreeWrong : ChangeSpec := { name := "topoDisagree", fn := fun _ => fun
  | [d] => { results := [.lit (.bool false)], args := [d] }
  | _ => none }
def TopoDisagreeWrongFalsely : Prop := topoDisagreeRow.holds Try.pinned (OpenSpec.ofChange topoDisagreeWrong)

/-- 'ridgewaylaw16.TopoAlone': WHATEVER THE INPUT: true; the input reads as it did. -/
def topoAloneSpec : ChangeSpec := { name := "topoAlone", fn := fun _ => fun
  | [d1, d2] => { results := [.lit (.bool true)], args := [d1, d2] }
  | _ => none }
def topoAloneRow : OpenClaim := { program := "ytckfafoabnfbpaa", sum := "339bc308c8798173b9354358fd7fbc3fb6a6a28ec1f5cc441b9c590bb691a9ba", func := "ridgeway/ridgewaylaw16.TopoAlone", spec := "topoAlone", unfollowed := true, recurses := true, plainKeys := false, apart := false }
def TopoAloneSaid : Prop := topoAloneRow.holds Try.pinned (OpenSpec.ofChange topoAloneSpec)

/-- ITS FALSE NEIGHBOUR: 'it returns false'. Refute it at one input. -/
def topoAloneWrong : ChangeSpec := { name := "topoAlone", fn := fun _ => fun
  | [d1, d2] => { results := [.lit (.bool false)], args := [d1, d2] }
  | _ => none }
def TopoAloneWrongFalsely : Prop := topoAloneRow.holds Try.pinned (OpenSpec.ofChange topoAloneWrong)

/- THE SECOND FORM. 'bulk': how many values and letters a reading holds, each counted each time it is reached (what is shared counts as often as it is met; a slice's spare places count too). A statement '..UptoSaid' is the law's where the arguments, and the package variables that the reading takes, are together of bulk at most 1048576: NARROWER than '..Said'. Prove '..Said' where nothing that the law and all that it calls make is longer than what came in: it says more and counts as full. Else prove '..UptoSaid'. A law counts once. -/
mutual
def uptoBulk {H : Type} : DataW H → Nat
  | .lit (.string bytes) => bytes.length + 1
  | .lit _ => 1
  | .nil => 1
  | .ptr d => uptoBulk d + 1
  | .slice elems spare => uptoBulkAll elems + uptoBulkAll spare + 1
  | .agg parts => uptoBulkAll parts + 1
  | .iface _ d => uptoBulk d + 1
  | .map entries => uptoBulkEntries entries + 1
  | .held _ => 1
def uptoBulkAll {H : Type} : List (DataW H) → Nat
  | [] => 0
  | d :: r => uptoBulk d + uptoBulkAll r
def uptoBulkEntries {H : Type} : List (Lit × DataW H) → Nat
  | [] => 0
  | x :: r => uptoBulkEntry x + uptoBulkEntries r
def uptoBulkEntry {H : Type} : Lit × DataW H → Nat
  | (.string bytes, d) => bytes.length + uptoBulk d + 1
  | (_, d) => uptoBulk d + 1
 end
def uptoSmall : (H : Type) → List (DataW H) → Bool := fun _ ds => decide (uptoBulkAll ds ≤ 1048576)
def OpenSpec.upto (s : _root_.Go.ChangeSpec) : _root_.Go.OpenSpec := { _root_.Go.OpenSpec.ofChange s with cond := some uptoSmall }

/-- 'ridgewaylaw16.TopoIs', WHERE WHAT IT READS IS OF BULK AT MOST 1048576: true; the input reads as it did. -/
def topoIsUptoRow : OpenClaim := { program := "ytckfafoabnfbpaa", sum := "339bc308c8798173b9354358fd7fbc3fb6a6a28ec1f5cc441b9c590bb691a9ba", func := "ridgeway/ridgewaylaw16.TopoIs", spec := "topoIs", unfollowed := true, recurses := true, plainKeys := false, apart := false, narrowed := true }
def TopoIsUptoSaid : Prop := topoIsUptoRow.holds Try.pinned (OpenSpec.upto topoIsSpec)

/-- 'ridgewaylaw16.TopoGao', WHERE WHAT IT READS IS OF BULK AT MOST 1048576: true; the input reads as it did. -/
def topoGaoUptoRow : OpenClaim := { program := "ytckfafoabnfbpaa", sum := "339bc308c8798173b9354358fd7fbc3fb6a6a28ec1f5cc441b9c590bb691a9ba", func := "ridgeway/ridgewaylaw16.TopoGao", spec := "topoGao", unfollowed := true, recurses := true, plainKeys := false, apart := false, narrowed := true }
def TopoGaoUptoSaid : Prop := topoGaoUptoRow.holds Try.pinned (OpenSpec.upto topoGaoSpec)

/-- 'ridgewaylaw16.TopoTogether', WHERE WHAT IT READS IS OF BULK AT MOST 1048576: true; the input reads as it did. -/
def topoTogetherUptoRow : OpenClaim := { program := "ytckfafoabnfbpaa", sum := "339bc308c8798173b9354358fd7fbc3fb6a6a28ec1f5cc441b9c590bb691a9ba", func := "ridgeway/ridgewaylaw16.TopoTogether", spec := "topoTogether", unfollowed := true, recurses := true, plainKeys := false, apart := false, narrowed := true }
def TopoTogetherUptoSaid : Prop := topoTogetherUptoRow.holds Try.pinned (OpenSpec.upto topoTogetherSpec)

/-- 'ridgewaylaw16.TopoRising', WHERE WHAT IT READS IS OF BULK AT MOST 1048576: true; the input reads as it did. -/
def topoRisingUptoRow : OpenClaim := { program := "ytckfafoabnfbpaa", sum := "339bc308c8798173b9354358fd7fbc3fb6a6a28ec1f5cc441b9c590bb691a9ba", func := "ridgeway/ridgewaylaw16.TopoRising", spec := "topoRising", unfollowed := true, recurses := true, plainKeys := false, apart := false, narrowed := true }
def TopoRisingUptoSaid : Prop := topoRisingUptoRow.holds Try.pinned (OpenSpec.upto topoRisingSpec)

/-- 'ridgewaylaw16.TopoChecked', WHERE WHAT IT READS IS OF BULK AT MOST 1048576: true; the input reads as it did. -/
def topoCheckedUptoRow : OpenClaim := { program := "ytckfafoabnfbpaa", sum := "339bc308c8798173b9354358fd7fbc3fb6a6a28ec1f5cc441b9c590bb691a9ba", func := "ridgeway/ridgewaylaw16.TopoChecked", spec := "topoChecked", unfollowed := true, recurses := true, plainKeys := false, apart := false, narrowed := true }
def TopoCheckedUptoSaid : Prop := topoCheckedUptoRow.holds Try.pinned (OpenSpec.upto topoCheckedSpec)

/-- 'ridgewaylaw16.TopoDisagree', WHERE WHAT IT READS IS OF BULK AT MOST 1048576: true; the input reads as it did. -/
def topoDisagreeUptoRow : OpenClaim := { program := "ytckfafoabnfbpaa", sum := "339bc308c8798173b9354358fd7fbc3fb6a6a28ec1f5cc441b9c590bb691a9ba", func := "ridgeway/ridgewaylaw16.TopoDisagree", spec := "topoDisagree", unfollowed := true, recurses := true, plainKeys := false, apart := false, narrowed := true }
def TopoDisagreeUptoSaid : Prop := topoDisagreeUptoRow.holds Try.pinned (OpenSpec.upto topoDisagreeSpec)

/-- 'ridgewaylaw16.TopoAlone', WHERE WHAT IT READS IS OF BULK AT MOST 1048576: true; the input reads as it did. -/
def topoAloneUptoRow : OpenClaim := { program := "ytckfafoabnfbpaa", sum := "339bc308c8798173b9354358fd7fbc3fb6a6a28ec1f5cc441b9c590bb691a9ba", func := "ridgeway/ridgewaylaw16.TopoAlone", spec := "topoAlone", unfollowed := true, recurses := true, plainKeys := false, apart := false, narrowed := true }
def TopoAloneUptoSaid : Prop := topoAloneUptoRow.holds Try.pinned (OpenSpec.upto topoAloneSpec)

end Rows
end Go.Proofs.Ytckfafoabnfbpaa
