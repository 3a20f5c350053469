/-
  No cell of these rows narrows 'for every input' (looked for: loops, veiled, ifaces, maps, wideKeys, modest, calm, conditions, laid).
  DERIVED. THE GIVEN ROWS OF THIS SEAT. 8 by the template 'for every input the law returns true; each argument reads behind the call as it read before'; 0 by the template 'total and deterministic' (their statements: YtmidmdabmalhgaaTotals.lean).
  GIVEN WITH THE SEED: the statements are not yours to turn. If you find one false, say at which input.
  Laid BY PROGRAM, IN A SANDBOX (cutbox-rows.mjs): the forced cells as the released guide's own fill.sh prints them over the translation 7c5b4d9d85e954af… (all of the seat's roots in one cut). By AI agents, Wed Nov 11 2026. No macro, syntax, notation, axiom, sorry.
-/
import Derived.Test.YtmidmdabmalhgaaChecked
import GoSem.Claim
import GoSem.ClaimJoined
import GoSem.ClaimMapViews
import Derived.JoinedTies
import Derived.KernelRfl
namespace Go.Proofs.Ytmidmdabmalhgaa
/- THE CELL 'sum', in the pinned program and in every row, IS THE sha256 OF THE DUMP (.gsa) THAT YtmidmdabmalhgaaProg.lean LOADS. Nothing in Lean hashes anything: it is a label: what it is worth is what the hold of that sum in a sandbox is worth. -/
noncomputable def Try.pinned : Pinned := { name := "ytmidmdabmalhgaa", sum := "7c5b4d9d85e954af883a74e79c70bbdf337d2a66b2c4f09307e2e4640296980b", checked := Try.checked }
namespace Rows
def none {H : Type} : Left H := { results := [], args := [] }

/-- 'ridgewaylaw15.RiseLess': WHATEVER THE INPUT: true; the input reads as it did. -/
def riseLessSpec : ChangeSpec := { name := "riseLess", fn := fun _ => fun
  | [d1, d2] => { results := [.lit (.bool true)], args := [d1, d2] }
  | _ => none }
def riseLessRow : OpenClaim := { program := "ytmidmdabmalhgaa", sum := "7c5b4d9d85e954af883a74e79c70bbdf337d2a66b2c4f09307e2e4640296980b", func := "ridgeway/ridgewaylaw15.RiseLess", spec := "riseLess", unfollowed := true, recurses := true, plainKeys := false, apart := false }
def RiseLessSaid : Prop := riseLessRow.holds Try.pinned (OpenSpec.ofChange riseLessSpec)

/-- ITS FALSE NEIGHBOUR: 'it returns false'. Refute it at one input. -/
def riseLessWrong : ChangeSpec := { name := "riseLess", fn := fun _ => fun
  | [d1, d2] => { results := [.lit (.bool false)], args := [d1, d2] }
  | _ => none }
def RiseLessWrongFalsely : Prop := riseLessRow.holds Try.pinned (OpenSpec.ofChange riseLessWrong)

/-- 'ridgewaylaw15.RiseFew': WHATEVER THE INPUT: true; the input reads as it did. -/
def riseFewSpec : ChangeSpec := { name := "riseFew", fn := fun _ => fun
  | [d1, d2, d3] => { results := [.lit (.bool true)], args := [d1, d2, d3] }
  | _ => none }
def riseFewRow : OpenClaim := { program := "ytmidmdabmalhgaa", sum := "7c5b4d9d85e954af883a74e79c70bbdf337d2a66b2c4f09307e2e4640296980b", func := "ridgeway/ridgewaylaw15.RiseFew", spec := "riseFew", unfollowed := true, recurses := true, plainKeys := false, apart := false }
def RiseFewSaid : Prop := riseFewRow.holds Try.pinned (OpenSpec.ofChange riseFewSpec)

/-- ITS FALSE NEIGHBOUR: 'it returns false'. Refute it at one input. -/
def riseFewWrong : ChangeSpec := { name := "riseFew", fn := fun _ => fun
  | [d1, d2, d3] => { results := [.lit (.bool false)], args := [d1, d2, d3] }
  | _ => none }
def RiseFewWrongFalsely : Prop := riseFewRow.holds Try.pinned (OpenSpec.ofChange riseFewWrong)

/-- 'ridgewaylaw18.RibinIs': WHATEVER THE INPUT: true; the input reads as it did. -/
def ribinIsSpec : ChangeSpec := { name := "ribinIs", fn := fun _ => fun
  | [d1, d2, d3, d4, d5] => { results := [.lit (.bool true)], args := [d1, d2, d3, d4, d5] }
  | _ => none }
def ribinIsRow : OpenClaim := { program := "ytmidmdabmalhgaa", sum := "7c5b4d9d85e954af883a74e79c70bbdf337d2a66b2c4f09307e2e4640296980b", func := "ridgeway/ridgewaylaw18.RibinIs", spec := "ribinIs", inPlace := ["slices.overlaps[ridgeway/api.Entry]"], unfollowed := true, recurses := true, plainKeys := false, apart := false }
def RibinIsSaid : Prop := ribinIsRow.holds Try.pinned (OpenSpec.ofChange ribinIsSpec)

/-- ITS FALSE NEIGHBOUR: 'it returns false'. Refute it at one input. -/
def ribinIsWrong : ChangeSpec := { name := "ribinIs", fn := fun _ => fun
  | [d1, d2, d3, d4, d5] => { results := [.lit (.bool false)], args := [d1, d2, d3, d4, d5] }
  | _ => none }
def RibinIsWrongFalsely : Prop := ribinIsRow.holds Try.pinned (OpenSpec.ofChange ribinIsWrong)

/-- 'ridgewaylaw18.RibinApplies': WHATEVER THE INPUT: true; the input reads as it did. -/
def ribinAppliesSpec : ChangeSpec := { name := "ribinApplies", fn := fun _ => fun
  | [d1, d2, d3] => { results := [.lit (.bool true)], args := [d1, d2, d3] }
  | _ => none }
def ribinAppliesRow : OpenClaim := { program := "ytmidmdabmalhgaa", sum := "7c5b4d9d85e954af883a74e79c70bbdf337d2a66b2c4f09307e2e4640296980b", func := "ridgeway/ridgewaylaw18.RibinApplies", spec := "ribinApplies", inPlace := ["slices.overlaps[ridgeway/api.Entry]"], unfollowed := true, recurses := true, plainKeys := false, apart := false }
def RibinAppliesSaid : Prop := ribinAppliesRow.holds Try.pinned (OpenSpec.ofChange ribinAppliesSpec)

/-- ITS FALSE NEIGHBOUR: 'it returns false'. Refute it at one input. -/
def ribinAppliesWrong : ChangeSpec := { name := "ribinApplies", fn := fun _ => fun
  | [d1, d2, d3] => { results := [.lit (.bool false)], args := [d1, d2, d3] }
  | _ => none }
def RibinAppliesWrongFalsely : Prop := ribinAppliesRow.holds Try.pinned (OpenSpec.ofChange ribinAppliesWrong)

/-- 'ridgewaylaw18.RibinRoom': WHATEVER THE INPUT: true; the input reads as it did. -/
def ribinRoomSpec : ChangeSpec := { name := "ribinRoom", fn := fun _ => fun
  | [d1, d2, d3] => { results := [.lit (.bool true)], args := [d1, d2, d3] }
  | _ => none }
def ribinRoomRow : OpenClaim := { program := "ytmidmdabmalhgaa", sum := "7c5b4d9d85e954af883a74e79c70bbdf337d2a66b2c4f09307e2e4640296980b", func := "ridgeway/ridgewaylaw18.RibinRoom", spec := "ribinRoom", inPlace := ["slices.overlaps[ridgeway/api.Entry]"], unfollowed := true, recurses := true, plainKeys := false, apart := false }
def RibinRoomSaid : Prop := ribinRoomRow.holds Try.pinned (OpenSpec.ofChange ribinRoomSpec)

/-- ITS FALSE NEIGHBOUR: 'it returns false'. Refute it at one input. -/
def ribinRoomWrong : ChangeSpec := { name := "ribinRoom", fn := fun _ => fun
  | [d1, d2, d3] => { results := [.lit (.bool false)], args := [d1, d2, d3] }
  | _ => none }
def RibinRoomWrongFalsely : Prop := ribinRoomRow.holds Try.pinned (OpenSpec.ofChange ribinRoomWrong)

/-- 'ridgewaylaw18.RibinDiff': WHATEVER THE INPUT: true; the input reads as it did. -/
def ribinDiffSpec : ChangeSpec := { name := "ribinDiff", fn := fun _ => fun
  | [d1, d2] => { results := [.lit (.bool true)], args := [d1, d2] }
  | _ => none }
def ribinDiffRow : OpenClaim := { program := "ytmidmdabmalhgaa", sum := "7c5b4d9d85e954af883a74e79c70bbdf337d2a66b2c4f09307e2e4640296980b", func := "ridgeway/ridgewaylaw18.RibinDiff", spec := "ribinDiff", inPlace := ["slices.overlaps[ridgeway/api.Entry]"], unfollowed := true, recurses := true, plainKeys := false, apart := false }
def RibinDiffSaid : Prop := ribinDiffRow.holds Try.pinned (OpenSpec.ofChange ribinDiffSpec)

/-- ITS FALSE NEIGHBOUR: 'it returns false'. Refute it at one input. -/
def ribinDiffWrong : ChangeSpec := { name := "ribinDiff", fn := fun _ => fun
  | [d1, d2] => { results := [.lit (.bool false)], args := [d1, d2] }
  | _ => none }
def RibinDiffWrongFalsely : Prop := ribinDiffRow.holds Try.pinned (OpenSpec.ofChange ribinDiffWrong)

/-- 'ridgewaylaw18.RibinLast': WHATEVER THE INPUT: true; the input reads as it did. -/
def ribinLastSpec : ChangeSpec := { name := "ribinLast", fn := fun _ => fun
  | [d1, d2, d3] => { results := [.lit (.bool true)], args := [d1, d2, d3] }
  | _ => none }
def ribinLastRow : OpenClaim := { program := "ytmidmdabmalhgaa", sum := "7c5b4d9d85e954af883a74e79c70bbdf337d2a66b2c4f09307e2e4640296980b", func := "ridgeway/ridgewaylaw18.RibinLast", spec := "ribinLast", inPlace := ["slices.overlaps[ridgeway/api.Entry]"], unfollowed := true, recurses := true, plainKeys := false, apart := false }
def RibinLastSaid : Prop := ribinLastRow.holds Try.pinned (OpenSpec.ofChange ribinLastSpec)

/-- ITS FALSE NEIGHBOUR: 'it returns false'. Refute it at one input. -/
def ribinLastWrong : ChangeSpec := { name := "ribinLast", fn := fun _ => fun
  | [d1, d2, d3] => { results := [.lit (.bool false)], args := [d1, d2, d3] }
  | _ => none }
def RibinLastWrongFalsely : Prop := ribinLastRow.holds Try.pinned (OpenSpec.ofChange ribinLastWrong)

/-- 'ridgewaylaw18.RibinSwap': WHATEVER THE INPUT: true; the input reads as it did. -/
def ribinSwapSpec : ChangeSpec := { name := "ribinSwap", fn := fun _ => fun
  | [d1, d2, d3] => { results := [.lit (.bool true)], args := [d1, d2, d3] }
  | _ => none }
def ribinSwapRow : OpenClaim := { program := "ytmidmdabmalhgaa", sum := "7c5b4d9d85e954af883a74e79c70bbdf337d2a66b2c4f09307e2e4640296980b", func := "ridgeway/ridgewaylaw18.RibinSwap", spec := "ribinSwap", inPlace := ["slices.overlaps[ridgeway/api.Entry]"], unfollowed := true, recurses := true, plainKeys := false, apart := false }
def RibinSwapSaid : Prop := ribinSwapRow.holds Try.pinned (OpenSpec.ofChange ribinSwapSpec)

/-- ITS FALSE NEIGHBOUR: 'it returns false'. Refute it at one input. -/
def ribinSwapWrong : ChangeSpec := { name := "ribinSwap", fn := fun _ => fun
  | [d1, d2, d3] => { results := [.lit (.bool false)], args := [d1, d2, d3] }
  | _ => none }
def RibinSwapWrongFalsely : Prop := ribinSwapRow.holds Try.pinned (OpenSpec.ofChange ribinSwapWrong)

/- THE SECOND FORM. 'bulk': how many values and letters a reading holds, each counted each time it is reached (what is shared counts as often as it is met; a slice's spare places count too). A statement '..UptoSaid' is the law's where the arguments, and the package variables that the reading takes, are together of bulk at most 1048576: NARROWER than '..Said'. Prove '..Said' where nothing that the law and all that it calls make is longer than what came in: it says more and counts as full. Else prove '..UptoSaid'. A law counts once. -/
mutual
def uptoBulk {H : Type} : DataW H → Nat
  | .lit (.string bytes) => bytes.length + 1
  | .lit _ => 1
  | .nil => 1
  | .ptr d => uptoBulk d + 1
  | .slice elems spare => uptoBulkAll elems + uptoBulkAll spare + 1
  | .agg parts => uptoBulkAll parts + 1
  | .iface _ d => uptoBulk d + 1
  | .map entries => uptoBulkEntries entries + 1
  | .held _ => 1
def uptoBulkAll {H : Type} : List (DataW H) → Nat
  | [] => 0
  | d :: r => uptoBulk d + uptoBulkAll r
def uptoBulkEntries {H : Type} : List (Lit × DataW H) → Nat
  | [] => 0
  | x :: r => uptoBulkEntry x + uptoBulkEntries r
def uptoBulkEntry {H : Type} : Lit × DataW H → Nat
  | (.string bytes, d) => bytes.length + uptoBulk d + 1
  | (_, d) => uptoBulk d + 1
 end
def uptoSmall : (H : Type) → List (DataW H) → Bool := fun _ ds => decide (uptoBulkAll ds ≤ 1048576)
def OpenSpec.upto (s : _root_.Go.ChangeSpec) : _root_.Go.OpenSpec := { _root_.Go.OpenSpec.ofChange s with cond := some uptoSmall }

/-- 'ridgewaylaw15.RiseLess', WHERE WHAT IT READS IS OF BULK AT MOST 1048576: true; the input reads as it did. -/
def riseLessUptoRow : OpenClaim := { program := "ytmidmdabmalhgaa", sum := "7c5b4d9d85e954af883a74e79c70bbdf337d2a66b2c4f09307e2e4640296980b", func := "ridgeway/ridgewaylaw15.RiseLess", spec := "riseLess", unfollowed := true, recurses := true, plainKeys := false, apart := false, narrowed := true }
def RiseLessUptoSaid : Prop := riseLessUptoRow.holds Try.pinned (OpenSpec.upto riseLessSpec)

/-- 'ridgewaylaw15.RiseFew', WHERE WHAT IT READS IS OF BULK AT MOST 1048576: true; the input reads as it did. -/
def riseFewUptoRow : OpenClaim := { program := "ytmidmdabmalhgaa", sum := "7c5b4d9d85e954af883a74e79c70bbdf337d2a66b2c4f09307e2e4640296980b", func := "ridgeway/ridgewaylaw15.RiseFew", spec := "riseFew", unfollowed := true, recurses := true, plainKeys := false, apart := false, narrowed := true }
def RiseFewUptoSaid : Prop := riseFewUptoRow.holds Try.pinned (OpenSpec.upto riseFewSpec)

/-- 'ridgewaylaw18.RibinIs', WHERE WHAT IT READS IS OF BULK AT MOST 1048576: true; the input reads as it did. -/
def ribinIsUptoRow : OpenClaim := { program := "ytmidmdabmalhgaa", sum := "7c5b4d9d85e954af883a74e79c70bbdf337d2a66b2c4f09307e2e4640296980b", func := "ridgeway/ridgewaylaw18.RibinIs", spec := "ribinIs", inPlace := ["slices.overlaps[ridgeway/api.Entry]"], unfollowed := true, recurses := true, plainKeys := false, apart := false, narrowed := true }
def RibinIsUptoSaid : Prop := ribinIsUptoRow.holds Try.pinned (OpenSpec.upto ribinIsSpec)

/-- 'ridgewaylaw18.RibinApplies', WHERE WHAT IT READS IS OF BULK AT MOST 1048576: true; the input reads as it did. -/
def ribinAppliesUptoRow : OpenClaim := { program := "ytmidmdabmalhgaa", sum := "7c5b4d9d85e954af883a74e79c70bbdf337d2a66b2c4f09307e2e4640296980b", func := "ridgeway/ridgewaylaw18.RibinApplies", spec := "ribinApplies", inPlace := ["slices.overlaps[ridgeway/api.Entry]"], unfollowed := true, recurses := true, plainKeys := false, apart := false, narrowed := true }
def RibinAppliesUptoSaid : Prop := ribinAppliesUptoRow.holds Try.pinned (OpenSpec.upto ribinAppliesSpec)

/-- 'ridgewaylaw18.RibinRoom', WHERE WHAT IT READS IS OF BULK AT MOST 1048576: true; the input reads as it did. -/
def ribinRoomUptoRow : OpenClaim := { program := "ytmidmdabmalhgaa", sum := "7c5b4d9d85e954af883a74e79c70bbdf337d2a66b2c4f09307e2e4640296980b", func := "ridgeway/ridgewaylaw18.RibinRoom", spec := "ribinRoom", inPlace := ["slices.overlaps[ridgeway/api.Entry]"], unfollowed := true, recurses := true, plainKeys := false, apart := false, narrowed := true }
def RibinRoomUptoSaid : Prop := ribinRoomUptoRow.holds Try.pinned (OpenSpec.upto ribinRoomSpec)

/-- 'ridgewaylaw18.RibinDiff', WHERE WHAT IT READS IS OF BULK AT MOST 1048576: true; the input reads as it did. -/
def ribinDiffUptoRow : OpenClaim := { program := "ytmidmdabmalhgaa", sum := "7c5b4d9d85e954af883a74e79c70bbdf337d2a66b2c4f09307e2e4640296980b", func := "ridgeway/ridgewaylaw18.RibinDiff", spec := "ribinDiff", inPlace := ["slices.overlaps[ridgeway/api.Entry]"], unfollowed := true, recurses := true, plainKeys := false, apart := false, narrowed := true }
def RibinDiffUptoSaid : Prop := ribinDiffUptoRow.holds Try.pinned (OpenSpec.upto ribinDiffSpec)

/-- 'ridgewaylaw18.RibinLast', WHERE WHAT IT READS IS OF BULK AT MOST 1048576: true; the input reads as it did. -/
def ribinLastUptoRow : OpenClaim := { program := "ytmidmdabmalhgaa", sum := "7c5b4d9d85e954af883a74e79c70bbdf337d2a66b2c4f09307e2e4640296980b", func := "ridgeway/ridgewaylaw18.RibinLast", spec := "ribinLast", inPlace := ["slices.overlaps[ridgeway/api.Entry]"], unfollowed := true, recurses := true, plainKeys := false, apart := false, narrowed := true }
def RibinLastUptoSaid : Prop := ribinLastUptoRow.holds Try.pinned (OpenSpec.upto ribinLastSpec)

/-- 'ridgewaylaw18.RibinSwap', WHERE WHAT IT READS IS OF BULK AT MOST 1048576: true; the input reads as it did. -/
def ribinSwapUptoRow : OpenClaim := { program := "ytmidmdabmalhgaa", sum := "7c5b4d9d85e954af883a74e79c70bbdf337d2a66b2c4f09307e2e4640296980b", func := "ridgeway/ridgewaylaw18.RibinSwap", spec := "ribinSwap", inPlace := ["slices.overlaps[ridgeway/api.Entry]"], unfollowed := true, recurses := true, plainKeys := false, apart := false, narrowed := true }
def RibinSwapUptoSaid : Prop := ribinSwapUptoRow.holds Try.pinned (OpenSpec.upto ribinSwapSpec)

end Rows
end Go.Proofs.Ytmidmdabmalhgaa
