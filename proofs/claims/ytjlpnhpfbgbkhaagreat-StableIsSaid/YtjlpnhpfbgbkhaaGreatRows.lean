/-
  No cell of these rows narrows 'for every input' (looked for: loops, veiled, ifaces, maps, wideKeys, modest, calm, conditions, laid).
  DERIVED. THE GIVEN ROWS OF THIS SEAT. 5 by the template 'for every input the law returns true; each argument reads behind the call as it read before'; 0 by the template 'total and deterministic' (their statements: YtjlpnhpfbgbkhaaGreatTotals.lean).
  GIVEN WITH THE SEED: the statements are not yours to turn. If you find one false, say at which input.
  Laid BY PROGRAM, IN A SANDBOX (cutbox-rows.mjs): the forced cells as the released guide's own fill.sh prints them over the translation 8e63db5571894d3f… (all of the seat's roots in one cut). By AI agents, Wed Nov 11 2026. No macro, syntax, notation, axiom, sorry.
-/
import Derived.Test.YtjlpnhpfbgbkhaaGreatChecked
import GoSem.Claim
import GoSem.ClaimJoined
import GoSem.ClaimMapViews
import Derived.JoinedTies
import Derived.KernelRfl
namespace Go.Proofs.YtjlpnhpfbgbkhaaGreat
/- THE CELL 'sum', in the pinned program and in every row, IS THE sha256 OF THE DUMP (.gsa) THAT YtjlpnhpfbgbkhaaGreatProg.lean LOADS. Nothing in Lean hashes anything: it is a label: what it is worth is what the hold of that sum in a sandbox is worth. -/
noncomputable def Tryz.pinned : Pinned := { name := "ytjlpnhpfbgbkhaagreat", sum := "8e63db5571894d3fa0c992347152b8dd0e92ccff4a286c00c9427d1f4488a147", checked := Tryz.checked }
namespace Rows
def none {H : Type} : Left H := { results := [], args := [] }

/-- 'ridgewaylaw24.StableIs': WHATEVER THE INPUT: true; the input reads as it did. -/
def stableIsSpec : ChangeSpec := { name := "stableIs", fn := fun _ => fun
  | [d1, d2, d3, d4] => { results := [.lit (.bool true)], args := [d1, d2, d3, d4] }
  | _ => none }
def stableIsRow : OpenClaim := { program := "ytjlpnhpfbgbkhaagreat", sum := "8e63db5571894d3fa0c992347152b8dd0e92ccff4a286c00c9427d1f4488a147", func := "ridgeway/ridgewaylaw24.StableIs", spec := "stableIs", unfollowed := true, recurses := true, plainKeys := false, apart := false }
def StableIsSaid : Prop := stableIsRow.holds Tryz.pinned (OpenSpec.ofChange stableIsSpec)

/-- ITS FALSE NEIGHBOUR: 'it returns false'. Refute it at one input. -/
def stableIsWrong : ChangeSpec := { name := "stableIs", fn := fun _ => fun
  | [d1, d2, d3, d4] => { results := [.lit (.bool false)], args := [d1, d2, d3, d4] }
  | _ => none }
def StableIsWrongFalsely : Prop := stableIsRow.holds Tryz.pinned (OpenSpec.ofChange stableIsWrong)

/-- 'ridgewaylaw24.StableSteps': WHATEVER THE INPUT: true; the input reads as it did. -/
def stableStepsSpec : ChangeSpec := { name := "stableSteps", fn := fun _ => fun
  | [d1, d2] => { results := [.lit (.bool true)], args := [d1, d2] }
  | _ => none }
def stableStepsRow : OpenClaim := { program := "ytjlpnhpfbgbkhaagreat", sum := "8e63db5571894d3fa0c992347152b8dd0e92ccff4a286c00c9427d1f4488a147", func := "ridgeway/ridgewaylaw24.StableSteps", spec := "stableSteps", unfollowed := true, recurses := true, plainKeys := false, apart := false }
def StableStepsSaid : Prop := stableStepsRow.holds Tryz.pinned (OpenSpec.ofChange stableStepsSpec)

/-- ITS FALSE NEIGHBOUR: 'it returns false'. Refute it at one input. -/
def stableStepsWrong : ChangeSpec := { name := "stableSteps", fn := fun _ => fun
  | [d1, d2] => { results := [.lit (.bool false)], args := [d1, d2] }
  | _ => none }
def StableStepsWrongFalsely : Prop := stableStepsRow.holds Tryz.pinned (OpenSpec.ofChange stableStepsWrong)

/-- 'ridgewaylaw24.StableThere': WHATEVER THE INPUT: true; the input reads as it did. -/
def stableThereSpec : ChangeSpec := { name := "stableThere", fn := fun _ => fun
  | [d] => { results := [.lit (.bool true)], args := [d] }
  | _ => none }
def stableThereRow : OpenClaim := { program := "ytjlpnhpfbgbkhaagreat", sum := "8e63db5571894d3fa0c992347152b8dd0e92ccff4a286c00c9427d1f4488a147", func := "ridgeway/ridgewaylaw24.StableThere", spec := "stableThere", unfollowed := true, recurses := true, plainKeys := false, apart := false }
def StableThereSaid : Prop := stableThereRow.holds Tryz.pinned (OpenSpec.ofChange stableThereSpec)

/-- ITS FALSE NEIGHBOUR: 'it returns false'. Refute it at one input. -/
def stableThereWrong : ChangeSpec := { name := "stableThere", fn := fun _ => fun
  | [d] => { results := [.lit (.bool false)], args := [d] }
  | _ => none }
def StableThereWrongFalsely : Prop := stableThereRow.holds Tryz.pinned (OpenSpec.ofChange stableThereWrong)

/-- 'ridgewaylaw24.StableOne': WHATEVER THE INPUT: true; the input reads as it did. -/
def stableOneSpec : ChangeSpec := { name := "stableOne", fn := fun _ => fun
  | [d1, d2] => { results := [.lit (.bool true)], args := [d1, d2] }
  | _ => none }
def stableOneRow : OpenClaim := { program := "ytjlpnhpfbgbkhaagreat", sum := "8e63db5571894d3fa0c992347152b8dd0e92ccff4a286c00c9427d1f4488a147", func := "ridgeway/ridgewaylaw24.StableOne", spec := "stableOne", unfollowed := true, recurses := true, plainKeys := false, apart := false }
def StableOneSaid : Prop := stableOneRow.holds Tryz.pinned (OpenSpec.ofChange stableOneSpec)

/-- ITS FALSE NEIGHBOUR: 'it returns false'. Refute it at one input. -/
def stableOneWrong : ChangeSpec := { name := "stableOne", fn := fun _ => fun
  | [d1, d2] => { results := [.lit (.bool false)], args := [d1, d2] }
  | _ => none }
def StableOneWrongFalsely : Prop := stableOneRow.holds Tryz.pinned (OpenSpec.ofChange stableOneWrong)

/-- 'ridgewaylaw24.StableHops': WHATEVER THE INPUT: true; the input reads as it did. -/
def stableHopsSpec : ChangeSpec := { name := "stableHops", fn := fun _ => fun
  | [d1, d2, d3] => { results := [.lit (.bool true)], args := [d1, d2, d3] }
  | _ => none }
def stableHopsRow : OpenClaim := { program := "ytjlpnhpfbgbkhaagreat", sum := "8e63db5571894d3fa0c992347152b8dd0e92ccff4a286c00c9427d1f4488a147", func := "ridgeway/ridgewaylaw24.StableHops", spec := "stableHops", unfollowed := true, recurses := true, plainKeys := false, apart := false }
def StableHopsSaid : Prop := stableHopsRow.holds Tryz.pinned (OpenSpec.ofChange stableHopsSpec)

/-- ITS FALSE NEIGHBOUR: 'it returns false'. Refute it at one input. -/
def stableHopsWrong : ChangeSpec := { name := "stableHops", fn := fun _ => fun
  | [d1, d2, d3] => { results := [.lit (.bool false)], args := [d1, d2, d3] }
  | _ => none }
def StableHopsWrongFalsely : Prop := stableHopsRow.holds Tryz.pinned (OpenSpec.ofChange stableHopsWrong)

/- THE SECOND FORM. 'bulk': how many values and letters a reading holds, each counted each time it is reached (what is shared counts as often as it is met; a slice's spare places count too). A statement '..UptoSaid' is the law's where the arguments, and the package variables that the reading takes, are together of bulk at most 1048576: NARROWER than '..Said'. Prove '..Said' where nothing that the law and all that it calls make is longer than what came in: it says more and counts as full. Else prove '..UptoSaid'. A law counts once. -/
mutual
def uptoBulk {H : Type} : DataW H → Nat
  | .lit (.string bytes) => bytes.length + 1
  | .lit _ => 1
  | .nil => 1
  | .ptr d => uptoBulk d + 1
  | .slice elems spare => uptoBulkAll elems + uptoBulkAll spare + 1
  | .agg parts => uptoBulkAll parts + 1
  | .iface _ d => uptoBulk d + 1
  | .map entries => uptoBulkEntries entries + 1
  | .held _ => 1
def uptoBulkAll {H : Type} : List (DataW H) → Nat
  | [] => 0
  | d :: r => uptoBulk d + uptoBulkAll r
def uptoBulkEntries {H : Type} : List (Lit × DataW H) → Nat
  | [] => 0
  | x :: r => uptoBulkEntry x + uptoBulkEntries r
def uptoBulkEntry {H : Type} : Lit × DataW H → Nat
  | (.string bytes, d) => bytes.length + uptoBulk d + 1
  | (_, d) => uptoBulk d + 1
 end
def uptoSmall : (H : Type) → List (DataW H) → Bool := fun _ ds => decide (uptoBulkAll ds ≤ 1048576)
def OpenSpec.upto (s : _root_.Go.ChangeSpec) : _root_.Go.OpenSpec := { _root_.Go.OpenSpec.ofChange s with cond := some uptoSmall }

/-- 'ridgewaylaw24.StableIs', WHERE WHAT IT READS IS OF BULK AT MOST 1048576: true; the input reads as it did. -/
def stableIsUptoRow : OpenClaim := { program := "ytjlpnhpfbgbkhaagreat", sum := "8e63db5571894d3fa0c992347152b8dd0e92ccff4a286c00c9427d1f4488a147", func := "ridgeway/ridgewaylaw24.StableIs", spec := "stableIs", unfollowed := true, recurses := true, plainKeys := false, apart := false, narrowed := true }
def StableIsUptoSaid : Prop := stableIsUptoRow.holds Tryz.pinned (OpenSpec.upto stableIsSpec)

/-- 'ridgewaylaw24.StableSteps', WHERE WHAT IT READS IS OF BULK AT MOST 1048576: true; the input reads as it did. -/
def stableStepsUptoRow : OpenClaim := { program := "ytjlpnhpfbgbkhaagreat", sum := "8e63db5571894d3fa0c992347152b8dd0e92ccff4a286c00c9427d1f4488a147", func := "ridgeway/ridgewaylaw24.StableSteps", spec := "stableSteps", unfollowed := true, recurses := true, plainKeys := false, apart := false, narrowed := true }
def StableStepsUptoSaid : Prop := stableStepsUptoRow.holds Tryz.pinned (OpenSpec.upto stableStepsSpec)

/-- 'ridgewaylaw24.StableThere', WHERE WHAT IT READS IS OF BULK AT MOST 1048576: true; the input reads as it did. -/
def stableThereUptoRow : OpenClaim := { program := "ytjlpnhpfbgbkhaagreat", sum := "8e63db5571894d3fa0c992347152b8dd0e92ccff4a286c00c9427d1f4488a147", func := "ridgeway/ridgewaylaw24.StableThere", spec := "stableThere", unfollowed := true, recurses := true, plainKeys := false, apart := false, narrowed := true }
def StableThereUptoSaid : Prop := stableThereUptoRow.holds Tryz.pinned (OpenSpec.upto stableThereSpec)

/-- 'ridgewaylaw24.StableOne', WHERE WHAT IT READS IS OF BULK AT MOST 1048576: true; the input reads as it did. -/
def stableOneUptoRow : OpenClaim := { program := "ytjlpnhpfbgbkhaagreat", sum := "8e63db5571894d3fa0c992347152b8dd0e92ccff4a286c00c9427d1f4488a147", func := "ridgeway/ridgewaylaw24.StableOne", spec := "stableOne", unfollowed := true, recurses := true, plainKeys := false, apart := false, narrowed := true }
def StableOneUptoSaid : Prop := stableOneUptoRow.holds Tryz.pinned (OpenSpec.upto stableOneSpec)

/-- 'ridgewaylaw24.StableHops', WHERE WHAT IT READS IS OF BULK AT MOST 1048576: true; the input reads as it did. -/
def stableHopsUptoRow : OpenClaim := { program := "ytjlpnhpfbgbkhaagreat", sum := "8e63db5571894d3fa0c992347152b8dd0e92ccff4a286c00c9427d1f4488a147", func := "ridgeway/ridgewaylaw24.StableHops", spec := "stableHops", unfollowed := true, recurses := true, plainKeys := false, apart := false, narrowed := true }
def StableHopsUptoSaid : Prop := stableHopsUptoRow.holds Tryz.pinned (OpenSpec.upto stableHopsSpec)

end Rows
end Go.Proofs.YtjlpnhpfbgbkhaaGreat
