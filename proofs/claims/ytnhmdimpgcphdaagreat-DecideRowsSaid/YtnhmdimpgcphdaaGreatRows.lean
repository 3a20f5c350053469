/-
  No cell of these rows narrows 'for every input' (looked for: loops, veiled, ifaces, maps, wideKeys, modest, calm, conditions, laid).
  DERIVED. THE GIVEN ROWS OF THIS SEAT. 5 by the template 'for every input the law returns true; each argument reads behind the call as it read before'; 0 by the template 'total and deterministic' (their statements: YtnhmdimpgcphdaaGreatTotals.lean).
  GIVEN WITH THE SEED: the statements are not yours to turn. If you find one false, say at which input.
  Laid BY PROGRAM, IN A SANDBOX (cutbox-rows.mjs): the forced cells as the released guide's own fill.sh prints them over the translation 3904c391dbb7407b… (all of the seat's roots in one cut). By AI agents, Wed Nov 11 2026. No macro, syntax, notation, axiom, sorry.
-/
import Derived.Test.YtnhmdimpgcphdaaGreatChecked
import GoSem.Claim
import GoSem.ClaimJoined
import GoSem.ClaimMapViews
import Derived.JoinedTies
import Derived.KernelRfl
namespace Go.Proofs.YtnhmdimpgcphdaaGreat
/- THE CELL 'sum', in the pinned program and in every row, IS THE sha256 OF THE DUMP (.gsa) THAT YtnhmdimpgcphdaaGreatProg.lean LOADS. Nothing in Lean hashes anything: it is a label: what it is worth is what the hold of that sum in a sandbox is worth. -/
noncomputable def Tryz.pinned : Pinned := { name := "ytnhmdimpgcphdaagreat", sum := "3904c391dbb7407b4008fc963a41f38d49d274c93a7358dcb03a352575c88788", checked := Tryz.checked }
namespace Rows
def none {H : Type} : Left H := { results := [], args := [] }

/-- 'ridgewaylaw19.DecideIs': WHATEVER THE INPUT: true; the input reads as it did. -/
def decideIsSpec : ChangeSpec := { name := "decideIs", fn := fun _ => fun
  | [d1, d2, d3, d4] => { results := [.lit (.bool true)], args := [d1, d2, d3, d4] }
  | _ => none }
def decideIsRow : OpenClaim := { program := "ytnhmdimpgcphdaagreat", sum := "3904c391dbb7407b4008fc963a41f38d49d274c93a7358dcb03a352575c88788", func := "ridgeway/ridgewaylaw19.DecideIs", spec := "decideIs", unfollowed := true, recurses := true, plainKeys := false, apart := false }
def DecideIsSaid : Prop := decideIsRow.holds Tryz.pinned (OpenSpec.ofChange decideIsSpec)

/-- ITS FALSE NEIGHBOUR: 'it returns false'. Refute it at one input. -/
def decideIsWrong : ChangeSpec := { name := "decideIs", fn := fun _ => fun
  | [d1, d2, d3, d4] => { results := [.lit (.bool false)], args := [d1, d2, d3, d4] }
  | _ => none }
def DecideIsWrongFalsely : Prop := decideIsRow.holds Tryz.pinned (OpenSpec.ofChange decideIsWrong)

/-- 'ridgewaylaw19.DecideRows': WHATEVER THE INPUT: true; the input reads as it did. -/
def decideRowsSpec : ChangeSpec := { name := "decideRows", fn := fun _ => fun
  | [d1, d2] => { results := [.lit (.bool true)], args := [d1, d2] }
  | _ => none }
def decideRowsRow : OpenClaim := { program := "ytnhmdimpgcphdaagreat", sum := "3904c391dbb7407b4008fc963a41f38d49d274c93a7358dcb03a352575c88788", func := "ridgeway/ridgewaylaw19.DecideRows", spec := "decideRows", unfollowed := true, recurses := true, plainKeys := false, apart := false }
def DecideRowsSaid : Prop := decideRowsRow.holds Tryz.pinned (OpenSpec.ofChange decideRowsSpec)

/-- ITS FALSE NEIGHBOUR: 'it returns false'. Refute it at one input. -/
def decideRowsWrong : ChangeSpec := { name := "decideRows", fn := fun _ => fun
  | [d1, d2] => { results := [.lit (.bool false)], args := [d1, d2] }
  | _ => none }
def DecideRowsWrongFalsely : Prop := decideRowsRow.holds Tryz.pinned (OpenSpec.ofChange decideRowsWrong)

/-- 'ridgewaylaw19.DecideOwn': WHATEVER THE INPUT: true; the input reads as it did. -/
def decideOwnSpec : ChangeSpec := { name := "decideOwn", fn := fun _ => fun
  | [d1, d2] => { results := [.lit (.bool true)], args := [d1, d2] }
  | _ => none }
def decideOwnRow : OpenClaim := { program := "ytnhmdimpgcphdaagreat", sum := "3904c391dbb7407b4008fc963a41f38d49d274c93a7358dcb03a352575c88788", func := "ridgeway/ridgewaylaw19.DecideOwn", spec := "decideOwn", unfollowed := true, recurses := true, plainKeys := false, apart := false }
def DecideOwnSaid : Prop := decideOwnRow.holds Tryz.pinned (OpenSpec.ofChange decideOwnSpec)

/-- ITS FALSE NEIGHBOUR: 'it returns false'. Refute it at one input. -/
def decideOwnWrong : ChangeSpec := { name := "decideOwn", fn := fun _ => fun
  | [d1, d2] => { results := [.lit (.bool false)], args := [d1, d2] }
  | _ => none }
def DecideOwnWrongFalsely : Prop := decideOwnRow.holds Tryz.pinned (OpenSpec.ofChange decideOwnWrong)

/-- 'ridgewaylaw19.DecideLost': WHATEVER THE INPUT: true; the input reads as it did. -/
def decideLostSpec : ChangeSpec := { name := "decideLost", fn := fun _ => fun
  | [d1, d2, d3] => { results := [.lit (.bool true)], args := [d1, d2, d3] }
  | _ => none }
def decideLostRow : OpenClaim := { program := "ytnhmdimpgcphdaagreat", sum := "3904c391dbb7407b4008fc963a41f38d49d274c93a7358dcb03a352575c88788", func := "ridgeway/ridgewaylaw19.DecideLost", spec := "decideLost", unfollowed := true, recurses := true, plainKeys := false, apart := false }
def DecideLostSaid : Prop := decideLostRow.holds Tryz.pinned (OpenSpec.ofChange decideLostSpec)

/-- ITS FALSE NEIGHBOUR: 'it returns false'. Refute it at one input. -/
def decideLostWrong : ChangeSpec := { name := "decideLost", fn := fun _ => fun
  | [d1, d2, d3] => { results := [.lit (.bool false)], args := [d1, d2, d3] }
  | _ => none }
def DecideLostWrongFalsely : Prop := decideLostRow.holds Tryz.pinned (OpenSpec.ofChange decideLostWrong)

/-- 'ridgewaylaw19.DecideBest': WHATEVER THE INPUT: true; the input reads as it did. -/
def decideBestSpec : ChangeSpec := { name := "decideBest", fn := fun _ => fun
  | [d1, d2, d3] => { results := [.lit (.bool true)], args := [d1, d2, d3] }
  | _ => none }
def decideBestRow : OpenClaim := { program := "ytnhmdimpgcphdaagreat", sum := "3904c391dbb7407b4008fc963a41f38d49d274c93a7358dcb03a352575c88788", func := "ridgeway/ridgewaylaw19.DecideBest", spec := "decideBest", unfollowed := true, recurses := true, plainKeys := false, apart := false }
def DecideBestSaid : Prop := decideBestRow.holds Tryz.pinned (OpenSpec.ofChange decideBestSpec)

/-- ITS FALSE NEIGHBOUR: 'it returns false'. Refute it at one input. -/
def decideBestWrong : ChangeSpec := { name := "decideBest", fn := fun _ => fun
  | [d1, d2, d3] => { results := [.lit (.bool false)], args := [d1, d2, d3] }
  | _ => none }
def DecideBestWrongFalsely : Prop := decideBestRow.holds Tryz.pinned (OpenSpec.ofChange decideBestWrong)

/- THE SECOND FORM. 'bulk': how many values and letters a reading holds, each counted each time it is reached (what is shared counts as often as it is met; a slice's spare places count too). A statement '..UptoSaid' is the law's where the arguments, and the package variables that the reading takes, are together of bulk at most 1048576: NARROWER than '..Said'. Prove '..Said' where nothing that the law and all that it calls make is longer than what came in: it says more and counts as full. Else prove '..UptoSaid'. A law counts once. -/
mutual
def uptoBulk {H : Type} : DataW H → Nat
  | .lit (.string bytes) => bytes.length + 1
  | .lit _ => 1
  | .nil => 1
  | .ptr d => uptoBulk d + 1
  | .slice elems spare => uptoBulkAll elems + uptoBulkAll spare + 1
  | .agg parts => uptoBulkAll parts + 1
  | .iface _ d => uptoBulk d + 1
  | .map entries => uptoBulkEntries entries + 1
  | .held _ => 1
def uptoBulkAll {H : Type} : List (DataW H) → Nat
  | [] => 0
  | d :: r => uptoBulk d + uptoBulkAll r
def uptoBulkEntries {H : Type} : List (Lit × DataW H) → Nat
  | [] => 0
  | x :: r => uptoBulkEntry x + uptoBulkEntries r
def uptoBulkEntry {H : Type} : Lit × DataW H → Nat
  | (.string bytes, d) => bytes.length + uptoBulk d + 1
  | (_, d) => uptoBulk d + 1
 end
def uptoSmall : (H : Type) → List (DataW H) → Bool := fun _ ds => decide (uptoBulkAll ds ≤ 1048576)
def OpenSpec.upto (s : _root_.Go.ChangeSpec) : _root_.Go.OpenSpec := { _root_.Go.OpenSpec.ofChange s with cond := some uptoSmall }

/-- 'ridgewaylaw19.DecideIs', WHERE WHAT IT READS IS OF BULK AT MOST 1048576: true; the input reads as it did. -/
def decideIsUptoRow : OpenClaim := { program := "ytnhmdimpgcphdaagreat", sum := "3904c391dbb7407b4008fc963a41f38d49d274c93a7358dcb03a352575c88788", func := "ridgeway/ridgewaylaw19.DecideIs", spec := "decideIs", unfollowed := true, recurses := true, plainKeys := false, apart := false, narrowed := true }
def DecideIsUptoSaid : Prop := decideIsUptoRow.holds Tryz.pinned (OpenSpec.upto decideIsSpec)

/-- 'ridgewaylaw19.DecideRows', WHERE WHAT IT READS IS OF BULK AT MOST 1048576: true; the input reads as it did. -/
def decideRowsUptoRow : OpenClaim := { program := "ytnhmdimpgcphdaagreat", sum := "3904c391dbb7407b4008fc963a41f38d49d274c93a7358dcb03a352575c88788", func := "ridgeway/ridgewaylaw19.DecideRows", spec := "decideRows", unfollowed := true, recurses := true, plainKeys := false, apart := false, narrowed := true }
def DecideRowsUptoSaid : Prop := decideRowsUptoRow.holds Tryz.pinned (OpenSpec.upto decideRowsSpec)

/-- 'ridgewaylaw19.DecideOwn', WHERE WHAT IT READS IS OF BULK AT MOST 1048576: true; the input reads as it did. -/
def decideOwnUptoRow : OpenClaim := { program := "ytnhmdimpgcphdaagreat", sum := "3904c391dbb7407b4008fc963a41f38d49d274c93a7358dcb03a352575c88788", func := "ridgeway/ridgewaylaw19.DecideOwn", spec := "decideOwn", unfollowed := true, recurses := true, plainKeys := false, apart := false, narrowed := true }
def DecideOwnUptoSaid : Prop := decideOwnUptoRow.holds Tryz.pinned (OpenSpec.upto decideOwnSpec)

/-- 'ridgewaylaw19.DecideLost', WHERE WHAT IT READS IS OF BULK AT MOST 1048576: true; the input reads as it did. -/
def decideLostUptoRow : OpenClaim := { program := "ytnhmdimpgcphdaagreat", sum := "3904c391dbb7407b4008fc963a41f38d49d274c93a7358dcb03a352575c88788", func := "ridgeway/ridgewaylaw19.DecideLost", spec := "decideLost", unfollowed := true, recurses := true, plainKeys := false, apart := false, narrowed := true }
def DecideLostUptoSaid : Prop := decideLostUptoRow.holds Tryz.pinned (OpenSpec.upto decideLostSpec)

/-- 'ridgewaylaw19.DecideBest', WHERE WHAT IT READS IS OF BULK AT MOST 1048576: true; the input reads as it did. -/
def decideBestUptoRow : OpenClaim := { program := "ytnhmdimpgcphdaagreat", sum := "3904c391dbb7407b4008fc963a41f38d49d274c93a7358dcb03a352575c88788", func := "ridgeway/ridgewaylaw19.DecideBest", spec := "decideBest", unfollowed := true, recurses := true, plainKeys := false, apart := false, narrowed := true }
def DecideBestUptoSaid : Prop := decideBestUptoRow.holds Tryz.pinned (OpenSpec.upto decideBestSpec)

end Rows
end Go.Proofs.YtnhmdimpgcphdaaGreat
